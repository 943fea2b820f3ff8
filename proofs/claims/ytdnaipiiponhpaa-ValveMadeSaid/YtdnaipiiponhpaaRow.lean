/- Row: a row out of numbers. -/
import Derived.Test.YtdnaipiiponhpaaX7
import Derived.Test.YtdnaipiiponhpaaFlow
namespace Go.Proofs.Ytdnaipiiponhpaa
open Go.RowKit Go.Shelf

/-- Pairs of numbers, one after another. -/
def pairsOf : List Int → List (Int × Int)
  | a :: b :: r => (a, b) :: pairsOf r
  | _ => []
def pairsK (l : List Int) (k : Nat) : List (Int × Int) := (List.range k).map fun i => (l[2 * i]?.getD 0, l[2 * i + 1]?.getD 0)
theorem pairsK_succ (l : List Int) (k : Nat) : pairsK l (k + 1) = pairsK l k ++ [(l[2 * k]?.getD 0, l[2 * k + 1]?.getD 0)] := by simp [pairsK, List.range_succ]
theorem pairsK_len (l : List Int) (k : Nat) : (pairsK l k).length = k := by simp [pairsK]

theorem results_row_one {P : Program} {fn : Func} {p : Tmp} {ty t0 : TypeId} {tmps : Array Value} {w : World} {g : Nat} {cs : Array Value} {fr : Nat × Nat} {d : TypeDesc} (h : fn.results = #[.cell p ty]) (hp : tmps.getD p undef = .pointer (some ⟨g, 0, none⟩))
    (hg : w.heap[g]? = some (.cells cs t0 fr)) (hu : P.underlying ty = some d) (hd : (match d with | .struct _ | .array _ _ => true | _ => false) = true) (hi : (P.info? ty).map (·.size) = some cs.size) :
    (results fn tmps).run P w = .ok (.agg cs) w := by
  have hp' : tmps[p]?.getD undef = .pointer (some ⟨g, 0, none⟩) := by simpa using hp
  simp [results, h, hp', asAddr, run_loadVar_row w g t0 ty cs fr d hg hu hd hi]

set_option maxRecDepth 100000 in
set_option maxHeartbeats 1000000 in
theorem row_any (p : Int) (x : Value) (l : List Int) (w : World) (hx0 : RdI w .i64 x l) (hl : l.length ≤ 1000) :
    Calls Try.prog 55 #[.int .i64 p, x] w fun e w' => ∃ v, e = .returned (.agg #[.int .i64 p, v]) ∧ RdP w' v (pairsK l (l.length / 2)) ∧ Below w.heap.size w w' := by
  obtain ⟨a, ca, rfl, hca, hca2, hxf⟩ := hx0.form
  obtain ⟨i0, hi, hz0, hz1, hzb⟩ := info_parts Try.info59
  have hsz : (Try.prog.info? 24).map (·.size) = some 2 := by kernel_rfl
  have HSZ := Lib.hid hsz; clear hsz
  go_enter Try.func55, Try.ntmps55
  go_wp2
  go_loopw [6, 9, 10, 11, 12, 13, 14, 15, 16, 17, 18, 19, 20, 21, 22, 23, 24, 25, 26, 27, 28, 29, 30] (fun i _ _ _ _ _ _ _ _ _ _ _ _ _ _ _ _ _ _ _ _ _ _ wr => ∃ k v, k ≤ l.length / 2 ∧ i = .int .i64 ((2 * k : Nat) : Int) ∧ Below w.heap.size w wr ∧ wr.heap[w.heap.size]? = some (.cells #[.int .i64 0, .slice none 0 0] 24 (0, 0)) ∧ wr.heap[w.heap.size + 1]? = some (.cells #[.int .i64 p, v] 24 (0, 0)) ∧ wr.ownsRow (w.heap.size + 2) 59 2 v k (prs (pairsK l k)))
    (fun i _ _ _ _ _ _ _ _ _ _ _ _ _ _ _ _ _ _ _ _ _ _ _ => l.length - (intOf i).toNat)
  case atStart =>
    refine ⟨0, .slice none 0 0, Nat.zero_le _, rfl, bal (bal (bz _) _) _, (Below.heap_alloc _ _ _ (by simp)).trans (heap_alloc_new _ _), ?_, World.ownsRow_nil _ _ _ _⟩
    have := heap_alloc_new (w.alloc (.cells #[.int .i64 0, .slice none 0 0] 24)) (.cells #[.int .i64 p, .slice none 0 0] 24)
    rw [World.size_alloc] at this
    exact this
  case round =>
    obtain ⟨k, v, hk, rfl, hB, hr0, hr1, hor⟩ := hrel
    by_cases hlt : 2 * k + 1 < l.length
    · have hlti : ((2 * k : Nat) : Int) + 1 < (l.length : Int) := by omega
      obtain ⟨bx, ox, rfl, hbx, hcx⟩ := hxf (by omega)
      have gx := (hB.cell (p := ⟨bx, ox + 2 * k, none⟩) hbx).trans (hcx (2 * k) (by omega))
      have gy := (hB.cell (p := ⟨bx, ox + (2 * k + 1), none⟩) hbx).trans (hcx (2 * k + 1) hlt)
      have c1 : wr.cell? ⟨w.heap.size + 1, 1, none⟩ = some v := by rw [cell_of_row wr _ 1 _ _ _ hr1]; rfl
      have f1 := frozen_of_row wr (w.heap.size + 1) 1 _ _ hr1
      have hO := Lib.hid hor; have hR0 := Lib.hid hr0; have hR1 := Lib.hid hr1
      clear hor hr0 hr1 hxf hcx
      generalize hu1 : l[2 * k]?.getD 0 = u1 at *
      generalize hu2 : l[2 * k + 1]?.getD 0 = u2 at *
      have HU1 := Lib.hid hu1; have HU2 := Lib.hid hu2; clear hu1 hu2
      generalize hj : 2 * k = j at *
      go_wp2
      refine wp_region_flow [] [([0, 1, 2, 3, 4, 5, 6, 7, 8, 9, 10, 11], 12, true), ([], 13, false), ([], 14, false), ([], 15, false)] [] (by kernel_rfl) (by kernel_rfl) ?_
      intro wc hBc hhc
      have d1 : wc.cell? ⟨w.heap.size + 1, 1, none⟩ = some v := (hBc.cell (World.block_lt_of_cell? wr _ c1)).trans c1
      have hx1 := (hBc.cell (World.block_lt_of_cell? wr _ gx)).trans gx
      have hx2 := (hBc.cell (World.block_lt_of_cell? wr _ gy)).trans gy
      have z1 := World.block_lt_of_cell? wc _ d1
      have z2 := World.block_lt_of_cell? wc _ hx1
      simp only at z1 z2
      have hL := @Later.cell wc
      have HB := Lib.hid hBc; have HH := Lib.hid hhc
      clear hBc hhc c1 gx gy
      simp only [flowP, flow, pickL, List.getElem?_cons_succ, List.getElem?_cons_zero]
      refine wpQuiet_nil ?_
      repeat (go_big_quiet_step (fail))
      refine wpQuiet_nil ?_
      have hnz := HB.out.size
      go_wp2
      refine seg_grow ⟨⟨_, bal (bz _) _⟩, rfl⟩ ?_
      refine wpQuiet_nil ?_
      have hO2 := Lib.hid (owns_kept hO.out HB.out)
      have hks := pairsK_len l k
      have zr := (Array.getElem?_eq_some_iff.1 hR1.out).1
      have zr0 := (Array.getElem?_eq_some_iff.1 hR0.out).1
      refine wpList_append_own _ rfl _ _ 22 rfl (w.heap.size + 2) 59 i0 (.agg #[.int .i64 0, .int .i64 0]) 2 16 Try.underlying22 hi hz0 hz1 hzb rfl (by decide) _ _ _ rfl (hO2.out.alloc _) ⟨wc.heap.size, 0, none⟩ 1 1 [.int .i64 u1, .int .i64 u2] rfl rfl (cell_two_new _ _ _ _) (two_int _ _) (by simp only [maxLen]; omega) (by omega) (by simp; omega) ?_
      intro v' w' hown' hgrow hnil
      go_wp2
      refine seg_write ?_
      have hra := (append_keep (hO2.out.alloc _) hgrow (show w.heap.size + 1 < _ by omega) (by simp; omega)).trans ((Below.heap_alloc _ _ _ (by omega)).trans ((HB.out.block _ zr).trans hR1.out))
      have hra0 := (append_keep (hO2.out.alloc _) hgrow (show w.heap.size < _ by omega) (by simp; omega)).trans ((Below.heap_alloc _ _ _ (by omega)).trans ((HB.out.block _ zr0).trans hR0.out))
      have hB6 : Below w.heap.size w w' := append_below (btr (btr hB HB.out) (bal (bz _) _)) (hO2.out.alloc _) hgrow (by omega)
      have c1' : w'.cell? ⟨w.heap.size + 1, 1, none⟩ = some v := by rw [cell_of_row w' _ 1 _ _ _ hra]; rfl
      have f1' := frozen_of_row w' (w.heap.size + 1) 1 _ _ hra
      have hnew := heap_setCell_same w' (w.heap.size + 1) 1 _ _ v' hra
      have hkeep := (hown'.kept (w' := w'.setCell ⟨w.heap.size + 1, 1, none⟩ v') (grownBy_set w' _ _) (by
        cases hvv : v'.ownBlock with
        | none => exact .inl rfl
        | some q => exact .inr (by intro e; cases e; have := (hown'.lt _ hvv).1; simp only at this; omega)))
      have h0 : (w'.setCell ⟨w.heap.size + 1, 1, none⟩ v').heap[w.heap.size]? = some (.cells #[.int .i64 0, .slice none 0 0] 24 (0, 0)) := (heap_setCell_other _ _ _ _ (by simp)).trans hra0
      have HNEW := Lib.hid hnew; have HKEEP := Lib.hid hkeep; have H0 := Lib.hid h0
      obtain ⟨a9, c9, hv9⟩ := owns_form hown'
      subst hv9
      have zg : w.heap.size + 1 < w'.heap.size := (Array.getElem?_eq_some_iff.1 hra).1
      clear hown' hgrow hnil hra hra0 hnew hkeep h0
      refine wpQuiet_nil ?_
      go_wp2
      refine seg_write ?_
      refine wpQuiet_nil ?_
      go_wp2
      refine seg_write ?_
      refine wpQuiet_nil ?_
      refine only_done ?_
      go_wp2
      refine ⟨⟨k + 1, _, by omega, by rw [show 2 * (k + 1) = j + 2 by omega]; go_num, Below.setCell hB6 (by simp) _, H0.out, HNEW.out, ?_⟩, by simp [intOf]; omega⟩
      have hst : pairsK l (k + 1) = pairsK l k ++ [(u1, u2)] := by rw [pairsK_succ, hj, HU1.out, HU2.out]
      rw [hst, prs_append]
      exact HKEEP.out
    · have hkk : k = l.length / 2 := by omega
      subst hkk
      have hO := Lib.hid hor
      obtain ⟨a9, c9, hv9⟩ := owns_form hO.out
      subst hv9
      have c1 : wr.cell? ⟨w.heap.size + 1, 1, none⟩ = some (.slice a9 (l.length / 2) c9) := by rw [cell_of_row wr _ 1 _ _ _ hr1]; rfl
      have c0 : wr.cell? ⟨w.heap.size + 1, 0, none⟩ = some (.int .i64 p) := by rw [cell_of_row wr _ 0 _ _ _ hr1]; rfl
      have e1 : wr.cell? ⟨w.heap.size, 1, none⟩ = some (.slice none 0 0) := by rw [cell_of_row wr _ 1 _ _ _ hr0]; rfl
      have e0 : wr.cell? ⟨w.heap.size, 0, none⟩ = some (.int .i64 0) := by rw [cell_of_row wr _ 0 _ _ _ hr0]; rfl
      have hR0 := Lib.hid hr0
      have f0 := frozen_of_row wr w.heap.size 0 _ _ hr0
      have f1 := frozen_of_row wr w.heap.size 1 _ _ hr0
      have z0 := World.block_lt_of_cell? wr _ c1
      simp only at z0
      have hn2 := heap_setCell_same _ _ 1 _ _ (.slice a9 (l.length / 2) c9) (heap_setCell_same wr w.heap.size 0 _ _ (.int .i64 p) hr0)
      have HN2 := Lib.hid hn2; clear hn2
      have hkeep := (hO.out.kept (w' := wr.setCell ⟨w.heap.size, 0, none⟩ (.int .i64 p)) (grownBy_set wr _ _) (by
          cases hvv : (Value.slice a9 (l.length / 2) c9).ownBlock with
          | none => exact .inl rfl
          | some q => exact .inr (by intro e; cases e; have := (hO.out.lt _ hvv).1; simp only at this; omega)))
      have hkeep2 := (hkeep.kept (w' := (wr.setCell ⟨w.heap.size, 0, none⟩ (.int .i64 p)).setCell ⟨w.heap.size, 1, none⟩ (.slice a9 (l.length / 2) c9)) (grownBy_set _ _ _) (by
          cases hvv : (Value.slice a9 (l.length / 2) c9).ownBlock with
          | none => exact .inl rfl
          | some q => exact .inr (by intro e; cases e; have := (hO.out.lt _ hvv).1; simp only at this; omega)))
      have HK2 := Lib.hid hkeep2
      have hlti : ¬ (((2 * (l.length / 2) : Nat) : Int) + 1 < (l.length : Int)) := by omega
      have hlt2 : ((2 * (l.length / 2) : Nat) : Int) < 1001 := by omega
      clear hor hr0 hr1 hxf hx0 hkeep hkeep2
      generalize hj : ((2 * (l.length / 2) : Nat) : Int) = jj at *
      have HJ := Lib.hid hj; clear hj
      go_wp2
      refine bodyPost_ret (v := .agg #[.int .i64 p, .slice a9 (l.length / 2) c9]) (results_row_one rfl rfl HN2.out Try.underlying24 rfl HSZ.out) rfl ?_
      exact ⟨_, rfl, RdP.of_owns HK2.out, bset (bset hB (by simp) _) (by simp) _⟩
end Go.Proofs.Ytdnaipiiponhpaa
