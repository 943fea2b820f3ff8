/- The document's Cut, MirrorOf, Mirror. -/
import Derived.Test.YtdnaipiiponhpaaZ5
namespace Go.Proofs.Ytdnaipiiponhpaa
open Go.RowKit Go.Shelf

def rcutK (p : Nat) (V : List (Int × Int)) (k : Nat) : List (Int × Int) := ((List.range k).filter fun i => !rneedB p V i).map fun i => V[i]?.getD (0, 0)
theorem rcutK_succ (p : Nat) (V : List (Int × Int)) (k : Nat) : rcutK p V (k + 1) = if rneedB p V k then rcutK p V k else rcutK p V k ++ [V[k]?.getD (0, 0)] := by
  unfold rcutK
  rw [List.range_succ, List.filter_append, List.map_append]
  cases h : rneedB p V k <;> simp [h]
theorem rcutK_le (p : Nat) (V : List (Int × Int)) (k : Nat) : (rcutK p V k).length ≤ k := by
  unfold rcutK; rw [List.length_map]; have := List.length_filter_le (fun i => !rneedB p V i) (List.range k); simpa using this
def rcutL (p : Int) (V : List (Int × Int)) : List (Int × Int) := if checkR p V = 0 then rcutK p.toNat V V.length else []

theorem owns_set {w : World} {base e size n : Nat} {v : Value} {xs : List Value} (h : w.ownsRow base e size v n xs) {r : Nat} (hr : r < base) (i : Nat) (u : Value) : (w.setCell ⟨r, i, none⟩ u).ownsRow base e size v n xs :=
  h.kept (grownBy_set w _ _) (by
    cases hvv : v.ownBlock with
    | none => exact .inl rfl
    | some q => exact .inr (by intro e; cases e; have := (h.lt _ hvv).1; simp only at this; omega))
theorem owns_base {w : World} {b1 b2 e size n : Nat} {v : Value} {xs : List Value} (h : w.ownsRow b1 e size v n xs) (hb : b2 ≤ b1) : w.ownsRow b2 e size v n xs := by
  refine ⟨h.1, ?_⟩
  rcases h.2 with h | ⟨g, cap, cur, h1, h2, h3⟩
  · exact .inl h
  · exact .inr ⟨g, cap, cur, h1, by omega, h3⟩

set_option maxRecDepth 100000 in
set_option maxHeartbeats 4000000 in
theorem mirrorof_any (n : Nat) (x : Value) (V : List (Int × Int)) (w : World) (hx0 : RdP w x V) (hV : OkRow n V) :
    Calls Try.prog 75 #[.agg #[.int .i64 n, x]] w fun e w' => ∃ v, e = .returned (.agg #[.int .i64 n, v]) ∧ w'.ownsRow w.heap.size 59 2 v V.length (prs (V.map (mirrorOne n))) ∧ Below w.heap.size w w' := by
  have hsz : (Try.prog.info? 24).map (·.size) = some 2 := by kernel_rfl
  have HSZ := Lib.hid hsz; clear hsz
  obtain ⟨a, ca, rfl, _, _, hxf⟩ := hx0.form
  have hp1 := hV.p1; have hp8 := hV.p8; have h40 := hV.len
  go_enter Try.func75, Try.ntmps75
  go_wp2
  go_loopw [4, 8, 9, 10, 11, 12, 13, 14, 15, 16, 17, 18, 19, 20, 21, 22, 23, 24, 25, 26, 27, 28, 29, 30, 31, 32, 33, 34, 35, 36, 37, 38, 39, 40] (fun i _ _ _ _ _ _ _ _ _ _ _ _ _ _ _ _ _ _ _ _ _ _ _ _ _ _ _ _ _ _ _ _ _ wr => ∃ k v, k ≤ V.length ∧ i = .int .i64 (k : Nat) ∧ Below w.heap.size w wr ∧ wr.cell? ⟨w.heap.size, 0, none⟩ = some (.int .i64 n) ∧ wr.cell? ⟨w.heap.size, 1, none⟩ = some (.slice a V.length ca) ∧ SOwn wr (w.heap.size + 1 + 1) (w.heap.size + 1 + 1 + 1) 24 n v ((V.take k).map (mirrorOne n)) ∧ wr.heap[w.heap.size + 1]? = some (.cells #[.int .i64 0, .slice none 0 0] 24 (0, 0))) (fun i _ _ _ _ _ _ _ _ _ _ _ _ _ _ _ _ _ _ _ _ _ _ _ _ _ _ _ _ _ _ _ _ _ _ => V.length - (intOf i).toNat)
  case atStart =>
    refine ⟨0, .slice none 0 0, Nat.zero_le _, rfl, bal (bal (bal (bz _) _) _) _, cal _ (cal _ (cnew rfl rfl)), cal _ (cal _ (cnew rfl rfl)), ?_, ?_⟩
    · have := SOwn.new ((w.alloc (.cells #[.int .i64 n, .slice a V.length ca] 24)).alloc (.cells #[.int .i64 0, .slice none 0 0] 24)) 24 n
      simpa using this
    · refine (Below.heap_alloc _ _ _ (by simp)).trans ?_
      have := heap_alloc_new (w.alloc (.cells #[.int .i64 n, .slice a V.length ca] 24)) (.cells #[.int .i64 0, .slice none 0 0] 24)
      rw [World.size_alloc] at this
      exact this
  case round =>
    obtain ⟨k, v, hk, rfl, hB, c0, c1, hS, hr⟩ := hrel
    by_cases hlt : k < V.length
    · obtain ⟨bx, ox, rfl, hbx, hcx⟩ := hxf (by omega)
      obtain ⟨n1, n2, hpr, h12, h2p⟩ := okRow_at hV k hlt
      have gx := (hB.cell (p := ⟨bx, ox + k * 2, none⟩) hbx).trans (hcx k hlt).1
      have gy := (hB.cell (p := ⟨bx, ox + k * 2 + 1, none⟩) hbx).trans (hcx k hlt).2
      rw [hpr] at gx gy
      simp only at gx gy
      have hst : (V.take (k + 1)).map (mirrorOne n) = (V.take k).map (mirrorOne n) ++ [((n : Int) - 1 - n2, (n : Int) - 1 - n1)] := by
        have hg : V[k]?.getD (0, 0) = V[k] := by simp [hlt]
        rw [List.take_succ_eq_append_getElem hlt, List.map_append, ← hg, hpr]; rfl
      have HST := Lib.hid hst
      have HLN : Hid (((V.take k).map (mirrorOne n)).length ≤ 100) := Lib.hid (by rw [List.length_map, List.length_take]; omega)
      have e1 := hS.c1; have z1 := hS.z
      have HB := Lib.hid hB; have HS := Lib.hid hS; have HR := Lib.hid hr
      clear hxf hcx hst hpr hS hB hr
      generalize (V.take k).map (mirrorOne n) = L at *
      have z0 : w.heap.size < wr.heap.size := by omega
      have zx : bx < wr.heap.size := by omega
      have hkn : (k : Int) < (V.length : Int) := by omega
      go_wp2
      refine wp_region_flow [] [([0, 1, 2, 3, 4, 5, 6, 7, 8, 9, 10, 11, 12, 13, 14, 15, 16, 17, 18, 19, 20, 21, 22], 23, true), ([], 24, false), ([], 25, false), ([], 26, false)] [] (by kernel_rfl) (by kernel_rfl) ?_
      intro wc hBc hh
      clear hh
      have d0 := (hBc.cell (p := ⟨w.heap.size, 0, none⟩) z0).trans c0
      have d1 := (hBc.cell (p := ⟨w.heap.size, 1, none⟩) z0).trans c1
      have dx := (hBc.cell (p := ⟨bx, ox + k * 2, none⟩) zx).trans gx
      have dy := (hBc.cell (p := ⟨bx, ox + k * 2 + 1, none⟩) zx).trans gy
      have de := (hBc.cell (p := ⟨w.heap.size + 1 + 1, 1, none⟩) z1).trans e1
      have y0 : w.heap.size < wc.heap.size := Nat.lt_of_lt_of_le z0 hBc.size
      have y1 : w.heap.size + 1 + 1 < wc.heap.size := Nat.lt_of_lt_of_le z1 hBc.size
      have yx : bx < wc.heap.size := Nat.lt_of_lt_of_le zx hBc.size
      have hL := @Later.cell wc
      have HSC := Lib.hid (HS.out.later hBc)
      have HBC := Lib.hid (btr HB.out hBc)
      have HRC := Lib.hid ((hBc.block _ (by omega)).trans HR.out)
      clear c0 c1 gx gy e1 hBc HS HB HR
      have w1 : IntKind.i64.wrap ((n : Int) - 1) = (n : Int) - 1 := IntWalk.i64_in _ (by omega)
      have w2 : IntKind.i64.wrap ((n : Int) - 1 - (n2 : Int)) = (n : Int) - 1 - n2 := IntWalk.i64_in _ (by omega)
      have w3 : IntKind.i64.wrap ((n : Int) - 1 - (n1 : Int)) = (n : Int) - 1 - n1 := IntWalk.i64_in _ (by omega)
      simp only [flowP, flow, pickL, List.getElem?_cons_succ, List.getElem?_cons_zero]
      refine wpQuiet_nil ?_
      repeat (go_big_quiet_step (fail))
      refine wpQuiet_nil ?_
      go_wp2
      refine seg_grow ⟨⟨_, bal (bz _) _⟩, rfl⟩ ?_
      refine wpQuiet_nil ?_
      refine wpList_append_pair rfl _ _ rfl HSC.out _ _ rfl rfl (by have := HLN.out; omega) ?_
      intro v' w' hown' hgrow
      obtain ⟨c1', f1', z', hS', hB', a9, c9, hv9⟩ := HSC.out.done hown' hgrow
      have hne : ∀ r, r < w.heap.size + 1 + 1 → (w'.setCell ⟨w.heap.size + 1 + 1, 1, none⟩ v').heap[r]? = wc.heap[r]? := fun r hr => (heap_setCell_other w' ⟨w.heap.size + 1 + 1, 1, none⟩ r v' (by simp; omega)).trans ((append_keep (HSC.out.own.alloc _) hgrow (by omega) (by simp; omega)).trans (Below.heap_alloc _ _ _ (by omega)))
      have hB3 := hB' w HBC.out (by omega)
      subst hv9
      have HS3 := Lib.hid hS'; have HB3 := Lib.hid hB3
      have x0 := (World.cell?_of_block (hne w.heap.size (by omega))).trans d0
      have x1 := (World.cell?_of_block (hne w.heap.size (by omega))).trans d1
      have HR3 := Lib.hid ((hne (w.heap.size + 1) (by omega)).trans HRC.out)
      clear hL d0 d1 dx dy de w1 w2 w3
      clear hown' hgrow hS' hB' hB3 hne
      go_wp2
      refine seg_write ?_
      refine wpQuiet_nil ?_
      go_wp2
      refine seg_write ?_
      refine wpQuiet_nil ?_
      go_wp2
      refine seg_write ?_
      refine wpQuiet_nil ?_
      refine only_done ?_
      go_wp2
      refine ⟨⟨k + 1, .slice a9 (L.length + 1) c9, by omega, by go_num, HB3.out, x0, x1, by rw [HST.out]; exact HS3.out, HR3.out⟩, by simp [intOf]; omega⟩
    · obtain rfl : k = V.length := by omega
      rw [List.take_length] at hS
      obtain ⟨a9, c9, hv9⟩ := hS.form
      rw [List.length_map] at hv9
      subst hv9
      have e0 : wr.cell? ⟨w.heap.size + 1, 0, none⟩ = some (.int .i64 0) := by rw [cell_of_row wr _ 0 _ _ _ hr]; rfl
      have e1 : wr.cell? ⟨w.heap.size + 1, 1, none⟩ = some (.slice none 0 0) := by rw [cell_of_row wr _ 1 _ _ _ hr]; rfl
      have f0 := frozen_of_row wr (w.heap.size + 1) 0 _ _ hr
      have f1 := frozen_of_row wr (w.heap.size + 1) 1 _ _ hr
      have s0 := hS.c0; have s1 := hS.c1; have z1 := hS.z
      have z0 : w.heap.size < wr.heap.size := by omega
      have z2 : w.heap.size + 1 < wr.heap.size := by omega
      obtain ⟨hn2, hrd⟩ := hS.out (w.heap.size + 1) hr (by omega)
      have hown := owns_set (owns_set hS.own (show w.heap.size + 1 < _ by omega) 0 (.int .i64 n)) (show w.heap.size + 1 < _ by omega) 1 (.slice a9 V.length c9)
      rw [List.length_map] at hown
      have HN2 := Lib.hid hn2; have HRD := Lib.hid (owns_base hown (show w.heap.size ≤ _ by omega)); have HB := Lib.hid hB
      clear hS hr hn2 hrd hB hxf hown
      go_wp2
      refine bodyPost_ret (v := .agg #[.int .i64 n, .slice a9 V.length c9]) (results_row_one rfl rfl HN2.out Try.underlying24 rfl HSZ.out) rfl ⟨_, rfl, HRD.out, bset (bset HB.out (by simp) _) (by simp) _⟩
end Go.Proofs.Ytdnaipiiponhpaa
