/- Mirror: a row from its other end; every row of at most 1000 valves. -/
import Derived.Test.YtdnaipiiponhpaaW8
namespace Go.Proofs.Ytdnaipiiponhpaa
open Go.RowKit Go.Shelf

/-- A valve from the other end. -/
def mirrorOne (p : Int) (v : Int × Int) : Int × Int := (p - 1 - v.2, p - 1 - v.1)
/-- The first k valves are turned, the others are not laid yet. -/
def mirrorK (p : Int) (V : List (Int × Int)) (k : Nat) : List (Int × Int) := (List.range V.length).map fun i => if i < k then mirrorOne p (V[i]?.getD (0, 0)) else (0, 0)
def mirrorL (p : Int) (V : List (Int × Int)) : List (Int × Int) := if checkR p V = 0 then V.map (mirrorOne p) else []
theorem mirrorK_all (p : Int) (V : List (Int × Int)) : mirrorK p V V.length = V.map (mirrorOne p) := by
  apply List.ext_getElem
  · simp [mirrorK]
  · intro i h1 h2
    have h3 : i < V.length := by simpa [mirrorK] using h1
    simp [mirrorK, h3]
theorem mirrorK_zero (p : Int) (V : List (Int × Int)) : mirrorK p V 0 = List.replicate V.length (0, 0) := by
  apply List.ext_getElem
  · simp [mirrorK]
  · intro i h1 h2; simp [mirrorK]
theorem mirrorK_succ (p : Int) (V : List (Int × Int)) (k : Nat) : mirrorK p V (k + 1) = (mirrorK p V k).set k (mirrorOne p (V[k]?.getD (0, 0))) := by
  apply List.ext_getElem
  · simp [mirrorK]
  · intro i h1 h2
    rw [List.getElem_set]
    by_cases e : k = i
    · subst e; simp [mirrorK]
    · simp only [mirrorK, List.getElem_map, List.getElem_range, if_neg e]
      by_cases h : i < k
      · rw [if_pos h, if_pos (by omega)]
      · rw [if_neg h, if_neg (by omega)]
theorem prs_set : ∀ (V : List (Int × Int)) (k : Nat) (v : Int × Int), k < V.length → prs (V.set k v) = ((prs V).set (k * 2) (.int .i64 v.1)).set (k * 2 + 1) (.int .i64 v.2) := by
  intro V
  induction V with
  | nil => intro k v hk; simp at hk
  | cons p V ih =>
    intro k v hk
    cases k with
    | zero => simp [prs]
    | succ k =>
      have := ih k v (by simpa using hk)
      have e1 : (k + 1) * 2 = k * 2 + 1 + 1 := by omega
      rw [e1]
      simp only [List.set_cons_succ, prs, List.flatMap_cons, List.cons_append, List.nil_append] at this ⊢
      rw [this]
theorem prs_zero (n : Nat) : prs (List.replicate n (0, 0)) = List.replicate (n * 2) (.int .i64 0) := by
  induction n with
  | zero => rfl
  | succ n ih => rw [List.replicate_succ, show (n + 1) * 2 = n * 2 + 1 + 1 by omega, List.replicate_succ, List.replicate_succ, ← ih]; rfl

theorem RdP.row {w : World} {g n : Nat} {t : TypeId} {V : List (Int × Int)} (hn : V.length = n) (h : w.heap[g]? = some (.cells (prs V).toArray t (0, 0))) (hm : n ≤ 1000000) : RdP w (.slice (some ⟨g, 0, none⟩) n n) V := by
  subst hn
  refine ⟨_, _, rfl, Nat.le_refl _, by unfold maxLen; omega, fun _ => ⟨g, 0, rfl, (Array.getElem?_eq_some_iff.1 h).1, fun j u hu => ?_⟩⟩
  rw [Nat.zero_add, cell_of_row w g j _ _ _ h, List.getElem?_toArray]
  exact hu

set_option maxRecDepth 100000 in
set_option maxHeartbeats 1000000 in
theorem mirror_any (p : Int) (x : Value) (V : List (Int × Int)) (w : World) (hx0 : RdP w x V) (hl : V.length ≤ 1000) :
    Calls Try.prog 41 #[.agg #[.int .i64 p, x]] w fun e w' => ∃ v, e = .returned (.tuple #[.agg #[.int .i64 (cutP p V), v], .int .i64 (checkR p V)]) ∧ RdP w' v (mirrorL p V) ∧ Below w.heap.size w w' := by
  obtain ⟨a, ca, rfl, hca, hca2, hxf⟩ := hx0.form
  have H0 := Lib.hid fun w1 (hB : Below w.heap.size w w1) => hx0.mono hB
  unfold cutP mirrorL
  by_cases h : checkR p V = 0
  · obtain ⟨n, rfl, hV⟩ := cond_row h
    simp only [if_pos h]
    rw [h]
    have hp1 := hV.p1; have hp8 := hV.p8; have h40 := hV.len
    have HO := Lib.hid (open_ok n _ V _ (hx0.mono (bal (bal (bz w) (.cells #[.int .i64 n, .slice a V.length ca] 24)) (.cells #[.int .i64 0, .slice none 0 0] 24))) hV)
    clear h
    obtain ⟨i0, hi, hz0, hz1, hz2⟩ := info_parts Try.info59
    have hmk : ∀ w : World, (Instr.makeSlice 22 (.int .i64 (V.length : Int)) (.int .i64 (V.length : Int))).run Try.prog w = .ok (.slice (some ⟨w.heap.size, 0, none⟩) V.length V.length) (w.alloc (.cells (madeCells #[.int .i64 0, .int .i64 0] (V.length * 2)) 59)) := by
      intro w
      have := run_makeSlice (P := Try.prog) (w := w) 22 59 i0 (.agg #[.int .i64 0, .int .i64 0]) Try.underlying22 hi hz0 .i64 .i64 (V.length : Int) (V.length : Int) (by omega) (by omega) (by rw [hz1]; omega) (by rw [hz2]; omega) (by omega)
      rw [hz1, Int.toNat_natCast] at this
      exact this
    go_enter Try.func41, Try.ntmps41
    go_wp2_with fail
    refine HO.out.mono ?_
    rintro e w2 ⟨bb, rfl, hb0, hb, hB2⟩
    have hB3 : Below w.heap.size w w2 := btr (bal (bal (bz _) _) _) hB2
    have hzz := hB2.size
    simp only [World.size_alloc] at hzz hb0
    obtain ⟨q0, q1, q2⟩ := id hb
    have hr0 : w2.heap[w.heap.size + 1]? = some (.cells #[.int .i64 0, .slice none 0 0] 24 (0, 0)) := by
      refine (hB2.block _ (by simp)).trans ?_
      have := heap_alloc_new (w.alloc (.cells #[.int .i64 n, .slice a V.length ca] 24)) (.cells #[.int .i64 0, .slice none 0 0] 24)
      rw [World.size_alloc] at this
      exact this
    have HR0 := Lib.hid hr0
    have hx3 := hx0.mono hB3
    clear hr0
    have hz : (madeCells #[Value.int .i64 0, Value.int .i64 0] (V.length * 2)) = (prs (mirrorK n V 0)).toArray := by
      rw [mirrorK_zero, prs_zero]
      apply Array.ext'
      apply List.ext_getElem
      · simp [madeCells]
      · intro i h1 h2
        simp only [madeCells]
        rcases Nat.mod_two_eq_zero_or_one i with e | e <;> simp [e]
    go_upto_region 4 with fail
    go_cut [6] (fun s6 wx => ∃ g s, s6 = .pointer (some ⟨g, 0, none⟩) ∧ w2.heap.size ≤ g ∧ w2.heap.size ≤ s ∧ g ≠ s ∧ wx.heap[g]? = some (.cells #[.int .i64 n, .slice (some ⟨s, 0, none⟩) V.length V.length] 24 (0, 0)) ∧
        wx.heap[s]? = some (.cells (prs (mirrorK n V 0)).toArray 59 (0, 0)) ∧ Below w2.heap.size w2 wx)
    case first =>
      rw [hz] at hmk
      have HZ := Lib.hid hz; clear hz
      go_region
      all_goals (go_wp2_with fail; go_meet)
      case rel =>
        refine ⟨w2.heap.size + 1, w2.heap.size, rfl, by omega, by omega, by omega, ?_, ?_, Below.drewN' 1 (bal (bal (bz _) _) _)⟩
        · have := heap_alloc_new (w2.alloc (.cells (prs (mirrorK (n : Int) V 0)).toArray 59)) (.cells #[.int .i64 n, .slice (some ⟨w2.heap.size, 0, none⟩) V.length V.length] 24)
          rw [World.size_alloc] at this
          exact this
        · exact (Below.heap_alloc _ _ _ (by simp)).trans (heap_alloc_new _ _)
      case rel =>
        refine ⟨w2.heap.size, w2.heap.size + 1, rfl, by omega, by omega, by omega, ?_, ?_, Below.drewN' 1 (bal (bal (bz _) _) _)⟩
        · exact (Below.heap_alloc _ _ _ (by simp)).trans (heap_alloc_new _ _)
        · have := heap_alloc_new (w2.alloc (.cells #[.int .i64 n, .slice (some ⟨w2.heap.size + 1, 0, none⟩) V.length V.length] 24)) (.cells (prs (mirrorK (n : Int) V 0)).toArray 59)
          rw [World.size_alloc] at this
          exact this
    case rest =>
      obtain ⟨g, s, rfl, hg1, hs1, hgs, hgr, hsr, hBc⟩ := hcut
      have hw1 : IntKind.i64.wrap ((n : Int) - 1) = (n : Int) - 1 := IntWalk.i64_in _ (by omega)
      have hbc := hb.mono hBc
      have hB4 := btr hB3 hBc
      clear q0 q1 q2
      obtain ⟨q0, q1, q2⟩ := id hbc
      have hgc := (Array.getElem?_eq_some_iff.1 hgr).1
      have hsc := (Array.getElem?_eq_some_iff.1 hsr).1
      have HGR := Lib.hid hgr; have HSR := Lib.hid hsr
      clear hmk hz hgr hsr
      go_wp2
      go_loopw [7, 8, 37, 38, 39, 40, 41, 42, 43, 44, 45, 46, 47, 48, 49, 50, 51, 52, 53, 54, 55, 56, 57, 58, 59, 60, 61, 62, 63, 64, 65] (fun _ _ i _ _ _ _ _ _ _ _ _ _ _ _ _ _ _ _ _ _ _ _ _ _ _ _ _ _ _ _ wr => ∃ k : Nat, k ≤ V.length ∧ i = .int .i64 k ∧ Below w2.heap.size w2 wr ∧ wc.heap.size ≤ wr.heap.size ∧
          wr.heap[g]? = some (.cells #[.int .i64 n, .slice (some ⟨s, 0, none⟩) V.length V.length] 24 (0, 0)) ∧ wr.heap[s]? = some (.cells (prs (mirrorK n V k)).toArray 59 (0, 0)))
        (fun _ _ i _ _ _ _ _ _ _ _ _ _ _ _ _ _ _ _ _ _ _ _ _ _ _ _ _ _ _ _ _ => ((V.length : Int) - intOf i).toNat)
      case atStart => exact ⟨0, Nat.zero_le _, rfl, hBc, Nat.le_refl _, HGR.out, HSR.out⟩
      case round =>
        obtain ⟨k, hk, rfl, hbr, hwz, hgr, hsr⟩ := hrel
        have hG := Lib.hid hgr; have hS := Lib.hid hsr; clear hgr hsr
        by_cases hkp : k < V.length
        · obtain ⟨bx, ox, rfl, hbx, hcx⟩ := hxf (by omega)
          have hwz2 := hbr.size
          have hB9 := btr hB3 hbr
          have gx := (hB9.cell (p := ⟨bx, ox + k * 2, none⟩) hbx).trans (hcx k (by omega)).1
          have gy := (hB9.cell (p := ⟨bx, ox + k * 2 + 1, none⟩) hbx).trans (hcx k (by omega)).2
          have hbx' : bx < wr.heap.size := by omega
          have hm : V[k]?.getD (0, 0) ∈ V := by rw [List.getElem?_eq_getElem (by omega)]; exact List.getElem_mem _
          obtain ⟨o1, o2, o3⟩ := hV.ok _ hm
          have hst := mirrorK_succ n V k
          generalize V[k]?.getD (0, 0) = pr at *
          obtain ⟨a1, a2⟩ := pr
          simp only at gx gy o1 o2 o3
          have HST := Lib.hid hst
          clear hxf hcx hst hm
          have q1' := (hbr.cell (p := ⟨bb, 0, none⟩) hb.1).trans hb.2.1
          have qb : bb < wr.heap.size := by have := hb.1; omega
          have zg : g < wr.heap.size := by omega
          have zs : s < wr.heap.size := by omega
          clear q0 q1 q2
          have hk1 : IntKind.i64.wrap ((n : Int) - 1 - a2) = (n : Int) - 1 - a2 := IntWalk.i64_in _ (by omega)
          have hk2 : IntKind.i64.wrap ((n : Int) - 1 - a1) = (n : Int) - 1 - a1 := IntWalk.i64_in _ (by omega)
          go_wp2
          have hb5 : Below wr.heap.size wr (wr.alloc (.cells #[.int .i64 a1, .int .i64 a2] 59)) := bal (bz _) _
          have t0 : (wr.alloc (.cells #[.int .i64 a1, .int .i64 a2] 59)).cell? ⟨wr.heap.size, 0, none⟩ = some (.int .i64 a1) := cnew rfl rfl
          have t1 : (wr.alloc (.cells #[.int .i64 a1, .int .i64 a2] 59)).cell? ⟨wr.heap.size, 1, none⟩ = some (.int .i64 a2) := cnew rfl rfl
          have hz5 : wr.heap.size < (wr.alloc (.cells #[.int .i64 a1, .int .i64 a2] 59)).heap.size := by simp
          generalize wr.alloc (.cells #[.int .i64 a1, .int .i64 a2] 59) = w5 at *
          have hg5 := (hb5.block g zg).trans hG.out
          have hs5 := (hb5.block s zs).trans hS.out
          have q5 := (hb5.cell (p := ⟨bb, 0, none⟩) qb).trans q1'
          have g1 : w5.cell? ⟨g, 1, none⟩ = some (.slice (some ⟨s, 0, none⟩) V.length V.length) := by rw [cell_of_row w5 g 1 _ _ _ hg5]; rfl
          have qb5 : bb < w5.heap.size := by omega
          have zg5 : g < w5.heap.size := by omega
          have zs5 : s < w5.heap.size := by omega
          have HG5 := Lib.hid hg5; have HS5 := Lib.hid hs5
          clear hg5 hs5 q1' gx gy
          have hL := @Later.cell w5
          refine wp_region_tail 23 (by kernel_rfl) (by kernel_rfl) ?_
          simp only [List.take_succ_cons, List.take_zero]
          repeat (quiet_step (fail))
          refine wpQuiet_nil ?_
          intro w6 hw6
          have hL6 : Below w5.heap.size w5 w6 := by obtain ⟨⟨_, h⟩, rfl⟩ := hw6; exact h
          clear hw6 hL
          have hB6 : Below wr.heap.size wr w6 := btr hb5 hL6
          have hs6 := (hL6.block s zs5).trans HS5.out
          have hg6 := (hL6.block g zg5).trans HG5.out
          have hpl : (prs (mirrorK (n : Int) V k)).length = V.length * 2 := by rw [prs_length]; simp [mirrorK]
          have s0 : (w6.cell? ⟨s, 0 + k * 2, none⟩).isSome = true := by
            rw [cell_of_row w6 s _ _ _ _ hs6, List.getElem?_toArray, List.getElem?_eq_getElem (by omega)]; rfl
          have s1 : (w6.cell? ⟨s, 0 + k * 2 + 1, none⟩).isSome = true := by
            rw [cell_of_row w6 s _ _ _ _ hs6, List.getElem?_toArray, List.getElem?_eq_getElem (by omega)]; rfl
          rw [Nat.zero_add] at s0 s1
          obtain ⟨y0, s0⟩ := Option.isSome_iff_exists.1 s0
          obtain ⟨y1, s1⟩ := Option.isSome_iff_exists.1 s1
          have f0 := frozen_of_row w6 s (k * 2) _ _ hs6
          have f1 := frozen_of_row w6 s (k * 2 + 1) _ _ hs6
          have hn2 := heap_setCell_same _ s (k * 2 + 1) _ _ (.int .i64 ((n : Int) - 1 - a1)) (heap_setCell_same w6 s (k * 2) _ _ (.int .i64 ((n : Int) - 1 - a2)) hs6)
          have hn3 : ((w6.setCell ⟨s, k * 2, none⟩ (.int .i64 ((n : Int) - 1 - a2))).setCell ⟨s, k * 2 + 1, none⟩ (.int .i64 ((n : Int) - 1 - a1))).heap[s]? = some (.cells (prs (mirrorK n V (k + 1))).toArray 59 (0, 0)) := by
            rw [HST.out, prs_set _ _ _ (by simp [mirrorK]; exact hkp)]
            simpa [mirrorOne] using hn2
          have HN := Lib.hid hn3
          have HG6 := Lib.hid hg6
          have hz6 := hB6.size
          clear hn2 hn3 hs6 hg6 t0 t1 q5 g1 hpl
          simp only [List.drop_succ_cons, List.drop_zero]
          go_wp2
          refine ⟨⟨k + 1, by omega, by simp, bset (bset (btr hbr hB6) hs1 _) hs1 _, by simp; omega, ?_, HN.out⟩, by simp [intOf]; omega⟩
          exact (Below.heap_setCell _ _ _ _ (by simpa using hgs)).trans ((Below.heap_setCell _ _ _ _ (by simpa using hgs)).trans HG6.out)
        · obtain rfl : k = V.length := by omega
          have hr1 := (hbr.block _ (by omega)).trans HR0.out
          have HR1 := Lib.hid hr1; clear hr1
          have hsz : (Try.prog.info? 24).map (·.size) = some 2 := by kernel_rfl
          have HSZ := Lib.hid hsz; clear hsz
          have hB9 := btr hB3 hbr
          have c0 : wr.cell? ⟨w.heap.size + 1, 0, none⟩ = some (.int .i64 0) := by rw [cell_of_row wr _ 0 _ _ _ HR1.out]; rfl
          have c1 : wr.cell? ⟨w.heap.size + 1, 1, none⟩ = some (.slice none 0 0) := by rw [cell_of_row wr _ 1 _ _ _ HR1.out]; rfl
          have f0 := frozen_of_row wr (w.heap.size + 1) 0 _ _ HR1.out
          have f1 := frozen_of_row wr (w.heap.size + 1) 1 _ _ HR1.out
          have d0 : wr.cell? ⟨g, 0, none⟩ = some (.int .i64 n) := by rw [cell_of_row wr _ 0 _ _ _ hG.out]; rfl
          have d1 : wr.cell? ⟨g, 1, none⟩ = some (.slice (some ⟨s, 0, none⟩) V.length V.length) := by rw [cell_of_row wr _ 1 _ _ _ hG.out]; rfl
          have hn2 := heap_setCell_same _ _ 1 _ _ (.slice (some ⟨s, 0, none⟩) V.length V.length) (heap_setCell_same wr (w.heap.size + 1) 0 _ _ (.int .i64 n) HR1.out)
          have HN2 := Lib.hid hn2; clear hn2
          have hs2 : ((wr.setCell ⟨w.heap.size + 1, 0, none⟩ (.int .i64 n)).setCell ⟨w.heap.size + 1, 1, none⟩ (.slice (some ⟨s, 0, none⟩) V.length V.length)).heap[s]? = _ :=
            (Below.heap_setCell _ _ _ _ (by simp; omega)).trans ((Below.heap_setCell _ _ _ _ (by simp; omega)).trans hS.out)
          rw [mirrorK_all] at hs2
          have HS2 := Lib.hid hs2; clear hs2
          go_wp2
          (try simp only [Exit.inBlock, Exit.then])
          refine bodyPost_ret (v := .tuple #[.agg #[.int .i64 n, .slice (some ⟨s, 0, none⟩) V.length V.length], .int .i64 0]) ?_ ?_ ?_
          · exact results_row_tmp rfl rfl rfl HN2.out Try.underlying24 rfl HSZ.out
          · rfl
          · exact ⟨_, rfl, RdP.row (by simp) HS2.out (by omega), bset (bset hB9 (by simp) _) (by simp) _⟩
  · simp only [if_neg h]
    have HO := Lib.hid (open_no p _ V _ (hx0.mono (bal (bal (bz w) (.cells #[.int .i64 p, .slice a V.length ca] 24)) (.cells #[.int .i64 0, .slice none 0 0] 24))) hl h)
    generalize checkR p V = c at *
    have e0 : (c != 0) = true := by simpa using h
    clear h
    go_enter Try.func41, Try.ntmps41
    go_wp2_with fail
    refine HO.out.mono ?_
    rintro e w2 ⟨rfl, hB2⟩
    have hB3 : Below w.heap.size w w2 := btr (bal (bal (bz _) _) _) hB2
    have hr : w2.heap[w.heap.size + 1]? = some (.cells #[.int .i64 0, .slice none 0 0] 24 (0, 0)) := by
      refine (hB2.block _ (by simp)).trans ?_
      have := heap_alloc_new (w.alloc (.cells #[.int .i64 p, .slice a V.length ca] 24)) (.cells #[.int .i64 0, .slice none 0 0] 24)
      rw [World.size_alloc] at this
      exact this
    have HR := Lib.hid hr; clear hr
    have hsz : (Try.prog.info? 24).map (·.size) = some 2 := by kernel_rfl
    have HSZ := Lib.hid hsz; clear hsz
    have c0 : w2.cell? ⟨w.heap.size + 1, 0, none⟩ = some (.int .i64 0) := by rw [cell_of_row w2 _ 0 _ _ _ HR.out]; rfl
    have c1 : w2.cell? ⟨w.heap.size + 1, 1, none⟩ = some (.slice none 0 0) := by rw [cell_of_row w2 _ 1 _ _ _ HR.out]; rfl
    have f0 := frozen_of_row w2 (w.heap.size + 1) 0 _ _ HR.out
    have f1 := frozen_of_row w2 (w.heap.size + 1) 1 _ _ HR.out
    have hn2 := heap_setCell_same _ _ 1 _ _ (.slice none 0 0) (heap_setCell_same w2 (w.heap.size + 1) 0 _ _ (.int .i64 0) HR.out)
    have HN2 := Lib.hid hn2; clear hn2
    go_wp2
    (try simp only [Exit.inBlock, Exit.then])
    refine bodyPost_ret (v := .tuple #[.agg #[.int .i64 0, .slice none 0 0], .int .i64 c]) ?_ ?_ ?_
    · exact results_row_tmp rfl rfl rfl HN2.out Try.underlying24 rfl HSZ.out
    · rfl
    · exact ⟨.slice none 0 0, rfl, rdP_nil _, bset (bset hB3 (by simp) _) (by simp) _⟩
end Go.Proofs.Ytdnaipiiponhpaa
