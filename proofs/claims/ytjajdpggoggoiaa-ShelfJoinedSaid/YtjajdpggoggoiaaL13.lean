/- ShelfJoined holds; no condition. -/
import Derived.Test.YtjajdpggoggoiaaH5
namespace Go.Proofs.Ytjajdpggoggoiaa
open Go.RowKit Go.Shelf

set_option maxRecDepth 100000 in
set_option maxHeartbeats 16000000 in
theorem shelfJoined_walk (R : Int) (x : Value) (W : List Int) (R' : Int) (y : Value) (V : List Int) (w : World) (hx0 : RdI w .i64 x W) (hy0 : RdI w .i64 y V) :
    Calls Try.prog 13 #[.agg #[.int .i64 R, x], .agg #[.int .i64 R', y]] w fun e w' => e = .returned (.bool true) ∧ Below w.heap.size w w' := by
  obtain ⟨a, c, rfl⟩ := hx0.ex _ rfl
  obtain ⟨b, d, rfl⟩ := hy0.ex _ rfl
  by_cases hc : checkD R W = 0
  · by_cases hc2 : checkD R' V = 0
    · by_cases hlen : W.length + V.length ≤ 16
      · obtain ⟨wA, hwA⟩ : ∃ wA, (w.alloc (.cells #[.int .i64 R, .slice a W.length c] 24)).alloc (.cells #[.int .i64 R', .slice b V.length d] 24) = wA := ⟨_, rfl⟩
        have HBA := Lib.hid (show Below w.heap.size w wA by rw [← hwA]; exact bal (bal (bz w) _) _)
        have hr0 : wA.cell? ⟨w.heap.size, 0, none⟩ = some (.int .i64 R) := by rw [← hwA]; exact cal _ (cnew rfl rfl)
        have hr1 : wA.cell? ⟨w.heap.size, 1, none⟩ = some (.slice a W.length c) := by rw [← hwA]; exact cal _ (cnew rfl rfl)
        have hrz : w.heap.size < wA.heap.size := by rw [← hwA]; simp; omega
        have hr0y : wA.cell? ⟨w.heap.size + 1, 0, none⟩ = some (.int .i64 R') := by rw [← hwA]; exact cnew (by simp) rfl
        have hr1y : wA.cell? ⟨w.heap.size + 1, 1, none⟩ = some (.slice b V.length d) := by rw [← hwA]; exact cnew (by simp) rfl
        have hfy : wA.frozen? ⟨w.heap.size + 1, 0, none⟩ = false := by rw [← hwA]; exact fnew (by simp)
        have hrzy : w.heap.size + 1 < wA.heap.size := by rw [← hwA]; simp
        have HR0 := Lib.hid (fun wz (hB : Below wA.heap.size wA wz) => (hB.cell (p := ⟨w.heap.size, 0, none⟩) hrz).trans hr0)
        have HR1 := Lib.hid (fun wz (hB : Below wA.heap.size wA wz) => (hB.cell (p := ⟨w.heap.size, 1, none⟩) hrz).trans hr1)
        have HRZ := Lib.hid (fun wz (hB : Below wA.heap.size wA wz) => Nat.lt_of_lt_of_le hrz hB.size)
        have HR0y := Lib.hid (fun wz (hB : Below wA.heap.size wA wz) => (hB.cell (p := ⟨w.heap.size + 1, 0, none⟩) hrzy).trans hr0y)
        have HR1y := Lib.hid (fun wz (hB : Below wA.heap.size wA wz) => (hB.cell (p := ⟨w.heap.size + 1, 1, none⟩) hrzy).trans hr1y)
        have HFY := Lib.hid (fun wz (hB : Below wA.heap.size wA wz) => (hB.frozen (p := ⟨w.heap.size + 1, 0, none⟩) hrzy).trans hfy)
        have HRZy := Lib.hid (fun wz (hB : Below wA.heap.size wA wz) => Nat.lt_of_lt_of_le hrzy hB.size)
        have HX := Lib.hid (hx0.mono HBA.out)
        have HY := Lib.hid (hy0.mono HBA.out)
        clear hr0 hr1 hrz hr0y hr1y hrzy hfy
        have CF := Lib.hid (fun wz (hB : Below wA.heap.size wA wz) => fine_yes R _ W wz (HX.out.mono hB) hc)
        have CF2 := Lib.hid (fun wz (hB : Below wA.heap.size wA wz) => fine_yes R' _ V wz (HY.out.mono hB) hc2)
        have hcv := checkD_room hc2 (okD_of hc).r1 (okD_of hc).r6
        have hcj := checkD_join hc hcv hlen
        have hdj := okD_of hcj
        have j1 := few_join_le hdj
        obtain ⟨j2, j3⟩ := few_join_ge hdj
        have j0 : 0 ≤ fewN R W := by unfold fewN; rw [few_run (okD_of hc)]; exact (fetN_bd _ _ _).1
        have j00 : 0 ≤ fewN R V := by unfold fewN; rw [few_run (okD_of hcv)]; exact (fetN_bd _ _ _).1
        have j16 : fewN R W ≤ W.length := few_16 (okD_of hc)
        have j17 : fewN R V ≤ V.length := few_16 (okD_of hcv)
        change fewN R (W ++ V) ≤ fewN R W + fewN R V at j1
        change fewN R W ≤ fewN R (W ++ V) at j2
        change fewN R V ≤ fewN R (W ++ V) at j3
        have HC := Lib.hid hc; have HCV := Lib.hid hcv; have HCJ := Lib.hid hcj
        have hlz : ¬ (16 : Int) < (W.length : Int) + (V.length : Int) := by omega
        clear hc hc2 hcv hcj hdj
        have KB0 := Lib.hid (bz wA)
        go_enter Try.func13, Try.ntmps13
        go_upto_region 1 with fail
        try rw [hwA]
        clear hwA
        have r0 := HR0.out _ KB0.out; have r1 := HR1.out _ KB0.out; have rz := HRZ.out _ KB0.out
        have r0y := HR0y.out _ KB0.out; have r1y := HR1y.out _ KB0.out; have rzy := HRZy.out _ KB0.out
        go_wp2_with fail
        clear r0 r1 rz r0y r1y rzy
        refine (CF.out _ KB0.out).mono ?_
        rintro e w1 ⟨rfl, hk⟩
        have KB1 := Lib.hid (btr KB0.out hk)
        clear KB0 hk
        have r0 := HR0.out _ KB1.out; have r1 := HR1.out _ KB1.out; have rz := HRZ.out _ KB1.out
        have r0y := HR0y.out _ KB1.out; have r1y := HR1y.out _ KB1.out; have rzy := HRZy.out _ KB1.out
        go_wp2_with fail
        clear r0 r1 rz r0y r1y rzy
        refine (CF2.out _ KB1.out).mono ?_
        rintro e w2 ⟨rfl, hk⟩
        have KB2 := Lib.hid (btr KB1.out hk)
        clear KB1 hk
        have hfy := HFY.out _ KB2.out
        have r0 := HR0.out _ KB2.out; have r1 := HR1.out _ KB2.out; have rz := HRZ.out _ KB2.out
        have r0y := HR0y.out _ KB2.out; have r1y := HR1y.out _ KB2.out; have rzy := HRZy.out _ KB2.out
        go_upto_region 4 with fail
        clear r0 r1 rz r0y r1y rzy hfy
        obtain ⟨wB, hwB⟩ : ∃ wB, w2.setCell ⟨w.heap.size + 1, 0, none⟩ (.int .i64 R) = wB := ⟨_, rfl⟩
        rw [hwB]
        have HBAB := Lib.hid (show Below w.heap.size w wB by rw [← hwB]; exact bset (btr HBA.out KB2.out) (p := ⟨w.heap.size + 1, 0, none⟩) (Nat.le_succ _) _)
        have q0 : wB.cell? ⟨w.heap.size, 0, none⟩ = some (.int .i64 R) := by rw [← hwB, World.cell?_setCell_other _ _ _ _ (by simp)]; exact HR0.out _ KB2.out
        have q1 : wB.cell? ⟨w.heap.size, 1, none⟩ = some (.slice a W.length c) := by rw [← hwB, World.cell?_setCell_other _ _ _ _ (by simp)]; exact HR1.out _ KB2.out
        have q2 : wB.cell? ⟨w.heap.size + 1, 1, none⟩ = some (.slice b V.length d) := by rw [← hwB, World.cell?_setCell_other _ _ _ _ (by simp)]; exact HR1y.out _ KB2.out
        have q3 : wB.cell? ⟨w.heap.size + 1, 0, none⟩ = some (.int .i64 R) := by rw [← hwB, World.cell?_setCell_same _ _ _ (HR0y.out _ KB2.out)]
        have qz : w.heap.size + 1 < wB.heap.size := by rw [← hwB]; simpa using HRZy.out _ KB2.out
        have HR0b := Lib.hid (fun wz (hB : Below wB.heap.size wB wz) => (hB.cell (p := ⟨w.heap.size, 0, none⟩) (by simp only; omega)).trans q0)
        have HR1b := Lib.hid (fun wz (hB : Below wB.heap.size wB wz) => (hB.cell (p := ⟨w.heap.size, 1, none⟩) (by simp only; omega)).trans q1)
        have HR0yb := Lib.hid (fun wz (hB : Below wB.heap.size wB wz) => (hB.cell (p := ⟨w.heap.size + 1, 0, none⟩) qz).trans q3)
        have HR1yb := Lib.hid (fun wz (hB : Below wB.heap.size wB wz) => (hB.cell (p := ⟨w.heap.size + 1, 1, none⟩) qz).trans q2)
        have HRZb := Lib.hid (fun wz (hB : Below wB.heap.size wB wz) => show w.heap.size < wz.heap.size by have := hB.size; omega)
        have HRZyb := Lib.hid (fun wz (hB : Below wB.heap.size wB wz) => show w.heap.size + 1 < wz.heap.size by have := hB.size; omega)
        have HXb := Lib.hid (hx0.mono HBAB.out); have HYb := Lib.hid (hy0.mono HBAB.out)
        clear HR0 HR1 HRZ HR0y HR1y HRZy HFY HX HY HBA q0 q1 q2 q3 qz CF CF2 hwB KB2 hx0 hy0
        have HR0 := HR0b; have HR1 := HR1b; have HRZ := HRZb; have HR0y := HR0yb; have HR1y := HR1yb; have HRZy := HRZyb; have HX := HXb; have HY := HYb; have HBA := HBAB
        clear HR0b HR1b HRZb HR0yb HR1yb HRZyb HXb HYb HBAB
        have KBB := Lib.hid (bz wB)
        go_cut [5] from 34 (fun v wx => ∃ (g : Nat) (u : Value), v = .pointer (some ⟨g, 0, none⟩) ∧ wx.heap[g]? = some (.cells #[.int .i64 R, u] 24) ∧ RdI wx .i64 u (W ++ V) ∧ Below wB.heap.size wB wx)
        case first =>
          refine wp_region_US (fun w2 => ∃ x : BelW wB, w2 = x.val) [0, 1, 3, 4, 6, 7, 9] [] (by kernel_rfl) (by kernel_rfl) ?_
          intro wc hBc hh
          clear hh
          have HB0 := Lib.hid (hBc : Below wB.heap.size wB wc)
          clear hBc
          have hx1 := fun l : BelW wB => HR0.out _ l.b
          have hx2 := fun l : BelW wB => HR1.out _ l.b
          have hx3 := fun l : BelW wB => HR1y.out _ l.b
          have hx4 := fun l : BelW wB => HRZ.out _ l.b
          have hx5 := fun l : BelW wB => HRZy.out _ l.b
          refine U_heads [0, 1, 3, 4, 6, 7] (by kernel_rfl) (belW HB0.out) ?_
          simp only [pickL, List.getElem?_cons_succ, List.getElem?_cons_zero]
          repeat (go_big_quiet_step (fail))
          refine wpQuiet_nil ?_
          clear hx1 hx2 hx3 hx4 hx5
          refine U_two 2 10 (by kernel_rfl) ?_ ?_
          · simp only [pickL, List.getElem?_cons_succ, List.getElem?_cons_zero]
            have O1 := own_newI wc (base := wB.heap.size) (nb := wc.heap.size) rfl HB0.out.size
            have HB1 := Lib.hid (bal HB0.out (.cells #[] 3))
            go_wp2
            generalize wc.alloc (.cells #[] 3) = w51 at *
            refine seg_grow (belW HB1.out) ?_
            refine U_two 5 10 (by kernel_rfl) ?_ ?_
            · simp only [pickL, List.getElem?_cons_succ, List.getElem?_cons_zero]
              refine wpList_append_any rfl _ _ rfl O1 HB1.out.size rfl rfl (HX.out.mono HB1.out) (by simp; try omega) (by omega) ?_
              intro v2 w52 O2 gr2
              have HB2 := Lib.hid (append_below HB1.out O1 gr2 (Nat.le_refl _))
              clear gr2
              go_wp2
              refine seg_grow (belW HB2.out) ?_
              refine U_two 8 10 (by kernel_rfl) ?_ ?_
              · simp only [pickL, List.getElem?_cons_succ, List.getElem?_cons_zero]
                refine wpList_append_any rfl _ _ rfl O2 HB2.out.size rfl rfl (HY.out.mono HB2.out) (by simp; try omega) (by omega) ?_
                intro v3 w53 O3 gr3
                have HB3 := Lib.hid (append_below HB2.out O2 gr3 (Nat.le_refl _))
                clear gr3
                obtain ⟨av, cv, hv⟩ := owns_form O3
                simp only [List.nil_append, List.length_append] at hv
                subst hv
                go_wp2
                refine seg_grow (belW HB3.out) ?_
                refine U_heads [9] (by kernel_rfl) (belW HB3.out) ?_
                simp only [pickL, List.getElem?_cons_succ, List.getElem?_cons_zero]
                repeat (go_big_quiet_step (fail))
                refine wpQuiet_nil ?_
                refine U_one 10 (by kernel_rfl) ?_
                simp only [pickL, List.getElem?_cons_succ, List.getElem?_cons_zero]
                have HG4 := Lib.hid (heap_alloc_new w53 (.cells #[.int .i64 0, .slice none 0 0] 24))
                have hge := HB3.out.size
                have HB4 := Lib.hid (bal HB3.out (.cells #[.int .i64 0, .slice none 0 0] 24))
                have O4 := World.ownsRow.alloc O3 (.cells #[.int .i64 0, .slice none 0 0] 24)
                go_wp2
                generalize w53.alloc (.cells #[.int .i64 0, .slice none 0 0] 24) = w54 at *
                refine seg_grow (belW HB4.out) ?_
                refine U_one 11 (by kernel_rfl) ?_
                simp only [pickL, List.getElem?_cons_succ, List.getElem?_cons_zero]
                refine wpList_store_row rfl 24 (.tmp 5) (.tmp 43) rfl (w53.heap.size) #[.int .i64 R, .slice av (W.length + V.length) cv] rfl rfl 24 _ HG4.out (by kernel_rfl) rfl (by simp [Value.oneCell']) ?_
                have HBF := Lib.hid (below_setRow HB4.out hge #[.int .i64 R, .slice av (W.length + V.length) cv])
                have HRF := Lib.hid (rd_store (cs' := #[.int .i64 R, .slice av (W.length + V.length) cv]) O4 HG4.out)
                have HGF := Lib.hid (setRow_heap _ _ _ #[.int .i64 R, .slice av (W.length + V.length) cv] _ _ HG4.out)
                go_wp2
                refine seg_grow (belW HBF.out) ?_
                refine U_done (by kernel_rfl) ?_
                go_wp2
                go_meet
                case rel => exact ⟨_, _, rfl, HGF.out, HRF.out, HBF.out⟩
              · simp only [pickL, List.getElem?_cons_succ, List.getElem?_cons_zero]
                have HG5 := Lib.hid (heap_alloc_new w52 (.cells #[.int .i64 0, .slice none 0 0] 24))
                have hge := HB2.out.size
                have HB5 := Lib.hid (bal HB2.out (.cells #[.int .i64 0, .slice none 0 0] 24))
                have O5 := World.ownsRow.alloc O2 (.cells #[.int .i64 0, .slice none 0 0] 24)
                go_wp2
                generalize w52.alloc (.cells #[.int .i64 0, .slice none 0 0] 24) = w55 at *
                refine seg_grow (belW HB5.out) ?_
                refine U_one 8 (by kernel_rfl) ?_
                simp only [pickL, List.getElem?_cons_succ, List.getElem?_cons_zero]
                refine wpList_append_any rfl _ _ rfl O5 HB5.out.size rfl rfl (HY.out.mono HB5.out) (by simp; try omega) (by omega) ?_
                intro v6 w56 O6 gr6
                have HB6 := Lib.hid (append_below HB5.out O5 gr6 (Nat.le_refl _))
                have HG6 := Lib.hid (keep_row O5 HG5.out gr6)
                clear gr6
                obtain ⟨av, cv, hv⟩ := owns_form O6
                simp only [List.nil_append, List.length_append] at hv
                subst hv
                go_wp2
                refine seg_grow (belW HB6.out) ?_
                refine U_heads [9] (by kernel_rfl) (belW HB6.out) ?_
                simp only [pickL, List.getElem?_cons_succ, List.getElem?_cons_zero]
                repeat (go_big_quiet_step (fail))
                refine wpQuiet_nil ?_
                refine U_one 11 (by kernel_rfl) ?_
                simp only [pickL, List.getElem?_cons_succ, List.getElem?_cons_zero]
                refine wpList_store_row rfl 24 (.tmp 5) (.tmp 43) rfl (w52.heap.size) #[.int .i64 R, .slice av (W.length + V.length) cv] rfl rfl 24 _ HG6.out (by kernel_rfl) rfl (by simp [Value.oneCell']) ?_
                have HBF := Lib.hid (below_setRow HB6.out hge #[.int .i64 R, .slice av (W.length + V.length) cv])
                have HRF := Lib.hid (rd_store (cs' := #[.int .i64 R, .slice av (W.length + V.length) cv]) O6 HG6.out)
                have HGF := Lib.hid (setRow_heap _ _ _ #[.int .i64 R, .slice av (W.length + V.length) cv] _ _ HG6.out)
                go_wp2
                refine seg_grow (belW HBF.out) ?_
                refine U_done (by kernel_rfl) ?_
                go_wp2
                go_meet
                case rel => exact ⟨_, _, rfl, HGF.out, HRF.out, HBF.out⟩
            · simp only [pickL, List.getElem?_cons_succ, List.getElem?_cons_zero]
              have HG7 := Lib.hid (heap_alloc_new w51 (.cells #[.int .i64 0, .slice none 0 0] 24))
              have hge := HB1.out.size
              have HB7 := Lib.hid (bal HB1.out (.cells #[.int .i64 0, .slice none 0 0] 24))
              have O7 := World.ownsRow.alloc O1 (.cells #[.int .i64 0, .slice none 0 0] 24)
              go_wp2
              generalize w51.alloc (.cells #[.int .i64 0, .slice none 0 0] 24) = w57 at *
              refine seg_grow (belW HB7.out) ?_
              refine U_one 5 (by kernel_rfl) ?_
              simp only [pickL, List.getElem?_cons_succ, List.getElem?_cons_zero]
              refine wpList_append_any rfl _ _ rfl O7 HB7.out.size rfl rfl (HX.out.mono HB7.out) (by simp; try omega) (by omega) ?_
              intro v8 w58 O8 gr8
              have HB8 := Lib.hid (append_below HB7.out O7 gr8 (Nat.le_refl _))
              have HG8 := Lib.hid (keep_row O7 HG7.out gr8)
              clear gr8
              go_wp2
              refine seg_grow (belW HB8.out) ?_
              refine U_one 8 (by kernel_rfl) ?_
              simp only [pickL, List.getElem?_cons_succ, List.getElem?_cons_zero]
              refine wpList_append_any rfl _ _ rfl O8 HB8.out.size rfl rfl (HY.out.mono HB8.out) (by simp; try omega) (by omega) ?_
              intro v9 w59 O9 gr9
              have HB9 := Lib.hid (append_below HB8.out O8 gr9 (Nat.le_refl _))
              have HG9 := Lib.hid (keep_row O8 HG8.out gr9)
              clear gr9
              obtain ⟨av, cv, hv⟩ := owns_form O9
              simp only [List.nil_append, List.length_append] at hv
              subst hv
              go_wp2
              refine seg_grow (belW HB9.out) ?_
              refine U_heads [9] (by kernel_rfl) (belW HB9.out) ?_
              simp only [pickL, List.getElem?_cons_succ, List.getElem?_cons_zero]
              repeat (go_big_quiet_step (fail))
              refine wpQuiet_nil ?_
              refine U_one 11 (by kernel_rfl) ?_
              simp only [pickL, List.getElem?_cons_succ, List.getElem?_cons_zero]
              refine wpList_store_row rfl 24 (.tmp 5) (.tmp 43) rfl (w51.heap.size) #[.int .i64 R, .slice av (W.length + V.length) cv] rfl rfl 24 _ HG9.out (by kernel_rfl) rfl (by simp [Value.oneCell']) ?_
              have HBF := Lib.hid (below_setRow HB9.out hge #[.int .i64 R, .slice av (W.length + V.length) cv])
              have HRF := Lib.hid (rd_store (cs' := #[.int .i64 R, .slice av (W.length + V.length) cv]) O9 HG9.out)
              have HGF := Lib.hid (setRow_heap _ _ _ #[.int .i64 R, .slice av (W.length + V.length) cv] _ _ HG9.out)
              go_wp2
              refine seg_grow (belW HBF.out) ?_
              refine U_done (by kernel_rfl) ?_
              go_wp2
              go_meet
              case rel => exact ⟨_, _, rfl, HGF.out, HRF.out, HBF.out⟩
          · simp only [pickL, List.getElem?_cons_succ, List.getElem?_cons_zero]
            have HG10 := Lib.hid (heap_alloc_new wc (.cells #[.int .i64 0, .slice none 0 0] 24))
            have hge := HB0.out.size
            have HB10 := Lib.hid (bal HB0.out (.cells #[.int .i64 0, .slice none 0 0] 24))
            go_wp2
            generalize wc.alloc (.cells #[.int .i64 0, .slice none 0 0] 24) = w60 at *
            refine seg_grow (belW HB10.out) ?_
            refine U_one 2 (by kernel_rfl) ?_
            simp only [pickL, List.getElem?_cons_succ, List.getElem?_cons_zero]
            have O11 := own_newI w60 (base := wB.heap.size) (nb := w60.heap.size) rfl HB10.out.size
            have HB11 := Lib.hid (bal HB10.out (.cells #[] 3))
            have HG11 := Lib.hid ((Below.heap_alloc w60 (.cells #[] 3) _ (by have := (Array.getElem?_eq_some_iff.1 HG10.out).1; exact this)).trans HG10.out)
            go_wp2
            generalize w60.alloc (.cells #[] 3) = w61 at *
            refine seg_grow (belW HB11.out) ?_
            refine U_one 5 (by kernel_rfl) ?_
            simp only [pickL, List.getElem?_cons_succ, List.getElem?_cons_zero]
            refine wpList_append_any rfl _ _ rfl O11 HB11.out.size rfl rfl (HX.out.mono HB11.out) (by simp; try omega) (by omega) ?_
            intro v12 w62 O12 gr12
            have HB12 := Lib.hid (append_below HB11.out O11 gr12 (Nat.le_refl _))
            have HG12 := Lib.hid (keep_row O11 HG11.out gr12)
            clear gr12
            go_wp2
            refine seg_grow (belW HB12.out) ?_
            refine U_one 8 (by kernel_rfl) ?_
            simp only [pickL, List.getElem?_cons_succ, List.getElem?_cons_zero]
            refine wpList_append_any rfl _ _ rfl O12 HB12.out.size rfl rfl (HY.out.mono HB12.out) (by simp; try omega) (by omega) ?_
            intro v13 w63 O13 gr13
            have HB13 := Lib.hid (append_below HB12.out O12 gr13 (Nat.le_refl _))
            have HG13 := Lib.hid (keep_row O12 HG12.out gr13)
            clear gr13
            obtain ⟨av, cv, hv⟩ := owns_form O13
            simp only [List.nil_append, List.length_append] at hv
            subst hv
            go_wp2
            refine seg_grow (belW HB13.out) ?_
            refine U_heads [9] (by kernel_rfl) (belW HB13.out) ?_
            simp only [pickL, List.getElem?_cons_succ, List.getElem?_cons_zero]
            repeat (go_big_quiet_step (fail))
            refine wpQuiet_nil ?_
            refine U_one 11 (by kernel_rfl) ?_
            simp only [pickL, List.getElem?_cons_succ, List.getElem?_cons_zero]
            refine wpList_store_row rfl 24 (.tmp 5) (.tmp 43) rfl (wc.heap.size) #[.int .i64 R, .slice av (W.length + V.length) cv] rfl rfl 24 _ HG13.out (by kernel_rfl) rfl (by simp [Value.oneCell']) ?_
            have HBF := Lib.hid (below_setRow HB13.out hge #[.int .i64 R, .slice av (W.length + V.length) cv])
            have HRF := Lib.hid (rd_store (cs' := #[.int .i64 R, .slice av (W.length + V.length) cv]) O13 HG13.out)
            have HGF := Lib.hid (setRow_heap _ _ _ #[.int .i64 R, .slice av (W.length + V.length) cv] _ _ HG13.out)
            go_wp2
            refine seg_grow (belW HBF.out) ?_
            refine U_done (by kernel_rfl) ?_
            go_wp2
            go_meet
            case rel => exact ⟨_, _, rfl, HGF.out, HRF.out, HBF.out⟩
        case rest =>
          obtain ⟨g, u, rfl, hg, hu, hB2⟩ := hcut
          obtain ⟨au, cu, rfl⟩ := hu.ex (W.length + V.length) (by simp)
          have hgz : g < wc.heap.size := (Array.getElem?_eq_some_iff.1 hg).1
          have HR0g := Lib.hid (fun wz (hB : Below wc.heap.size wc wz) => (hB.cell (p := ⟨g, 0, none⟩) hgz).trans (by rw [cell_of_row _ _ _ _ _ _ hg]))
          have HR1g := Lib.hid (fun wz (hB : Below wc.heap.size wc wz) => (hB.cell (p := ⟨g, 1, none⟩) hgz).trans (by rw [cell_of_row _ _ _ _ _ _ hg]))
          have HRZg := Lib.hid (fun wz (hB : Below wc.heap.size wc wz) => Nat.lt_of_lt_of_le hgz hB.size)
          have HR0b := Lib.hid (fun wz (hB : Below wc.heap.size wc wz) => HR0.out _ (btr hB2 hB))
          have HR1b := Lib.hid (fun wz (hB : Below wc.heap.size wc wz) => HR1.out _ (btr hB2 hB))
          have HRZb := Lib.hid (fun wz (hB : Below wc.heap.size wc wz) => HRZ.out _ (btr hB2 hB))
          have HR0yb := Lib.hid (fun wz (hB : Below wc.heap.size wc wz) => HR0y.out _ (btr hB2 hB))
          have HR1yb := Lib.hid (fun wz (hB : Below wc.heap.size wc wz) => HR1y.out _ (btr hB2 hB))
          have HRZyb := Lib.hid (fun wz (hB : Below wc.heap.size wc wz) => HRZy.out _ (btr hB2 hB))
          have HXb := Lib.hid (HX.out.mono hB2); have HYb := Lib.hid (HY.out.mono hB2); have HU := Lib.hid hu
          have HBb := Lib.hid (btr HBA.out hB2)
          clear HR0 HR1 HRZ HR0y HR1y HRZy HX HY HBA KBB hg hgz hu hB2
          have HR0 := HR0b; have HR1 := HR1b; have HRZ := HRZb; have HR0y := HR0yb; have HR1y := HR1yb; have HRZy := HRZyb; have HX := HXb; have HY := HYb; have HBA := HBb
          clear HR0b HR1b HRZb HR0yb HR1yb HRZyb HXb HYb HBb
          have KBB := Lib.hid (bz wc)
          have wBx := True.intro
          have CW := Lib.hid (fun wz (hB : Below wc.heap.size wc wz) => works_any wz)
          have C1 := Lib.hid (fun wz (hB : Below wc.heap.size wc wz) => fewest_yes R _ W wz (HX.out.mono hB) HC.out)
          have C2 := Lib.hid (fun wz (hB : Below wc.heap.size wc wz) => fewest_yes R _ V wz (HY.out.mono hB) HCV.out)
          have C3 := Lib.hid (fun wz (hB : Below wc.heap.size wc wz) => fewest_yes R (.slice au (W.length + V.length) cu) (W ++ V) wz (HU.out.mono hB) HCJ.out)
          clear HC HCV HCJ wBx
          generalize fewN R W = p1 at *
          generalize fewN R V = p2 at *
          generalize fewN R (W ++ V) = p3 at *
          have r0 := HR0.out _ KBB.out; have r1 := HR1.out _ KBB.out; have rz := HRZ.out _ KBB.out
          have r0y := HR0y.out _ KBB.out; have r1y := HR1y.out _ KBB.out; have rzy := HRZy.out _ KBB.out
          have r0g := HR0g.out _ KBB.out; have r1g := HR1g.out _ KBB.out; have rzg := HRZg.out _ KBB.out
          go_wp2_with fail
          clear r0 r1 rz r0y r1y rzy r0g r1g rzg
          refine (C1.out _ KBB.out).mono ?_
          rintro e w3 ⟨rfl, hk⟩
          have KB3 := Lib.hid (btr KBB.out hk)
          clear KBB hk
          have r0 := HR0.out _ KB3.out; have r1 := HR1.out _ KB3.out; have rz := HRZ.out _ KB3.out
          have r0y := HR0y.out _ KB3.out; have r1y := HR1y.out _ KB3.out; have rzy := HRZy.out _ KB3.out
          have r0g := HR0g.out _ KB3.out; have r1g := HR1g.out _ KB3.out; have rzg := HRZg.out _ KB3.out
          go_wp2_with fail
          clear r0 r1 rz r0y r1y rzy r0g r1g rzg
          refine (C2.out _ KB3.out).mono ?_
          rintro e w4 ⟨rfl, hk⟩
          have KB4 := Lib.hid (btr KB3.out hk)
          clear KB3 hk
          have r0 := HR0.out _ KB4.out; have r1 := HR1.out _ KB4.out; have rz := HRZ.out _ KB4.out
          have r0y := HR0y.out _ KB4.out; have r1y := HR1y.out _ KB4.out; have rzy := HRZy.out _ KB4.out
          have r0g := HR0g.out _ KB4.out; have r1g := HR1g.out _ KB4.out; have rzg := HRZg.out _ KB4.out
          go_wp2_with fail
          clear r0 r1 rz r0y r1y rzy r0g r1g rzg
          refine (C3.out _ KB4.out).mono ?_
          rintro e w5 ⟨rfl, hk⟩
          have KB5 := Lib.hid (btr KB4.out hk)
          clear KB4 hk
          have r0 := HR0.out _ KB5.out; have r1 := HR1.out _ KB5.out; have rz := HRZ.out _ KB5.out
          have r0y := HR0y.out _ KB5.out; have r1y := HR1y.out _ KB5.out; have rzy := HRZy.out _ KB5.out
          have r0g := HR0g.out _ KB5.out; have r1g := HR1g.out _ KB5.out; have rzg := HRZg.out _ KB5.out
          go_wp2_with fail
          clear r0 r1 rz r0y r1y rzy r0g r1g rzg
          refine (CW.out _ KB5.out).mono ?_
          rintro e w6 ⟨rfl, hk⟩
          have KB6 := Lib.hid (btr KB5.out hk)
          clear KB5 hk
          have r0 := HR0.out _ KB6.out; have r1 := HR1.out _ KB6.out; have rz := HRZ.out _ KB6.out
          have r0y := HR0y.out _ KB6.out; have r1y := HR1y.out _ KB6.out; have rzy := HRZy.out _ KB6.out
          have r0g := HR0g.out _ KB6.out; have r1g := HR1g.out _ KB6.out; have rzg := HRZg.out _ KB6.out
          go_wp2_with fail
          clear r0 r1 rz r0y r1y rzy r0g r1g rzg
          go_ret
          exact ⟨rfl, btr HBA.out KB6.out⟩
      · obtain ⟨wA, hwA⟩ : ∃ wA, (w.alloc (.cells #[.int .i64 R, .slice a W.length c] 24)).alloc (.cells #[.int .i64 R', .slice b V.length d] 24) = wA := ⟨_, rfl⟩
        have HBA := Lib.hid (show Below w.heap.size w wA by rw [← hwA]; exact bal (bal (bz w) _) _)
        have hr0 : wA.cell? ⟨w.heap.size, 0, none⟩ = some (.int .i64 R) := by rw [← hwA]; exact cal _ (cnew rfl rfl)
        have hr1 : wA.cell? ⟨w.heap.size, 1, none⟩ = some (.slice a W.length c) := by rw [← hwA]; exact cal _ (cnew rfl rfl)
        have hrz : w.heap.size < wA.heap.size := by rw [← hwA]; simp; omega
        have hr0y : wA.cell? ⟨w.heap.size + 1, 0, none⟩ = some (.int .i64 R') := by rw [← hwA]; exact cnew (by simp) rfl
        have hr1y : wA.cell? ⟨w.heap.size + 1, 1, none⟩ = some (.slice b V.length d) := by rw [← hwA]; exact cnew (by simp) rfl
        have hfy : wA.frozen? ⟨w.heap.size + 1, 0, none⟩ = false := by rw [← hwA]; exact fnew (by simp)
        have hrzy : w.heap.size + 1 < wA.heap.size := by rw [← hwA]; simp
        have HR0 := Lib.hid (fun wz (hB : Below wA.heap.size wA wz) => (hB.cell (p := ⟨w.heap.size, 0, none⟩) hrz).trans hr0)
        have HR1 := Lib.hid (fun wz (hB : Below wA.heap.size wA wz) => (hB.cell (p := ⟨w.heap.size, 1, none⟩) hrz).trans hr1)
        have HRZ := Lib.hid (fun wz (hB : Below wA.heap.size wA wz) => Nat.lt_of_lt_of_le hrz hB.size)
        have HR0y := Lib.hid (fun wz (hB : Below wA.heap.size wA wz) => (hB.cell (p := ⟨w.heap.size + 1, 0, none⟩) hrzy).trans hr0y)
        have HR1y := Lib.hid (fun wz (hB : Below wA.heap.size wA wz) => (hB.cell (p := ⟨w.heap.size + 1, 1, none⟩) hrzy).trans hr1y)
        have HFY := Lib.hid (fun wz (hB : Below wA.heap.size wA wz) => (hB.frozen (p := ⟨w.heap.size + 1, 0, none⟩) hrzy).trans hfy)
        have HRZy := Lib.hid (fun wz (hB : Below wA.heap.size wA wz) => Nat.lt_of_lt_of_le hrzy hB.size)
        have HX := Lib.hid (hx0.mono HBA.out)
        have HY := Lib.hid (hy0.mono HBA.out)
        clear hr0 hr1 hrz hr0y hr1y hrzy hfy
        have CF := Lib.hid (fun wz (hB : Below wA.heap.size wA wz) => fine_yes R _ W wz (HX.out.mono hB) hc)
        have CF2 := Lib.hid (fun wz (hB : Below wA.heap.size wA wz) => fine_yes R' _ V wz (HY.out.mono hB) hc2)
        have CW := Lib.hid (fun wz (hB : Below wA.heap.size wA wz) => works_any wz)
        have hl1 := (okD_of hc).l16; have hl2 := (okD_of hc2).l16
        have hlz : (16 : Int) < (W.length : Int) + (V.length : Int) := by omega
        clear hc hc2 hlen
        have KB0 := Lib.hid (bz wA)
        go_enter Try.func13, Try.ntmps13
        go_upto_region 1 with fail
        try rw [hwA]
        clear hwA
        have r0 := HR0.out _ KB0.out; have r1 := HR1.out _ KB0.out; have rz := HRZ.out _ KB0.out
        have r0y := HR0y.out _ KB0.out; have r1y := HR1y.out _ KB0.out; have rzy := HRZy.out _ KB0.out
        go_wp2_with fail
        clear r0 r1 rz r0y r1y rzy
        refine (CF.out _ KB0.out).mono ?_
        rintro e w1 ⟨rfl, hk⟩
        have KB1 := Lib.hid (btr KB0.out hk)
        clear KB0 hk
        have r0 := HR0.out _ KB1.out; have r1 := HR1.out _ KB1.out; have rz := HRZ.out _ KB1.out
        have r0y := HR0y.out _ KB1.out; have r1y := HR1y.out _ KB1.out; have rzy := HRZy.out _ KB1.out
        go_wp2_with fail
        clear r0 r1 rz r0y r1y rzy
        refine (CF2.out _ KB1.out).mono ?_
        rintro e w2 ⟨rfl, hk⟩
        have KB2 := Lib.hid (btr KB1.out hk)
        clear KB1 hk
        have r0 := HR0.out _ KB2.out; have r1 := HR1.out _ KB2.out; have rz := HRZ.out _ KB2.out
        have r0y := HR0y.out _ KB2.out; have r1y := HR1y.out _ KB2.out; have rzy := HRZy.out _ KB2.out
        go_wp2_with fail
        clear r0 r1 rz r0y r1y rzy
        refine (CW.out _ KB2.out).mono ?_
        rintro e w3 ⟨rfl, hk⟩
        have KB3 := Lib.hid (btr KB2.out hk)
        clear KB2 hk
        have r0 := HR0.out _ KB3.out; have r1 := HR1.out _ KB3.out; have rz := HRZ.out _ KB3.out
        have r0y := HR0y.out _ KB3.out; have r1y := HR1y.out _ KB3.out; have rzy := HRZy.out _ KB3.out
        go_wp2_with fail
        clear r0 r1 rz r0y r1y rzy
        go_ret
        exact ⟨rfl, btr HBA.out KB3.out⟩
    · obtain ⟨wA, hwA⟩ : ∃ wA, (w.alloc (.cells #[.int .i64 R, .slice a W.length c] 24)).alloc (.cells #[.int .i64 R', .slice b V.length d] 24) = wA := ⟨_, rfl⟩
      have HBA := Lib.hid (show Below w.heap.size w wA by rw [← hwA]; exact bal (bal (bz w) _) _)
      have hr0 : wA.cell? ⟨w.heap.size, 0, none⟩ = some (.int .i64 R) := by rw [← hwA]; exact cal _ (cnew rfl rfl)
      have hr1 : wA.cell? ⟨w.heap.size, 1, none⟩ = some (.slice a W.length c) := by rw [← hwA]; exact cal _ (cnew rfl rfl)
      have hrz : w.heap.size < wA.heap.size := by rw [← hwA]; simp; omega
      have hr0y : wA.cell? ⟨w.heap.size + 1, 0, none⟩ = some (.int .i64 R') := by rw [← hwA]; exact cnew (by simp) rfl
      have hr1y : wA.cell? ⟨w.heap.size + 1, 1, none⟩ = some (.slice b V.length d) := by rw [← hwA]; exact cnew (by simp) rfl
      have hfy : wA.frozen? ⟨w.heap.size + 1, 0, none⟩ = false := by rw [← hwA]; exact fnew (by simp)
      have hrzy : w.heap.size + 1 < wA.heap.size := by rw [← hwA]; simp
      have HR0 := Lib.hid (fun wz (hB : Below wA.heap.size wA wz) => (hB.cell (p := ⟨w.heap.size, 0, none⟩) hrz).trans hr0)
      have HR1 := Lib.hid (fun wz (hB : Below wA.heap.size wA wz) => (hB.cell (p := ⟨w.heap.size, 1, none⟩) hrz).trans hr1)
      have HRZ := Lib.hid (fun wz (hB : Below wA.heap.size wA wz) => Nat.lt_of_lt_of_le hrz hB.size)
      have HR0y := Lib.hid (fun wz (hB : Below wA.heap.size wA wz) => (hB.cell (p := ⟨w.heap.size + 1, 0, none⟩) hrzy).trans hr0y)
      have HR1y := Lib.hid (fun wz (hB : Below wA.heap.size wA wz) => (hB.cell (p := ⟨w.heap.size + 1, 1, none⟩) hrzy).trans hr1y)
      have HFY := Lib.hid (fun wz (hB : Below wA.heap.size wA wz) => (hB.frozen (p := ⟨w.heap.size + 1, 0, none⟩) hrzy).trans hfy)
      have HRZy := Lib.hid (fun wz (hB : Below wA.heap.size wA wz) => Nat.lt_of_lt_of_le hrzy hB.size)
      have HX := Lib.hid (hx0.mono HBA.out)
      have HY := Lib.hid (hy0.mono HBA.out)
      clear hr0 hr1 hrz hr0y hr1y hrzy hfy
      have CF := Lib.hid (fun wz (hB : Below wA.heap.size wA wz) => fine_yes R _ W wz (HX.out.mono hB) hc)
      have CF2 := Lib.hid (fun wz (hB : Below wA.heap.size wA wz) => fine_no R' _ V wz (HY.out.mono hB) hc2)
      have CW := Lib.hid (fun wz (hB : Below wA.heap.size wA wz) => works_any wz)
      clear hc hc2
      have KB0 := Lib.hid (bz wA)
      go_enter Try.func13, Try.ntmps13
      go_upto_region 1 with fail
      try rw [hwA]
      clear hwA
      have r0 := HR0.out _ KB0.out; have r1 := HR1.out _ KB0.out; have rz := HRZ.out _ KB0.out
      have r0y := HR0y.out _ KB0.out; have r1y := HR1y.out _ KB0.out; have rzy := HRZy.out _ KB0.out
      go_wp2_with fail
      clear r0 r1 rz r0y r1y rzy
      refine (CF.out _ KB0.out).mono ?_
      rintro e w1 ⟨rfl, hk⟩
      have KB1 := Lib.hid (btr KB0.out hk)
      clear KB0 hk
      have r0 := HR0.out _ KB1.out; have r1 := HR1.out _ KB1.out; have rz := HRZ.out _ KB1.out
      have r0y := HR0y.out _ KB1.out; have r1y := HR1y.out _ KB1.out; have rzy := HRZy.out _ KB1.out
      go_wp2_with fail
      clear r0 r1 rz r0y r1y rzy
      refine (CF2.out _ KB1.out).mono ?_
      rintro e w2 ⟨rfl, hk⟩
      have KB2 := Lib.hid (btr KB1.out hk)
      clear KB1 hk
      have r0 := HR0.out _ KB2.out; have r1 := HR1.out _ KB2.out; have rz := HRZ.out _ KB2.out
      have r0y := HR0y.out _ KB2.out; have r1y := HR1y.out _ KB2.out; have rzy := HRZy.out _ KB2.out
      go_wp2_with fail
      clear r0 r1 rz r0y r1y rzy
      refine (CW.out _ KB2.out).mono ?_
      rintro e w3 ⟨rfl, hk⟩
      have KB3 := Lib.hid (btr KB2.out hk)
      clear KB2 hk
      have r0 := HR0.out _ KB3.out; have r1 := HR1.out _ KB3.out; have rz := HRZ.out _ KB3.out
      have r0y := HR0y.out _ KB3.out; have r1y := HR1y.out _ KB3.out; have rzy := HRZy.out _ KB3.out
      go_wp2_with fail
      clear r0 r1 rz r0y r1y rzy
      go_ret
      exact ⟨rfl, btr HBA.out KB3.out⟩
  · obtain ⟨wA, hwA⟩ : ∃ wA, (w.alloc (.cells #[.int .i64 R, .slice a W.length c] 24)).alloc (.cells #[.int .i64 R', .slice b V.length d] 24) = wA := ⟨_, rfl⟩
    have HBA := Lib.hid (show Below w.heap.size w wA by rw [← hwA]; exact bal (bal (bz w) _) _)
    have hr0 : wA.cell? ⟨w.heap.size, 0, none⟩ = some (.int .i64 R) := by rw [← hwA]; exact cal _ (cnew rfl rfl)
    have hr1 : wA.cell? ⟨w.heap.size, 1, none⟩ = some (.slice a W.length c) := by rw [← hwA]; exact cal _ (cnew rfl rfl)
    have hrz : w.heap.size < wA.heap.size := by rw [← hwA]; simp; omega
    have hr0y : wA.cell? ⟨w.heap.size + 1, 0, none⟩ = some (.int .i64 R') := by rw [← hwA]; exact cnew (by simp) rfl
    have hr1y : wA.cell? ⟨w.heap.size + 1, 1, none⟩ = some (.slice b V.length d) := by rw [← hwA]; exact cnew (by simp) rfl
    have hfy : wA.frozen? ⟨w.heap.size + 1, 0, none⟩ = false := by rw [← hwA]; exact fnew (by simp)
    have hrzy : w.heap.size + 1 < wA.heap.size := by rw [← hwA]; simp
    have HR0 := Lib.hid (fun wz (hB : Below wA.heap.size wA wz) => (hB.cell (p := ⟨w.heap.size, 0, none⟩) hrz).trans hr0)
    have HR1 := Lib.hid (fun wz (hB : Below wA.heap.size wA wz) => (hB.cell (p := ⟨w.heap.size, 1, none⟩) hrz).trans hr1)
    have HRZ := Lib.hid (fun wz (hB : Below wA.heap.size wA wz) => Nat.lt_of_lt_of_le hrz hB.size)
    have HR0y := Lib.hid (fun wz (hB : Below wA.heap.size wA wz) => (hB.cell (p := ⟨w.heap.size + 1, 0, none⟩) hrzy).trans hr0y)
    have HR1y := Lib.hid (fun wz (hB : Below wA.heap.size wA wz) => (hB.cell (p := ⟨w.heap.size + 1, 1, none⟩) hrzy).trans hr1y)
    have HFY := Lib.hid (fun wz (hB : Below wA.heap.size wA wz) => (hB.frozen (p := ⟨w.heap.size + 1, 0, none⟩) hrzy).trans hfy)
    have HRZy := Lib.hid (fun wz (hB : Below wA.heap.size wA wz) => Nat.lt_of_lt_of_le hrzy hB.size)
    have HX := Lib.hid (hx0.mono HBA.out)
    have HY := Lib.hid (hy0.mono HBA.out)
    clear hr0 hr1 hrz hr0y hr1y hrzy hfy
    have CF := Lib.hid (fun wz (hB : Below wA.heap.size wA wz) => fine_no R _ W wz (HX.out.mono hB) hc)
    have CW := Lib.hid (fun wz (hB : Below wA.heap.size wA wz) => works_any wz)
    clear hc
    have KB0 := Lib.hid (bz wA)
    go_enter Try.func13, Try.ntmps13
    go_upto_region 1 with fail
    try rw [hwA]
    clear hwA
    have r0 := HR0.out _ KB0.out; have r1 := HR1.out _ KB0.out; have rz := HRZ.out _ KB0.out
    have r0y := HR0y.out _ KB0.out; have r1y := HR1y.out _ KB0.out; have rzy := HRZy.out _ KB0.out
    go_wp2_with fail
    clear r0 r1 rz r0y r1y rzy
    refine (CF.out _ KB0.out).mono ?_
    rintro e w1 ⟨rfl, hk⟩
    have KB1 := Lib.hid (btr KB0.out hk)
    clear KB0 hk
    have r0 := HR0.out _ KB1.out; have r1 := HR1.out _ KB1.out; have rz := HRZ.out _ KB1.out
    have r0y := HR0y.out _ KB1.out; have r1y := HR1y.out _ KB1.out; have rzy := HRZy.out _ KB1.out
    go_wp2_with fail
    clear r0 r1 rz r0y r1y rzy
    refine (CW.out _ KB1.out).mono ?_
    rintro e w2 ⟨rfl, hk⟩
    have KB2 := Lib.hid (btr KB1.out hk)
    clear KB1 hk
    have r0 := HR0.out _ KB2.out; have r1 := HR1.out _ KB2.out; have rz := HRZ.out _ KB2.out
    have r0y := HR0y.out _ KB2.out; have r1y := HR1y.out _ KB2.out; have rzy := HRZy.out _ KB2.out
    go_wp2_with fail
    clear r0 r1 rz r0y r1y rzy
    go_ret
    exact ⟨rfl, btr HBA.out KB2.out⟩
section
open Go.ChangeShapes Go.WideShapes Go.ChangeAt
set_option maxRecDepth 100000 in
theorem shelfJoined_lifted (os : Os) (started : os.Started) (H : Type) (enc : TypeId × Value → H) :
    ReturnsInHanded {} Try.checked os 13 .any (Rows.shelfJoinedSpec.pre6 enc Try.prog Try.f13 Rows.shelfJoinedRow.domain false) (Rows.shelfJoinedSpec.post enc Try.prog Try.f13 false true false false) := by
  refine returnsInHanded_of_change (C := Try.checked) Try.own started (by kernel_rfl) Try.func13
    (ChangeSpec.witness6 (enc := enc) (C := Try.checked) false ⟨#[], #[.agg #[.int .i64 0, .slice none 0 0], .agg #[.int .i64 0, .slice none 0 0]], []⟩ 8 (by kernel_rfl) (by kernel_rfl) (by kernel_rfl) (by kernel_rfl)) ?_
  intro W base args ds gs before hval0 hW _ _
  have hval : ∀ (j : Nat) t v, Try.f13.params[j]? = some t → args[j]? = some v → Value.okWide Try.prog W .any base t v := hval0
  have hW' := hW
  obtain ⟨p, q, hA0, hV, rfl, hfz, hnd⟩ := hW
  have hA : DataW.TrodAll enc Try.prog W 0 (fun _ => true) true Try.f13.params.toList args.toList ds p := hA0
  have hA2 := hA
  have hlt : ∀ x ∈ p, x.block < W.heap.size := fun x hx => hW'.lt x (List.mem_append_left _ hx)
  rw [Try.params13] at hA hval
  obtain ⟨v0, vs0, d0, ds0, p0, q0, hargs, rfl, rfl, h0, r0⟩ := trodAll_cons hA
  obtain ⟨v1, vs1, d1, ds1, p1, q1, rfl, rfl, rfl, h1, r1⟩ := trodAll_cons r0
  obtain ⟨rfl, rfl, rfl⟩ := trodAll_nil r1
  obtain rfl : args = #[v0, v1] := by cases args; simp_all
  obtain ⟨rfl, rfl⟩ := trodVars_none hV
  obtain ⟨R0, x0, X0, rfl, hx0⟩ := open_day (hval 0 24 v0 rfl rfl) h0 (fun x hx => hlt x (by simp [hx]))
  obtain ⟨R1, x1, X1, rfl, hx1⟩ := open_day (hval 1 24 v1 rfl rfl) h1 (fun x hx => hlt x (by simp [hx]))
  clear hA0 hval0
  simp only [List.append_nil] at hW' hA2
  refine (shelfJoined_walk R0 x0 X0 R1 x1 X1 W hx0 hx1).mono fun e W' ⟨he, hb⟩ => ?_
  subst he
  exact ⟨_, rfl, law_post Try.laidOut Try.underlying4 hW' hA2 rfl rfl rfl rfl rfl (by kernel_rfl) hb⟩
theorem shelfJoined_holds : Rows.ShelfJoinedSaid :=
  OpenClaim.holds_of_wide 13 Try.f13 rfl rfl rfl rfl rfl rfl rfl ⟨rfl, rfl, rfl, rfl, rfl⟩ rfl rfl rfl rfl rfl (by kernel_rfl) Try.func13 (by kernel_rfl)
    (of_decide_eq_true (by kernel_rfl)) (by unfold Func.isWrapper; first | (rw [if_pos (by decide +kernel)]; kernel_rfl) | (rw [if_neg (by decide +kernel)]; exact ⟨rfl, rfl⟩))
    (fun os started H enc _ => shelfJoined_lifted os started H enc)
end
end Go.Proofs.Ytjajdpggoggoiaa
