/- PlanKnown: the examples of the chapter; no condition. -/
import Derived.Test.YteknehlkdgamjaaMGK
import Derived.Test.YteknehlkdgamjaaMEn
namespace Go.Proofs.Yteknehlkdgamjaa
open Go.RowKit Go.Shelf

theorem startsx_lit (v : Value) (w : World) (hx : RdJ w v circJ) : Calls Try.prog 15 #[.agg #[v]] w fun e w' => ∃ u, e = .returned (.tuple #[u, .int .i64 13]) ∧ RdP w' u [] ∧ Below w.heap.size w w' := by
  have h := pstarts_any v circJ w hx exSmX
  rw [exStartsX, exErrX] at h
  refine h.mono ?_
  rintro e w' ⟨⟨u, rfl, h⟩, hB⟩
  exact ⟨u, rfl, h, hB⟩
theorem checkwork_lit (v : Value) (w : World) (hx : RdJ w v workJ) : Calls Try.prog 11 #[.agg #[v]] w fun e w' => e = .returned (.int .i64 0) ∧ Below w.heap.size w w' := by
  have h := pwork_any v workJ w hx exSm
  rw [exWork] at h
  exact h
set_option maxRecDepth 100000 in
set_option maxHeartbeats 16000000 in
theorem known_core (hwk : WorksSaid) (w : World) : Calls Try.prog 6 #[] w fun e w' => e = .returned (.bool true) ∧ Below w.heap.size w w' := by
  unfold WorksSaid at hwk
  go_enter Try.func6, Try.ntmps6
  have KP0 := Lib.hid (keepB (bz w))
  go_wp2_with fail
  refine (work_lit _).mono ?_
  rintro e w1 ⟨x1, rfl, hR, hB⟩
  obtain ⟨a1, c1, hx⟩ := exJb hR 4 rfl
  subst hx
  have KP1 := Lib.hid ((KP0.out.up hB).and (keepJ hR))
  clear KP0
  clear hB hR
  go_upto_region 2 with fail
  have hB := bal (bz w1) (.cells #[.slice a1 4 c1] 24)
  have h1 := heap_alloc_new w1 (.cells #[.slice a1 4 c1] 24)
  generalize w1.alloc (.cells #[.slice a1 4 c1] 24) = w2 at hB h1 ⊢
  obtain ⟨g1, hg1⟩ : ∃ x, x = w1.heap.size := ⟨_, rfl⟩
  rw [← hg1] at h1 ⊢
  clear hg1
  have KP2 := Lib.hid ((KP1.out.up hB).and (keepW h1))
  clear KP1
  clear hB h1
  go_upto_region 2 with fail
  obtain ⟨G, KG, hG⟩ := KP2.out.name
  have HG := Lib.hid hG
  have KGH := Lib.hid KG
  clear hG KG
  go_cut [2, 3] (fun s2 s3 wx => ∃ g : Nat, s2 = .pointer (some ⟨g, 0, none⟩) ∧ s3 = .int .i64 0 ∧ wx.heap[g]? = some (.cells #[.int .i64 7, .int .i64 9] 39 (0, 0)) ∧ Keep wx G)
  case first =>
    rename_i Kb hKb Jc Kc hJc hKc
    clear hKb
    as_aux_lemma =>
      obtain ⟨cv1, zv1⟩ := KP2.out.here.1
      refine wp_region_U [0, 4, 5, 6, 9] [] (by kernel_rfl) (by kernel_rfl) ?_
      intro w3 hBc hh
      clear hh
      have hL := @Later.cell w3
      have kv1 := (hBc.cell (p := ⟨_, _, none⟩) zv1).trans cv1
      have yv1 := Nat.lt_of_lt_of_le zv1 hBc.size
      clear cv1 zv1
      have HRw1 := Lib.hid (KP2.out.here.2.1.mono hBc)
      have HB := Lib.hid hBc
      have HS := Lib.hid (bz w3)
      clear hBc KP2 HG
      refine U_heads [0] (by kernel_rfl) ⟨⟨_, HS.out⟩, rfl⟩ ?_
      simp only [pickL, List.getElem?_cons_zero]
      repeat (go_big_quiet_step (fail))
      refine wpQuiet_nil ?_
      refine U_two 1 7 (by kernel_rfl) ?_ ?_
      · simp only [pickL, List.getElem?_cons_succ, List.getElem?_cons_zero]
        have HRi1 := Lib.hid (rdI_at w3 [0, 1, 3] 3 w3.heap.size rfl (by simp))
        change Hid (RdI (w3.alloc (.cells #[.int .i64 0, .int .i64 1, .int .i64 3] 3)) .i64 (.slice (some ⟨w3.heap.size, 0, none⟩) 3 3) [0, 1, 3]) at HRi1
        replace HRw1 := Lib.hid (HRw1.out.mono ((bal (bz w3) (.cells #[.int .i64 0, .int .i64 1, .int .i64 3] 3)) : Below _ _ (w3.alloc (.cells #[.int .i64 0, .int .i64 1, .int .i64 3] 3))))
        replace HB := Lib.hid (btr HB.out ((bal (bz w3) (.cells #[.int .i64 0, .int .i64 1, .int .i64 3] 3)) : Below _ _ (w3.alloc (.cells #[.int .i64 0, .int .i64 1, .int .i64 3] 3))))
        replace HS := Lib.hid (btr HS.out ((bal (bz w3) (.cells #[.int .i64 0, .int .i64 1, .int .i64 3] 3)) : Below _ _ (w3.alloc (.cells #[.int .i64 0, .int .i64 1, .int .i64 3] 3))))
        go_wp2
        generalize w3.alloc (Obj.cells #[.int .i64 0, .int .i64 1, .int .i64 3] 3) = w4 at HRi1 HRw1 HB HS ⊢
        generalize w3.heap.size = si1 at HRi1 ⊢
        refine seg_grow ⟨⟨_, HS.out⟩, rfl⟩ ?_
        refine U_two 2 7 (by kernel_rfl) ?_ ?_
        · simp only [pickL, List.getElem?_cons_succ, List.getElem?_cons_zero]
          go_wp2_with fail
          refine (of_id _ _).mono ?_
          rintro e w' ⟨rfl, rfl⟩
          go_wp2
          refine seg_grow ⟨⟨_, HS.out⟩, rfl⟩ ?_
          refine U_two 3 7 (by kernel_rfl) ?_ ?_
          · simp only [pickL, List.getElem?_cons_succ, List.getElem?_cons_zero]
            go_wp2_with fail
            refine (checkchain_lit _ _ _ [0, 1, 3] 7 9 0 HRw1.out HRi1.out (by decide) exChain3).mono ?_
            rintro e w5 ⟨rfl, hB⟩
            replace HRi1 := Lib.hid (HRi1.out.mono (hB : Below _ _ (w5)))
            replace HRw1 := Lib.hid (HRw1.out.mono (hB : Below _ _ (w5)))
            replace HB := Lib.hid (btr HB.out (hB : Below _ _ (w5)))
            replace HS := Lib.hid (btr HS.out (hB : Below _ _ (w5)))
            clear hB
            go_wp2
            refine seg_grow ⟨⟨_, HS.out⟩, rfl⟩ ?_
            refine U_heads [4, 5, 6] (by kernel_rfl) ⟨⟨_, HS.out⟩, rfl⟩ ?_
            simp only [pickL, List.getElem?_cons_succ, List.getElem?_cons_zero]
            repeat (go_big_quiet_step (fail))
            refine wpQuiet_nil ?_
            refine U_one 7 (by kernel_rfl) ?_
            simp only [pickL, List.getElem?_cons_succ, List.getElem?_cons_zero]
            have HRa := Lib.hid (heap_alloc_new w5 (.cells #[.int .i64 0, .int .i64 0] 39))
            obtain ⟨sa, hsa⟩ : ∃ x, x = w5.heap.size := ⟨_, rfl⟩
            have HGE := Lib.hid (show w2.heap.size ≤ sa ∧ w3.heap.size ≤ sa by rw [hsa]; exact ⟨HB.out.size, HS.out.size⟩)
            replace HRi1 := Lib.hid (HRi1.out.mono ((bal (bz w5) (.cells #[.int .i64 0, .int .i64 0] 39)) : Below _ _ (w5.alloc (.cells #[.int .i64 0, .int .i64 0] 39))))
            replace HRw1 := Lib.hid (HRw1.out.mono ((bal (bz w5) (.cells #[.int .i64 0, .int .i64 0] 39)) : Below _ _ (w5.alloc (.cells #[.int .i64 0, .int .i64 0] 39))))
            replace HB := Lib.hid (btr HB.out ((bal (bz w5) (.cells #[.int .i64 0, .int .i64 0] 39)) : Below _ _ (w5.alloc (.cells #[.int .i64 0, .int .i64 0] 39))))
            replace HS := Lib.hid (btr HS.out ((bal (bz w5) (.cells #[.int .i64 0, .int .i64 0] 39)) : Below _ _ (w5.alloc (.cells #[.int .i64 0, .int .i64 0] 39))))
            go_wp2
            generalize w5.alloc (Obj.cells #[.int .i64 0, .int .i64 0] 39) = w6 at HRa HRi1 HRw1 HB HS ⊢
            rw [← hsa] at HRa ⊢
            clear hsa
            refine seg_grow ⟨⟨_, HS.out⟩, rfl⟩ ?_
            refine U_one 8 (by kernel_rfl) ?_
            simp only [pickL, List.getElem?_cons_succ, List.getElem?_cons_zero]
            obtain ⟨p0, p1, q0, q1⟩ := pair_cells HRa.out
            have pz := (Array.getElem?_eq_some_iff.1 HRa.out).1
            go_wp2
            clear p0 p1 q0 q1 pz
            replace HRa := Lib.hid (pair_set HRa.out (.int .i64 7) (.int .i64 9))
            replace HB := Lib.hid (pair_below HB.out HGE.out.1 (.int .i64 7) (.int .i64 9))
            replace HS := Lib.hid (pair_below HS.out HGE.out.2 (.int .i64 7) (.int .i64 9))
            generalize (w6.setCell ⟨sa, 0, none⟩ (.int .i64 7)).setCell ⟨sa, 1, none⟩ (.int .i64 9) = w7 at HRa HB HS ⊢
            refine seg_grow ⟨⟨_, HS.out⟩, rfl⟩ ?_
            refine U_heads [9] (by kernel_rfl) ⟨⟨_, HS.out⟩, rfl⟩ ?_
            simp only [pickL, List.getElem?_cons_succ, List.getElem?_cons_zero]
            repeat (go_big_quiet_step (fail))
            refine wpQuiet_nil ?_
            refine U_done (by kernel_rfl) ?_
            have hK := Lib.hid (KGH.out.up HB.out)
            go_wp2_with fail
            go_meet
            exact ⟨sa, rfl, rfl, HRa.out, hK.out⟩
          · simp only [pickL, List.getElem?_cons_succ, List.getElem?_cons_zero]
            have HRa := Lib.hid (heap_alloc_new w4 (.cells #[.int .i64 0, .int .i64 0] 39))
            obtain ⟨sa, hsa⟩ : ∃ x, x = w4.heap.size := ⟨_, rfl⟩
            have HGE := Lib.hid (show w2.heap.size ≤ sa ∧ w3.heap.size ≤ sa by rw [hsa]; exact ⟨HB.out.size, HS.out.size⟩)
            replace HRi1 := Lib.hid (HRi1.out.mono ((bal (bz w4) (.cells #[.int .i64 0, .int .i64 0] 39)) : Below _ _ (w4.alloc (.cells #[.int .i64 0, .int .i64 0] 39))))
            replace HRw1 := Lib.hid (HRw1.out.mono ((bal (bz w4) (.cells #[.int .i64 0, .int .i64 0] 39)) : Below _ _ (w4.alloc (.cells #[.int .i64 0, .int .i64 0] 39))))
            replace HB := Lib.hid (btr HB.out ((bal (bz w4) (.cells #[.int .i64 0, .int .i64 0] 39)) : Below _ _ (w4.alloc (.cells #[.int .i64 0, .int .i64 0] 39))))
            replace HS := Lib.hid (btr HS.out ((bal (bz w4) (.cells #[.int .i64 0, .int .i64 0] 39)) : Below _ _ (w4.alloc (.cells #[.int .i64 0, .int .i64 0] 39))))
            go_wp2
            generalize w4.alloc (Obj.cells #[.int .i64 0, .int .i64 0] 39) = w8 at HRa HRi1 HRw1 HB HS ⊢
            rw [← hsa] at HRa ⊢
            clear hsa
            refine seg_grow ⟨⟨_, HS.out⟩, rfl⟩ ?_
            refine U_one 3 (by kernel_rfl) ?_
            simp only [pickL, List.getElem?_cons_succ, List.getElem?_cons_zero]
            go_wp2_with fail
            refine (checkchain_lit _ _ _ [0, 1, 3] 7 9 0 HRw1.out HRi1.out (by decide) exChain3).mono ?_
            rintro e w9 ⟨rfl, hB⟩
            replace HRa := Lib.hid (((hB : Below _ _ (w9)).block _ (Array.getElem?_eq_some_iff.1 HRa.out).1).trans HRa.out)
            replace HRi1 := Lib.hid (HRi1.out.mono (hB : Below _ _ (w9)))
            replace HRw1 := Lib.hid (HRw1.out.mono (hB : Below _ _ (w9)))
            replace HB := Lib.hid (btr HB.out (hB : Below _ _ (w9)))
            replace HS := Lib.hid (btr HS.out (hB : Below _ _ (w9)))
            clear hB
            go_wp2
            refine seg_grow ⟨⟨_, HS.out⟩, rfl⟩ ?_
            refine U_heads [4, 5, 6] (by kernel_rfl) ⟨⟨_, HS.out⟩, rfl⟩ ?_
            simp only [pickL, List.getElem?_cons_succ, List.getElem?_cons_zero]
            repeat (go_big_quiet_step (fail))
            refine wpQuiet_nil ?_
            refine U_one 8 (by kernel_rfl) ?_
            simp only [pickL, List.getElem?_cons_succ, List.getElem?_cons_zero]
            obtain ⟨p0, p1, q0, q1⟩ := pair_cells HRa.out
            have pz := (Array.getElem?_eq_some_iff.1 HRa.out).1
            go_wp2
            clear p0 p1 q0 q1 pz
            replace HRa := Lib.hid (pair_set HRa.out (.int .i64 7) (.int .i64 9))
            replace HB := Lib.hid (pair_below HB.out HGE.out.1 (.int .i64 7) (.int .i64 9))
            replace HS := Lib.hid (pair_below HS.out HGE.out.2 (.int .i64 7) (.int .i64 9))
            generalize (w9.setCell ⟨sa, 0, none⟩ (.int .i64 7)).setCell ⟨sa, 1, none⟩ (.int .i64 9) = w10 at HRa HB HS ⊢
            refine seg_grow ⟨⟨_, HS.out⟩, rfl⟩ ?_
            refine U_heads [9] (by kernel_rfl) ⟨⟨_, HS.out⟩, rfl⟩ ?_
            simp only [pickL, List.getElem?_cons_succ, List.getElem?_cons_zero]
            repeat (go_big_quiet_step (fail))
            refine wpQuiet_nil ?_
            refine U_done (by kernel_rfl) ?_
            have hK := Lib.hid (KGH.out.up HB.out)
            go_wp2_with fail
            go_meet
            exact ⟨sa, rfl, rfl, HRa.out, hK.out⟩
        · simp only [pickL, List.getElem?_cons_succ, List.getElem?_cons_zero]
          have HRa := Lib.hid (heap_alloc_new w4 (.cells #[.int .i64 0, .int .i64 0] 39))
          obtain ⟨sa, hsa⟩ : ∃ x, x = w4.heap.size := ⟨_, rfl⟩
          have HGE := Lib.hid (show w2.heap.size ≤ sa ∧ w3.heap.size ≤ sa by rw [hsa]; exact ⟨HB.out.size, HS.out.size⟩)
          replace HRi1 := Lib.hid (HRi1.out.mono ((bal (bz w4) (.cells #[.int .i64 0, .int .i64 0] 39)) : Below _ _ (w4.alloc (.cells #[.int .i64 0, .int .i64 0] 39))))
          replace HRw1 := Lib.hid (HRw1.out.mono ((bal (bz w4) (.cells #[.int .i64 0, .int .i64 0] 39)) : Below _ _ (w4.alloc (.cells #[.int .i64 0, .int .i64 0] 39))))
          replace HB := Lib.hid (btr HB.out ((bal (bz w4) (.cells #[.int .i64 0, .int .i64 0] 39)) : Below _ _ (w4.alloc (.cells #[.int .i64 0, .int .i64 0] 39))))
          replace HS := Lib.hid (btr HS.out ((bal (bz w4) (.cells #[.int .i64 0, .int .i64 0] 39)) : Below _ _ (w4.alloc (.cells #[.int .i64 0, .int .i64 0] 39))))
          go_wp2
          generalize w4.alloc (Obj.cells #[.int .i64 0, .int .i64 0] 39) = w11 at HRa HRi1 HRw1 HB HS ⊢
          rw [← hsa] at HRa ⊢
          clear hsa
          refine seg_grow ⟨⟨_, HS.out⟩, rfl⟩ ?_
          refine U_one 2 (by kernel_rfl) ?_
          simp only [pickL, List.getElem?_cons_succ, List.getElem?_cons_zero]
          go_wp2_with fail
          refine (of_id _ _).mono ?_
          rintro e w' ⟨rfl, rfl⟩
          go_wp2
          refine seg_grow ⟨⟨_, HS.out⟩, rfl⟩ ?_
          refine U_one 3 (by kernel_rfl) ?_
          simp only [pickL, List.getElem?_cons_succ, List.getElem?_cons_zero]
          go_wp2_with fail
          refine (checkchain_lit _ _ _ [0, 1, 3] 7 9 0 HRw1.out HRi1.out (by decide) exChain3).mono ?_
          rintro e w12 ⟨rfl, hB⟩
          replace HRa := Lib.hid (((hB : Below _ _ (w12)).block _ (Array.getElem?_eq_some_iff.1 HRa.out).1).trans HRa.out)
          replace HRi1 := Lib.hid (HRi1.out.mono (hB : Below _ _ (w12)))
          replace HRw1 := Lib.hid (HRw1.out.mono (hB : Below _ _ (w12)))
          replace HB := Lib.hid (btr HB.out (hB : Below _ _ (w12)))
          replace HS := Lib.hid (btr HS.out (hB : Below _ _ (w12)))
          clear hB
          go_wp2
          refine seg_grow ⟨⟨_, HS.out⟩, rfl⟩ ?_
          refine U_heads [4, 5, 6] (by kernel_rfl) ⟨⟨_, HS.out⟩, rfl⟩ ?_
          simp only [pickL, List.getElem?_cons_succ, List.getElem?_cons_zero]
          repeat (go_big_quiet_step (fail))
          refine wpQuiet_nil ?_
          refine U_one 8 (by kernel_rfl) ?_
          simp only [pickL, List.getElem?_cons_succ, List.getElem?_cons_zero]
          obtain ⟨p0, p1, q0, q1⟩ := pair_cells HRa.out
          have pz := (Array.getElem?_eq_some_iff.1 HRa.out).1
          go_wp2
          clear p0 p1 q0 q1 pz
          replace HRa := Lib.hid (pair_set HRa.out (.int .i64 7) (.int .i64 9))
          replace HB := Lib.hid (pair_below HB.out HGE.out.1 (.int .i64 7) (.int .i64 9))
          replace HS := Lib.hid (pair_below HS.out HGE.out.2 (.int .i64 7) (.int .i64 9))
          generalize (w12.setCell ⟨sa, 0, none⟩ (.int .i64 7)).setCell ⟨sa, 1, none⟩ (.int .i64 9) = w13 at HRa HB HS ⊢
          refine seg_grow ⟨⟨_, HS.out⟩, rfl⟩ ?_
          refine U_heads [9] (by kernel_rfl) ⟨⟨_, HS.out⟩, rfl⟩ ?_
          simp only [pickL, List.getElem?_cons_succ, List.getElem?_cons_zero]
          repeat (go_big_quiet_step (fail))
          refine wpQuiet_nil ?_
          refine U_done (by kernel_rfl) ?_
          have hK := Lib.hid (KGH.out.up HB.out)
          go_wp2_with fail
          go_meet
          exact ⟨sa, rfl, rfl, HRa.out, hK.out⟩
      · simp only [pickL, List.getElem?_cons_succ, List.getElem?_cons_zero]
        have HRa := Lib.hid (heap_alloc_new w3 (.cells #[.int .i64 0, .int .i64 0] 39))
        obtain ⟨sa, hsa⟩ : ∃ x, x = w3.heap.size := ⟨_, rfl⟩
        have HGE := Lib.hid (show w2.heap.size ≤ sa ∧ w3.heap.size ≤ sa by rw [hsa]; exact ⟨HB.out.size, HS.out.size⟩)
        replace HRw1 := Lib.hid (HRw1.out.mono ((bal (bz w3) (.cells #[.int .i64 0, .int .i64 0] 39)) : Below _ _ (w3.alloc (.cells #[.int .i64 0, .int .i64 0] 39))))
        replace HB := Lib.hid (btr HB.out ((bal (bz w3) (.cells #[.int .i64 0, .int .i64 0] 39)) : Below _ _ (w3.alloc (.cells #[.int .i64 0, .int .i64 0] 39))))
        replace HS := Lib.hid (btr HS.out ((bal (bz w3) (.cells #[.int .i64 0, .int .i64 0] 39)) : Below _ _ (w3.alloc (.cells #[.int .i64 0, .int .i64 0] 39))))
        go_wp2
        generalize w3.alloc (Obj.cells #[.int .i64 0, .int .i64 0] 39) = w14 at HRa HRw1 HB HS ⊢
        rw [← hsa] at HRa ⊢
        clear hsa
        refine seg_grow ⟨⟨_, HS.out⟩, rfl⟩ ?_
        refine U_one 1 (by kernel_rfl) ?_
        simp only [pickL, List.getElem?_cons_succ, List.getElem?_cons_zero]
        have HRi1 := Lib.hid (rdI_at w14 [0, 1, 3] 3 w14.heap.size rfl (by simp))
        change Hid (RdI (w14.alloc (.cells #[.int .i64 0, .int .i64 1, .int .i64 3] 3)) .i64 (.slice (some ⟨w14.heap.size, 0, none⟩) 3 3) [0, 1, 3]) at HRi1
        replace HRa := Lib.hid ((((bal (bz w14) (.cells #[.int .i64 0, .int .i64 1, .int .i64 3] 3)) : Below _ _ (w14.alloc (.cells #[.int .i64 0, .int .i64 1, .int .i64 3] 3))).block _ (Array.getElem?_eq_some_iff.1 HRa.out).1).trans HRa.out)
        replace HRw1 := Lib.hid (HRw1.out.mono ((bal (bz w14) (.cells #[.int .i64 0, .int .i64 1, .int .i64 3] 3)) : Below _ _ (w14.alloc (.cells #[.int .i64 0, .int .i64 1, .int .i64 3] 3))))
        replace HB := Lib.hid (btr HB.out ((bal (bz w14) (.cells #[.int .i64 0, .int .i64 1, .int .i64 3] 3)) : Below _ _ (w14.alloc (.cells #[.int .i64 0, .int .i64 1, .int .i64 3] 3))))
        replace HS := Lib.hid (btr HS.out ((bal (bz w14) (.cells #[.int .i64 0, .int .i64 1, .int .i64 3] 3)) : Below _ _ (w14.alloc (.cells #[.int .i64 0, .int .i64 1, .int .i64 3] 3))))
        go_wp2
        generalize w14.alloc (Obj.cells #[.int .i64 0, .int .i64 1, .int .i64 3] 3) = w15 at HRa HRi1 HRw1 HB HS ⊢
        generalize w14.heap.size = si1 at HRi1 ⊢
        refine seg_grow ⟨⟨_, HS.out⟩, rfl⟩ ?_
        refine U_one 2 (by kernel_rfl) ?_
        simp only [pickL, List.getElem?_cons_succ, List.getElem?_cons_zero]
        go_wp2_with fail
        refine (of_id _ _).mono ?_
        rintro e w' ⟨rfl, rfl⟩
        go_wp2
        refine seg_grow ⟨⟨_, HS.out⟩, rfl⟩ ?_
        refine U_one 3 (by kernel_rfl) ?_
        simp only [pickL, List.getElem?_cons_succ, List.getElem?_cons_zero]
        go_wp2_with fail
        refine (checkchain_lit _ _ _ [0, 1, 3] 7 9 0 HRw1.out HRi1.out (by decide) exChain3).mono ?_
        rintro e w16 ⟨rfl, hB⟩
        replace HRa := Lib.hid (((hB : Below _ _ (w16)).block _ (Array.getElem?_eq_some_iff.1 HRa.out).1).trans HRa.out)
        replace HRi1 := Lib.hid (HRi1.out.mono (hB : Below _ _ (w16)))
        replace HRw1 := Lib.hid (HRw1.out.mono (hB : Below _ _ (w16)))
        replace HB := Lib.hid (btr HB.out (hB : Below _ _ (w16)))
        replace HS := Lib.hid (btr HS.out (hB : Below _ _ (w16)))
        clear hB
        go_wp2
        refine seg_grow ⟨⟨_, HS.out⟩, rfl⟩ ?_
        refine U_heads [4, 5, 6] (by kernel_rfl) ⟨⟨_, HS.out⟩, rfl⟩ ?_
        simp only [pickL, List.getElem?_cons_succ, List.getElem?_cons_zero]
        repeat (go_big_quiet_step (fail))
        refine wpQuiet_nil ?_
        refine U_one 8 (by kernel_rfl) ?_
        simp only [pickL, List.getElem?_cons_succ, List.getElem?_cons_zero]
        obtain ⟨p0, p1, q0, q1⟩ := pair_cells HRa.out
        have pz := (Array.getElem?_eq_some_iff.1 HRa.out).1
        go_wp2
        clear p0 p1 q0 q1 pz
        replace HRa := Lib.hid (pair_set HRa.out (.int .i64 7) (.int .i64 9))
        replace HB := Lib.hid (pair_below HB.out HGE.out.1 (.int .i64 7) (.int .i64 9))
        replace HS := Lib.hid (pair_below HS.out HGE.out.2 (.int .i64 7) (.int .i64 9))
        generalize (w16.setCell ⟨sa, 0, none⟩ (.int .i64 7)).setCell ⟨sa, 1, none⟩ (.int .i64 9) = w17 at HRa HB HS ⊢
        refine seg_grow ⟨⟨_, HS.out⟩, rfl⟩ ?_
        refine U_heads [9] (by kernel_rfl) ⟨⟨_, HS.out⟩, rfl⟩ ?_
        simp only [pickL, List.getElem?_cons_succ, List.getElem?_cons_zero]
        repeat (go_big_quiet_step (fail))
        refine wpQuiet_nil ?_
        refine U_done (by kernel_rfl) ?_
        have hK := Lib.hid (KGH.out.up HB.out)
        go_wp2_with fail
        go_meet
        exact ⟨sa, rfl, rfl, HRa.out, hK.out⟩
  case rest =>
    as_aux_lemma =>
      obtain ⟨ga, rfl, rfl, hg, hK⟩ := hcut
      have KP3 := Lib.hid ((hK.imp HG.out).and (keepR hg))
      clear hK hg HG KGH KP2
      obtain ⟨cv1, zv1⟩ := KP3.out.here.2.1
      go_wp2_with fail
      have gw1 := KP3.out.here.2.2.1
      refine (checkchain_lit _ _ _ [] 0 0 6 gw1 (rdI_nil _ _) (by decide) exChain4).mono ?_
      rintro e w18 ⟨rfl, hB⟩
      clear cv1 zv1
      have KP4 := Lib.hid (KP3.out.up hB)
      clear KP3
      clear hB gw1
      go_upto_region 4 with fail
      have hB := bal (bz w18) (.cells #[.int .i64 0, .int .i64 0] 39)
      generalize w18.alloc (.cells #[.int .i64 0, .int .i64 0] 39) = w19 at hB ⊢
      have KP5 := Lib.hid (KP4.out.up hB)
      clear KP4
      clear hB
      obtain ⟨cv1, zv1⟩ := KP5.out.here.2.1
      go_wp2_with fail
      have gw1 := KP5.out.here.2.2.1
      refine (latest_lit _ _ 15 0 [3, 10, 7, 13] gw1 (by decide) (by decide) exLatest15).mono ?_
      rintro e w20 ⟨vl, rfl, hRl, hB⟩
      obtain ⟨ptl, qtl, hv⟩ := exI hRl 4 rfl
      subst hv
      clear cv1 zv1
      have KP6 := Lib.hid ((KP5.out.up hB).and (keepI hRl))
      clear KP5
      clear hB hRl
      clear gw1
      obtain ⟨cv1, zv1⟩ := KP6.out.here.2.2.1
      go_wp2_with fail
      have gw1 := KP6.out.here.2.2.2.1
      refine (kind_lit _ _ 2 0 1 gw1 exKind2).mono ?_
      rintro e w21 ⟨rfl, hB⟩
      clear cv1 zv1
      have KP7 := Lib.hid (KP6.out.up hB)
      clear KP6
      clear hB
      clear gw1
      obtain ⟨cv1, zv1⟩ := KP7.out.here.2.2.1
      go_wp2_with fail
      have gw1 := KP7.out.here.2.2.2.1
      refine (kind_lit _ _ 4 3 0 gw1 exKind4).mono ?_
      rintro e w22 ⟨rfl, hB⟩
      clear cv1 zv1
      have KP8 := Lib.hid (KP7.out.up hB)
      clear KP7
      clear hB
      clear gw1
      go_upto_region 7 with fail
      obtain ⟨G, KG, hG⟩ := KP8.out.name
      have HG := Lib.hid hG
      have KGH := Lib.hid KG
      clear hG KG
      go_cut [12, 13] (fun s12 s13 wx => s12 = .int .i64 0 ∧ s13 = .int .i64 15 ∧ Keep wx G)
      case first =>
        rename_i Kb hKb Jc Kc hJc hKc
        clear hKb
        as_aux_lemma =>
          obtain ⟨cv1, zv1⟩ := KP8.out.here.2.2.1
          refine wp_region_U [0, 8, 9, 10, 11, 12] [] (by kernel_rfl) (by kernel_rfl) ?_
          intro w23 hBc hh
          clear hh
          have hL := @Later.cell w23
          have kv1 := (hBc.cell (p := ⟨_, _, none⟩) zv1).trans cv1
          have yv1 := Nat.lt_of_lt_of_le zv1 hBc.size
          clear cv1 zv1
          have HRw1 := Lib.hid (KP8.out.here.2.2.2.1.mono hBc)
          have HB := Lib.hid hBc
          have HS := Lib.hid (bz w23)
          clear hBc KP8 HG
          refine U_heads [0] (by kernel_rfl) ⟨⟨_, HS.out⟩, rfl⟩ ?_
          simp only [pickL, List.getElem?_cons_zero]
          repeat (go_big_quiet_step (fail))
          refine wpQuiet_nil ?_
          refine U_two 1 3 (by kernel_rfl) ?_ ?_
          · simp only [pickL, List.getElem?_cons_succ, List.getElem?_cons_zero]
            have HRi1 := Lib.hid (rdI_at w23 [0, 1] 3 w23.heap.size rfl (by simp))
            change Hid (RdI (w23.alloc (.cells #[.int .i64 0, .int .i64 1] 3)) .i64 (.slice (some ⟨w23.heap.size, 0, none⟩) 2 2) [0, 1]) at HRi1
            replace HRw1 := Lib.hid (HRw1.out.mono ((bal (bz w23) (.cells #[.int .i64 0, .int .i64 1] 3)) : Below _ _ (w23.alloc (.cells #[.int .i64 0, .int .i64 1] 3))))
            replace HB := Lib.hid (btr HB.out ((bal (bz w23) (.cells #[.int .i64 0, .int .i64 1] 3)) : Below _ _ (w23.alloc (.cells #[.int .i64 0, .int .i64 1] 3))))
            replace HS := Lib.hid (btr HS.out ((bal (bz w23) (.cells #[.int .i64 0, .int .i64 1] 3)) : Below _ _ (w23.alloc (.cells #[.int .i64 0, .int .i64 1] 3))))
            go_wp2
            generalize w23.alloc (Obj.cells #[.int .i64 0, .int .i64 1] 3) = w24 at HRi1 HRw1 HB HS ⊢
            generalize w23.heap.size = si1 at HRi1 ⊢
            refine seg_grow ⟨⟨_, HS.out⟩, rfl⟩ ?_
            refine U_two 2 3 (by kernel_rfl) ?_ ?_
            · simp only [pickL, List.getElem?_cons_succ, List.getElem?_cons_zero]
              go_wp2_with fail
              refine (of_id _ _).mono ?_
              rintro e w' ⟨rfl, rfl⟩
              go_wp2
              refine seg_grow ⟨⟨_, HS.out⟩, rfl⟩ ?_
              refine U_one 3 (by kernel_rfl) ?_
              simp only [pickL, List.getElem?_cons_succ, List.getElem?_cons_zero]
              have HRi2 := Lib.hid (rdI_at w24 [2] 3 w24.heap.size rfl (by simp))
              change Hid (RdI (w24.alloc (.cells #[.int .i64 2] 3)) .i64 (.slice (some ⟨w24.heap.size, 0, none⟩) 1 1) [2]) at HRi2
              replace HRi1 := Lib.hid (HRi1.out.mono ((bal (bz w24) (.cells #[.int .i64 2] 3)) : Below _ _ (w24.alloc (.cells #[.int .i64 2] 3))))
              replace HRw1 := Lib.hid (HRw1.out.mono ((bal (bz w24) (.cells #[.int .i64 2] 3)) : Below _ _ (w24.alloc (.cells #[.int .i64 2] 3))))
              replace HB := Lib.hid (btr HB.out ((bal (bz w24) (.cells #[.int .i64 2] 3)) : Below _ _ (w24.alloc (.cells #[.int .i64 2] 3))))
              replace HS := Lib.hid (btr HS.out ((bal (bz w24) (.cells #[.int .i64 2] 3)) : Below _ _ (w24.alloc (.cells #[.int .i64 2] 3))))
              go_wp2
              generalize w24.alloc (Obj.cells #[.int .i64 2] 3) = w25 at HRi1 HRi2 HRw1 HB HS ⊢
              generalize w24.heap.size = si2 at HRi2 ⊢
              refine seg_grow ⟨⟨_, HS.out⟩, rfl⟩ ?_
              refine U_one 4 (by kernel_rfl) ?_
              simp only [pickL, List.getElem?_cons_succ, List.getElem?_cons_zero]
              go_wp2_with fail
              refine (of_id _ _).mono ?_
              rintro e w' ⟨rfl, rfl⟩
              go_wp2
              refine seg_grow ⟨⟨_, HS.out⟩, rfl⟩ ?_
              refine U_one 5 (by kernel_rfl) ?_
              simp only [pickL, List.getElem?_cons_succ, List.getElem?_cons_zero]
              have HRi3 := Lib.hid (rdLL_at w25 [.slice (some ⟨si1, 0, none⟩) 2 2, .slice (some ⟨si2, 0, none⟩) 1 1] [[0, 1], [2]] w25.heap.size rfl rfl (by simp) (fun i e he => by
                match i with
                | 0 => simp at he; subst he; exact HRi1.out
                | 1 => simp at he; subst he; exact HRi2.out
                | n + 2 => simp at he))
              change Hid (RdLL (w25.alloc (.cells #[.slice (some ⟨si1, 0, none⟩) 2 2, .slice (some ⟨si2, 0, none⟩) 1 1] 25)) (.slice (some ⟨w25.heap.size, 0, none⟩) 2 2) [[0, 1], [2]]) at HRi3
              replace HRi1 := Lib.hid (HRi1.out.mono ((bal (bz w25) (.cells #[.slice (some ⟨si1, 0, none⟩) 2 2, .slice (some ⟨si2, 0, none⟩) 1 1] 25)) : Below _ _ (w25.alloc (.cells #[.slice (some ⟨si1, 0, none⟩) 2 2, .slice (some ⟨si2, 0, none⟩) 1 1] 25))))
              replace HRi2 := Lib.hid (HRi2.out.mono ((bal (bz w25) (.cells #[.slice (some ⟨si1, 0, none⟩) 2 2, .slice (some ⟨si2, 0, none⟩) 1 1] 25)) : Below _ _ (w25.alloc (.cells #[.slice (some ⟨si1, 0, none⟩) 2 2, .slice (some ⟨si2, 0, none⟩) 1 1] 25))))
              replace HRw1 := Lib.hid (HRw1.out.mono ((bal (bz w25) (.cells #[.slice (some ⟨si1, 0, none⟩) 2 2, .slice (some ⟨si2, 0, none⟩) 1 1] 25)) : Below _ _ (w25.alloc (.cells #[.slice (some ⟨si1, 0, none⟩) 2 2, .slice (some ⟨si2, 0, none⟩) 1 1] 25))))
              replace HB := Lib.hid (btr HB.out ((bal (bz w25) (.cells #[.slice (some ⟨si1, 0, none⟩) 2 2, .slice (some ⟨si2, 0, none⟩) 1 1] 25)) : Below _ _ (w25.alloc (.cells #[.slice (some ⟨si1, 0, none⟩) 2 2, .slice (some ⟨si2, 0, none⟩) 1 1] 25))))
              replace HS := Lib.hid (btr HS.out ((bal (bz w25) (.cells #[.slice (some ⟨si1, 0, none⟩) 2 2, .slice (some ⟨si2, 0, none⟩) 1 1] 25)) : Below _ _ (w25.alloc (.cells #[.slice (some ⟨si1, 0, none⟩) 2 2, .slice (some ⟨si2, 0, none⟩) 1 1] 25))))
              go_wp2
              generalize w25.alloc (Obj.cells #[.slice (some ⟨si1, 0, none⟩) 2 2, .slice (some ⟨si2, 0, none⟩) 1 1] 25) = w26 at HRi1 HRi2 HRi3 HRw1 HB HS ⊢
              generalize w25.heap.size = si3 at HRi3 ⊢
              refine seg_grow ⟨⟨_, HS.out⟩, rfl⟩ ?_
              refine U_one 6 (by kernel_rfl) ?_
              simp only [pickL, List.getElem?_cons_succ, List.getElem?_cons_zero]
              go_wp2_with fail
              refine (lists_id _ _).mono ?_
              rintro e w' ⟨rfl, rfl⟩
              go_wp2
              refine seg_grow ⟨⟨_, HS.out⟩, rfl⟩ ?_
              refine U_one 7 (by kernel_rfl) ?_
              simp only [pickL, List.getElem?_cons_succ, List.getElem?_cons_zero]
              go_wp2_with fail
              refine (checkcover_lit _ _ _ [[0, 1], [2]] 0 15 HRw1.out HRi3.out (smlR (by decide) (by decide)) exCover3).mono ?_
              rintro e w27 ⟨rfl, hB⟩
              replace HRi1 := Lib.hid (HRi1.out.mono (hB : Below _ _ (w27)))
              replace HRi2 := Lib.hid (HRi2.out.mono (hB : Below _ _ (w27)))
              replace HRi3 := Lib.hid (HRi3.out.mono (hB : Below _ _ (w27)))
              replace HRw1 := Lib.hid (HRw1.out.mono (hB : Below _ _ (w27)))
              replace HB := Lib.hid (btr HB.out (hB : Below _ _ (w27)))
              replace HS := Lib.hid (btr HS.out (hB : Below _ _ (w27)))
              clear hB
              go_wp2
              refine seg_grow ⟨⟨_, HS.out⟩, rfl⟩ ?_
              refine U_heads [8, 9, 10, 11, 12] (by kernel_rfl) ⟨⟨_, HS.out⟩, rfl⟩ ?_
              simp only [pickL, List.getElem?_cons_succ, List.getElem?_cons_zero]
              repeat (go_big_quiet_step (fail))
              refine wpQuiet_nil ?_
              refine U_done (by kernel_rfl) ?_
              have hK := Lib.hid (KGH.out.up HB.out)
              go_wp2_with fail
              go_meet
              exact ⟨rfl, rfl, hK.out⟩
            · simp only [pickL, List.getElem?_cons_succ, List.getElem?_cons_zero]
              have HRi2 := Lib.hid (rdI_at w24 [2] 3 w24.heap.size rfl (by simp))
              change Hid (RdI (w24.alloc (.cells #[.int .i64 2] 3)) .i64 (.slice (some ⟨w24.heap.size, 0, none⟩) 1 1) [2]) at HRi2
              replace HRi1 := Lib.hid (HRi1.out.mono ((bal (bz w24) (.cells #[.int .i64 2] 3)) : Below _ _ (w24.alloc (.cells #[.int .i64 2] 3))))
              replace HRw1 := Lib.hid (HRw1.out.mono ((bal (bz w24) (.cells #[.int .i64 2] 3)) : Below _ _ (w24.alloc (.cells #[.int .i64 2] 3))))
              replace HB := Lib.hid (btr HB.out ((bal (bz w24) (.cells #[.int .i64 2] 3)) : Below _ _ (w24.alloc (.cells #[.int .i64 2] 3))))
              replace HS := Lib.hid (btr HS.out ((bal (bz w24) (.cells #[.int .i64 2] 3)) : Below _ _ (w24.alloc (.cells #[.int .i64 2] 3))))
              go_wp2
              generalize w24.alloc (Obj.cells #[.int .i64 2] 3) = w28 at HRi1 HRi2 HRw1 HB HS ⊢
              generalize w24.heap.size = si2 at HRi2 ⊢
              refine seg_grow ⟨⟨_, HS.out⟩, rfl⟩ ?_
              refine U_one 2 (by kernel_rfl) ?_
              simp only [pickL, List.getElem?_cons_succ, List.getElem?_cons_zero]
              go_wp2_with fail
              refine (of_id _ _).mono ?_
              rintro e w' ⟨rfl, rfl⟩
              go_wp2
              refine seg_grow ⟨⟨_, HS.out⟩, rfl⟩ ?_
              refine U_one 4 (by kernel_rfl) ?_
              simp only [pickL, List.getElem?_cons_succ, List.getElem?_cons_zero]
              go_wp2_with fail
              refine (of_id _ _).mono ?_
              rintro e w' ⟨rfl, rfl⟩
              go_wp2
              refine seg_grow ⟨⟨_, HS.out⟩, rfl⟩ ?_
              refine U_one 5 (by kernel_rfl) ?_
              simp only [pickL, List.getElem?_cons_succ, List.getElem?_cons_zero]
              have HRi3 := Lib.hid (rdLL_at w28 [.slice (some ⟨si1, 0, none⟩) 2 2, .slice (some ⟨si2, 0, none⟩) 1 1] [[0, 1], [2]] w28.heap.size rfl rfl (by simp) (fun i e he => by
                match i with
                | 0 => simp at he; subst he; exact HRi1.out
                | 1 => simp at he; subst he; exact HRi2.out
                | n + 2 => simp at he))
              change Hid (RdLL (w28.alloc (.cells #[.slice (some ⟨si1, 0, none⟩) 2 2, .slice (some ⟨si2, 0, none⟩) 1 1] 25)) (.slice (some ⟨w28.heap.size, 0, none⟩) 2 2) [[0, 1], [2]]) at HRi3
              replace HRi1 := Lib.hid (HRi1.out.mono ((bal (bz w28) (.cells #[.slice (some ⟨si1, 0, none⟩) 2 2, .slice (some ⟨si2, 0, none⟩) 1 1] 25)) : Below _ _ (w28.alloc (.cells #[.slice (some ⟨si1, 0, none⟩) 2 2, .slice (some ⟨si2, 0, none⟩) 1 1] 25))))
              replace HRi2 := Lib.hid (HRi2.out.mono ((bal (bz w28) (.cells #[.slice (some ⟨si1, 0, none⟩) 2 2, .slice (some ⟨si2, 0, none⟩) 1 1] 25)) : Below _ _ (w28.alloc (.cells #[.slice (some ⟨si1, 0, none⟩) 2 2, .slice (some ⟨si2, 0, none⟩) 1 1] 25))))
              replace HRw1 := Lib.hid (HRw1.out.mono ((bal (bz w28) (.cells #[.slice (some ⟨si1, 0, none⟩) 2 2, .slice (some ⟨si2, 0, none⟩) 1 1] 25)) : Below _ _ (w28.alloc (.cells #[.slice (some ⟨si1, 0, none⟩) 2 2, .slice (some ⟨si2, 0, none⟩) 1 1] 25))))
              replace HB := Lib.hid (btr HB.out ((bal (bz w28) (.cells #[.slice (some ⟨si1, 0, none⟩) 2 2, .slice (some ⟨si2, 0, none⟩) 1 1] 25)) : Below _ _ (w28.alloc (.cells #[.slice (some ⟨si1, 0, none⟩) 2 2, .slice (some ⟨si2, 0, none⟩) 1 1] 25))))
              replace HS := Lib.hid (btr HS.out ((bal (bz w28) (.cells #[.slice (some ⟨si1, 0, none⟩) 2 2, .slice (some ⟨si2, 0, none⟩) 1 1] 25)) : Below _ _ (w28.alloc (.cells #[.slice (some ⟨si1, 0, none⟩) 2 2, .slice (some ⟨si2, 0, none⟩) 1 1] 25))))
              go_wp2
              generalize w28.alloc (Obj.cells #[.slice (some ⟨si1, 0, none⟩) 2 2, .slice (some ⟨si2, 0, none⟩) 1 1] 25) = w29 at HRi1 HRi2 HRi3 HRw1 HB HS ⊢
              generalize w28.heap.size = si3 at HRi3 ⊢
              refine seg_grow ⟨⟨_, HS.out⟩, rfl⟩ ?_
              refine U_one 6 (by kernel_rfl) ?_
              simp only [pickL, List.getElem?_cons_succ, List.getElem?_cons_zero]
              go_wp2_with fail
              refine (lists_id _ _).mono ?_
              rintro e w' ⟨rfl, rfl⟩
              go_wp2
              refine seg_grow ⟨⟨_, HS.out⟩, rfl⟩ ?_
              refine U_one 7 (by kernel_rfl) ?_
              simp only [pickL, List.getElem?_cons_succ, List.getElem?_cons_zero]
              go_wp2_with fail
              refine (checkcover_lit _ _ _ [[0, 1], [2]] 0 15 HRw1.out HRi3.out (smlR (by decide) (by decide)) exCover3).mono ?_
              rintro e w30 ⟨rfl, hB⟩
              replace HRi1 := Lib.hid (HRi1.out.mono (hB : Below _ _ (w30)))
              replace HRi2 := Lib.hid (HRi2.out.mono (hB : Below _ _ (w30)))
              replace HRi3 := Lib.hid (HRi3.out.mono (hB : Below _ _ (w30)))
              replace HRw1 := Lib.hid (HRw1.out.mono (hB : Below _ _ (w30)))
              replace HB := Lib.hid (btr HB.out (hB : Below _ _ (w30)))
              replace HS := Lib.hid (btr HS.out (hB : Below _ _ (w30)))
              clear hB
              go_wp2
              refine seg_grow ⟨⟨_, HS.out⟩, rfl⟩ ?_
              refine U_heads [8, 9, 10, 11, 12] (by kernel_rfl) ⟨⟨_, HS.out⟩, rfl⟩ ?_
              simp only [pickL, List.getElem?_cons_succ, List.getElem?_cons_zero]
              repeat (go_big_quiet_step (fail))
              refine wpQuiet_nil ?_
              refine U_done (by kernel_rfl) ?_
              have hK := Lib.hid (KGH.out.up HB.out)
              go_wp2_with fail
              go_meet
              exact ⟨rfl, rfl, hK.out⟩
          · simp only [pickL, List.getElem?_cons_succ, List.getElem?_cons_zero]
            have HRi2 := Lib.hid (rdI_at w23 [2] 3 w23.heap.size rfl (by simp))
            change Hid (RdI (w23.alloc (.cells #[.int .i64 2] 3)) .i64 (.slice (some ⟨w23.heap.size, 0, none⟩) 1 1) [2]) at HRi2
            replace HRw1 := Lib.hid (HRw1.out.mono ((bal (bz w23) (.cells #[.int .i64 2] 3)) : Below _ _ (w23.alloc (.cells #[.int .i64 2] 3))))
            replace HB := Lib.hid (btr HB.out ((bal (bz w23) (.cells #[.int .i64 2] 3)) : Below _ _ (w23.alloc (.cells #[.int .i64 2] 3))))
            replace HS := Lib.hid (btr HS.out ((bal (bz w23) (.cells #[.int .i64 2] 3)) : Below _ _ (w23.alloc (.cells #[.int .i64 2] 3))))
            go_wp2
            generalize w23.alloc (Obj.cells #[.int .i64 2] 3) = w31 at HRi2 HRw1 HB HS ⊢
            generalize w23.heap.size = si2 at HRi2 ⊢
            refine seg_grow ⟨⟨_, HS.out⟩, rfl⟩ ?_
            refine U_one 1 (by kernel_rfl) ?_
            simp only [pickL, List.getElem?_cons_succ, List.getElem?_cons_zero]
            have HRi1 := Lib.hid (rdI_at w31 [0, 1] 3 w31.heap.size rfl (by simp))
            change Hid (RdI (w31.alloc (.cells #[.int .i64 0, .int .i64 1] 3)) .i64 (.slice (some ⟨w31.heap.size, 0, none⟩) 2 2) [0, 1]) at HRi1
            replace HRi2 := Lib.hid (HRi2.out.mono ((bal (bz w31) (.cells #[.int .i64 0, .int .i64 1] 3)) : Below _ _ (w31.alloc (.cells #[.int .i64 0, .int .i64 1] 3))))
            replace HRw1 := Lib.hid (HRw1.out.mono ((bal (bz w31) (.cells #[.int .i64 0, .int .i64 1] 3)) : Below _ _ (w31.alloc (.cells #[.int .i64 0, .int .i64 1] 3))))
            replace HB := Lib.hid (btr HB.out ((bal (bz w31) (.cells #[.int .i64 0, .int .i64 1] 3)) : Below _ _ (w31.alloc (.cells #[.int .i64 0, .int .i64 1] 3))))
            replace HS := Lib.hid (btr HS.out ((bal (bz w31) (.cells #[.int .i64 0, .int .i64 1] 3)) : Below _ _ (w31.alloc (.cells #[.int .i64 0, .int .i64 1] 3))))
            go_wp2
            generalize w31.alloc (Obj.cells #[.int .i64 0, .int .i64 1] 3) = w32 at HRi1 HRi2 HRw1 HB HS ⊢
            generalize w31.heap.size = si1 at HRi1 ⊢
            refine seg_grow ⟨⟨_, HS.out⟩, rfl⟩ ?_
            refine U_one 2 (by kernel_rfl) ?_
            simp only [pickL, List.getElem?_cons_succ, List.getElem?_cons_zero]
            go_wp2_with fail
            refine (of_id _ _).mono ?_
            rintro e w' ⟨rfl, rfl⟩
            go_wp2
            refine seg_grow ⟨⟨_, HS.out⟩, rfl⟩ ?_
            refine U_one 4 (by kernel_rfl) ?_
            simp only [pickL, List.getElem?_cons_succ, List.getElem?_cons_zero]
            go_wp2_with fail
            refine (of_id _ _).mono ?_
            rintro e w' ⟨rfl, rfl⟩
            go_wp2
            refine seg_grow ⟨⟨_, HS.out⟩, rfl⟩ ?_
            refine U_one 5 (by kernel_rfl) ?_
            simp only [pickL, List.getElem?_cons_succ, List.getElem?_cons_zero]
            have HRi3 := Lib.hid (rdLL_at w32 [.slice (some ⟨si1, 0, none⟩) 2 2, .slice (some ⟨si2, 0, none⟩) 1 1] [[0, 1], [2]] w32.heap.size rfl rfl (by simp) (fun i e he => by
              match i with
              | 0 => simp at he; subst he; exact HRi1.out
              | 1 => simp at he; subst he; exact HRi2.out
              | n + 2 => simp at he))
            change Hid (RdLL (w32.alloc (.cells #[.slice (some ⟨si1, 0, none⟩) 2 2, .slice (some ⟨si2, 0, none⟩) 1 1] 25)) (.slice (some ⟨w32.heap.size, 0, none⟩) 2 2) [[0, 1], [2]]) at HRi3
            replace HRi1 := Lib.hid (HRi1.out.mono ((bal (bz w32) (.cells #[.slice (some ⟨si1, 0, none⟩) 2 2, .slice (some ⟨si2, 0, none⟩) 1 1] 25)) : Below _ _ (w32.alloc (.cells #[.slice (some ⟨si1, 0, none⟩) 2 2, .slice (some ⟨si2, 0, none⟩) 1 1] 25))))
            replace HRi2 := Lib.hid (HRi2.out.mono ((bal (bz w32) (.cells #[.slice (some ⟨si1, 0, none⟩) 2 2, .slice (some ⟨si2, 0, none⟩) 1 1] 25)) : Below _ _ (w32.alloc (.cells #[.slice (some ⟨si1, 0, none⟩) 2 2, .slice (some ⟨si2, 0, none⟩) 1 1] 25))))
            replace HRw1 := Lib.hid (HRw1.out.mono ((bal (bz w32) (.cells #[.slice (some ⟨si1, 0, none⟩) 2 2, .slice (some ⟨si2, 0, none⟩) 1 1] 25)) : Below _ _ (w32.alloc (.cells #[.slice (some ⟨si1, 0, none⟩) 2 2, .slice (some ⟨si2, 0, none⟩) 1 1] 25))))
            replace HB := Lib.hid (btr HB.out ((bal (bz w32) (.cells #[.slice (some ⟨si1, 0, none⟩) 2 2, .slice (some ⟨si2, 0, none⟩) 1 1] 25)) : Below _ _ (w32.alloc (.cells #[.slice (some ⟨si1, 0, none⟩) 2 2, .slice (some ⟨si2, 0, none⟩) 1 1] 25))))
            replace HS := Lib.hid (btr HS.out ((bal (bz w32) (.cells #[.slice (some ⟨si1, 0, none⟩) 2 2, .slice (some ⟨si2, 0, none⟩) 1 1] 25)) : Below _ _ (w32.alloc (.cells #[.slice (some ⟨si1, 0, none⟩) 2 2, .slice (some ⟨si2, 0, none⟩) 1 1] 25))))
            go_wp2
            generalize w32.alloc (Obj.cells #[.slice (some ⟨si1, 0, none⟩) 2 2, .slice (some ⟨si2, 0, none⟩) 1 1] 25) = w33 at HRi1 HRi2 HRi3 HRw1 HB HS ⊢
            generalize w32.heap.size = si3 at HRi3 ⊢
            refine seg_grow ⟨⟨_, HS.out⟩, rfl⟩ ?_
            refine U_one 6 (by kernel_rfl) ?_
            simp only [pickL, List.getElem?_cons_succ, List.getElem?_cons_zero]
            go_wp2_with fail
            refine (lists_id _ _).mono ?_
            rintro e w' ⟨rfl, rfl⟩
            go_wp2
            refine seg_grow ⟨⟨_, HS.out⟩, rfl⟩ ?_
            refine U_one 7 (by kernel_rfl) ?_
            simp only [pickL, List.getElem?_cons_succ, List.getElem?_cons_zero]
            go_wp2_with fail
            refine (checkcover_lit _ _ _ [[0, 1], [2]] 0 15 HRw1.out HRi3.out (smlR (by decide) (by decide)) exCover3).mono ?_
            rintro e w34 ⟨rfl, hB⟩
            replace HRi1 := Lib.hid (HRi1.out.mono (hB : Below _ _ (w34)))
            replace HRi2 := Lib.hid (HRi2.out.mono (hB : Below _ _ (w34)))
            replace HRi3 := Lib.hid (HRi3.out.mono (hB : Below _ _ (w34)))
            replace HRw1 := Lib.hid (HRw1.out.mono (hB : Below _ _ (w34)))
            replace HB := Lib.hid (btr HB.out (hB : Below _ _ (w34)))
            replace HS := Lib.hid (btr HS.out (hB : Below _ _ (w34)))
            clear hB
            go_wp2
            refine seg_grow ⟨⟨_, HS.out⟩, rfl⟩ ?_
            refine U_heads [8, 9, 10, 11, 12] (by kernel_rfl) ⟨⟨_, HS.out⟩, rfl⟩ ?_
            simp only [pickL, List.getElem?_cons_succ, List.getElem?_cons_zero]
            repeat (go_big_quiet_step (fail))
            refine wpQuiet_nil ?_
            refine U_done (by kernel_rfl) ?_
            have hK := Lib.hid (KGH.out.up HB.out)
            go_wp2_with fail
            go_meet
            exact ⟨rfl, rfl, hK.out⟩
      case rest =>
        as_aux_lemma =>
          obtain ⟨rfl, rfl, hK⟩ := hcut
          have KP9 := Lib.hid (hK.imp HG.out)
          clear hK HG KGH KP8
          go_wp2_with fail
          refine (circle_lit _).mono ?_
          rintro e w35 ⟨x2, rfl, hR, hB⟩
          obtain ⟨a2, c2, hx⟩ := exJb hR 2 rfl
          subst hx
          have KP10 := Lib.hid ((KP9.out.up hB).and (keepJ hR))
          clear KP9
          clear hB hR
          go_wp2_with fail
          have gw2 := KP10.out.here.1
          refine (startsx_lit _ _ gw2).mono ?_
          rintro e w36 ⟨vsx, rfl, hRsx, hB⟩
          obtain ⟨ptsx, qtsx, hv⟩ := exP hRsx 0 rfl
          subst hv
          have KP11 := Lib.hid ((KP10.out.up hB).and (keepP hRsx))
          clear KP10
          clear hB hRsx
          clear gw2
          go_upto_region 9 with fail
          obtain ⟨cv1, zv1⟩ := KP11.out.here.2.2.2.2.1
          obtain ⟨ca0, ca1, za⟩ := KP11.out.here.2.2.2.1
          refine wp_region_flow [] [([0, 1, 2, 3], 4, true), ([5, 6, 7, 8, 9, 10, 11, 12, 13, 14, 15, 16], 17, true), ([], 18, true), ([], 19, true), ([20, 21, 22, 23, 24, 25, 26, 27, 28, 29, 30, 31, 32, 33, 34, 35, 36, 37, 38, 39, 40, 41, 42], 43, true), ([44, 45, 46], 47, true)] [48, 49] (by kernel_rfl) (by kernel_rfl) ?_
          intro w37 hBc hh
          clear hh
          have kv1 := (hBc.cell (p := ⟨_, _, none⟩) zv1).trans cv1
          have yv1 := Nat.lt_of_lt_of_le zv1 hBc.size
          have ka0 := (hBc.cell (p := ⟨_, _, none⟩) za).trans ca0
          have ka1 := (hBc.cell (p := ⟨_, _, none⟩) za).trans ca1
          have ya := Nat.lt_of_lt_of_le za hBc.size
          clear ca0 ca1 za
          clear cv1 zv1
          have hL := @Later.cell w37
          have KP12 := Lib.hid ((KP11.out.up hBc).and (keepB (bz w37)))
          clear KP11
          clear hBc
          simp only [flowP, flow, pickL, List.getElem?_cons_succ, List.getElem?_cons_zero]
          refine wpQuiet_nil ?_
          repeat (go_big_quiet_step (fail))
          refine wpQuiet_nil ?_
          go_wp2_with fail
          refine (days_any 7 9 _).mono ?_
          rintro e w38 ⟨rfl, hB⟩
          have KP13 := Lib.hid (KP12.out.up hB)
          clear KP12
          clear hB
          go_wp2
          refine seg_grow ⟨⟨_, KP13.out.here.1⟩, rfl⟩ ?_
          try simp only [pickL, List.getElem?_cons_succ, List.getElem?_cons_zero]
          refine wpQuiet_range_yes rfl _ _ _ rfl 7 9 rfl rfl ?_
          repeat (quiet_step (fail))
          refine wpQuiet_nil ?_
          have hR := rdI_at w38 [3, 10, 7, 13] 2 w38.heap.size rfl (by simp)
          have hB := bal (bz w38) (.cells #[.int .i64 3, .int .i64 10, .int .i64 7, .int .i64 13] 2)
          change RdI (w38.alloc (.cells #[.int .i64 3, .int .i64 10, .int .i64 7, .int .i64 13] 2)) .i64 (.slice (some ⟨w38.heap.size, 0, none⟩) 4 4) [3, 10, 7, 13] at hR
          go_wp2
          generalize w38.alloc (Obj.cells #[.int .i64 3, .int .i64 10, .int .i64 7, .int .i64 13] 2) = w39 at hR hB ⊢
          have KP14 := Lib.hid ((KP13.out.up hB).and (keepI hR))
          clear KP13
          clear hR hB
          refine seg_grow ⟨⟨_, KP14.out.here.2.1⟩, rfl⟩ ?_
          refine wpQuiet_nil ?_
          go_wp2_with fail
          refine (longs_id _ _).mono ?_
          rintro e w' ⟨rfl, rfl⟩
          go_wp2
          refine seg_grow ⟨⟨_, KP14.out.here.2.1⟩, rfl⟩ ?_
          refine wpQuiet_nil ?_
          go_wp2_with fail
          have gl := KP14.out.here.2.2.2.2.1
          have ge1 := KP14.out.here.1
          refine (longs_lit _ _ _ [3, 10, 7, 13] gl ge1 (by decide)).mono ?_
          rintro e w40 ⟨rfl, hB⟩
          have KP15 := Lib.hid (KP14.out.up hB)
          clear KP14
          clear hB
          clear gl ge1
          go_wp2
          refine seg_grow ⟨⟨_, KP15.out.here.2.1⟩, rfl⟩ ?_
          repeat (go_big_quiet_step (fail))
          refine wpQuiet_nil ?_
          go_wp2_with fail
          have gw1 := KP15.out.here.2.2.2.2.2.2.2.1
          refine (checkwork_lit _ _ gw1).mono ?_
          rintro e w41 ⟨rfl, hB⟩
          have KP16 := Lib.hid (KP15.out.up hB)
          clear KP15
          clear hB
          clear gw1
          go_wp2
          refine seg_grow ⟨⟨_, KP16.out.here.2.1⟩, rfl⟩ ?_
          repeat (go_big_quiet_step (fail))
          refine wpQuiet_nil ?_
          go_wp2_with fail
          refine (hwk _).mono ?_
          rintro e w42 ⟨rfl, hB⟩
          have KP17 := Lib.hid (KP16.out.up hB)
          clear KP16
          clear hB
          go_wp2
          refine seg_grow ⟨⟨_, KP17.out.here.2.1⟩, rfl⟩ ?_
          repeat (go_big_quiet_step (fail))
          refine wpQuiet_nil ?_
          refine only_done ?_
          clear hL kv1 yv1 ka0 ka1 ya
          go_wp2_with fail
          have gBelow := KP17.out.here.2.2.2.2.2.2.2.2
          go_ret
          exact ⟨rfl, gBelow⟩
end Go.Proofs.Yteknehlkdgamjaa
