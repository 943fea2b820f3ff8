/- Works answers true; no condition. -/
import Derived.Test.YteknehlkdgamjaaGreatMGK
import Derived.Great.BuildSlice
namespace Go.Proofs.YteknehlkdgamjaaGreat
open Go.RowKit Go.Shelf
theorem range_info : (Tryz.prog.info? 32).map (·.size) = some 2 := by kernel_rfl
theorem range_zero : (Tryz.prog.info? 32).bind (·.zero) = some (.agg #[.int .i64 0, .int .i64 0]) := by kernel_rfl
theorem range_under : Tryz.prog.underlying 27 = some (.slice 32) := by kernel_rfl
theorem fill4 (p0 q0 p1 q1 p2 q2 p3 q3 : Int) : Instr.fill (fun i => some (i * 2, 2)) ((Array.range (4 * 2)).map ((Value.agg #[.int .i64 0, .int .i64 0]).cells[· % (Value.agg #[.int .i64 0, .int .i64 0]).cells.size]!))
    [(0, Value.agg #[.int .i64 p0, .int .i64 q0]), (1, Value.agg #[.int .i64 p1, .int .i64 q1]), (2, Value.agg #[.int .i64 p2, .int .i64 q2]), (3, Value.agg #[.int .i64 p3, .int .i64 q3])] =
    some #[.int .i64 p0, .int .i64 q0, .int .i64 p1, .int .i64 q1, .int .i64 p2, .int .i64 q2, .int .i64 p3, .int .i64 q3] := by kernel_rfl
theorem wpList_ranges4 {ops : Array Oper} {rest : List Oper} {o : Oper} {a : Act} {w : World} {Q : Exit → Act → World → Prop} (hg : o.guard = none) (x0 x1 x2 x3 : Operand) (ho : o.op = .buildSlice 27 4 #[(0, x0), (1, x1), (2, x2), (3, x3)])
    (p0 q0 p1 q1 p2 q2 p3 q3 : Int) (h0 : a.eval x0 = .agg #[.int .i64 p0, .int .i64 q0]) (h1 : a.eval x1 = .agg #[.int .i64 p1, .int .i64 q1]) (h2 : a.eval x2 = .agg #[.int .i64 p2, .int .i64 q2]) (h3 : a.eval x3 = .agg #[.int .i64 p3, .int .i64 q3])
    (h : wpList Tryz.prog ops Q rest (a.put o.dst (.slice (some ⟨w.heap.size, 0, none⟩) 4 4)) (w.alloc (.cells #[.int .i64 p0, .int .i64 q0, .int .i64 p1, .int .i64 q1, .int .i64 p2, .int .i64 q2, .int .i64 p3, .int .i64 q3] 32))) : wpList Tryz.prog ops Q (o :: rest) a w := by
  have hsz := range_info
  have hz := range_zero
  cases hie : Tryz.prog.info? 32 with
  | none => rw [hie] at hsz; cases hsz
  | some ie =>
    rw [hie] at hsz hz
    simp only [Option.map_some, Option.some.injEq, Option.bind_some] at hsz hz
    refine wpList_buildSlice hg 27 32 4 _ ho _ ie _ range_under hie hz (by rw [hsz]; omega) (by rw [hsz]; omega) ?_ h
    rw [hsz]
    have e : (#[(0, x0), (1, x1), (2, x2), (3, x3)].map fun (i, x) => (i, a.eval x)).toList = [(0, .agg #[.int .i64 p0, .int .i64 q0]), (1, .agg #[.int .i64 p1, .int .i64 q1]), (2, .agg #[.int .i64 p2, .int .i64 q2]), (3, .agg #[.int .i64 p3, .int .i64 q3])] := by
      simp [h0, h1, h2, h3]
    rw [e]
    exact fill4 _ _ _ _ _ _ _ _
set_option maxRecDepth 100000 in
set_option maxHeartbeats 200000000 in
theorem works_any : WorksSaid := by
  unfold WorksSaid
  intro w
  go_enter Tryz.func14, Tryz.ntmps14
  have KP0 := Lib.hid (keepB (bz w))
  go_wp2_with fail
  refine (work_lit _).mono ?_
  rintro e w1 ⟨x1, rfl, hR, hB⟩
  obtain ⟨a1, c1, hx⟩ := exJb hR 4 rfl
  subst hx
  have KP1 := Lib.hid ((KP0.out.up hB).and (keepJ hR))
  clear KP0
  clear hB hR
  go_wp2_with fail
  refine (circle_lit _).mono ?_
  rintro e w2 ⟨x2, rfl, hR, hB⟩
  obtain ⟨a2, c2, hx⟩ := exJb hR 2 rfl
  subst hx
  have KP2 := Lib.hid ((KP1.out.up hB).and (keepJ hR))
  clear KP1
  clear hB hR
  go_upto_region 2 with fail
  have hB := bal (bal (bz w2) (.cells #[.slice a1 4 c1] 24)) (.cells #[.slice a2 2 c2] 24)
  have h0 := heap_alloc_new w2 (.cells #[.slice a1 4 c1] 24)
  have h1 := ((bal (bz (w2.alloc (.cells #[.slice a1 4 c1] 24))) (.cells #[.slice a2 2 c2] 24)).block w2.heap.size (by simp)).trans h0
  clear h0
  have h2 := heap_alloc_new (w2.alloc (.cells #[.slice a1 4 c1] 24)) (.cells #[.slice a2 2 c2] 24)
  rw [World.size_alloc] at h2
  generalize (w2.alloc (.cells #[.slice a1 4 c1] 24)).alloc (.cells #[.slice a2 2 c2] 24) = w3 at hB h1 h2 ⊢
  generalize w2.heap.size + 1 = g2 at h2 ⊢
  obtain ⟨g1, hg1⟩ : ∃ x, x = w2.heap.size := ⟨_, rfl⟩
  rw [← hg1] at h1 ⊢
  clear hg1
  have KP3 := Lib.hid (((KP2.out.up hB).and (keepW h1)).and (keepW h2))
  clear KP2
  clear hB h1 h2
  obtain ⟨cv1, zv1⟩ := KP3.out.here.2.1
  go_wp2_with fail
  have gw1 := KP3.out.here.2.2.2.1
  refine (starts_lit _ _ gw1).mono ?_
  rintro e w4 ⟨vst, rfl, hRst, hB⟩
  obtain ⟨ptst, qtst, hv⟩ := exP hRst 4 rfl
  subst hv
  clear cv1 zv1
  have KP4 := Lib.hid ((KP3.out.up hB).and (keepP hRst))
  clear KP3
  clear hB hRst
  clear gw1
  obtain ⟨cv1, zv1⟩ := KP4.out.here.2.2.1
  go_wp2_with fail
  have gw1 := KP4.out.here.2.2.2.2.1
  refine (length_lit _ _ gw1).mono ?_
  rintro e w5 ⟨rfl, hB⟩
  clear cv1 zv1
  have KP5 := Lib.hid (KP4.out.up hB)
  clear KP4
  clear hB
  clear gw1
  go_upto_region 4 with fail
  have hB := bal (bz w5) (.cells #[.int .i64 7, .int .i64 12] 32)
  have h1 := heap_alloc_new w5 (.cells #[.int .i64 7, .int .i64 12] 32)
  generalize w5.alloc (.cells #[.int .i64 7, .int .i64 12] 32) = w6 at hB h1 ⊢
  obtain ⟨gn, hg⟩ : ∃ x, x = w5.heap.size := ⟨_, rfl⟩
  rw [← hg] at h1 ⊢
  clear hg
  have KP6 := Lib.hid ((KP5.out.up hB).and (keepR h1))
  clear KP5
  clear hB h1
  obtain ⟨cv2, zv2⟩ := KP6.out.here.2.2.1
  go_wp2_with fail
  have gw2 := KP6.out.here.2.2.2.2.1
  refine (lengthx_lit _ _ gw2).mono ?_
  rintro e w7 ⟨rfl, hB⟩
  clear cv2 zv2
  have KP7 := Lib.hid (KP6.out.up hB)
  clear KP6
  clear hB
  clear gw2
  go_upto_region 5 with fail
  have hB := bal (bz w7) (.cells #[.int .i64 0, .int .i64 0] 32)
  have h1 := heap_alloc_new w7 (.cells #[.int .i64 0, .int .i64 0] 32)
  generalize w7.alloc (.cells #[.int .i64 0, .int .i64 0] 32) = w8 at hB h1 ⊢
  obtain ⟨gx, hg⟩ : ∃ x, x = w7.heap.size := ⟨_, rfl⟩
  rw [← hg] at h1 ⊢
  clear hg
  have KP8 := Lib.hid ((KP7.out.up hB).and (keepR h1))
  clear KP7
  clear hB h1
  go_upto_region 5 with fail
  obtain ⟨G, KG, hG⟩ := KP8.out.name
  have HG := Lib.hid hG
  have KGH := Lib.hid KG
  clear hG KG
  go_cut [9, 10] from 1 to 0 (fun s9 s10 wx => ∃ g : Nat, s9 = .pointer (some ⟨g, 0, none⟩) ∧ s10 = .int .i64 0 ∧ wx.heap[g]? = some (.cells #[.int .i64 5, .int .i64 12] 32 (0, 0)) ∧ Keep wx G)
  case first =>
    rename_i Kb hKb Jc Kc hJc hKc
    clear hKb
    as_aux_lemma =>
      obtain ⟨cv1, zv1⟩ := KP8.out.here.2.2.2.2.1
      refine wp_region_U [0, 4, 5, 6, 9] [] (by kernel_rfl) (by kernel_rfl) ?_
      intro w9 hBc hh
      clear hh
      have hL := @Later.cell w9
      have kv1 := (hBc.cell (p := ⟨_, _, none⟩) zv1).trans cv1
      have yv1 := Nat.lt_of_lt_of_le zv1 hBc.size
      clear cv1 zv1
      have HRw1 := Lib.hid (KP8.out.here.2.2.2.2.2.2.1.mono hBc)
      have HB := Lib.hid hBc
      have HS := Lib.hid (bz w9)
      clear hBc KP8 HG
      refine U_heads [0] (by kernel_rfl) ⟨⟨_, HS.out⟩, rfl⟩ ?_
      simp only [pickL, List.getElem?_cons_zero]
      repeat (go_big_quiet_step (fail))
      refine wpQuiet_nil ?_
      refine U_two 1 7 (by kernel_rfl) ?_ ?_
      · simp only [pickL, List.getElem?_cons_succ, List.getElem?_cons_zero]
        have HRi1 := Lib.hid (rdI_at w9 [0, 2, 3] 3 w9.heap.size rfl (by simp))
        change Hid (RdI (w9.alloc (.cells #[.int .i64 0, .int .i64 2, .int .i64 3] 3)) .i64 (.slice (some ⟨w9.heap.size, 0, none⟩) 3 3) [0, 2, 3]) at HRi1
        replace HRw1 := Lib.hid (HRw1.out.mono ((bal (bz w9) (.cells #[.int .i64 0, .int .i64 2, .int .i64 3] 3)) : Below _ _ (w9.alloc (.cells #[.int .i64 0, .int .i64 2, .int .i64 3] 3))))
        replace HB := Lib.hid (btr HB.out ((bal (bz w9) (.cells #[.int .i64 0, .int .i64 2, .int .i64 3] 3)) : Below _ _ (w9.alloc (.cells #[.int .i64 0, .int .i64 2, .int .i64 3] 3))))
        replace HS := Lib.hid (btr HS.out ((bal (bz w9) (.cells #[.int .i64 0, .int .i64 2, .int .i64 3] 3)) : Below _ _ (w9.alloc (.cells #[.int .i64 0, .int .i64 2, .int .i64 3] 3))))
        go_wp2
        generalize w9.alloc (Obj.cells #[.int .i64 0, .int .i64 2, .int .i64 3] 3) = w10 at HRi1 HRw1 HB HS ⊢
        generalize w9.heap.size = si1 at HRi1 ⊢
        refine seg_grow ⟨⟨_, HS.out⟩, rfl⟩ ?_
        refine U_two 2 7 (by kernel_rfl) ?_ ?_
        · simp only [pickL, List.getElem?_cons_succ, List.getElem?_cons_zero]
          go_wp2_with fail
          refine (of_id _ _).mono ?_
          rintro e w' ⟨rfl, rfl⟩
          go_wp2
          refine seg_grow ⟨⟨_, HS.out⟩, rfl⟩ ?_
          refine U_two 3 7 (by kernel_rfl) ?_ ?_
          · simp only [pickL, List.getElem?_cons_succ, List.getElem?_cons_zero]
            go_wp2_with fail
            refine (checkchain_lit _ _ _ [0, 2, 3] 5 12 0 HRw1.out HRi1.out (by decide) exChain1).mono ?_
            rintro e w11 ⟨rfl, hB⟩
            replace HRi1 := Lib.hid (HRi1.out.mono (hB : Below _ _ (w11)))
            replace HRw1 := Lib.hid (HRw1.out.mono (hB : Below _ _ (w11)))
            replace HB := Lib.hid (btr HB.out (hB : Below _ _ (w11)))
            replace HS := Lib.hid (btr HS.out (hB : Below _ _ (w11)))
            clear hB
            go_wp2
            refine seg_grow ⟨⟨_, HS.out⟩, rfl⟩ ?_
            refine U_heads [4, 5, 6] (by kernel_rfl) ⟨⟨_, HS.out⟩, rfl⟩ ?_
            simp only [pickL, List.getElem?_cons_succ, List.getElem?_cons_zero]
            repeat (go_big_quiet_step (fail))
            refine wpQuiet_nil ?_
            refine U_one 7 (by kernel_rfl) ?_
            simp only [pickL, List.getElem?_cons_succ, List.getElem?_cons_zero]
            have HRa := Lib.hid (heap_alloc_new w11 (.cells #[.int .i64 0, .int .i64 0] 32))
            obtain ⟨sa, hsa⟩ : ∃ x, x = w11.heap.size := ⟨_, rfl⟩
            have HGE := Lib.hid (show w8.heap.size ≤ sa ∧ w9.heap.size ≤ sa by rw [hsa]; exact ⟨HB.out.size, HS.out.size⟩)
            replace HRi1 := Lib.hid (HRi1.out.mono ((bal (bz w11) (.cells #[.int .i64 0, .int .i64 0] 32)) : Below _ _ (w11.alloc (.cells #[.int .i64 0, .int .i64 0] 32))))
            replace HRw1 := Lib.hid (HRw1.out.mono ((bal (bz w11) (.cells #[.int .i64 0, .int .i64 0] 32)) : Below _ _ (w11.alloc (.cells #[.int .i64 0, .int .i64 0] 32))))
            replace HB := Lib.hid (btr HB.out ((bal (bz w11) (.cells #[.int .i64 0, .int .i64 0] 32)) : Below _ _ (w11.alloc (.cells #[.int .i64 0, .int .i64 0] 32))))
            replace HS := Lib.hid (btr HS.out ((bal (bz w11) (.cells #[.int .i64 0, .int .i64 0] 32)) : Below _ _ (w11.alloc (.cells #[.int .i64 0, .int .i64 0] 32))))
            go_wp2
            generalize w11.alloc (Obj.cells #[.int .i64 0, .int .i64 0] 32) = w12 at HRa HRi1 HRw1 HB HS ⊢
            rw [← hsa] at HRa ⊢
            clear hsa
            refine seg_grow ⟨⟨_, HS.out⟩, rfl⟩ ?_
            refine U_one 8 (by kernel_rfl) ?_
            simp only [pickL, List.getElem?_cons_succ, List.getElem?_cons_zero]
            obtain ⟨p0, p1, q0, q1⟩ := pair_cells HRa.out
            have pz := (Array.getElem?_eq_some_iff.1 HRa.out).1
            go_wp2
            clear p0 p1 q0 q1 pz
            replace HRa := Lib.hid (pair_set HRa.out (.int .i64 5) (.int .i64 12))
            replace HB := Lib.hid (pair_below HB.out HGE.out.1 (.int .i64 5) (.int .i64 12))
            replace HS := Lib.hid (pair_below HS.out HGE.out.2 (.int .i64 5) (.int .i64 12))
            generalize (w12.setCell ⟨sa, 0, none⟩ (.int .i64 5)).setCell ⟨sa, 1, none⟩ (.int .i64 12) = w13 at HRa HB HS ⊢
            refine seg_grow ⟨⟨_, HS.out⟩, rfl⟩ ?_
            refine U_heads [9] (by kernel_rfl) ⟨⟨_, HS.out⟩, rfl⟩ ?_
            simp only [pickL, List.getElem?_cons_succ, List.getElem?_cons_zero]
            repeat (go_big_quiet_step (fail))
            refine wpQuiet_nil ?_
            refine U_done (by kernel_rfl) ?_
            have hK := Lib.hid (KGH.out.up HB.out)
            go_wp2_with fail
            go_meet
            exact ⟨sa, rfl, rfl, HRa.out, hK.out⟩
          · simp only [pickL, List.getElem?_cons_succ, List.getElem?_cons_zero]
            have HRa := Lib.hid (heap_alloc_new w10 (.cells #[.int .i64 0, .int .i64 0] 32))
            obtain ⟨sa, hsa⟩ : ∃ x, x = w10.heap.size := ⟨_, rfl⟩
            have HGE := Lib.hid (show w8.heap.size ≤ sa ∧ w9.heap.size ≤ sa by rw [hsa]; exact ⟨HB.out.size, HS.out.size⟩)
            replace HRi1 := Lib.hid (HRi1.out.mono ((bal (bz w10) (.cells #[.int .i64 0, .int .i64 0] 32)) : Below _ _ (w10.alloc (.cells #[.int .i64 0, .int .i64 0] 32))))
            replace HRw1 := Lib.hid (HRw1.out.mono ((bal (bz w10) (.cells #[.int .i64 0, .int .i64 0] 32)) : Below _ _ (w10.alloc (.cells #[.int .i64 0, .int .i64 0] 32))))
            replace HB := Lib.hid (btr HB.out ((bal (bz w10) (.cells #[.int .i64 0, .int .i64 0] 32)) : Below _ _ (w10.alloc (.cells #[.int .i64 0, .int .i64 0] 32))))
            replace HS := Lib.hid (btr HS.out ((bal (bz w10) (.cells #[.int .i64 0, .int .i64 0] 32)) : Below _ _ (w10.alloc (.cells #[.int .i64 0, .int .i64 0] 32))))
            go_wp2
            generalize w10.alloc (Obj.cells #[.int .i64 0, .int .i64 0] 32) = w14 at HRa HRi1 HRw1 HB HS ⊢
            rw [← hsa] at HRa ⊢
            clear hsa
            refine seg_grow ⟨⟨_, HS.out⟩, rfl⟩ ?_
            refine U_one 3 (by kernel_rfl) ?_
            simp only [pickL, List.getElem?_cons_succ, List.getElem?_cons_zero]
            go_wp2_with fail
            refine (checkchain_lit _ _ _ [0, 2, 3] 5 12 0 HRw1.out HRi1.out (by decide) exChain1).mono ?_
            rintro e w15 ⟨rfl, hB⟩
            replace HRa := Lib.hid (((hB : Below _ _ (w15)).block _ (Array.getElem?_eq_some_iff.1 HRa.out).1).trans HRa.out)
            replace HRi1 := Lib.hid (HRi1.out.mono (hB : Below _ _ (w15)))
            replace HRw1 := Lib.hid (HRw1.out.mono (hB : Below _ _ (w15)))
            replace HB := Lib.hid (btr HB.out (hB : Below _ _ (w15)))
            replace HS := Lib.hid (btr HS.out (hB : Below _ _ (w15)))
            clear hB
            go_wp2
            refine seg_grow ⟨⟨_, HS.out⟩, rfl⟩ ?_
            refine U_heads [4, 5, 6] (by kernel_rfl) ⟨⟨_, HS.out⟩, rfl⟩ ?_
            simp only [pickL, List.getElem?_cons_succ, List.getElem?_cons_zero]
            repeat (go_big_quiet_step (fail))
            refine wpQuiet_nil ?_
            refine U_one 8 (by kernel_rfl) ?_
            simp only [pickL, List.getElem?_cons_succ, List.getElem?_cons_zero]
            obtain ⟨p0, p1, q0, q1⟩ := pair_cells HRa.out
            have pz := (Array.getElem?_eq_some_iff.1 HRa.out).1
            go_wp2
            clear p0 p1 q0 q1 pz
            replace HRa := Lib.hid (pair_set HRa.out (.int .i64 5) (.int .i64 12))
            replace HB := Lib.hid (pair_below HB.out HGE.out.1 (.int .i64 5) (.int .i64 12))
            replace HS := Lib.hid (pair_below HS.out HGE.out.2 (.int .i64 5) (.int .i64 12))
            generalize (w15.setCell ⟨sa, 0, none⟩ (.int .i64 5)).setCell ⟨sa, 1, none⟩ (.int .i64 12) = w16 at HRa HB HS ⊢
            refine seg_grow ⟨⟨_, HS.out⟩, rfl⟩ ?_
            refine U_heads [9] (by kernel_rfl) ⟨⟨_, HS.out⟩, rfl⟩ ?_
            simp only [pickL, List.getElem?_cons_succ, List.getElem?_cons_zero]
            repeat (go_big_quiet_step (fail))
            refine wpQuiet_nil ?_
            refine U_done (by kernel_rfl) ?_
            have hK := Lib.hid (KGH.out.up HB.out)
            go_wp2_with fail
            go_meet
            exact ⟨sa, rfl, rfl, HRa.out, hK.out⟩
        · simp only [pickL, List.getElem?_cons_succ, List.getElem?_cons_zero]
          have HRa := Lib.hid (heap_alloc_new w10 (.cells #[.int .i64 0, .int .i64 0] 32))
          obtain ⟨sa, hsa⟩ : ∃ x, x = w10.heap.size := ⟨_, rfl⟩
          have HGE := Lib.hid (show w8.heap.size ≤ sa ∧ w9.heap.size ≤ sa by rw [hsa]; exact ⟨HB.out.size, HS.out.size⟩)
          replace HRi1 := Lib.hid (HRi1.out.mono ((bal (bz w10) (.cells #[.int .i64 0, .int .i64 0] 32)) : Below _ _ (w10.alloc (.cells #[.int .i64 0, .int .i64 0] 32))))
          replace HRw1 := Lib.hid (HRw1.out.mono ((bal (bz w10) (.cells #[.int .i64 0, .int .i64 0] 32)) : Below _ _ (w10.alloc (.cells #[.int .i64 0, .int .i64 0] 32))))
          replace HB := Lib.hid (btr HB.out ((bal (bz w10) (.cells #[.int .i64 0, .int .i64 0] 32)) : Below _ _ (w10.alloc (.cells #[.int .i64 0, .int .i64 0] 32))))
          replace HS := Lib.hid (btr HS.out ((bal (bz w10) (.cells #[.int .i64 0, .int .i64 0] 32)) : Below _ _ (w10.alloc (.cells #[.int .i64 0, .int .i64 0] 32))))
          go_wp2
          generalize w10.alloc (Obj.cells #[.int .i64 0, .int .i64 0] 32) = w17 at HRa HRi1 HRw1 HB HS ⊢
          rw [← hsa] at HRa ⊢
          clear hsa
          refine seg_grow ⟨⟨_, HS.out⟩, rfl⟩ ?_
          refine U_one 2 (by kernel_rfl) ?_
          simp only [pickL, List.getElem?_cons_succ, List.getElem?_cons_zero]
          go_wp2_with fail
          refine (of_id _ _).mono ?_
          rintro e w' ⟨rfl, rfl⟩
          go_wp2
          refine seg_grow ⟨⟨_, HS.out⟩, rfl⟩ ?_
          refine U_one 3 (by kernel_rfl) ?_
          simp only [pickL, List.getElem?_cons_succ, List.getElem?_cons_zero]
          go_wp2_with fail
          refine (checkchain_lit _ _ _ [0, 2, 3] 5 12 0 HRw1.out HRi1.out (by decide) exChain1).mono ?_
          rintro e w18 ⟨rfl, hB⟩
          replace HRa := Lib.hid (((hB : Below _ _ (w18)).block _ (Array.getElem?_eq_some_iff.1 HRa.out).1).trans HRa.out)
          replace HRi1 := Lib.hid (HRi1.out.mono (hB : Below _ _ (w18)))
          replace HRw1 := Lib.hid (HRw1.out.mono (hB : Below _ _ (w18)))
          replace HB := Lib.hid (btr HB.out (hB : Below _ _ (w18)))
          replace HS := Lib.hid (btr HS.out (hB : Below _ _ (w18)))
          clear hB
          go_wp2
          refine seg_grow ⟨⟨_, HS.out⟩, rfl⟩ ?_
          refine U_heads [4, 5, 6] (by kernel_rfl) ⟨⟨_, HS.out⟩, rfl⟩ ?_
          simp only [pickL, List.getElem?_cons_succ, List.getElem?_cons_zero]
          repeat (go_big_quiet_step (fail))
          refine wpQuiet_nil ?_
          refine U_one 8 (by kernel_rfl) ?_
          simp only [pickL, List.getElem?_cons_succ, List.getElem?_cons_zero]
          obtain ⟨p0, p1, q0, q1⟩ := pair_cells HRa.out
          have pz := (Array.getElem?_eq_some_iff.1 HRa.out).1
          go_wp2
          clear p0 p1 q0 q1 pz
          replace HRa := Lib.hid (pair_set HRa.out (.int .i64 5) (.int .i64 12))
          replace HB := Lib.hid (pair_below HB.out HGE.out.1 (.int .i64 5) (.int .i64 12))
          replace HS := Lib.hid (pair_below HS.out HGE.out.2 (.int .i64 5) (.int .i64 12))
          generalize (w18.setCell ⟨sa, 0, none⟩ (.int .i64 5)).setCell ⟨sa, 1, none⟩ (.int .i64 12) = w19 at HRa HB HS ⊢
          refine seg_grow ⟨⟨_, HS.out⟩, rfl⟩ ?_
          refine U_heads [9] (by kernel_rfl) ⟨⟨_, HS.out⟩, rfl⟩ ?_
          simp only [pickL, List.getElem?_cons_succ, List.getElem?_cons_zero]
          repeat (go_big_quiet_step (fail))
          refine wpQuiet_nil ?_
          refine U_done (by kernel_rfl) ?_
          have hK := Lib.hid (KGH.out.up HB.out)
          go_wp2_with fail
          go_meet
          exact ⟨sa, rfl, rfl, HRa.out, hK.out⟩
      · simp only [pickL, List.getElem?_cons_succ, List.getElem?_cons_zero]
        have HRa := Lib.hid (heap_alloc_new w9 (.cells #[.int .i64 0, .int .i64 0] 32))
        obtain ⟨sa, hsa⟩ : ∃ x, x = w9.heap.size := ⟨_, rfl⟩
        have HGE := Lib.hid (show w8.heap.size ≤ sa ∧ w9.heap.size ≤ sa by rw [hsa]; exact ⟨HB.out.size, HS.out.size⟩)
        replace HRw1 := Lib.hid (HRw1.out.mono ((bal (bz w9) (.cells #[.int .i64 0, .int .i64 0] 32)) : Below _ _ (w9.alloc (.cells #[.int .i64 0, .int .i64 0] 32))))
        replace HB := Lib.hid (btr HB.out ((bal (bz w9) (.cells #[.int .i64 0, .int .i64 0] 32)) : Below _ _ (w9.alloc (.cells #[.int .i64 0, .int .i64 0] 32))))
        replace HS := Lib.hid (btr HS.out ((bal (bz w9) (.cells #[.int .i64 0, .int .i64 0] 32)) : Below _ _ (w9.alloc (.cells #[.int .i64 0, .int .i64 0] 32))))
        go_wp2
        generalize w9.alloc (Obj.cells #[.int .i64 0, .int .i64 0] 32) = w20 at HRa HRw1 HB HS ⊢
        rw [← hsa] at HRa ⊢
        clear hsa
        refine seg_grow ⟨⟨_, HS.out⟩, rfl⟩ ?_
        refine U_one 1 (by kernel_rfl) ?_
        simp only [pickL, List.getElem?_cons_succ, List.getElem?_cons_zero]
        have HRi1 := Lib.hid (rdI_at w20 [0, 2, 3] 3 w20.heap.size rfl (by simp))
        change Hid (RdI (w20.alloc (.cells #[.int .i64 0, .int .i64 2, .int .i64 3] 3)) .i64 (.slice (some ⟨w20.heap.size, 0, none⟩) 3 3) [0, 2, 3]) at HRi1
        replace HRa := Lib.hid ((((bal (bz w20) (.cells #[.int .i64 0, .int .i64 2, .int .i64 3] 3)) : Below _ _ (w20.alloc (.cells #[.int .i64 0, .int .i64 2, .int .i64 3] 3))).block _ (Array.getElem?_eq_some_iff.1 HRa.out).1).trans HRa.out)
        replace HRw1 := Lib.hid (HRw1.out.mono ((bal (bz w20) (.cells #[.int .i64 0, .int .i64 2, .int .i64 3] 3)) : Below _ _ (w20.alloc (.cells #[.int .i64 0, .int .i64 2, .int .i64 3] 3))))
        replace HB := Lib.hid (btr HB.out ((bal (bz w20) (.cells #[.int .i64 0, .int .i64 2, .int .i64 3] 3)) : Below _ _ (w20.alloc (.cells #[.int .i64 0, .int .i64 2, .int .i64 3] 3))))
        replace HS := Lib.hid (btr HS.out ((bal (bz w20) (.cells #[.int .i64 0, .int .i64 2, .int .i64 3] 3)) : Below _ _ (w20.alloc (.cells #[.int .i64 0, .int .i64 2, .int .i64 3] 3))))
        go_wp2
        generalize w20.alloc (Obj.cells #[.int .i64 0, .int .i64 2, .int .i64 3] 3) = w21 at HRa HRi1 HRw1 HB HS ⊢
        generalize w20.heap.size = si1 at HRi1 ⊢
        refine seg_grow ⟨⟨_, HS.out⟩, rfl⟩ ?_
        refine U_one 2 (by kernel_rfl) ?_
        simp only [pickL, List.getElem?_cons_succ, List.getElem?_cons_zero]
        go_wp2_with fail
        refine (of_id _ _).mono ?_
        rintro e w' ⟨rfl, rfl⟩
        go_wp2
        refine seg_grow ⟨⟨_, HS.out⟩, rfl⟩ ?_
        refine U_one 3 (by kernel_rfl) ?_
        simp only [pickL, List.getElem?_cons_succ, List.getElem?_cons_zero]
        go_wp2_with fail
        refine (checkchain_lit _ _ _ [0, 2, 3] 5 12 0 HRw1.out HRi1.out (by decide) exChain1).mono ?_
        rintro e w22 ⟨rfl, hB⟩
        replace HRa := Lib.hid (((hB : Below _ _ (w22)).block _ (Array.getElem?_eq_some_iff.1 HRa.out).1).trans HRa.out)
        replace HRi1 := Lib.hid (HRi1.out.mono (hB : Below _ _ (w22)))
        replace HRw1 := Lib.hid (HRw1.out.mono (hB : Below _ _ (w22)))
        replace HB := Lib.hid (btr HB.out (hB : Below _ _ (w22)))
        replace HS := Lib.hid (btr HS.out (hB : Below _ _ (w22)))
        clear hB
        go_wp2
        refine seg_grow ⟨⟨_, HS.out⟩, rfl⟩ ?_
        refine U_heads [4, 5, 6] (by kernel_rfl) ⟨⟨_, HS.out⟩, rfl⟩ ?_
        simp only [pickL, List.getElem?_cons_succ, List.getElem?_cons_zero]
        repeat (go_big_quiet_step (fail))
        refine wpQuiet_nil ?_
        refine U_one 8 (by kernel_rfl) ?_
        simp only [pickL, List.getElem?_cons_succ, List.getElem?_cons_zero]
        obtain ⟨p0, p1, q0, q1⟩ := pair_cells HRa.out
        have pz := (Array.getElem?_eq_some_iff.1 HRa.out).1
        go_wp2
        clear p0 p1 q0 q1 pz
        replace HRa := Lib.hid (pair_set HRa.out (.int .i64 5) (.int .i64 12))
        replace HB := Lib.hid (pair_below HB.out HGE.out.1 (.int .i64 5) (.int .i64 12))
        replace HS := Lib.hid (pair_below HS.out HGE.out.2 (.int .i64 5) (.int .i64 12))
        generalize (w22.setCell ⟨sa, 0, none⟩ (.int .i64 5)).setCell ⟨sa, 1, none⟩ (.int .i64 12) = w23 at HRa HB HS ⊢
        refine seg_grow ⟨⟨_, HS.out⟩, rfl⟩ ?_
        refine U_heads [9] (by kernel_rfl) ⟨⟨_, HS.out⟩, rfl⟩ ?_
        simp only [pickL, List.getElem?_cons_succ, List.getElem?_cons_zero]
        repeat (go_big_quiet_step (fail))
        refine wpQuiet_nil ?_
        refine U_done (by kernel_rfl) ?_
        have hK := Lib.hid (KGH.out.up HB.out)
        go_wp2_with fail
        go_meet
        exact ⟨sa, rfl, rfl, HRa.out, hK.out⟩
  case rest =>
    as_aux_lemma =>
      obtain ⟨ga, rfl, rfl, hg, hK⟩ := hcut
      have KP9 := Lib.hid ((hK.imp HG.out).and (keepR hg))
      clear hK hg HG KGH KP8
      go_upto_region 6 with fail
      obtain ⟨G, KG, hG⟩ := KP9.out.name
      have HG := Lib.hid hG
      have KGH := Lib.hid KG
      clear hG KG
      go_cut [11, 12] from 1 to 0 (fun s11 s12 wx => ∃ g : Nat, s11 = .pointer (some ⟨g, 0, none⟩) ∧ s12 = .int .i64 16 ∧ wx.heap[g]? = some (.cells #[.int .i64 0, .int .i64 0] 32 (0, 0)) ∧ Keep wx G)
      case first =>
        rename_i Kb hKb Jc Kc hJc hKc
        clear hKb
        as_aux_lemma =>
          obtain ⟨cv1, zv1⟩ := KP9.out.here.2.2.2.2.2.1
          refine wp_region_U [0, 4, 5, 6, 9] [] (by kernel_rfl) (by kernel_rfl) ?_
          intro w24 hBc hh
          clear hh
          have hL := @Later.cell w24
          have kv1 := (hBc.cell (p := ⟨_, _, none⟩) zv1).trans cv1
          have yv1 := Nat.lt_of_lt_of_le zv1 hBc.size
          clear cv1 zv1
          have HRw1 := Lib.hid (KP9.out.here.2.2.2.2.2.2.2.1.mono hBc)
          have HB := Lib.hid hBc
          have HS := Lib.hid (bz w24)
          clear hBc KP9 HG
          refine U_heads [0] (by kernel_rfl) ⟨⟨_, HS.out⟩, rfl⟩ ?_
          simp only [pickL, List.getElem?_cons_zero]
          repeat (go_big_quiet_step (fail))
          refine wpQuiet_nil ?_
          refine U_two 1 7 (by kernel_rfl) ?_ ?_
          · simp only [pickL, List.getElem?_cons_succ, List.getElem?_cons_zero]
            have HRi1 := Lib.hid (rdI_at w24 [0, 3] 3 w24.heap.size rfl (by simp))
            change Hid (RdI (w24.alloc (.cells #[.int .i64 0, .int .i64 3] 3)) .i64 (.slice (some ⟨w24.heap.size, 0, none⟩) 2 2) [0, 3]) at HRi1
            replace HRw1 := Lib.hid (HRw1.out.mono ((bal (bz w24) (.cells #[.int .i64 0, .int .i64 3] 3)) : Below _ _ (w24.alloc (.cells #[.int .i64 0, .int .i64 3] 3))))
            replace HB := Lib.hid (btr HB.out ((bal (bz w24) (.cells #[.int .i64 0, .int .i64 3] 3)) : Below _ _ (w24.alloc (.cells #[.int .i64 0, .int .i64 3] 3))))
            replace HS := Lib.hid (btr HS.out ((bal (bz w24) (.cells #[.int .i64 0, .int .i64 3] 3)) : Below _ _ (w24.alloc (.cells #[.int .i64 0, .int .i64 3] 3))))
            go_wp2
            generalize w24.alloc (Obj.cells #[.int .i64 0, .int .i64 3] 3) = w25 at HRi1 HRw1 HB HS ⊢
            generalize w24.heap.size = si1 at HRi1 ⊢
            refine seg_grow ⟨⟨_, HS.out⟩, rfl⟩ ?_
            refine U_two 2 7 (by kernel_rfl) ?_ ?_
            · simp only [pickL, List.getElem?_cons_succ, List.getElem?_cons_zero]
              go_wp2_with fail
              refine (of_id _ _).mono ?_
              rintro e w' ⟨rfl, rfl⟩
              go_wp2
              refine seg_grow ⟨⟨_, HS.out⟩, rfl⟩ ?_
              refine U_two 3 7 (by kernel_rfl) ?_ ?_
              · simp only [pickL, List.getElem?_cons_succ, List.getElem?_cons_zero]
                go_wp2_with fail
                refine (checkchain_lit _ _ _ [0, 3] 0 0 16 HRw1.out HRi1.out (by decide) exChain2).mono ?_
                rintro e w26 ⟨rfl, hB⟩
                replace HRi1 := Lib.hid (HRi1.out.mono (hB : Below _ _ (w26)))
                replace HRw1 := Lib.hid (HRw1.out.mono (hB : Below _ _ (w26)))
                replace HB := Lib.hid (btr HB.out (hB : Below _ _ (w26)))
                replace HS := Lib.hid (btr HS.out (hB : Below _ _ (w26)))
                clear hB
                go_wp2
                refine seg_grow ⟨⟨_, HS.out⟩, rfl⟩ ?_
                refine U_heads [4, 5, 6] (by kernel_rfl) ⟨⟨_, HS.out⟩, rfl⟩ ?_
                simp only [pickL, List.getElem?_cons_succ, List.getElem?_cons_zero]
                repeat (go_big_quiet_step (fail))
                refine wpQuiet_nil ?_
                refine U_one 7 (by kernel_rfl) ?_
                simp only [pickL, List.getElem?_cons_succ, List.getElem?_cons_zero]
                have HRb := Lib.hid (heap_alloc_new w26 (.cells #[.int .i64 0, .int .i64 0] 32))
                obtain ⟨sb, hsb⟩ : ∃ x, x = w26.heap.size := ⟨_, rfl⟩
                have HGE := Lib.hid (show wc.heap.size ≤ sb ∧ w24.heap.size ≤ sb by rw [hsb]; exact ⟨HB.out.size, HS.out.size⟩)
                replace HRi1 := Lib.hid (HRi1.out.mono ((bal (bz w26) (.cells #[.int .i64 0, .int .i64 0] 32)) : Below _ _ (w26.alloc (.cells #[.int .i64 0, .int .i64 0] 32))))
                replace HRw1 := Lib.hid (HRw1.out.mono ((bal (bz w26) (.cells #[.int .i64 0, .int .i64 0] 32)) : Below _ _ (w26.alloc (.cells #[.int .i64 0, .int .i64 0] 32))))
                replace HB := Lib.hid (btr HB.out ((bal (bz w26) (.cells #[.int .i64 0, .int .i64 0] 32)) : Below _ _ (w26.alloc (.cells #[.int .i64 0, .int .i64 0] 32))))
                replace HS := Lib.hid (btr HS.out ((bal (bz w26) (.cells #[.int .i64 0, .int .i64 0] 32)) : Below _ _ (w26.alloc (.cells #[.int .i64 0, .int .i64 0] 32))))
                go_wp2
                generalize w26.alloc (Obj.cells #[.int .i64 0, .int .i64 0] 32) = w27 at HRb HRi1 HRw1 HB HS ⊢
                rw [← hsb] at HRb ⊢
                clear hsb
                refine seg_grow ⟨⟨_, HS.out⟩, rfl⟩ ?_
                refine U_one 8 (by kernel_rfl) ?_
                simp only [pickL, List.getElem?_cons_succ, List.getElem?_cons_zero]
                obtain ⟨p0, p1, q0, q1⟩ := pair_cells HRb.out
                have pz := (Array.getElem?_eq_some_iff.1 HRb.out).1
                go_wp2
                clear p0 p1 q0 q1 pz
                replace HRb := Lib.hid (pair_set HRb.out (.int .i64 0) (.int .i64 0))
                replace HB := Lib.hid (pair_below HB.out HGE.out.1 (.int .i64 0) (.int .i64 0))
                replace HS := Lib.hid (pair_below HS.out HGE.out.2 (.int .i64 0) (.int .i64 0))
                generalize (w27.setCell ⟨sb, 0, none⟩ (.int .i64 0)).setCell ⟨sb, 1, none⟩ (.int .i64 0) = w28 at HRb HB HS ⊢
                refine seg_grow ⟨⟨_, HS.out⟩, rfl⟩ ?_
                refine U_heads [9] (by kernel_rfl) ⟨⟨_, HS.out⟩, rfl⟩ ?_
                simp only [pickL, List.getElem?_cons_succ, List.getElem?_cons_zero]
                repeat (go_big_quiet_step (fail))
                refine wpQuiet_nil ?_
                refine U_done (by kernel_rfl) ?_
                have hK := Lib.hid (KGH.out.up HB.out)
                go_wp2_with fail
                go_meet
                exact ⟨sb, rfl, rfl, HRb.out, hK.out⟩
              · simp only [pickL, List.getElem?_cons_succ, List.getElem?_cons_zero]
                have HRb := Lib.hid (heap_alloc_new w25 (.cells #[.int .i64 0, .int .i64 0] 32))
                obtain ⟨sb, hsb⟩ : ∃ x, x = w25.heap.size := ⟨_, rfl⟩
                have HGE := Lib.hid (show wc.heap.size ≤ sb ∧ w24.heap.size ≤ sb by rw [hsb]; exact ⟨HB.out.size, HS.out.size⟩)
                replace HRi1 := Lib.hid (HRi1.out.mono ((bal (bz w25) (.cells #[.int .i64 0, .int .i64 0] 32)) : Below _ _ (w25.alloc (.cells #[.int .i64 0, .int .i64 0] 32))))
                replace HRw1 := Lib.hid (HRw1.out.mono ((bal (bz w25) (.cells #[.int .i64 0, .int .i64 0] 32)) : Below _ _ (w25.alloc (.cells #[.int .i64 0, .int .i64 0] 32))))
                replace HB := Lib.hid (btr HB.out ((bal (bz w25) (.cells #[.int .i64 0, .int .i64 0] 32)) : Below _ _ (w25.alloc (.cells #[.int .i64 0, .int .i64 0] 32))))
                replace HS := Lib.hid (btr HS.out ((bal (bz w25) (.cells #[.int .i64 0, .int .i64 0] 32)) : Below _ _ (w25.alloc (.cells #[.int .i64 0, .int .i64 0] 32))))
                go_wp2
                generalize w25.alloc (Obj.cells #[.int .i64 0, .int .i64 0] 32) = w29 at HRb HRi1 HRw1 HB HS ⊢
                rw [← hsb] at HRb ⊢
                clear hsb
                refine seg_grow ⟨⟨_, HS.out⟩, rfl⟩ ?_
                refine U_one 3 (by kernel_rfl) ?_
                simp only [pickL, List.getElem?_cons_succ, List.getElem?_cons_zero]
                go_wp2_with fail
                refine (checkchain_lit _ _ _ [0, 3] 0 0 16 HRw1.out HRi1.out (by decide) exChain2).mono ?_
                rintro e w30 ⟨rfl, hB⟩
                replace HRb := Lib.hid (((hB : Below _ _ (w30)).block _ (Array.getElem?_eq_some_iff.1 HRb.out).1).trans HRb.out)
                replace HRi1 := Lib.hid (HRi1.out.mono (hB : Below _ _ (w30)))
                replace HRw1 := Lib.hid (HRw1.out.mono (hB : Below _ _ (w30)))
                replace HB := Lib.hid (btr HB.out (hB : Below _ _ (w30)))
                replace HS := Lib.hid (btr HS.out (hB : Below _ _ (w30)))
                clear hB
                go_wp2
                refine seg_grow ⟨⟨_, HS.out⟩, rfl⟩ ?_
                refine U_heads [4, 5, 6] (by kernel_rfl) ⟨⟨_, HS.out⟩, rfl⟩ ?_
                simp only [pickL, List.getElem?_cons_succ, List.getElem?_cons_zero]
                repeat (go_big_quiet_step (fail))
                refine wpQuiet_nil ?_
                refine U_one 8 (by kernel_rfl) ?_
                simp only [pickL, List.getElem?_cons_succ, List.getElem?_cons_zero]
                obtain ⟨p0, p1, q0, q1⟩ := pair_cells HRb.out
                have pz := (Array.getElem?_eq_some_iff.1 HRb.out).1
                go_wp2
                clear p0 p1 q0 q1 pz
                replace HRb := Lib.hid (pair_set HRb.out (.int .i64 0) (.int .i64 0))
                replace HB := Lib.hid (pair_below HB.out HGE.out.1 (.int .i64 0) (.int .i64 0))
                replace HS := Lib.hid (pair_below HS.out HGE.out.2 (.int .i64 0) (.int .i64 0))
                generalize (w30.setCell ⟨sb, 0, none⟩ (.int .i64 0)).setCell ⟨sb, 1, none⟩ (.int .i64 0) = w31 at HRb HB HS ⊢
                refine seg_grow ⟨⟨_, HS.out⟩, rfl⟩ ?_
                refine U_heads [9] (by kernel_rfl) ⟨⟨_, HS.out⟩, rfl⟩ ?_
                simp only [pickL, List.getElem?_cons_succ, List.getElem?_cons_zero]
                repeat (go_big_quiet_step (fail))
                refine wpQuiet_nil ?_
                refine U_done (by kernel_rfl) ?_
                have hK := Lib.hid (KGH.out.up HB.out)
                go_wp2_with fail
                go_meet
                exact ⟨sb, rfl, rfl, HRb.out, hK.out⟩
            · simp only [pickL, List.getElem?_cons_succ, List.getElem?_cons_zero]
              have HRb := Lib.hid (heap_alloc_new w25 (.cells #[.int .i64 0, .int .i64 0] 32))
              obtain ⟨sb, hsb⟩ : ∃ x, x = w25.heap.size := ⟨_, rfl⟩
              have HGE := Lib.hid (show wc.heap.size ≤ sb ∧ w24.heap.size ≤ sb by rw [hsb]; exact ⟨HB.out.size, HS.out.size⟩)
              replace HRi1 := Lib.hid (HRi1.out.mono ((bal (bz w25) (.cells #[.int .i64 0, .int .i64 0] 32)) : Below _ _ (w25.alloc (.cells #[.int .i64 0, .int .i64 0] 32))))
              replace HRw1 := Lib.hid (HRw1.out.mono ((bal (bz w25) (.cells #[.int .i64 0, .int .i64 0] 32)) : Below _ _ (w25.alloc (.cells #[.int .i64 0, .int .i64 0] 32))))
              replace HB := Lib.hid (btr HB.out ((bal (bz w25) (.cells #[.int .i64 0, .int .i64 0] 32)) : Below _ _ (w25.alloc (.cells #[.int .i64 0, .int .i64 0] 32))))
              replace HS := Lib.hid (btr HS.out ((bal (bz w25) (.cells #[.int .i64 0, .int .i64 0] 32)) : Below _ _ (w25.alloc (.cells #[.int .i64 0, .int .i64 0] 32))))
              go_wp2
              generalize w25.alloc (Obj.cells #[.int .i64 0, .int .i64 0] 32) = w32 at HRb HRi1 HRw1 HB HS ⊢
              rw [← hsb] at HRb ⊢
              clear hsb
              refine seg_grow ⟨⟨_, HS.out⟩, rfl⟩ ?_
              refine U_one 2 (by kernel_rfl) ?_
              simp only [pickL, List.getElem?_cons_succ, List.getElem?_cons_zero]
              go_wp2_with fail
              refine (of_id _ _).mono ?_
              rintro e w' ⟨rfl, rfl⟩
              go_wp2
              refine seg_grow ⟨⟨_, HS.out⟩, rfl⟩ ?_
              refine U_one 3 (by kernel_rfl) ?_
              simp only [pickL, List.getElem?_cons_succ, List.getElem?_cons_zero]
              go_wp2_with fail
              refine (checkchain_lit _ _ _ [0, 3] 0 0 16 HRw1.out HRi1.out (by decide) exChain2).mono ?_
              rintro e w33 ⟨rfl, hB⟩
              replace HRb := Lib.hid (((hB : Below _ _ (w33)).block _ (Array.getElem?_eq_some_iff.1 HRb.out).1).trans HRb.out)
              replace HRi1 := Lib.hid (HRi1.out.mono (hB : Below _ _ (w33)))
              replace HRw1 := Lib.hid (HRw1.out.mono (hB : Below _ _ (w33)))
              replace HB := Lib.hid (btr HB.out (hB : Below _ _ (w33)))
              replace HS := Lib.hid (btr HS.out (hB : Below _ _ (w33)))
              clear hB
              go_wp2
              refine seg_grow ⟨⟨_, HS.out⟩, rfl⟩ ?_
              refine U_heads [4, 5, 6] (by kernel_rfl) ⟨⟨_, HS.out⟩, rfl⟩ ?_
              simp only [pickL, List.getElem?_cons_succ, List.getElem?_cons_zero]
              repeat (go_big_quiet_step (fail))
              refine wpQuiet_nil ?_
              refine U_one 8 (by kernel_rfl) ?_
              simp only [pickL, List.getElem?_cons_succ, List.getElem?_cons_zero]
              obtain ⟨p0, p1, q0, q1⟩ := pair_cells HRb.out
              have pz := (Array.getElem?_eq_some_iff.1 HRb.out).1
              go_wp2
              clear p0 p1 q0 q1 pz
              replace HRb := Lib.hid (pair_set HRb.out (.int .i64 0) (.int .i64 0))
              replace HB := Lib.hid (pair_below HB.out HGE.out.1 (.int .i64 0) (.int .i64 0))
              replace HS := Lib.hid (pair_below HS.out HGE.out.2 (.int .i64 0) (.int .i64 0))
              generalize (w33.setCell ⟨sb, 0, none⟩ (.int .i64 0)).setCell ⟨sb, 1, none⟩ (.int .i64 0) = w34 at HRb HB HS ⊢
              refine seg_grow ⟨⟨_, HS.out⟩, rfl⟩ ?_
              refine U_heads [9] (by kernel_rfl) ⟨⟨_, HS.out⟩, rfl⟩ ?_
              simp only [pickL, List.getElem?_cons_succ, List.getElem?_cons_zero]
              repeat (go_big_quiet_step (fail))
              refine wpQuiet_nil ?_
              refine U_done (by kernel_rfl) ?_
              have hK := Lib.hid (KGH.out.up HB.out)
              go_wp2_with fail
              go_meet
              exact ⟨sb, rfl, rfl, HRb.out, hK.out⟩
          · simp only [pickL, List.getElem?_cons_succ, List.getElem?_cons_zero]
            have HRb := Lib.hid (heap_alloc_new w24 (.cells #[.int .i64 0, .int .i64 0] 32))
            obtain ⟨sb, hsb⟩ : ∃ x, x = w24.heap.size := ⟨_, rfl⟩
            have HGE := Lib.hid (show wc.heap.size ≤ sb ∧ w24.heap.size ≤ sb by rw [hsb]; exact ⟨HB.out.size, HS.out.size⟩)
            replace HRw1 := Lib.hid (HRw1.out.mono ((bal (bz w24) (.cells #[.int .i64 0, .int .i64 0] 32)) : Below _ _ (w24.alloc (.cells #[.int .i64 0, .int .i64 0] 32))))
            replace HB := Lib.hid (btr HB.out ((bal (bz w24) (.cells #[.int .i64 0, .int .i64 0] 32)) : Below _ _ (w24.alloc (.cells #[.int .i64 0, .int .i64 0] 32))))
            replace HS := Lib.hid (btr HS.out ((bal (bz w24) (.cells #[.int .i64 0, .int .i64 0] 32)) : Below _ _ (w24.alloc (.cells #[.int .i64 0, .int .i64 0] 32))))
            go_wp2
            generalize w24.alloc (Obj.cells #[.int .i64 0, .int .i64 0] 32) = w35 at HRb HRw1 HB HS ⊢
            rw [← hsb] at HRb ⊢
            clear hsb
            refine seg_grow ⟨⟨_, HS.out⟩, rfl⟩ ?_
            refine U_one 1 (by kernel_rfl) ?_
            simp only [pickL, List.getElem?_cons_succ, List.getElem?_cons_zero]
            have HRi1 := Lib.hid (rdI_at w35 [0, 3] 3 w35.heap.size rfl (by simp))
            change Hid (RdI (w35.alloc (.cells #[.int .i64 0, .int .i64 3] 3)) .i64 (.slice (some ⟨w35.heap.size, 0, none⟩) 2 2) [0, 3]) at HRi1
            replace HRb := Lib.hid ((((bal (bz w35) (.cells #[.int .i64 0, .int .i64 3] 3)) : Below _ _ (w35.alloc (.cells #[.int .i64 0, .int .i64 3] 3))).block _ (Array.getElem?_eq_some_iff.1 HRb.out).1).trans HRb.out)
            replace HRw1 := Lib.hid (HRw1.out.mono ((bal (bz w35) (.cells #[.int .i64 0, .int .i64 3] 3)) : Below _ _ (w35.alloc (.cells #[.int .i64 0, .int .i64 3] 3))))
            replace HB := Lib.hid (btr HB.out ((bal (bz w35) (.cells #[.int .i64 0, .int .i64 3] 3)) : Below _ _ (w35.alloc (.cells #[.int .i64 0, .int .i64 3] 3))))
            replace HS := Lib.hid (btr HS.out ((bal (bz w35) (.cells #[.int .i64 0, .int .i64 3] 3)) : Below _ _ (w35.alloc (.cells #[.int .i64 0, .int .i64 3] 3))))
            go_wp2
            generalize w35.alloc (Obj.cells #[.int .i64 0, .int .i64 3] 3) = w36 at HRb HRi1 HRw1 HB HS ⊢
            generalize w35.heap.size = si1 at HRi1 ⊢
            refine seg_grow ⟨⟨_, HS.out⟩, rfl⟩ ?_
            refine U_one 2 (by kernel_rfl) ?_
            simp only [pickL, List.getElem?_cons_succ, List.getElem?_cons_zero]
            go_wp2_with fail
            refine (of_id _ _).mono ?_
            rintro e w' ⟨rfl, rfl⟩
            go_wp2
            refine seg_grow ⟨⟨_, HS.out⟩, rfl⟩ ?_
            refine U_one 3 (by kernel_rfl) ?_
            simp only [pickL, List.getElem?_cons_succ, List.getElem?_cons_zero]
            go_wp2_with fail
            refine (checkchain_lit _ _ _ [0, 3] 0 0 16 HRw1.out HRi1.out (by decide) exChain2).mono ?_
            rintro e w37 ⟨rfl, hB⟩
            replace HRb := Lib.hid (((hB : Below _ _ (w37)).block _ (Array.getElem?_eq_some_iff.1 HRb.out).1).trans HRb.out)
            replace HRi1 := Lib.hid (HRi1.out.mono (hB : Below _ _ (w37)))
            replace HRw1 := Lib.hid (HRw1.out.mono (hB : Below _ _ (w37)))
            replace HB := Lib.hid (btr HB.out (hB : Below _ _ (w37)))
            replace HS := Lib.hid (btr HS.out (hB : Below _ _ (w37)))
            clear hB
            go_wp2
            refine seg_grow ⟨⟨_, HS.out⟩, rfl⟩ ?_
            refine U_heads [4, 5, 6] (by kernel_rfl) ⟨⟨_, HS.out⟩, rfl⟩ ?_
            simp only [pickL, List.getElem?_cons_succ, List.getElem?_cons_zero]
            repeat (go_big_quiet_step (fail))
            refine wpQuiet_nil ?_
            refine U_one 8 (by kernel_rfl) ?_
            simp only [pickL, List.getElem?_cons_succ, List.getElem?_cons_zero]
            obtain ⟨p0, p1, q0, q1⟩ := pair_cells HRb.out
            have pz := (Array.getElem?_eq_some_iff.1 HRb.out).1
            go_wp2
            clear p0 p1 q0 q1 pz
            replace HRb := Lib.hid (pair_set HRb.out (.int .i64 0) (.int .i64 0))
            replace HB := Lib.hid (pair_below HB.out HGE.out.1 (.int .i64 0) (.int .i64 0))
            replace HS := Lib.hid (pair_below HS.out HGE.out.2 (.int .i64 0) (.int .i64 0))
            generalize (w37.setCell ⟨sb, 0, none⟩ (.int .i64 0)).setCell ⟨sb, 1, none⟩ (.int .i64 0) = w38 at HRb HB HS ⊢
            refine seg_grow ⟨⟨_, HS.out⟩, rfl⟩ ?_
            refine U_heads [9] (by kernel_rfl) ⟨⟨_, HS.out⟩, rfl⟩ ?_
            simp only [pickL, List.getElem?_cons_succ, List.getElem?_cons_zero]
            repeat (go_big_quiet_step (fail))
            refine wpQuiet_nil ?_
            refine U_done (by kernel_rfl) ?_
            have hK := Lib.hid (KGH.out.up HB.out)
            go_wp2_with fail
            go_meet
            exact ⟨sb, rfl, rfl, HRb.out, hK.out⟩
      case rest =>
        as_aux_lemma =>
          obtain ⟨gb, rfl, rfl, hg, hK⟩ := hcut
          have KP10 := Lib.hid ((hK.imp HG.out).and (keepR hg))
          clear hK hg HG KGH KP9
          obtain ⟨cv1, zv1⟩ := KP10.out.here.2.2.2.2.2.2.1
          go_wp2_with fail
          have gw1 := KP10.out.here.2.2.2.2.2.2.2.2.1
          refine (chain_top _ _ gw1).mono ?_
          rintro e w39 ⟨vb3, rfl, hRb3, hB⟩
          obtain ⟨ptb3, qtb3, hv⟩ := exI hRb3 3 rfl
          subst hv
          clear cv1 zv1
          have KP11 := Lib.hid ((KP10.out.up hB).and (keepI hRb3))
          clear KP10
          clear hB hRb3
          clear gw1
          obtain ⟨cv1, zv1⟩ := KP11.out.here.2.2.2.2.2.2.2.1
          go_wp2_with fail
          have gw1 := KP11.out.here.2.2.2.2.2.2.2.2.2.1
          refine (chain_low _ _ gw1).mono ?_
          rintro e w40 ⟨vc3, rfl, hRc3, hB⟩
          obtain ⟨ptc3, qtc3, hv⟩ := exI hRc3 3 rfl
          subst hv
          clear cv1 zv1
          have KP12 := Lib.hid ((KP11.out.up hB).and (keepI hRc3))
          clear KP11
          clear hB hRc3
          clear gw1
          obtain ⟨cv1, zv1⟩ := KP12.out.here.2.2.2.2.2.2.2.2.1
          go_wp2_with fail
          have gw1 := KP12.out.here.2.2.2.2.2.2.2.2.2.2.1
          refine (latest_lit _ _ 12 0 [0, 7, 4, 10] gw1 (by decide) (by decide) exLatest12).mono ?_
          rintro e w41 ⟨vl, rfl, hRl, hB⟩
          obtain ⟨ptl, qtl, hv⟩ := exI hRl 4 rfl
          subst hv
          clear cv1 zv1
          have KP13 := Lib.hid ((KP12.out.up hB).and (keepI hRl))
          clear KP12
          clear hB hRl
          clear gw1
          obtain ⟨cv1, zv1⟩ := KP13.out.here.2.2.2.2.2.2.2.2.2.1
          go_wp2_with fail
          have gw1 := KP13.out.here.2.2.2.2.2.2.2.2.2.2.2.1
          refine (latest_lit _ _ 11 12 [] gw1 (by decide) (by decide) exLatest11).mono ?_
          rintro e w42 ⟨vl2, rfl, hRl2, hB⟩
          obtain ⟨ptl2, qtl2, hv⟩ := exI hRl2 0 rfl
          subst hv
          clear cv1 zv1
          have KP14 := Lib.hid ((KP13.out.up hB).and (keepI hRl2))
          clear KP13
          clear hB hRl2
          clear gw1
          obtain ⟨cv1, zv1⟩ := KP14.out.here.2.2.2.2.2.2.2.2.2.2.1
          go_wp2_with fail
          have gw1 := KP14.out.here.2.2.2.2.2.2.2.2.2.2.2.2.1
          refine (kind_lit _ _ 0 0 2 gw1 exKind0).mono ?_
          rintro e w43 ⟨rfl, hB⟩
          clear cv1 zv1
          have KP15 := Lib.hid (KP14.out.up hB)
          clear KP14
          clear hB
          clear gw1
          obtain ⟨cv1, zv1⟩ := KP15.out.here.2.2.2.2.2.2.2.2.2.2.1
          go_wp2_with fail
          have gw1 := KP15.out.here.2.2.2.2.2.2.2.2.2.2.2.2.1
          refine (kind_lit _ _ 1 0 1 gw1 exKind1).mono ?_
          rintro e w44 ⟨rfl, hB⟩
          clear cv1 zv1
          have KP16 := Lib.hid (KP15.out.up hB)
          clear KP15
          clear hB
          clear gw1
          obtain ⟨cv1, zv1⟩ := KP16.out.here.2.2.2.2.2.2.2.2.2.2.1
          go_wp2_with fail
          have gw1 := KP16.out.here.2.2.2.2.2.2.2.2.2.2.2.2.1
          refine (nocircle_lit _ _ gw1).mono ?_
          rintro e w45 ⟨rfl, hB⟩
          clear cv1 zv1
          have KP17 := Lib.hid (KP16.out.up hB)
          clear KP16
          clear hB
          clear gw1
          go_upto_region 14 with fail
          obtain ⟨G, KG, hG⟩ := KP17.out.name
          have HG := Lib.hid hG
          have KGH := Lib.hid KG
          clear hG KG
          go_cut [27, 28] from 1 to 0 (fun s27 s28 wx => s27 = .int .i64 0 ∧ s28 = .int .i64 14 ∧ Keep wx G)
          case first =>
            rename_i Kb hKb Jc Kc hJc hKc
            clear hKb
            as_aux_lemma =>
              obtain ⟨cv2, zv2⟩ := KP17.out.here.2.2.2.2.2.2.2.2.2.1
              refine wp_region_U [0, 4, 8, 9] [] (by kernel_rfl) (by kernel_rfl) ?_
              intro w46 hBc hh
              clear hh
              have hL := @Later.cell w46
              have kv2 := (hBc.cell (p := ⟨_, _, none⟩) zv2).trans cv2
              have yv2 := Nat.lt_of_lt_of_le zv2 hBc.size
              clear cv2 zv2
              have HRw2 := Lib.hid (KP17.out.here.2.2.2.2.2.2.2.2.2.2.2.1.mono hBc)
              have HB := Lib.hid hBc
              have HS := Lib.hid (bz w46)
              clear hBc KP17 HG
              refine U_heads [0, 4] (by kernel_rfl) ⟨⟨_, HS.out⟩, rfl⟩ ?_
              simp only [pickL, List.getElem?_cons_succ, List.getElem?_cons_zero]
              repeat (go_big_quiet_step (fail))
              refine wpQuiet_nil ?_
              refine U_two 1 5 (by kernel_rfl) ?_ ?_
              · simp only [pickL, List.getElem?_cons_succ, List.getElem?_cons_zero]
                have HRi1 := Lib.hid (rdI_at w46 [0, 1] 3 w46.heap.size rfl (by simp))
                change Hid (RdI (w46.alloc (.cells #[.int .i64 0, .int .i64 1] 3)) .i64 (.slice (some ⟨w46.heap.size, 0, none⟩) 2 2) [0, 1]) at HRi1
                replace HRw2 := Lib.hid (HRw2.out.mono ((bal (bz w46) (.cells #[.int .i64 0, .int .i64 1] 3)) : Below _ _ (w46.alloc (.cells #[.int .i64 0, .int .i64 1] 3))))
                replace HB := Lib.hid (btr HB.out ((bal (bz w46) (.cells #[.int .i64 0, .int .i64 1] 3)) : Below _ _ (w46.alloc (.cells #[.int .i64 0, .int .i64 1] 3))))
                replace HS := Lib.hid (btr HS.out ((bal (bz w46) (.cells #[.int .i64 0, .int .i64 1] 3)) : Below _ _ (w46.alloc (.cells #[.int .i64 0, .int .i64 1] 3))))
                go_wp2
                generalize w46.alloc (Obj.cells #[.int .i64 0, .int .i64 1] 3) = w47 at HRi1 HRw2 HB HS ⊢
                generalize w46.heap.size = si1 at HRi1 ⊢
                refine seg_grow ⟨⟨_, HS.out⟩, rfl⟩ ?_
                refine U_two 2 5 (by kernel_rfl) ?_ ?_
                · simp only [pickL, List.getElem?_cons_succ, List.getElem?_cons_zero]
                  go_wp2_with fail
                  refine (of_id _ _).mono ?_
                  rintro e w' ⟨rfl, rfl⟩
                  go_wp2
                  refine seg_grow ⟨⟨_, HS.out⟩, rfl⟩ ?_
                  refine U_two 3 5 (by kernel_rfl) ?_ ?_
                  · simp only [pickL, List.getElem?_cons_succ, List.getElem?_cons_zero]
                    go_wp2_with fail
                    refine (checkcircle_lit _ _ _ [0, 1] 0 HRw2.out HRi1.out (by decide) exCheckCirc1).mono ?_
                    rintro e w48 ⟨rfl, hB⟩
                    replace HRi1 := Lib.hid (HRi1.out.mono (hB : Below _ _ (w48)))
                    replace HRw2 := Lib.hid (HRw2.out.mono (hB : Below _ _ (w48)))
                    replace HB := Lib.hid (btr HB.out (hB : Below _ _ (w48)))
                    replace HS := Lib.hid (btr HS.out (hB : Below _ _ (w48)))
                    clear hB
                    go_wp2
                    refine seg_grow ⟨⟨_, HS.out⟩, rfl⟩ ?_
                    refine U_one 5 (by kernel_rfl) ?_
                    simp only [pickL, List.getElem?_cons_succ, List.getElem?_cons_zero]
                    have HRi2 := Lib.hid (rdI_at w48 [0] 3 w48.heap.size rfl (by simp))
                    change Hid (RdI (w48.alloc (.cells #[.int .i64 0] 3)) .i64 (.slice (some ⟨w48.heap.size, 0, none⟩) 1 1) [0]) at HRi2
                    replace HRi1 := Lib.hid (HRi1.out.mono ((bal (bz w48) (.cells #[.int .i64 0] 3)) : Below _ _ (w48.alloc (.cells #[.int .i64 0] 3))))
                    replace HRw2 := Lib.hid (HRw2.out.mono ((bal (bz w48) (.cells #[.int .i64 0] 3)) : Below _ _ (w48.alloc (.cells #[.int .i64 0] 3))))
                    replace HB := Lib.hid (btr HB.out ((bal (bz w48) (.cells #[.int .i64 0] 3)) : Below _ _ (w48.alloc (.cells #[.int .i64 0] 3))))
                    replace HS := Lib.hid (btr HS.out ((bal (bz w48) (.cells #[.int .i64 0] 3)) : Below _ _ (w48.alloc (.cells #[.int .i64 0] 3))))
                    go_wp2
                    generalize w48.alloc (Obj.cells #[.int .i64 0] 3) = w49 at HRi1 HRi2 HRw2 HB HS ⊢
                    generalize w48.heap.size = si2 at HRi2 ⊢
                    refine seg_grow ⟨⟨_, HS.out⟩, rfl⟩ ?_
                    refine U_one 6 (by kernel_rfl) ?_
                    simp only [pickL, List.getElem?_cons_succ, List.getElem?_cons_zero]
                    go_wp2_with fail
                    refine (of_id _ _).mono ?_
                    rintro e w' ⟨rfl, rfl⟩
                    go_wp2
                    refine seg_grow ⟨⟨_, HS.out⟩, rfl⟩ ?_
                    refine U_one 7 (by kernel_rfl) ?_
                    simp only [pickL, List.getElem?_cons_succ, List.getElem?_cons_zero]
                    go_wp2_with fail
                    refine (checkcircle_lit _ _ _ [0] 14 HRw2.out HRi2.out (by decide) exCheckCirc2).mono ?_
                    rintro e w50 ⟨rfl, hB⟩
                    replace HRi1 := Lib.hid (HRi1.out.mono (hB : Below _ _ (w50)))
                    replace HRi2 := Lib.hid (HRi2.out.mono (hB : Below _ _ (w50)))
                    replace HRw2 := Lib.hid (HRw2.out.mono (hB : Below _ _ (w50)))
                    replace HB := Lib.hid (btr HB.out (hB : Below _ _ (w50)))
                    replace HS := Lib.hid (btr HS.out (hB : Below _ _ (w50)))
                    clear hB
                    go_wp2
                    refine seg_grow ⟨⟨_, HS.out⟩, rfl⟩ ?_
                    refine U_heads [8, 9] (by kernel_rfl) ⟨⟨_, HS.out⟩, rfl⟩ ?_
                    simp only [pickL, List.getElem?_cons_succ, List.getElem?_cons_zero]
                    repeat (go_big_quiet_step (fail))
                    refine wpQuiet_nil ?_
                    refine U_done (by kernel_rfl) ?_
                    have hK := Lib.hid (KGH.out.up HB.out)
                    go_wp2_with fail
                    go_meet
                    exact ⟨rfl, rfl, hK.out⟩
                  · simp only [pickL, List.getElem?_cons_succ, List.getElem?_cons_zero]
                    have HRi2 := Lib.hid (rdI_at w47 [0] 3 w47.heap.size rfl (by simp))
                    change Hid (RdI (w47.alloc (.cells #[.int .i64 0] 3)) .i64 (.slice (some ⟨w47.heap.size, 0, none⟩) 1 1) [0]) at HRi2
                    replace HRi1 := Lib.hid (HRi1.out.mono ((bal (bz w47) (.cells #[.int .i64 0] 3)) : Below _ _ (w47.alloc (.cells #[.int .i64 0] 3))))
                    replace HRw2 := Lib.hid (HRw2.out.mono ((bal (bz w47) (.cells #[.int .i64 0] 3)) : Below _ _ (w47.alloc (.cells #[.int .i64 0] 3))))
                    replace HB := Lib.hid (btr HB.out ((bal (bz w47) (.cells #[.int .i64 0] 3)) : Below _ _ (w47.alloc (.cells #[.int .i64 0] 3))))
                    replace HS := Lib.hid (btr HS.out ((bal (bz w47) (.cells #[.int .i64 0] 3)) : Below _ _ (w47.alloc (.cells #[.int .i64 0] 3))))
                    go_wp2
                    generalize w47.alloc (Obj.cells #[.int .i64 0] 3) = w51 at HRi1 HRi2 HRw2 HB HS ⊢
                    generalize w47.heap.size = si2 at HRi2 ⊢
                    refine seg_grow ⟨⟨_, HS.out⟩, rfl⟩ ?_
                    refine U_one 3 (by kernel_rfl) ?_
                    simp only [pickL, List.getElem?_cons_succ, List.getElem?_cons_zero]
                    go_wp2_with fail
                    refine (checkcircle_lit _ _ _ [0, 1] 0 HRw2.out HRi1.out (by decide) exCheckCirc1).mono ?_
                    rintro e w52 ⟨rfl, hB⟩
                    replace HRi1 := Lib.hid (HRi1.out.mono (hB : Below _ _ (w52)))
                    replace HRi2 := Lib.hid (HRi2.out.mono (hB : Below _ _ (w52)))
                    replace HRw2 := Lib.hid (HRw2.out.mono (hB : Below _ _ (w52)))
                    replace HB := Lib.hid (btr HB.out (hB : Below _ _ (w52)))
                    replace HS := Lib.hid (btr HS.out (hB : Below _ _ (w52)))
                    clear hB
                    go_wp2
                    refine seg_grow ⟨⟨_, HS.out⟩, rfl⟩ ?_
                    refine U_one 6 (by kernel_rfl) ?_
                    simp only [pickL, List.getElem?_cons_succ, List.getElem?_cons_zero]
                    go_wp2_with fail
                    refine (of_id _ _).mono ?_
                    rintro e w' ⟨rfl, rfl⟩
                    go_wp2
                    refine seg_grow ⟨⟨_, HS.out⟩, rfl⟩ ?_
                    refine U_one 7 (by kernel_rfl) ?_
                    simp only [pickL, List.getElem?_cons_succ, List.getElem?_cons_zero]
                    go_wp2_with fail
                    refine (checkcircle_lit _ _ _ [0] 14 HRw2.out HRi2.out (by decide) exCheckCirc2).mono ?_
                    rintro e w53 ⟨rfl, hB⟩
                    replace HRi1 := Lib.hid (HRi1.out.mono (hB : Below _ _ (w53)))
                    replace HRi2 := Lib.hid (HRi2.out.mono (hB : Below _ _ (w53)))
                    replace HRw2 := Lib.hid (HRw2.out.mono (hB : Below _ _ (w53)))
                    replace HB := Lib.hid (btr HB.out (hB : Below _ _ (w53)))
                    replace HS := Lib.hid (btr HS.out (hB : Below _ _ (w53)))
                    clear hB
                    go_wp2
                    refine seg_grow ⟨⟨_, HS.out⟩, rfl⟩ ?_
                    refine U_heads [8, 9] (by kernel_rfl) ⟨⟨_, HS.out⟩, rfl⟩ ?_
                    simp only [pickL, List.getElem?_cons_succ, List.getElem?_cons_zero]
                    repeat (go_big_quiet_step (fail))
                    refine wpQuiet_nil ?_
                    refine U_done (by kernel_rfl) ?_
                    have hK := Lib.hid (KGH.out.up HB.out)
                    go_wp2_with fail
                    go_meet
                    exact ⟨rfl, rfl, hK.out⟩
                · simp only [pickL, List.getElem?_cons_succ, List.getElem?_cons_zero]
                  have HRi2 := Lib.hid (rdI_at w47 [0] 3 w47.heap.size rfl (by simp))
                  change Hid (RdI (w47.alloc (.cells #[.int .i64 0] 3)) .i64 (.slice (some ⟨w47.heap.size, 0, none⟩) 1 1) [0]) at HRi2
                  replace HRi1 := Lib.hid (HRi1.out.mono ((bal (bz w47) (.cells #[.int .i64 0] 3)) : Below _ _ (w47.alloc (.cells #[.int .i64 0] 3))))
                  replace HRw2 := Lib.hid (HRw2.out.mono ((bal (bz w47) (.cells #[.int .i64 0] 3)) : Below _ _ (w47.alloc (.cells #[.int .i64 0] 3))))
                  replace HB := Lib.hid (btr HB.out ((bal (bz w47) (.cells #[.int .i64 0] 3)) : Below _ _ (w47.alloc (.cells #[.int .i64 0] 3))))
                  replace HS := Lib.hid (btr HS.out ((bal (bz w47) (.cells #[.int .i64 0] 3)) : Below _ _ (w47.alloc (.cells #[.int .i64 0] 3))))
                  go_wp2
                  generalize w47.alloc (Obj.cells #[.int .i64 0] 3) = w54 at HRi1 HRi2 HRw2 HB HS ⊢
                  generalize w47.heap.size = si2 at HRi2 ⊢
                  refine seg_grow ⟨⟨_, HS.out⟩, rfl⟩ ?_
                  refine U_one 2 (by kernel_rfl) ?_
                  simp only [pickL, List.getElem?_cons_succ, List.getElem?_cons_zero]
                  go_wp2_with fail
                  refine (of_id _ _).mono ?_
                  rintro e w' ⟨rfl, rfl⟩
                  go_wp2
                  refine seg_grow ⟨⟨_, HS.out⟩, rfl⟩ ?_
                  refine U_one 3 (by kernel_rfl) ?_
                  simp only [pickL, List.getElem?_cons_succ, List.getElem?_cons_zero]
                  go_wp2_with fail
                  refine (checkcircle_lit _ _ _ [0, 1] 0 HRw2.out HRi1.out (by decide) exCheckCirc1).mono ?_
                  rintro e w55 ⟨rfl, hB⟩
                  replace HRi1 := Lib.hid (HRi1.out.mono (hB : Below _ _ (w55)))
                  replace HRi2 := Lib.hid (HRi2.out.mono (hB : Below _ _ (w55)))
                  replace HRw2 := Lib.hid (HRw2.out.mono (hB : Below _ _ (w55)))
                  replace HB := Lib.hid (btr HB.out (hB : Below _ _ (w55)))
                  replace HS := Lib.hid (btr HS.out (hB : Below _ _ (w55)))
                  clear hB
                  go_wp2
                  refine seg_grow ⟨⟨_, HS.out⟩, rfl⟩ ?_
                  refine U_one 6 (by kernel_rfl) ?_
                  simp only [pickL, List.getElem?_cons_succ, List.getElem?_cons_zero]
                  go_wp2_with fail
                  refine (of_id _ _).mono ?_
                  rintro e w' ⟨rfl, rfl⟩
                  go_wp2
                  refine seg_grow ⟨⟨_, HS.out⟩, rfl⟩ ?_
                  refine U_one 7 (by kernel_rfl) ?_
                  simp only [pickL, List.getElem?_cons_succ, List.getElem?_cons_zero]
                  go_wp2_with fail
                  refine (checkcircle_lit _ _ _ [0] 14 HRw2.out HRi2.out (by decide) exCheckCirc2).mono ?_
                  rintro e w56 ⟨rfl, hB⟩
                  replace HRi1 := Lib.hid (HRi1.out.mono (hB : Below _ _ (w56)))
                  replace HRi2 := Lib.hid (HRi2.out.mono (hB : Below _ _ (w56)))
                  replace HRw2 := Lib.hid (HRw2.out.mono (hB : Below _ _ (w56)))
                  replace HB := Lib.hid (btr HB.out (hB : Below _ _ (w56)))
                  replace HS := Lib.hid (btr HS.out (hB : Below _ _ (w56)))
                  clear hB
                  go_wp2
                  refine seg_grow ⟨⟨_, HS.out⟩, rfl⟩ ?_
                  refine U_heads [8, 9] (by kernel_rfl) ⟨⟨_, HS.out⟩, rfl⟩ ?_
                  simp only [pickL, List.getElem?_cons_succ, List.getElem?_cons_zero]
                  repeat (go_big_quiet_step (fail))
                  refine wpQuiet_nil ?_
                  refine U_done (by kernel_rfl) ?_
                  have hK := Lib.hid (KGH.out.up HB.out)
                  go_wp2_with fail
                  go_meet
                  exact ⟨rfl, rfl, hK.out⟩
              · simp only [pickL, List.getElem?_cons_succ, List.getElem?_cons_zero]
                have HRi2 := Lib.hid (rdI_at w46 [0] 3 w46.heap.size rfl (by simp))
                change Hid (RdI (w46.alloc (.cells #[.int .i64 0] 3)) .i64 (.slice (some ⟨w46.heap.size, 0, none⟩) 1 1) [0]) at HRi2
                replace HRw2 := Lib.hid (HRw2.out.mono ((bal (bz w46) (.cells #[.int .i64 0] 3)) : Below _ _ (w46.alloc (.cells #[.int .i64 0] 3))))
                replace HB := Lib.hid (btr HB.out ((bal (bz w46) (.cells #[.int .i64 0] 3)) : Below _ _ (w46.alloc (.cells #[.int .i64 0] 3))))
                replace HS := Lib.hid (btr HS.out ((bal (bz w46) (.cells #[.int .i64 0] 3)) : Below _ _ (w46.alloc (.cells #[.int .i64 0] 3))))
                go_wp2
                generalize w46.alloc (Obj.cells #[.int .i64 0] 3) = w57 at HRi2 HRw2 HB HS ⊢
                generalize w46.heap.size = si2 at HRi2 ⊢
                refine seg_grow ⟨⟨_, HS.out⟩, rfl⟩ ?_
                refine U_one 1 (by kernel_rfl) ?_
                simp only [pickL, List.getElem?_cons_succ, List.getElem?_cons_zero]
                have HRi1 := Lib.hid (rdI_at w57 [0, 1] 3 w57.heap.size rfl (by simp))
                change Hid (RdI (w57.alloc (.cells #[.int .i64 0, .int .i64 1] 3)) .i64 (.slice (some ⟨w57.heap.size, 0, none⟩) 2 2) [0, 1]) at HRi1
                replace HRi2 := Lib.hid (HRi2.out.mono ((bal (bz w57) (.cells #[.int .i64 0, .int .i64 1] 3)) : Below _ _ (w57.alloc (.cells #[.int .i64 0, .int .i64 1] 3))))
                replace HRw2 := Lib.hid (HRw2.out.mono ((bal (bz w57) (.cells #[.int .i64 0, .int .i64 1] 3)) : Below _ _ (w57.alloc (.cells #[.int .i64 0, .int .i64 1] 3))))
                replace HB := Lib.hid (btr HB.out ((bal (bz w57) (.cells #[.int .i64 0, .int .i64 1] 3)) : Below _ _ (w57.alloc (.cells #[.int .i64 0, .int .i64 1] 3))))
                replace HS := Lib.hid (btr HS.out ((bal (bz w57) (.cells #[.int .i64 0, .int .i64 1] 3)) : Below _ _ (w57.alloc (.cells #[.int .i64 0, .int .i64 1] 3))))
                go_wp2
                generalize w57.alloc (Obj.cells #[.int .i64 0, .int .i64 1] 3) = w58 at HRi1 HRi2 HRw2 HB HS ⊢
                generalize w57.heap.size = si1 at HRi1 ⊢
                refine seg_grow ⟨⟨_, HS.out⟩, rfl⟩ ?_
                refine U_one 2 (by kernel_rfl) ?_
                simp only [pickL, List.getElem?_cons_succ, List.getElem?_cons_zero]
                go_wp2_with fail
                refine (of_id _ _).mono ?_
                rintro e w' ⟨rfl, rfl⟩
                go_wp2
                refine seg_grow ⟨⟨_, HS.out⟩, rfl⟩ ?_
                refine U_one 3 (by kernel_rfl) ?_
                simp only [pickL, List.getElem?_cons_succ, List.getElem?_cons_zero]
                go_wp2_with fail
                refine (checkcircle_lit _ _ _ [0, 1] 0 HRw2.out HRi1.out (by decide) exCheckCirc1).mono ?_
                rintro e w59 ⟨rfl, hB⟩
                replace HRi1 := Lib.hid (HRi1.out.mono (hB : Below _ _ (w59)))
                replace HRi2 := Lib.hid (HRi2.out.mono (hB : Below _ _ (w59)))
                replace HRw2 := Lib.hid (HRw2.out.mono (hB : Below _ _ (w59)))
                replace HB := Lib.hid (btr HB.out (hB : Below _ _ (w59)))
                replace HS := Lib.hid (btr HS.out (hB : Below _ _ (w59)))
                clear hB
                go_wp2
                refine seg_grow ⟨⟨_, HS.out⟩, rfl⟩ ?_
                refine U_one 6 (by kernel_rfl) ?_
                simp only [pickL, List.getElem?_cons_succ, List.getElem?_cons_zero]
                go_wp2_with fail
                refine (of_id _ _).mono ?_
                rintro e w' ⟨rfl, rfl⟩
                go_wp2
                refine seg_grow ⟨⟨_, HS.out⟩, rfl⟩ ?_
                refine U_one 7 (by kernel_rfl) ?_
                simp only [pickL, List.getElem?_cons_succ, List.getElem?_cons_zero]
                go_wp2_with fail
                refine (checkcircle_lit _ _ _ [0] 14 HRw2.out HRi2.out (by decide) exCheckCirc2).mono ?_
                rintro e w60 ⟨rfl, hB⟩
                replace HRi1 := Lib.hid (HRi1.out.mono (hB : Below _ _ (w60)))
                replace HRi2 := Lib.hid (HRi2.out.mono (hB : Below _ _ (w60)))
                replace HRw2 := Lib.hid (HRw2.out.mono (hB : Below _ _ (w60)))
                replace HB := Lib.hid (btr HB.out (hB : Below _ _ (w60)))
                replace HS := Lib.hid (btr HS.out (hB : Below _ _ (w60)))
                clear hB
                go_wp2
                refine seg_grow ⟨⟨_, HS.out⟩, rfl⟩ ?_
                refine U_heads [8, 9] (by kernel_rfl) ⟨⟨_, HS.out⟩, rfl⟩ ?_
                simp only [pickL, List.getElem?_cons_succ, List.getElem?_cons_zero]
                repeat (go_big_quiet_step (fail))
                refine wpQuiet_nil ?_
                refine U_done (by kernel_rfl) ?_
                have hK := Lib.hid (KGH.out.up HB.out)
                go_wp2_with fail
                go_meet
                exact ⟨rfl, rfl, hK.out⟩
          case rest =>
            as_aux_lemma =>
              obtain ⟨rfl, rfl, hK⟩ := hcut
              have KP18 := Lib.hid (hK.imp HG.out)
              clear hK HG KGH KP17
              go_upto_region 15 with fail
              obtain ⟨cv1, zv1⟩ := KP18.out.here.2.2.2.2.2.2.2.2.2.2.1
              refine wp_region_flow [] [([0], 1, true), ([], 2, true), ([], 3, true)] [4, 5, 6, 7, 8] (by kernel_rfl) (by kernel_rfl) ?_
              intro w61 hBc hh
              clear hh
              have kv1 := (hBc.cell (p := ⟨_, _, none⟩) zv1).trans cv1
              have yv1 := Nat.lt_of_lt_of_le zv1 hBc.size
              clear cv1 zv1
              have hL := @Later.cell w61
              have KP19 := Lib.hid ((KP18.out.up hBc).and (keepB (bz w61)))
              clear KP18
              clear hBc
              simp only [flowP, flow, pickL, List.getElem?_cons_succ, List.getElem?_cons_zero]
              refine wpQuiet_nil ?_
              repeat (go_big_quiet_step (fail))
              refine wpQuiet_nil ?_
              go_wp2
              have hR := rdI_at w61 [1, 2] 3 w61.heap.size rfl (by simp)
              have hB := bal (bz w61) (.cells #[.int .i64 1, .int .i64 2] 3)
              change RdI (w61.alloc (.cells #[.int .i64 1, .int .i64 2] 3)) .i64 (.slice (some ⟨w61.heap.size, 0, none⟩) 2 2) [1, 2] at hR
              generalize w61.alloc (.cells #[.int .i64 1, .int .i64 2] 3) = w62 at hR hB ⊢
              have KP20 := Lib.hid ((KP19.out.up hB).and (keepI hR))
              clear KP19
              clear hR hB
              go_wp2
              refine seg_grow ⟨⟨_, KP20.out.here.2.1⟩, rfl⟩ ?_
              refine wpQuiet_nil ?_
              go_wp2_with fail
              refine (of_id _ _).mono ?_
              rintro e w' ⟨rfl, rfl⟩
              go_wp2
              refine seg_grow ⟨⟨_, KP20.out.here.2.1⟩, rfl⟩ ?_
              refine wpQuiet_nil ?_
              go_wp2_with fail
              have gw1 := KP20.out.here.2.2.2.2.2.2.2.2.2.2.2.2.2.2.1
              have gb := KP20.out.here.1
              refine (checkfree_lit _ _ _ [1, 2] 2 0 gw1 gb (by decide) exFree1).mono ?_
              rintro e w63 ⟨rfl, hB⟩
              have KP21 := Lib.hid (KP20.out.up hB)
              clear KP20
              clear hB
              clear gw1 gb
              go_wp2
              refine seg_grow ⟨⟨_, KP21.out.here.2.1⟩, rfl⟩ ?_
              repeat (go_big_quiet_step (fail))
              refine wpQuiet_nil ?_
              refine only_done ?_
              clear hL
              go_upto_region 16 with fail
              obtain ⟨cv1, zv1⟩ := KP21.out.here.2.2.2.2.2.2.2.2.2.2.2.2.1
              refine wp_region_flow [] [([0], 1, true), ([], 2, true), ([], 3, true)] [4, 5, 6, 7, 8] (by kernel_rfl) (by kernel_rfl) ?_
              intro w64 hBc hh
              clear hh
              have kv1 := (hBc.cell (p := ⟨_, _, none⟩) zv1).trans cv1
              have yv1 := Nat.lt_of_lt_of_le zv1 hBc.size
              clear cv1 zv1
              have hL := @Later.cell w64
              have KP22 := Lib.hid ((KP21.out.up hBc).and (keepB (bz w64)))
              clear KP21
              clear hBc
              simp only [flowP, flow, pickL, List.getElem?_cons_succ, List.getElem?_cons_zero]
              refine wpQuiet_nil ?_
              repeat (go_big_quiet_step (fail))
              refine wpQuiet_nil ?_
              go_wp2
              have hR := rdI_at w64 [0, 3] 3 w64.heap.size rfl (by simp)
              have hB := bal (bz w64) (.cells #[.int .i64 0, .int .i64 3] 3)
              change RdI (w64.alloc (.cells #[.int .i64 0, .int .i64 3] 3)) .i64 (.slice (some ⟨w64.heap.size, 0, none⟩) 2 2) [0, 3] at hR
              generalize w64.alloc (.cells #[.int .i64 0, .int .i64 3] 3) = w65 at hR hB ⊢
              have KP23 := Lib.hid ((KP22.out.up hB).and (keepI hR))
              clear KP22
              clear hR hB
              go_wp2
              refine seg_grow ⟨⟨_, KP23.out.here.2.1⟩, rfl⟩ ?_
              refine wpQuiet_nil ?_
              go_wp2_with fail
              refine (of_id _ _).mono ?_
              rintro e w' ⟨rfl, rfl⟩
              go_wp2
              refine seg_grow ⟨⟨_, KP23.out.here.2.1⟩, rfl⟩ ?_
              refine wpQuiet_nil ?_
              go_wp2_with fail
              have gw1 := KP23.out.here.2.2.2.2.2.2.2.2.2.2.2.2.2.2.2.2.1
              have gb := KP23.out.here.1
              refine (checkfree_lit _ _ _ [0, 3] 0 16 gw1 gb (by decide) exFree2).mono ?_
              rintro e w66 ⟨rfl, hB⟩
              have KP24 := Lib.hid (KP23.out.up hB)
              clear KP23
              clear hB
              clear gw1 gb
              go_wp2
              refine seg_grow ⟨⟨_, KP24.out.here.2.1⟩, rfl⟩ ?_
              repeat (go_big_quiet_step (fail))
              refine wpQuiet_nil ?_
              refine only_done ?_
              clear hL
              obtain ⟨cv1, zv1⟩ := KP24.out.here.2.2.2.2.2.2.2.2.2.2.2.2.2.2.1
              go_wp2_with fail
              have gw1 := KP24.out.here.2.2.2.2.2.2.2.2.2.2.2.2.2.2.2.2.1
              refine (free_lit _ _ gw1).mono ?_
              rintro e w67 ⟨vf, rfl, hRf, hB⟩
              obtain ⟨ptf, qtf, hv⟩ := exI hRf 2 rfl
              subst hv
              clear cv1 zv1
              have KP25 := Lib.hid ((KP24.out.up hB).and (keepI hRf))
              clear KP24
              clear hB hRf
              clear gw1
              go_upto_region 18 with fail
              obtain ⟨G, KG, hG⟩ := KP25.out.name
              have HG := Lib.hid hG
              have KGH := Lib.hid KG
              clear hG KG
              go_cut [35, 36] from 1 to 0 (fun s35 s36 wx => s35 = .int .i64 2 ∧ s36 = .int .i64 0 ∧ Keep wx G)
              case first =>
                rename_i Kb hKb Jc Kc hJc hKc
                clear hKb
                as_aux_lemma =>
                  obtain ⟨cv1, zv1⟩ := KP25.out.here.2.2.2.2.2.2.2.2.2.2.2.2.2.2.2.1
                  refine wp_region_U [0, 8, 9, 10, 11, 12] [] (by kernel_rfl) (by kernel_rfl) ?_
                  intro w68 hBc hh
                  clear hh
                  have hL := @Later.cell w68
                  have kv1 := (hBc.cell (p := ⟨_, _, none⟩) zv1).trans cv1
                  have yv1 := Nat.lt_of_lt_of_le zv1 hBc.size
                  clear cv1 zv1
                  have HRw1 := Lib.hid (KP25.out.here.2.2.2.2.2.2.2.2.2.2.2.2.2.2.2.2.2.1.mono hBc)
                  have HB := Lib.hid hBc
                  have HS := Lib.hid (bz w68)
                  clear hBc KP25 HG
                  refine U_heads [0] (by kernel_rfl) ⟨⟨_, HS.out⟩, rfl⟩ ?_
                  simp only [pickL, List.getElem?_cons_zero]
                  repeat (go_big_quiet_step (fail))
                  refine wpQuiet_nil ?_
                  refine U_two 1 3 (by kernel_rfl) ?_ ?_
                  · simp only [pickL, List.getElem?_cons_succ, List.getElem?_cons_zero]
                    have HRi1 := Lib.hid (rdI_at w68 [0, 1, 3] 3 w68.heap.size rfl (by simp))
                    change Hid (RdI (w68.alloc (.cells #[.int .i64 0, .int .i64 1, .int .i64 3] 3)) .i64 (.slice (some ⟨w68.heap.size, 0, none⟩) 3 3) [0, 1, 3]) at HRi1
                    replace HRw1 := Lib.hid (HRw1.out.mono ((bal (bz w68) (.cells #[.int .i64 0, .int .i64 1, .int .i64 3] 3)) : Below _ _ (w68.alloc (.cells #[.int .i64 0, .int .i64 1, .int .i64 3] 3))))
                    replace HB := Lib.hid (btr HB.out ((bal (bz w68) (.cells #[.int .i64 0, .int .i64 1, .int .i64 3] 3)) : Below _ _ (w68.alloc (.cells #[.int .i64 0, .int .i64 1, .int .i64 3] 3))))
                    replace HS := Lib.hid (btr HS.out ((bal (bz w68) (.cells #[.int .i64 0, .int .i64 1, .int .i64 3] 3)) : Below _ _ (w68.alloc (.cells #[.int .i64 0, .int .i64 1, .int .i64 3] 3))))
                    go_wp2
                    generalize w68.alloc (Obj.cells #[.int .i64 0, .int .i64 1, .int .i64 3] 3) = w69 at HRi1 HRw1 HB HS ⊢
                    generalize w68.heap.size = si1 at HRi1 ⊢
                    refine seg_grow ⟨⟨_, HS.out⟩, rfl⟩ ?_
                    refine U_two 2 3 (by kernel_rfl) ?_ ?_
                    · simp only [pickL, List.getElem?_cons_succ, List.getElem?_cons_zero]
                      go_wp2_with fail
                      refine (of_id _ _).mono ?_
                      rintro e w' ⟨rfl, rfl⟩
                      go_wp2
                      refine seg_grow ⟨⟨_, HS.out⟩, rfl⟩ ?_
                      refine U_one 3 (by kernel_rfl) ?_
                      simp only [pickL, List.getElem?_cons_succ, List.getElem?_cons_zero]
                      have HRi2 := Lib.hid (rdI_at w69 [2] 3 w69.heap.size rfl (by simp))
                      change Hid (RdI (w69.alloc (.cells #[.int .i64 2] 3)) .i64 (.slice (some ⟨w69.heap.size, 0, none⟩) 1 1) [2]) at HRi2
                      replace HRi1 := Lib.hid (HRi1.out.mono ((bal (bz w69) (.cells #[.int .i64 2] 3)) : Below _ _ (w69.alloc (.cells #[.int .i64 2] 3))))
                      replace HRw1 := Lib.hid (HRw1.out.mono ((bal (bz w69) (.cells #[.int .i64 2] 3)) : Below _ _ (w69.alloc (.cells #[.int .i64 2] 3))))
                      replace HB := Lib.hid (btr HB.out ((bal (bz w69) (.cells #[.int .i64 2] 3)) : Below _ _ (w69.alloc (.cells #[.int .i64 2] 3))))
                      replace HS := Lib.hid (btr HS.out ((bal (bz w69) (.cells #[.int .i64 2] 3)) : Below _ _ (w69.alloc (.cells #[.int .i64 2] 3))))
                      go_wp2
                      generalize w69.alloc (Obj.cells #[.int .i64 2] 3) = w70 at HRi1 HRi2 HRw1 HB HS ⊢
                      generalize w69.heap.size = si2 at HRi2 ⊢
                      refine seg_grow ⟨⟨_, HS.out⟩, rfl⟩ ?_
                      refine U_one 4 (by kernel_rfl) ?_
                      simp only [pickL, List.getElem?_cons_succ, List.getElem?_cons_zero]
                      go_wp2_with fail
                      refine (of_id _ _).mono ?_
                      rintro e w' ⟨rfl, rfl⟩
                      go_wp2
                      refine seg_grow ⟨⟨_, HS.out⟩, rfl⟩ ?_
                      refine U_one 5 (by kernel_rfl) ?_
                      simp only [pickL, List.getElem?_cons_succ, List.getElem?_cons_zero]
                      have HRi3 := Lib.hid (rdLL_at w70 [.slice (some ⟨si1, 0, none⟩) 3 3, .slice (some ⟨si2, 0, none⟩) 1 1] [[0, 1, 3], [2]] w70.heap.size rfl rfl (by simp) (fun i e he => by
                        match i with
                        | 0 => simp at he; subst he; exact HRi1.out
                        | 1 => simp at he; subst he; exact HRi2.out
                        | n + 2 => simp at he))
                      change Hid (RdLL (w70.alloc (.cells #[.slice (some ⟨si1, 0, none⟩) 3 3, .slice (some ⟨si2, 0, none⟩) 1 1] 41)) (.slice (some ⟨w70.heap.size, 0, none⟩) 2 2) [[0, 1, 3], [2]]) at HRi3
                      replace HRi1 := Lib.hid (HRi1.out.mono ((bal (bz w70) (.cells #[.slice (some ⟨si1, 0, none⟩) 3 3, .slice (some ⟨si2, 0, none⟩) 1 1] 41)) : Below _ _ (w70.alloc (.cells #[.slice (some ⟨si1, 0, none⟩) 3 3, .slice (some ⟨si2, 0, none⟩) 1 1] 41))))
                      replace HRi2 := Lib.hid (HRi2.out.mono ((bal (bz w70) (.cells #[.slice (some ⟨si1, 0, none⟩) 3 3, .slice (some ⟨si2, 0, none⟩) 1 1] 41)) : Below _ _ (w70.alloc (.cells #[.slice (some ⟨si1, 0, none⟩) 3 3, .slice (some ⟨si2, 0, none⟩) 1 1] 41))))
                      replace HRw1 := Lib.hid (HRw1.out.mono ((bal (bz w70) (.cells #[.slice (some ⟨si1, 0, none⟩) 3 3, .slice (some ⟨si2, 0, none⟩) 1 1] 41)) : Below _ _ (w70.alloc (.cells #[.slice (some ⟨si1, 0, none⟩) 3 3, .slice (some ⟨si2, 0, none⟩) 1 1] 41))))
                      replace HB := Lib.hid (btr HB.out ((bal (bz w70) (.cells #[.slice (some ⟨si1, 0, none⟩) 3 3, .slice (some ⟨si2, 0, none⟩) 1 1] 41)) : Below _ _ (w70.alloc (.cells #[.slice (some ⟨si1, 0, none⟩) 3 3, .slice (some ⟨si2, 0, none⟩) 1 1] 41))))
                      replace HS := Lib.hid (btr HS.out ((bal (bz w70) (.cells #[.slice (some ⟨si1, 0, none⟩) 3 3, .slice (some ⟨si2, 0, none⟩) 1 1] 41)) : Below _ _ (w70.alloc (.cells #[.slice (some ⟨si1, 0, none⟩) 3 3, .slice (some ⟨si2, 0, none⟩) 1 1] 41))))
                      go_wp2
                      generalize w70.alloc (Obj.cells #[.slice (some ⟨si1, 0, none⟩) 3 3, .slice (some ⟨si2, 0, none⟩) 1 1] 41) = w71 at HRi1 HRi2 HRi3 HRw1 HB HS ⊢
                      generalize w70.heap.size = si3 at HRi3 ⊢
                      refine seg_grow ⟨⟨_, HS.out⟩, rfl⟩ ?_
                      refine U_one 6 (by kernel_rfl) ?_
                      simp only [pickL, List.getElem?_cons_succ, List.getElem?_cons_zero]
                      go_wp2_with fail
                      refine (lists_id _ _).mono ?_
                      rintro e w' ⟨rfl, rfl⟩
                      go_wp2
                      refine seg_grow ⟨⟨_, HS.out⟩, rfl⟩ ?_
                      refine U_one 7 (by kernel_rfl) ?_
                      simp only [pickL, List.getElem?_cons_succ, List.getElem?_cons_zero]
                      go_wp2_with fail
                      refine (checkcover_lit _ _ _ [[0, 1, 3], [2]] 2 0 HRw1.out HRi3.out (smlR (by decide) (by decide)) exCover1).mono ?_
                      rintro e w72 ⟨rfl, hB⟩
                      replace HRi1 := Lib.hid (HRi1.out.mono (hB : Below _ _ (w72)))
                      replace HRi2 := Lib.hid (HRi2.out.mono (hB : Below _ _ (w72)))
                      replace HRi3 := Lib.hid (HRi3.out.mono (hB : Below _ _ (w72)))
                      replace HRw1 := Lib.hid (HRw1.out.mono (hB : Below _ _ (w72)))
                      replace HB := Lib.hid (btr HB.out (hB : Below _ _ (w72)))
                      replace HS := Lib.hid (btr HS.out (hB : Below _ _ (w72)))
                      clear hB
                      go_wp2
                      refine seg_grow ⟨⟨_, HS.out⟩, rfl⟩ ?_
                      refine U_heads [8, 9, 10, 11, 12] (by kernel_rfl) ⟨⟨_, HS.out⟩, rfl⟩ ?_
                      simp only [pickL, List.getElem?_cons_succ, List.getElem?_cons_zero]
                      repeat (go_big_quiet_step (fail))
                      refine wpQuiet_nil ?_
                      refine U_done (by kernel_rfl) ?_
                      have hK := Lib.hid (KGH.out.up HB.out)
                      go_wp2_with fail
                      go_meet
                      exact ⟨rfl, rfl, hK.out⟩
                    · simp only [pickL, List.getElem?_cons_succ, List.getElem?_cons_zero]
                      have HRi2 := Lib.hid (rdI_at w69 [2] 3 w69.heap.size rfl (by simp))
                      change Hid (RdI (w69.alloc (.cells #[.int .i64 2] 3)) .i64 (.slice (some ⟨w69.heap.size, 0, none⟩) 1 1) [2]) at HRi2
                      replace HRi1 := Lib.hid (HRi1.out.mono ((bal (bz w69) (.cells #[.int .i64 2] 3)) : Below _ _ (w69.alloc (.cells #[.int .i64 2] 3))))
                      replace HRw1 := Lib.hid (HRw1.out.mono ((bal (bz w69) (.cells #[.int .i64 2] 3)) : Below _ _ (w69.alloc (.cells #[.int .i64 2] 3))))
                      replace HB := Lib.hid (btr HB.out ((bal (bz w69) (.cells #[.int .i64 2] 3)) : Below _ _ (w69.alloc (.cells #[.int .i64 2] 3))))
                      replace HS := Lib.hid (btr HS.out ((bal (bz w69) (.cells #[.int .i64 2] 3)) : Below _ _ (w69.alloc (.cells #[.int .i64 2] 3))))
                      go_wp2
                      generalize w69.alloc (Obj.cells #[.int .i64 2] 3) = w73 at HRi1 HRi2 HRw1 HB HS ⊢
                      generalize w69.heap.size = si2 at HRi2 ⊢
                      refine seg_grow ⟨⟨_, HS.out⟩, rfl⟩ ?_
                      refine U_one 2 (by kernel_rfl) ?_
                      simp only [pickL, List.getElem?_cons_succ, List.getElem?_cons_zero]
                      go_wp2_with fail
                      refine (of_id _ _).mono ?_
                      rintro e w' ⟨rfl, rfl⟩
                      go_wp2
                      refine seg_grow ⟨⟨_, HS.out⟩, rfl⟩ ?_
                      refine U_one 4 (by kernel_rfl) ?_
                      simp only [pickL, List.getElem?_cons_succ, List.getElem?_cons_zero]
                      go_wp2_with fail
                      refine (of_id _ _).mono ?_
                      rintro e w' ⟨rfl, rfl⟩
                      go_wp2
                      refine seg_grow ⟨⟨_, HS.out⟩, rfl⟩ ?_
                      refine U_one 5 (by kernel_rfl) ?_
                      simp only [pickL, List.getElem?_cons_succ, List.getElem?_cons_zero]
                      have HRi3 := Lib.hid (rdLL_at w73 [.slice (some ⟨si1, 0, none⟩) 3 3, .slice (some ⟨si2, 0, none⟩) 1 1] [[0, 1, 3], [2]] w73.heap.size rfl rfl (by simp) (fun i e he => by
                        match i with
                        | 0 => simp at he; subst he; exact HRi1.out
                        | 1 => simp at he; subst he; exact HRi2.out
                        | n + 2 => simp at he))
                      change Hid (RdLL (w73.alloc (.cells #[.slice (some ⟨si1, 0, none⟩) 3 3, .slice (some ⟨si2, 0, none⟩) 1 1] 41)) (.slice (some ⟨w73.heap.size, 0, none⟩) 2 2) [[0, 1, 3], [2]]) at HRi3
                      replace HRi1 := Lib.hid (HRi1.out.mono ((bal (bz w73) (.cells #[.slice (some ⟨si1, 0, none⟩) 3 3, .slice (some ⟨si2, 0, none⟩) 1 1] 41)) : Below _ _ (w73.alloc (.cells #[.slice (some ⟨si1, 0, none⟩) 3 3, .slice (some ⟨si2, 0, none⟩) 1 1] 41))))
                      replace HRi2 := Lib.hid (HRi2.out.mono ((bal (bz w73) (.cells #[.slice (some ⟨si1, 0, none⟩) 3 3, .slice (some ⟨si2, 0, none⟩) 1 1] 41)) : Below _ _ (w73.alloc (.cells #[.slice (some ⟨si1, 0, none⟩) 3 3, .slice (some ⟨si2, 0, none⟩) 1 1] 41))))
                      replace HRw1 := Lib.hid (HRw1.out.mono ((bal (bz w73) (.cells #[.slice (some ⟨si1, 0, none⟩) 3 3, .slice (some ⟨si2, 0, none⟩) 1 1] 41)) : Below _ _ (w73.alloc (.cells #[.slice (some ⟨si1, 0, none⟩) 3 3, .slice (some ⟨si2, 0, none⟩) 1 1] 41))))
                      replace HB := Lib.hid (btr HB.out ((bal (bz w73) (.cells #[.slice (some ⟨si1, 0, none⟩) 3 3, .slice (some ⟨si2, 0, none⟩) 1 1] 41)) : Below _ _ (w73.alloc (.cells #[.slice (some ⟨si1, 0, none⟩) 3 3, .slice (some ⟨si2, 0, none⟩) 1 1] 41))))
                      replace HS := Lib.hid (btr HS.out ((bal (bz w73) (.cells #[.slice (some ⟨si1, 0, none⟩) 3 3, .slice (some ⟨si2, 0, none⟩) 1 1] 41)) : Below _ _ (w73.alloc (.cells #[.slice (some ⟨si1, 0, none⟩) 3 3, .slice (some ⟨si2, 0, none⟩) 1 1] 41))))
                      go_wp2
                      generalize w73.alloc (Obj.cells #[.slice (some ⟨si1, 0, none⟩) 3 3, .slice (some ⟨si2, 0, none⟩) 1 1] 41) = w74 at HRi1 HRi2 HRi3 HRw1 HB HS ⊢
                      generalize w73.heap.size = si3 at HRi3 ⊢
                      refine seg_grow ⟨⟨_, HS.out⟩, rfl⟩ ?_
                      refine U_one 6 (by kernel_rfl) ?_
                      simp only [pickL, List.getElem?_cons_succ, List.getElem?_cons_zero]
                      go_wp2_with fail
                      refine (lists_id _ _).mono ?_
                      rintro e w' ⟨rfl, rfl⟩
                      go_wp2
                      refine seg_grow ⟨⟨_, HS.out⟩, rfl⟩ ?_
                      refine U_one 7 (by kernel_rfl) ?_
                      simp only [pickL, List.getElem?_cons_succ, List.getElem?_cons_zero]
                      go_wp2_with fail
                      refine (checkcover_lit _ _ _ [[0, 1, 3], [2]] 2 0 HRw1.out HRi3.out (smlR (by decide) (by decide)) exCover1).mono ?_
                      rintro e w75 ⟨rfl, hB⟩
                      replace HRi1 := Lib.hid (HRi1.out.mono (hB : Below _ _ (w75)))
                      replace HRi2 := Lib.hid (HRi2.out.mono (hB : Below _ _ (w75)))
                      replace HRi3 := Lib.hid (HRi3.out.mono (hB : Below _ _ (w75)))
                      replace HRw1 := Lib.hid (HRw1.out.mono (hB : Below _ _ (w75)))
                      replace HB := Lib.hid (btr HB.out (hB : Below _ _ (w75)))
                      replace HS := Lib.hid (btr HS.out (hB : Below _ _ (w75)))
                      clear hB
                      go_wp2
                      refine seg_grow ⟨⟨_, HS.out⟩, rfl⟩ ?_
                      refine U_heads [8, 9, 10, 11, 12] (by kernel_rfl) ⟨⟨_, HS.out⟩, rfl⟩ ?_
                      simp only [pickL, List.getElem?_cons_succ, List.getElem?_cons_zero]
                      repeat (go_big_quiet_step (fail))
                      refine wpQuiet_nil ?_
                      refine U_done (by kernel_rfl) ?_
                      have hK := Lib.hid (KGH.out.up HB.out)
                      go_wp2_with fail
                      go_meet
                      exact ⟨rfl, rfl, hK.out⟩
                  · simp only [pickL, List.getElem?_cons_succ, List.getElem?_cons_zero]
                    have HRi2 := Lib.hid (rdI_at w68 [2] 3 w68.heap.size rfl (by simp))
                    change Hid (RdI (w68.alloc (.cells #[.int .i64 2] 3)) .i64 (.slice (some ⟨w68.heap.size, 0, none⟩) 1 1) [2]) at HRi2
                    replace HRw1 := Lib.hid (HRw1.out.mono ((bal (bz w68) (.cells #[.int .i64 2] 3)) : Below _ _ (w68.alloc (.cells #[.int .i64 2] 3))))
                    replace HB := Lib.hid (btr HB.out ((bal (bz w68) (.cells #[.int .i64 2] 3)) : Below _ _ (w68.alloc (.cells #[.int .i64 2] 3))))
                    replace HS := Lib.hid (btr HS.out ((bal (bz w68) (.cells #[.int .i64 2] 3)) : Below _ _ (w68.alloc (.cells #[.int .i64 2] 3))))
                    go_wp2
                    generalize w68.alloc (Obj.cells #[.int .i64 2] 3) = w76 at HRi2 HRw1 HB HS ⊢
                    generalize w68.heap.size = si2 at HRi2 ⊢
                    refine seg_grow ⟨⟨_, HS.out⟩, rfl⟩ ?_
                    refine U_one 1 (by kernel_rfl) ?_
                    simp only [pickL, List.getElem?_cons_succ, List.getElem?_cons_zero]
                    have HRi1 := Lib.hid (rdI_at w76 [0, 1, 3] 3 w76.heap.size rfl (by simp))
                    change Hid (RdI (w76.alloc (.cells #[.int .i64 0, .int .i64 1, .int .i64 3] 3)) .i64 (.slice (some ⟨w76.heap.size, 0, none⟩) 3 3) [0, 1, 3]) at HRi1
                    replace HRi2 := Lib.hid (HRi2.out.mono ((bal (bz w76) (.cells #[.int .i64 0, .int .i64 1, .int .i64 3] 3)) : Below _ _ (w76.alloc (.cells #[.int .i64 0, .int .i64 1, .int .i64 3] 3))))
                    replace HRw1 := Lib.hid (HRw1.out.mono ((bal (bz w76) (.cells #[.int .i64 0, .int .i64 1, .int .i64 3] 3)) : Below _ _ (w76.alloc (.cells #[.int .i64 0, .int .i64 1, .int .i64 3] 3))))
                    replace HB := Lib.hid (btr HB.out ((bal (bz w76) (.cells #[.int .i64 0, .int .i64 1, .int .i64 3] 3)) : Below _ _ (w76.alloc (.cells #[.int .i64 0, .int .i64 1, .int .i64 3] 3))))
                    replace HS := Lib.hid (btr HS.out ((bal (bz w76) (.cells #[.int .i64 0, .int .i64 1, .int .i64 3] 3)) : Below _ _ (w76.alloc (.cells #[.int .i64 0, .int .i64 1, .int .i64 3] 3))))
                    go_wp2
                    generalize w76.alloc (Obj.cells #[.int .i64 0, .int .i64 1, .int .i64 3] 3) = w77 at HRi1 HRi2 HRw1 HB HS ⊢
                    generalize w76.heap.size = si1 at HRi1 ⊢
                    refine seg_grow ⟨⟨_, HS.out⟩, rfl⟩ ?_
                    refine U_one 2 (by kernel_rfl) ?_
                    simp only [pickL, List.getElem?_cons_succ, List.getElem?_cons_zero]
                    go_wp2_with fail
                    refine (of_id _ _).mono ?_
                    rintro e w' ⟨rfl, rfl⟩
                    go_wp2
                    refine seg_grow ⟨⟨_, HS.out⟩, rfl⟩ ?_
                    refine U_one 4 (by kernel_rfl) ?_
                    simp only [pickL, List.getElem?_cons_succ, List.getElem?_cons_zero]
                    go_wp2_with fail
                    refine (of_id _ _).mono ?_
                    rintro e w' ⟨rfl, rfl⟩
                    go_wp2
                    refine seg_grow ⟨⟨_, HS.out⟩, rfl⟩ ?_
                    refine U_one 5 (by kernel_rfl) ?_
                    simp only [pickL, List.getElem?_cons_succ, List.getElem?_cons_zero]
                    have HRi3 := Lib.hid (rdLL_at w77 [.slice (some ⟨si1, 0, none⟩) 3 3, .slice (some ⟨si2, 0, none⟩) 1 1] [[0, 1, 3], [2]] w77.heap.size rfl rfl (by simp) (fun i e he => by
                      match i with
                      | 0 => simp at he; subst he; exact HRi1.out
                      | 1 => simp at he; subst he; exact HRi2.out
                      | n + 2 => simp at he))
                    change Hid (RdLL (w77.alloc (.cells #[.slice (some ⟨si1, 0, none⟩) 3 3, .slice (some ⟨si2, 0, none⟩) 1 1] 41)) (.slice (some ⟨w77.heap.size, 0, none⟩) 2 2) [[0, 1, 3], [2]]) at HRi3
                    replace HRi1 := Lib.hid (HRi1.out.mono ((bal (bz w77) (.cells #[.slice (some ⟨si1, 0, none⟩) 3 3, .slice (some ⟨si2, 0, none⟩) 1 1] 41)) : Below _ _ (w77.alloc (.cells #[.slice (some ⟨si1, 0, none⟩) 3 3, .slice (some ⟨si2, 0, none⟩) 1 1] 41))))
                    replace HRi2 := Lib.hid (HRi2.out.mono ((bal (bz w77) (.cells #[.slice (some ⟨si1, 0, none⟩) 3 3, .slice (some ⟨si2, 0, none⟩) 1 1] 41)) : Below _ _ (w77.alloc (.cells #[.slice (some ⟨si1, 0, none⟩) 3 3, .slice (some ⟨si2, 0, none⟩) 1 1] 41))))
                    replace HRw1 := Lib.hid (HRw1.out.mono ((bal (bz w77) (.cells #[.slice (some ⟨si1, 0, none⟩) 3 3, .slice (some ⟨si2, 0, none⟩) 1 1] 41)) : Below _ _ (w77.alloc (.cells #[.slice (some ⟨si1, 0, none⟩) 3 3, .slice (some ⟨si2, 0, none⟩) 1 1] 41))))
                    replace HB := Lib.hid (btr HB.out ((bal (bz w77) (.cells #[.slice (some ⟨si1, 0, none⟩) 3 3, .slice (some ⟨si2, 0, none⟩) 1 1] 41)) : Below _ _ (w77.alloc (.cells #[.slice (some ⟨si1, 0, none⟩) 3 3, .slice (some ⟨si2, 0, none⟩) 1 1] 41))))
                    replace HS := Lib.hid (btr HS.out ((bal (bz w77) (.cells #[.slice (some ⟨si1, 0, none⟩) 3 3, .slice (some ⟨si2, 0, none⟩) 1 1] 41)) : Below _ _ (w77.alloc (.cells #[.slice (some ⟨si1, 0, none⟩) 3 3, .slice (some ⟨si2, 0, none⟩) 1 1] 41))))
                    go_wp2
                    generalize w77.alloc (Obj.cells #[.slice (some ⟨si1, 0, none⟩) 3 3, .slice (some ⟨si2, 0, none⟩) 1 1] 41) = w78 at HRi1 HRi2 HRi3 HRw1 HB HS ⊢
                    generalize w77.heap.size = si3 at HRi3 ⊢
                    refine seg_grow ⟨⟨_, HS.out⟩, rfl⟩ ?_
                    refine U_one 6 (by kernel_rfl) ?_
                    simp only [pickL, List.getElem?_cons_succ, List.getElem?_cons_zero]
                    go_wp2_with fail
                    refine (lists_id _ _).mono ?_
                    rintro e w' ⟨rfl, rfl⟩
                    go_wp2
                    refine seg_grow ⟨⟨_, HS.out⟩, rfl⟩ ?_
                    refine U_one 7 (by kernel_rfl) ?_
                    simp only [pickL, List.getElem?_cons_succ, List.getElem?_cons_zero]
                    go_wp2_with fail
                    refine (checkcover_lit _ _ _ [[0, 1, 3], [2]] 2 0 HRw1.out HRi3.out (smlR (by decide) (by decide)) exCover1).mono ?_
                    rintro e w79 ⟨rfl, hB⟩
                    replace HRi1 := Lib.hid (HRi1.out.mono (hB : Below _ _ (w79)))
                    replace HRi2 := Lib.hid (HRi2.out.mono (hB : Below _ _ (w79)))
                    replace HRi3 := Lib.hid (HRi3.out.mono (hB : Below _ _ (w79)))
                    replace HRw1 := Lib.hid (HRw1.out.mono (hB : Below _ _ (w79)))
                    replace HB := Lib.hid (btr HB.out (hB : Below _ _ (w79)))
                    replace HS := Lib.hid (btr HS.out (hB : Below _ _ (w79)))
                    clear hB
                    go_wp2
                    refine seg_grow ⟨⟨_, HS.out⟩, rfl⟩ ?_
                    refine U_heads [8, 9, 10, 11, 12] (by kernel_rfl) ⟨⟨_, HS.out⟩, rfl⟩ ?_
                    simp only [pickL, List.getElem?_cons_succ, List.getElem?_cons_zero]
                    repeat (go_big_quiet_step (fail))
                    refine wpQuiet_nil ?_
                    refine U_done (by kernel_rfl) ?_
                    have hK := Lib.hid (KGH.out.up HB.out)
                    go_wp2_with fail
                    go_meet
                    exact ⟨rfl, rfl, hK.out⟩
              case rest =>
                as_aux_lemma =>
                  obtain ⟨rfl, rfl, hK⟩ := hcut
                  have KP26 := Lib.hid (hK.imp HG.out)
                  clear hK HG KGH KP25
                  go_upto_region 19 with fail
                  obtain ⟨G, KG, hG⟩ := KP26.out.name
                  have HG := Lib.hid hG
                  have KGH := Lib.hid KG
                  clear hG KG
                  go_cut [37, 38] from 1 to 0 (fun s37 s38 wx => s37 = .int .i64 0 ∧ s38 = .int .i64 16 ∧ Keep wx G)
                  case first =>
                    rename_i Kb hKb Jc Kc hJc hKc
                    clear hKb
                    as_aux_lemma =>
                      obtain ⟨cv1, zv1⟩ := KP26.out.here.2.2.2.2.2.2.2.2.2.2.2.2.2.2.2.1
                      refine wp_region_U [0, 8, 9, 10, 11, 12] [] (by kernel_rfl) (by kernel_rfl) ?_
                      intro w80 hBc hh
                      clear hh
                      have hL := @Later.cell w80
                      have kv1 := (hBc.cell (p := ⟨_, _, none⟩) zv1).trans cv1
                      have yv1 := Nat.lt_of_lt_of_le zv1 hBc.size
                      clear cv1 zv1
                      have HRw1 := Lib.hid (KP26.out.here.2.2.2.2.2.2.2.2.2.2.2.2.2.2.2.2.2.1.mono hBc)
                      have HB := Lib.hid hBc
                      have HS := Lib.hid (bz w80)
                      clear hBc KP26 HG
                      refine U_heads [0] (by kernel_rfl) ⟨⟨_, HS.out⟩, rfl⟩ ?_
                      simp only [pickL, List.getElem?_cons_zero]
                      repeat (go_big_quiet_step (fail))
                      refine wpQuiet_nil ?_
                      refine U_two 1 3 (by kernel_rfl) ?_ ?_
                      · simp only [pickL, List.getElem?_cons_succ, List.getElem?_cons_zero]
                        have HRi1 := Lib.hid (rdI_at w80 [0, 3] 3 w80.heap.size rfl (by simp))
                        change Hid (RdI (w80.alloc (.cells #[.int .i64 0, .int .i64 3] 3)) .i64 (.slice (some ⟨w80.heap.size, 0, none⟩) 2 2) [0, 3]) at HRi1
                        replace HRw1 := Lib.hid (HRw1.out.mono ((bal (bz w80) (.cells #[.int .i64 0, .int .i64 3] 3)) : Below _ _ (w80.alloc (.cells #[.int .i64 0, .int .i64 3] 3))))
                        replace HB := Lib.hid (btr HB.out ((bal (bz w80) (.cells #[.int .i64 0, .int .i64 3] 3)) : Below _ _ (w80.alloc (.cells #[.int .i64 0, .int .i64 3] 3))))
                        replace HS := Lib.hid (btr HS.out ((bal (bz w80) (.cells #[.int .i64 0, .int .i64 3] 3)) : Below _ _ (w80.alloc (.cells #[.int .i64 0, .int .i64 3] 3))))
                        go_wp2
                        generalize w80.alloc (Obj.cells #[.int .i64 0, .int .i64 3] 3) = w81 at HRi1 HRw1 HB HS ⊢
                        generalize w80.heap.size = si1 at HRi1 ⊢
                        refine seg_grow ⟨⟨_, HS.out⟩, rfl⟩ ?_
                        refine U_two 2 3 (by kernel_rfl) ?_ ?_
                        · simp only [pickL, List.getElem?_cons_succ, List.getElem?_cons_zero]
                          go_wp2_with fail
                          refine (of_id _ _).mono ?_
                          rintro e w' ⟨rfl, rfl⟩
                          go_wp2
                          refine seg_grow ⟨⟨_, HS.out⟩, rfl⟩ ?_
                          refine U_one 3 (by kernel_rfl) ?_
                          simp only [pickL, List.getElem?_cons_succ, List.getElem?_cons_zero]
                          have HRi2 := Lib.hid (rdI_at w81 [1, 2] 3 w81.heap.size rfl (by simp))
                          change Hid (RdI (w81.alloc (.cells #[.int .i64 1, .int .i64 2] 3)) .i64 (.slice (some ⟨w81.heap.size, 0, none⟩) 2 2) [1, 2]) at HRi2
                          replace HRi1 := Lib.hid (HRi1.out.mono ((bal (bz w81) (.cells #[.int .i64 1, .int .i64 2] 3)) : Below _ _ (w81.alloc (.cells #[.int .i64 1, .int .i64 2] 3))))
                          replace HRw1 := Lib.hid (HRw1.out.mono ((bal (bz w81) (.cells #[.int .i64 1, .int .i64 2] 3)) : Below _ _ (w81.alloc (.cells #[.int .i64 1, .int .i64 2] 3))))
                          replace HB := Lib.hid (btr HB.out ((bal (bz w81) (.cells #[.int .i64 1, .int .i64 2] 3)) : Below _ _ (w81.alloc (.cells #[.int .i64 1, .int .i64 2] 3))))
                          replace HS := Lib.hid (btr HS.out ((bal (bz w81) (.cells #[.int .i64 1, .int .i64 2] 3)) : Below _ _ (w81.alloc (.cells #[.int .i64 1, .int .i64 2] 3))))
                          go_wp2
                          generalize w81.alloc (Obj.cells #[.int .i64 1, .int .i64 2] 3) = w82 at HRi1 HRi2 HRw1 HB HS ⊢
                          generalize w81.heap.size = si2 at HRi2 ⊢
                          refine seg_grow ⟨⟨_, HS.out⟩, rfl⟩ ?_
                          refine U_one 4 (by kernel_rfl) ?_
                          simp only [pickL, List.getElem?_cons_succ, List.getElem?_cons_zero]
                          go_wp2_with fail
                          refine (of_id _ _).mono ?_
                          rintro e w' ⟨rfl, rfl⟩
                          go_wp2
                          refine seg_grow ⟨⟨_, HS.out⟩, rfl⟩ ?_
                          refine U_one 5 (by kernel_rfl) ?_
                          simp only [pickL, List.getElem?_cons_succ, List.getElem?_cons_zero]
                          have HRi3 := Lib.hid (rdLL_at w82 [.slice (some ⟨si1, 0, none⟩) 2 2, .slice (some ⟨si2, 0, none⟩) 2 2] [[0, 3], [1, 2]] w82.heap.size rfl rfl (by simp) (fun i e he => by
                            match i with
                            | 0 => simp at he; subst he; exact HRi1.out
                            | 1 => simp at he; subst he; exact HRi2.out
                            | n + 2 => simp at he))
                          change Hid (RdLL (w82.alloc (.cells #[.slice (some ⟨si1, 0, none⟩) 2 2, .slice (some ⟨si2, 0, none⟩) 2 2] 41)) (.slice (some ⟨w82.heap.size, 0, none⟩) 2 2) [[0, 3], [1, 2]]) at HRi3
                          replace HRi1 := Lib.hid (HRi1.out.mono ((bal (bz w82) (.cells #[.slice (some ⟨si1, 0, none⟩) 2 2, .slice (some ⟨si2, 0, none⟩) 2 2] 41)) : Below _ _ (w82.alloc (.cells #[.slice (some ⟨si1, 0, none⟩) 2 2, .slice (some ⟨si2, 0, none⟩) 2 2] 41))))
                          replace HRi2 := Lib.hid (HRi2.out.mono ((bal (bz w82) (.cells #[.slice (some ⟨si1, 0, none⟩) 2 2, .slice (some ⟨si2, 0, none⟩) 2 2] 41)) : Below _ _ (w82.alloc (.cells #[.slice (some ⟨si1, 0, none⟩) 2 2, .slice (some ⟨si2, 0, none⟩) 2 2] 41))))
                          replace HRw1 := Lib.hid (HRw1.out.mono ((bal (bz w82) (.cells #[.slice (some ⟨si1, 0, none⟩) 2 2, .slice (some ⟨si2, 0, none⟩) 2 2] 41)) : Below _ _ (w82.alloc (.cells #[.slice (some ⟨si1, 0, none⟩) 2 2, .slice (some ⟨si2, 0, none⟩) 2 2] 41))))
                          replace HB := Lib.hid (btr HB.out ((bal (bz w82) (.cells #[.slice (some ⟨si1, 0, none⟩) 2 2, .slice (some ⟨si2, 0, none⟩) 2 2] 41)) : Below _ _ (w82.alloc (.cells #[.slice (some ⟨si1, 0, none⟩) 2 2, .slice (some ⟨si2, 0, none⟩) 2 2] 41))))
                          replace HS := Lib.hid (btr HS.out ((bal (bz w82) (.cells #[.slice (some ⟨si1, 0, none⟩) 2 2, .slice (some ⟨si2, 0, none⟩) 2 2] 41)) : Below _ _ (w82.alloc (.cells #[.slice (some ⟨si1, 0, none⟩) 2 2, .slice (some ⟨si2, 0, none⟩) 2 2] 41))))
                          go_wp2
                          generalize w82.alloc (Obj.cells #[.slice (some ⟨si1, 0, none⟩) 2 2, .slice (some ⟨si2, 0, none⟩) 2 2] 41) = w83 at HRi1 HRi2 HRi3 HRw1 HB HS ⊢
                          generalize w82.heap.size = si3 at HRi3 ⊢
                          refine seg_grow ⟨⟨_, HS.out⟩, rfl⟩ ?_
                          refine U_one 6 (by kernel_rfl) ?_
                          simp only [pickL, List.getElem?_cons_succ, List.getElem?_cons_zero]
                          go_wp2_with fail
                          refine (lists_id _ _).mono ?_
                          rintro e w' ⟨rfl, rfl⟩
                          go_wp2
                          refine seg_grow ⟨⟨_, HS.out⟩, rfl⟩ ?_
                          refine U_one 7 (by kernel_rfl) ?_
                          simp only [pickL, List.getElem?_cons_succ, List.getElem?_cons_zero]
                          go_wp2_with fail
                          refine (checkcover_lit _ _ _ [[0, 3], [1, 2]] 0 16 HRw1.out HRi3.out (smlR (by decide) (by decide)) exCover2).mono ?_
                          rintro e w84 ⟨rfl, hB⟩
                          replace HRi1 := Lib.hid (HRi1.out.mono (hB : Below _ _ (w84)))
                          replace HRi2 := Lib.hid (HRi2.out.mono (hB : Below _ _ (w84)))
                          replace HRi3 := Lib.hid (HRi3.out.mono (hB : Below _ _ (w84)))
                          replace HRw1 := Lib.hid (HRw1.out.mono (hB : Below _ _ (w84)))
                          replace HB := Lib.hid (btr HB.out (hB : Below _ _ (w84)))
                          replace HS := Lib.hid (btr HS.out (hB : Below _ _ (w84)))
                          clear hB
                          go_wp2
                          refine seg_grow ⟨⟨_, HS.out⟩, rfl⟩ ?_
                          refine U_heads [8, 9, 10, 11, 12] (by kernel_rfl) ⟨⟨_, HS.out⟩, rfl⟩ ?_
                          simp only [pickL, List.getElem?_cons_succ, List.getElem?_cons_zero]
                          repeat (go_big_quiet_step (fail))
                          refine wpQuiet_nil ?_
                          refine U_done (by kernel_rfl) ?_
                          have hK := Lib.hid (KGH.out.up HB.out)
                          go_wp2_with fail
                          go_meet
                          exact ⟨rfl, rfl, hK.out⟩
                        · simp only [pickL, List.getElem?_cons_succ, List.getElem?_cons_zero]
                          have HRi2 := Lib.hid (rdI_at w81 [1, 2] 3 w81.heap.size rfl (by simp))
                          change Hid (RdI (w81.alloc (.cells #[.int .i64 1, .int .i64 2] 3)) .i64 (.slice (some ⟨w81.heap.size, 0, none⟩) 2 2) [1, 2]) at HRi2
                          replace HRi1 := Lib.hid (HRi1.out.mono ((bal (bz w81) (.cells #[.int .i64 1, .int .i64 2] 3)) : Below _ _ (w81.alloc (.cells #[.int .i64 1, .int .i64 2] 3))))
                          replace HRw1 := Lib.hid (HRw1.out.mono ((bal (bz w81) (.cells #[.int .i64 1, .int .i64 2] 3)) : Below _ _ (w81.alloc (.cells #[.int .i64 1, .int .i64 2] 3))))
                          replace HB := Lib.hid (btr HB.out ((bal (bz w81) (.cells #[.int .i64 1, .int .i64 2] 3)) : Below _ _ (w81.alloc (.cells #[.int .i64 1, .int .i64 2] 3))))
                          replace HS := Lib.hid (btr HS.out ((bal (bz w81) (.cells #[.int .i64 1, .int .i64 2] 3)) : Below _ _ (w81.alloc (.cells #[.int .i64 1, .int .i64 2] 3))))
                          go_wp2
                          generalize w81.alloc (Obj.cells #[.int .i64 1, .int .i64 2] 3) = w85 at HRi1 HRi2 HRw1 HB HS ⊢
                          generalize w81.heap.size = si2 at HRi2 ⊢
                          refine seg_grow ⟨⟨_, HS.out⟩, rfl⟩ ?_
                          refine U_one 2 (by kernel_rfl) ?_
                          simp only [pickL, List.getElem?_cons_succ, List.getElem?_cons_zero]
                          go_wp2_with fail
                          refine (of_id _ _).mono ?_
                          rintro e w' ⟨rfl, rfl⟩
                          go_wp2
                          refine seg_grow ⟨⟨_, HS.out⟩, rfl⟩ ?_
                          refine U_one 4 (by kernel_rfl) ?_
                          simp only [pickL, List.getElem?_cons_succ, List.getElem?_cons_zero]
                          go_wp2_with fail
                          refine (of_id _ _).mono ?_
                          rintro e w' ⟨rfl, rfl⟩
                          go_wp2
                          refine seg_grow ⟨⟨_, HS.out⟩, rfl⟩ ?_
                          refine U_one 5 (by kernel_rfl) ?_
                          simp only [pickL, List.getElem?_cons_succ, List.getElem?_cons_zero]
                          have HRi3 := Lib.hid (rdLL_at w85 [.slice (some ⟨si1, 0, none⟩) 2 2, .slice (some ⟨si2, 0, none⟩) 2 2] [[0, 3], [1, 2]] w85.heap.size rfl rfl (by simp) (fun i e he => by
                            match i with
                            | 0 => simp at he; subst he; exact HRi1.out
                            | 1 => simp at he; subst he; exact HRi2.out
                            | n + 2 => simp at he))
                          change Hid (RdLL (w85.alloc (.cells #[.slice (some ⟨si1, 0, none⟩) 2 2, .slice (some ⟨si2, 0, none⟩) 2 2] 41)) (.slice (some ⟨w85.heap.size, 0, none⟩) 2 2) [[0, 3], [1, 2]]) at HRi3
                          replace HRi1 := Lib.hid (HRi1.out.mono ((bal (bz w85) (.cells #[.slice (some ⟨si1, 0, none⟩) 2 2, .slice (some ⟨si2, 0, none⟩) 2 2] 41)) : Below _ _ (w85.alloc (.cells #[.slice (some ⟨si1, 0, none⟩) 2 2, .slice (some ⟨si2, 0, none⟩) 2 2] 41))))
                          replace HRi2 := Lib.hid (HRi2.out.mono ((bal (bz w85) (.cells #[.slice (some ⟨si1, 0, none⟩) 2 2, .slice (some ⟨si2, 0, none⟩) 2 2] 41)) : Below _ _ (w85.alloc (.cells #[.slice (some ⟨si1, 0, none⟩) 2 2, .slice (some ⟨si2, 0, none⟩) 2 2] 41))))
                          replace HRw1 := Lib.hid (HRw1.out.mono ((bal (bz w85) (.cells #[.slice (some ⟨si1, 0, none⟩) 2 2, .slice (some ⟨si2, 0, none⟩) 2 2] 41)) : Below _ _ (w85.alloc (.cells #[.slice (some ⟨si1, 0, none⟩) 2 2, .slice (some ⟨si2, 0, none⟩) 2 2] 41))))
                          replace HB := Lib.hid (btr HB.out ((bal (bz w85) (.cells #[.slice (some ⟨si1, 0, none⟩) 2 2, .slice (some ⟨si2, 0, none⟩) 2 2] 41)) : Below _ _ (w85.alloc (.cells #[.slice (some ⟨si1, 0, none⟩) 2 2, .slice (some ⟨si2, 0, none⟩) 2 2] 41))))
                          replace HS := Lib.hid (btr HS.out ((bal (bz w85) (.cells #[.slice (some ⟨si1, 0, none⟩) 2 2, .slice (some ⟨si2, 0, none⟩) 2 2] 41)) : Below _ _ (w85.alloc (.cells #[.slice (some ⟨si1, 0, none⟩) 2 2, .slice (some ⟨si2, 0, none⟩) 2 2] 41))))
                          go_wp2
                          generalize w85.alloc (Obj.cells #[.slice (some ⟨si1, 0, none⟩) 2 2, .slice (some ⟨si2, 0, none⟩) 2 2] 41) = w86 at HRi1 HRi2 HRi3 HRw1 HB HS ⊢
                          generalize w85.heap.size = si3 at HRi3 ⊢
                          refine seg_grow ⟨⟨_, HS.out⟩, rfl⟩ ?_
                          refine U_one 6 (by kernel_rfl) ?_
                          simp only [pickL, List.getElem?_cons_succ, List.getElem?_cons_zero]
                          go_wp2_with fail
                          refine (lists_id _ _).mono ?_
                          rintro e w' ⟨rfl, rfl⟩
                          go_wp2
                          refine seg_grow ⟨⟨_, HS.out⟩, rfl⟩ ?_
                          refine U_one 7 (by kernel_rfl) ?_
                          simp only [pickL, List.getElem?_cons_succ, List.getElem?_cons_zero]
                          go_wp2_with fail
                          refine (checkcover_lit _ _ _ [[0, 3], [1, 2]] 0 16 HRw1.out HRi3.out (smlR (by decide) (by decide)) exCover2).mono ?_
                          rintro e w87 ⟨rfl, hB⟩
                          replace HRi1 := Lib.hid (HRi1.out.mono (hB : Below _ _ (w87)))
                          replace HRi2 := Lib.hid (HRi2.out.mono (hB : Below _ _ (w87)))
                          replace HRi3 := Lib.hid (HRi3.out.mono (hB : Below _ _ (w87)))
                          replace HRw1 := Lib.hid (HRw1.out.mono (hB : Below _ _ (w87)))
                          replace HB := Lib.hid (btr HB.out (hB : Below _ _ (w87)))
                          replace HS := Lib.hid (btr HS.out (hB : Below _ _ (w87)))
                          clear hB
                          go_wp2
                          refine seg_grow ⟨⟨_, HS.out⟩, rfl⟩ ?_
                          refine U_heads [8, 9, 10, 11, 12] (by kernel_rfl) ⟨⟨_, HS.out⟩, rfl⟩ ?_
                          simp only [pickL, List.getElem?_cons_succ, List.getElem?_cons_zero]
                          repeat (go_big_quiet_step (fail))
                          refine wpQuiet_nil ?_
                          refine U_done (by kernel_rfl) ?_
                          have hK := Lib.hid (KGH.out.up HB.out)
                          go_wp2_with fail
                          go_meet
                          exact ⟨rfl, rfl, hK.out⟩
                      · simp only [pickL, List.getElem?_cons_succ, List.getElem?_cons_zero]
                        have HRi2 := Lib.hid (rdI_at w80 [1, 2] 3 w80.heap.size rfl (by simp))
                        change Hid (RdI (w80.alloc (.cells #[.int .i64 1, .int .i64 2] 3)) .i64 (.slice (some ⟨w80.heap.size, 0, none⟩) 2 2) [1, 2]) at HRi2
                        replace HRw1 := Lib.hid (HRw1.out.mono ((bal (bz w80) (.cells #[.int .i64 1, .int .i64 2] 3)) : Below _ _ (w80.alloc (.cells #[.int .i64 1, .int .i64 2] 3))))
                        replace HB := Lib.hid (btr HB.out ((bal (bz w80) (.cells #[.int .i64 1, .int .i64 2] 3)) : Below _ _ (w80.alloc (.cells #[.int .i64 1, .int .i64 2] 3))))
                        replace HS := Lib.hid (btr HS.out ((bal (bz w80) (.cells #[.int .i64 1, .int .i64 2] 3)) : Below _ _ (w80.alloc (.cells #[.int .i64 1, .int .i64 2] 3))))
                        go_wp2
                        generalize w80.alloc (Obj.cells #[.int .i64 1, .int .i64 2] 3) = w88 at HRi2 HRw1 HB HS ⊢
                        generalize w80.heap.size = si2 at HRi2 ⊢
                        refine seg_grow ⟨⟨_, HS.out⟩, rfl⟩ ?_
                        refine U_one 1 (by kernel_rfl) ?_
                        simp only [pickL, List.getElem?_cons_succ, List.getElem?_cons_zero]
                        have HRi1 := Lib.hid (rdI_at w88 [0, 3] 3 w88.heap.size rfl (by simp))
                        change Hid (RdI (w88.alloc (.cells #[.int .i64 0, .int .i64 3] 3)) .i64 (.slice (some ⟨w88.heap.size, 0, none⟩) 2 2) [0, 3]) at HRi1
                        replace HRi2 := Lib.hid (HRi2.out.mono ((bal (bz w88) (.cells #[.int .i64 0, .int .i64 3] 3)) : Below _ _ (w88.alloc (.cells #[.int .i64 0, .int .i64 3] 3))))
                        replace HRw1 := Lib.hid (HRw1.out.mono ((bal (bz w88) (.cells #[.int .i64 0, .int .i64 3] 3)) : Below _ _ (w88.alloc (.cells #[.int .i64 0, .int .i64 3] 3))))
                        replace HB := Lib.hid (btr HB.out ((bal (bz w88) (.cells #[.int .i64 0, .int .i64 3] 3)) : Below _ _ (w88.alloc (.cells #[.int .i64 0, .int .i64 3] 3))))
                        replace HS := Lib.hid (btr HS.out ((bal (bz w88) (.cells #[.int .i64 0, .int .i64 3] 3)) : Below _ _ (w88.alloc (.cells #[.int .i64 0, .int .i64 3] 3))))
                        go_wp2
                        generalize w88.alloc (Obj.cells #[.int .i64 0, .int .i64 3] 3) = w89 at HRi1 HRi2 HRw1 HB HS ⊢
                        generalize w88.heap.size = si1 at HRi1 ⊢
                        refine seg_grow ⟨⟨_, HS.out⟩, rfl⟩ ?_
                        refine U_one 2 (by kernel_rfl) ?_
                        simp only [pickL, List.getElem?_cons_succ, List.getElem?_cons_zero]
                        go_wp2_with fail
                        refine (of_id _ _).mono ?_
                        rintro e w' ⟨rfl, rfl⟩
                        go_wp2
                        refine seg_grow ⟨⟨_, HS.out⟩, rfl⟩ ?_
                        refine U_one 4 (by kernel_rfl) ?_
                        simp only [pickL, List.getElem?_cons_succ, List.getElem?_cons_zero]
                        go_wp2_with fail
                        refine (of_id _ _).mono ?_
                        rintro e w' ⟨rfl, rfl⟩
                        go_wp2
                        refine seg_grow ⟨⟨_, HS.out⟩, rfl⟩ ?_
                        refine U_one 5 (by kernel_rfl) ?_
                        simp only [pickL, List.getElem?_cons_succ, List.getElem?_cons_zero]
                        have HRi3 := Lib.hid (rdLL_at w89 [.slice (some ⟨si1, 0, none⟩) 2 2, .slice (some ⟨si2, 0, none⟩) 2 2] [[0, 3], [1, 2]] w89.heap.size rfl rfl (by simp) (fun i e he => by
                          match i with
                          | 0 => simp at he; subst he; exact HRi1.out
                          | 1 => simp at he; subst he; exact HRi2.out
                          | n + 2 => simp at he))
                        change Hid (RdLL (w89.alloc (.cells #[.slice (some ⟨si1, 0, none⟩) 2 2, .slice (some ⟨si2, 0, none⟩) 2 2] 41)) (.slice (some ⟨w89.heap.size, 0, none⟩) 2 2) [[0, 3], [1, 2]]) at HRi3
                        replace HRi1 := Lib.hid (HRi1.out.mono ((bal (bz w89) (.cells #[.slice (some ⟨si1, 0, none⟩) 2 2, .slice (some ⟨si2, 0, none⟩) 2 2] 41)) : Below _ _ (w89.alloc (.cells #[.slice (some ⟨si1, 0, none⟩) 2 2, .slice (some ⟨si2, 0, none⟩) 2 2] 41))))
                        replace HRi2 := Lib.hid (HRi2.out.mono ((bal (bz w89) (.cells #[.slice (some ⟨si1, 0, none⟩) 2 2, .slice (some ⟨si2, 0, none⟩) 2 2] 41)) : Below _ _ (w89.alloc (.cells #[.slice (some ⟨si1, 0, none⟩) 2 2, .slice (some ⟨si2, 0, none⟩) 2 2] 41))))
                        replace HRw1 := Lib.hid (HRw1.out.mono ((bal (bz w89) (.cells #[.slice (some ⟨si1, 0, none⟩) 2 2, .slice (some ⟨si2, 0, none⟩) 2 2] 41)) : Below _ _ (w89.alloc (.cells #[.slice (some ⟨si1, 0, none⟩) 2 2, .slice (some ⟨si2, 0, none⟩) 2 2] 41))))
                        replace HB := Lib.hid (btr HB.out ((bal (bz w89) (.cells #[.slice (some ⟨si1, 0, none⟩) 2 2, .slice (some ⟨si2, 0, none⟩) 2 2] 41)) : Below _ _ (w89.alloc (.cells #[.slice (some ⟨si1, 0, none⟩) 2 2, .slice (some ⟨si2, 0, none⟩) 2 2] 41))))
                        replace HS := Lib.hid (btr HS.out ((bal (bz w89) (.cells #[.slice (some ⟨si1, 0, none⟩) 2 2, .slice (some ⟨si2, 0, none⟩) 2 2] 41)) : Below _ _ (w89.alloc (.cells #[.slice (some ⟨si1, 0, none⟩) 2 2, .slice (some ⟨si2, 0, none⟩) 2 2] 41))))
                        go_wp2
                        generalize w89.alloc (Obj.cells #[.slice (some ⟨si1, 0, none⟩) 2 2, .slice (some ⟨si2, 0, none⟩) 2 2] 41) = w90 at HRi1 HRi2 HRi3 HRw1 HB HS ⊢
                        generalize w89.heap.size = si3 at HRi3 ⊢
                        refine seg_grow ⟨⟨_, HS.out⟩, rfl⟩ ?_
                        refine U_one 6 (by kernel_rfl) ?_
                        simp only [pickL, List.getElem?_cons_succ, List.getElem?_cons_zero]
                        go_wp2_with fail
                        refine (lists_id _ _).mono ?_
                        rintro e w' ⟨rfl, rfl⟩
                        go_wp2
                        refine seg_grow ⟨⟨_, HS.out⟩, rfl⟩ ?_
                        refine U_one 7 (by kernel_rfl) ?_
                        simp only [pickL, List.getElem?_cons_succ, List.getElem?_cons_zero]
                        go_wp2_with fail
                        refine (checkcover_lit _ _ _ [[0, 3], [1, 2]] 0 16 HRw1.out HRi3.out (smlR (by decide) (by decide)) exCover2).mono ?_
                        rintro e w91 ⟨rfl, hB⟩
                        replace HRi1 := Lib.hid (HRi1.out.mono (hB : Below _ _ (w91)))
                        replace HRi2 := Lib.hid (HRi2.out.mono (hB : Below _ _ (w91)))
                        replace HRi3 := Lib.hid (HRi3.out.mono (hB : Below _ _ (w91)))
                        replace HRw1 := Lib.hid (HRw1.out.mono (hB : Below _ _ (w91)))
                        replace HB := Lib.hid (btr HB.out (hB : Below _ _ (w91)))
                        replace HS := Lib.hid (btr HS.out (hB : Below _ _ (w91)))
                        clear hB
                        go_wp2
                        refine seg_grow ⟨⟨_, HS.out⟩, rfl⟩ ?_
                        refine U_heads [8, 9, 10, 11, 12] (by kernel_rfl) ⟨⟨_, HS.out⟩, rfl⟩ ?_
                        simp only [pickL, List.getElem?_cons_succ, List.getElem?_cons_zero]
                        repeat (go_big_quiet_step (fail))
                        refine wpQuiet_nil ?_
                        refine U_done (by kernel_rfl) ?_
                        have hK := Lib.hid (KGH.out.up HB.out)
                        go_wp2_with fail
                        go_meet
                        exact ⟨rfl, rfl, hK.out⟩
                  case rest =>
                    as_aux_lemma =>
                      obtain ⟨rfl, rfl, hK⟩ := hcut
                      have KP27 := Lib.hid (hK.imp HG.out)
                      clear hK HG KGH KP26
                      obtain ⟨cv1, zv1⟩ := KP27.out.here.2.2.2.2.2.2.2.2.2.2.2.2.2.2.2.1
                      go_wp2_with fail
                      have gw1 := KP27.out.here.2.2.2.2.2.2.2.2.2.2.2.2.2.2.2.2.2.1
                      refine (cover_lit _ _ gw1).mono ?_
                      rintro e w92 ⟨vh, RH, rfl, hR, hH, hB⟩
                      obtain ⟨ph, qh, hv⟩ : ∃ a c, vh = .slice a RH.length c := hR.sl
                      subst hv
                      have HHH := Lib.hid hH
                      clear cv1 zv1
                      have KP28 := Lib.hid ((KP27.out.up hB).and (keepL hR))
                      clear KP27
                      clear hB hR hH gw1
                      obtain ⟨cv2, zv2⟩ := KP28.out.here.2.2.2.2.2.2.2.2.2.2.2.2.2.2.2.1
                      go_wp2_with fail
                      have gw2 := KP28.out.here.2.2.2.2.2.2.2.2.2.2.2.2.2.2.2.2.2.1
                      refine (circ_lit _ _ gw2).mono ?_
                      rintro e w93 ⟨vr, CR, rfl, hR, hH, hB⟩
                      obtain ⟨pr, qr, hv⟩ := exI hR _ rfl
                      subst hv
                      have HCC := Lib.hid hH
                      clear cv2 zv2
                      have KP29 := Lib.hid ((KP28.out.up hB).and (keepI hR))
                      clear KP28
                      clear hB hR hH gw2
                      obtain ⟨cv1, zv1⟩ := KP29.out.here.2.2.2.2.2.2.2.2.2.2.2.2.2.2.2.2.2.1
                      go_wp2_with fail
                      have gw1 := KP29.out.here.2.2.2.2.2.2.2.2.2.2.2.2.2.2.2.2.2.2.2.1
                      have gh := KP29.out.here.2.1
                      refine (rcheckcover_lit _ _ _ RH 2 0 gw1 gh HHH.out.1 HHH.out.2).mono ?_
                      rintro e w94 ⟨rfl, hB⟩
                      clear cv1 zv1
                      have KP30 := Lib.hid (KP29.out.up hB)
                      clear KP29
                      clear hB
                      clear gw1 gh
                      go_upto_region 25 with fail
                      obtain ⟨cv2, zv2⟩ := KP30.out.here.2.2.2.2.2.2.2.2.2.2.2.2.2.2.2.2.1
                      obtain ⟨cn0, cn1, zn⟩ := KP30.out.here.2.2.2.2.2.2.2.2.2.2.2.2.2.2.1
                      obtain ⟨ca0, ca1, za⟩ := KP30.out.here.2.2.2.2.2.2.2.2.2.2.2.2.1
                      refine wp_region_flow [] [([0], 1, true), ([], 2, true), ([], 3, true), ([], 4, true), ([], 5, true), ([], 6, true), ([7, 8, 9], 10, true), ([11, 12, 13, 14], 15, true), ([16, 17, 18, 19, 20], 21, true)] [22, 23] (by kernel_rfl) (by kernel_rfl) ?_
                      intro w95 hBc hh
                      clear hh
                      have kv2 := (hBc.cell (p := ⟨_, _, none⟩) zv2).trans cv2
                      have yv2 := Nat.lt_of_lt_of_le zv2 hBc.size
                      have kn0 := (hBc.cell (p := ⟨_, _, none⟩) zn).trans cn0
                      have kn1 := (hBc.cell (p := ⟨_, _, none⟩) zn).trans cn1
                      have yn := Nat.lt_of_lt_of_le zn hBc.size
                      clear cn0 cn1 zn
                      have ka0 := (hBc.cell (p := ⟨_, _, none⟩) za).trans ca0
                      have ka1 := (hBc.cell (p := ⟨_, _, none⟩) za).trans ca1
                      have ya := Nat.lt_of_lt_of_le za hBc.size
                      clear ca0 ca1 za
                      clear cv2 zv2
                      have hL := @Later.cell w95
                      have KP31 := Lib.hid ((KP30.out.up hBc).and (keepB (bz w95)))
                      clear KP30
                      clear hBc
                      simp only [flowP, flow, pickL, List.getElem?_cons_succ, List.getElem?_cons_zero]
                      refine wpQuiet_nil ?_
                      repeat (go_big_quiet_step (fail))
                      refine wpQuiet_nil ?_
                      go_wp2_with fail
                      refine (days_any 0 0 _).mono ?_
                      rintro e w96 ⟨rfl, hB⟩
                      have KP32 := Lib.hid (KP31.out.up hB)
                      clear KP31
                      clear hB
                      go_wp2
                      refine seg_grow ⟨⟨_, KP32.out.here.1⟩, rfl⟩ ?_
                      refine wpQuiet_nil ?_
                      go_wp2_with fail
                      refine (days_any 2 4 _).mono ?_
                      rintro e w97 ⟨rfl, hB⟩
                      have KP33 := Lib.hid (KP32.out.up hB)
                      clear KP32
                      clear hB
                      go_wp2
                      refine seg_grow ⟨⟨_, KP33.out.here.1⟩, rfl⟩ ?_
                      refine wpQuiet_nil ?_
                      go_wp2_with fail
                      refine (days_any 2 4 _).mono ?_
                      rintro e w98 ⟨rfl, hB⟩
                      have KP34 := Lib.hid (KP33.out.up hB)
                      clear KP33
                      clear hB
                      go_wp2
                      refine seg_grow ⟨⟨_, KP34.out.here.1⟩, rfl⟩ ?_
                      refine wpQuiet_nil ?_
                      go_wp2_with fail
                      refine (days_any 5 10 _).mono ?_
                      rintro e w99 ⟨rfl, hB⟩
                      have KP35 := Lib.hid (KP34.out.up hB)
                      clear KP34
                      clear hB
                      go_wp2
                      refine seg_grow ⟨⟨_, KP35.out.here.1⟩, rfl⟩ ?_
                      refine wpQuiet_nil ?_
                      refine wpList_ranges4 rfl _ _ _ _ rfl 0 0 2 4 2 4 5 10 rfl rfl rfl rfl ?_
                      go_wp2
                      have hR := rdP_at w99 [(0, 0), (2, 4), (2, 4), (5, 10)] 32 w99.heap.size rfl (by simp)
                      have hB := bal (bz w99) (.cells #[.int .i64 0, .int .i64 0, .int .i64 2, .int .i64 4, .int .i64 2, .int .i64 4, .int .i64 5, .int .i64 10] 32)
                      change RdP (w99.alloc (.cells #[.int .i64 0, .int .i64 0, .int .i64 2, .int .i64 4, .int .i64 2, .int .i64 4, .int .i64 5, .int .i64 10] 32)) (.slice (some ⟨w99.heap.size, 0, none⟩) 4 4) [(0, 0), (2, 4), (2, 4), (5, 10)] at hR
                      generalize w99.alloc (Obj.cells #[.int .i64 0, .int .i64 0, .int .i64 2, .int .i64 4, .int .i64 2, .int .i64 4, .int .i64 5, .int .i64 10] 32) = w100 at hR hB ⊢
                      have KP36 := Lib.hid ((KP35.out.up hB).and (keepP hR))
                      clear KP35
                      clear hR hB
                      refine seg_grow ⟨⟨_, KP36.out.here.2.1⟩, rfl⟩ ?_
                      refine wpQuiet_nil ?_
                      go_wp2_with fail
                      have gst := KP36.out.here.2.2.2.2.2.2.2.2.2.2.2.2.2.2.2.2.2.1
                      have grr := KP36.out.here.1
                      refine (ranges_lit _ _ _ [(0, 0), (2, 4), (2, 4), (5, 10)] gst grr (by decide)).mono ?_
                      rintro e w101 ⟨rfl, hB⟩
                      have KP37 := Lib.hid (KP36.out.up hB)
                      clear KP36
                      clear hB
                      clear gst grr
                      go_wp2
                      refine seg_grow ⟨⟨_, KP37.out.here.2.1⟩, rfl⟩ ?_
                      repeat (go_big_quiet_step (fail))
                      refine wpQuiet_nil ?_
                      go_wp2_with fail
                      refine (days_any 7 12 _).mono ?_
                      rintro e w102 ⟨rfl, hB⟩
                      have KP38 := Lib.hid (KP37.out.up hB)
                      clear KP37
                      clear hB
                      go_wp2
                      refine seg_grow ⟨⟨_, KP38.out.here.2.1⟩, rfl⟩ ?_
                      try simp only [pickL, List.getElem?_cons_succ, List.getElem?_cons_zero]
                      refine wpQuiet_range_no rfl _ _ _ rfl 7 12 rfl rfl ?_
                      repeat (quiet_step (fail))
                      refine wpQuiet_nil ?_
                      go_wp2_with fail
                      refine (days_any 5 12 _).mono ?_
                      rintro e w103 ⟨rfl, hB⟩
                      have KP39 := Lib.hid (KP38.out.up hB)
                      clear KP38
                      clear hB
                      go_wp2
                      refine seg_grow ⟨⟨_, KP39.out.here.2.1⟩, rfl⟩ ?_
                      try simp only [pickL, List.getElem?_cons_succ, List.getElem?_cons_zero]
                      refine wpQuiet_range_no rfl _ _ _ rfl 5 12 rfl rfl ?_
                      repeat (quiet_step (fail))
                      refine wpQuiet_nil ?_
                      go_wp2_with fail
                      have gw2 := KP39.out.here.2.2.2.2.2.2.2.2.2.2.2.2.2.2.2.2.2.2.2.2.1
                      have gr := KP39.out.here.2.2.1
                      refine (rcheckcircle_lit _ _ _ CR 0 gw2 gr HCC.out.2 HCC.out.1).mono ?_
                      rintro e w104 ⟨rfl, hB⟩
                      have KP40 := Lib.hid (KP39.out.up hB)
                      clear KP39
                      clear hB
                      clear gw2 gr
                      go_wp2
                      refine seg_grow ⟨⟨_, KP40.out.here.2.1⟩, rfl⟩ ?_
                      repeat (go_big_quiet_step (fail))
                      refine wpQuiet_nil ?_
                      refine only_done ?_
                      clear hL kv2 yv2 kn0 kn1 yn ka0 ka1 ya
                      go_wp2_with fail
                      refine (of_id _ _).mono ?_
                      rintro e w' ⟨rfl, rfl⟩
                      have hR := rdI_at w104 [0, 2, 3] 3 w104.heap.size rfl (by simp)
                      have hB := bal (bz w104) (.cells #[.int .i64 0, .int .i64 2, .int .i64 3] 3)
                      change RdI (w104.alloc (.cells #[.int .i64 0, .int .i64 2, .int .i64 3] 3)) .i64 (.slice (some ⟨w104.heap.size, 0, none⟩) 3 3) [0, 2, 3] at hR
                      generalize w104.alloc (.cells #[.int .i64 0, .int .i64 2, .int .i64 3] 3) = w105 at hR hB ⊢
                      have KP41 := Lib.hid ((KP40.out.up hB).and (keepI hR))
                      clear KP40
                      clear hR hB
                      go_wp2_with fail
                      have gb3 := KP41.out.here.2.2.2.2.2.2.2.2.2.2.2.2.2.1
                      have ge1 := KP41.out.here.1
                      refine (ints_lit _ _ _ [0, 2, 3] gb3 ge1 (by decide)).mono ?_
                      rintro e w106 ⟨rfl, hB⟩
                      have KP42 := Lib.hid (KP41.out.up hB)
                      clear KP41
                      clear hB
                      clear gb3 ge1
                      go_wp2_with fail
                      refine (of_id _ _).mono ?_
                      rintro e w' ⟨rfl, rfl⟩
                      have hR := rdI_at w106 [0, 1, 3] 3 w106.heap.size rfl (by simp)
                      have hB := bal (bz w106) (.cells #[.int .i64 0, .int .i64 1, .int .i64 3] 3)
                      change RdI (w106.alloc (.cells #[.int .i64 0, .int .i64 1, .int .i64 3] 3)) .i64 (.slice (some ⟨w106.heap.size, 0, none⟩) 3 3) [0, 1, 3] at hR
                      generalize w106.alloc (.cells #[.int .i64 0, .int .i64 1, .int .i64 3] 3) = w107 at hR hB ⊢
                      have KP43 := Lib.hid ((KP42.out.up hB).and (keepI hR))
                      clear KP42
                      clear hR hB
                      go_wp2_with fail
                      have gc3 := KP43.out.here.2.2.2.2.2.2.2.2.2.2.2.2.2.1
                      have ge2 := KP43.out.here.1
                      refine (ints_lit _ _ _ [0, 1, 3] gc3 ge2 (by decide)).mono ?_
                      rintro e w108 ⟨rfl, hB⟩
                      have KP44 := Lib.hid (KP43.out.up hB)
                      clear KP43
                      clear hB
                      clear gc3 ge2
                      go_wp2_with fail
                      refine (longs_id _ _).mono ?_
                      rintro e w' ⟨rfl, rfl⟩
                      have hR := rdI_at w108 [0, 7, 4, 10] 2 w108.heap.size rfl (by simp)
                      have hB := bal (bz w108) (.cells #[.int .i64 0, .int .i64 7, .int .i64 4, .int .i64 10] 2)
                      change RdI (w108.alloc (.cells #[.int .i64 0, .int .i64 7, .int .i64 4, .int .i64 10] 2)) .i64 (.slice (some ⟨w108.heap.size, 0, none⟩) 4 4) [0, 7, 4, 10] at hR
                      generalize w108.alloc (.cells #[.int .i64 0, .int .i64 7, .int .i64 4, .int .i64 10] 2) = w109 at hR hB ⊢
                      have KP45 := Lib.hid ((KP44.out.up hB).and (keepI hR))
                      clear KP44
                      clear hR hB
                      go_wp2_with fail
                      have gl := KP45.out.here.2.2.2.2.2.2.2.2.2.2.2.2.2.1
                      have ge3 := KP45.out.here.1
                      refine (longs_lit _ _ _ [0, 7, 4, 10] gl ge3 (by decide)).mono ?_
                      rintro e w110 ⟨rfl, hB⟩
                      have KP46 := Lib.hid (KP45.out.up hB)
                      clear KP45
                      clear hB
                      clear gl ge3
                      go_wp2_with fail
                      refine (of_id _ _).mono ?_
                      rintro e w' ⟨rfl, rfl⟩
                      have hR := rdI_at w110 [1, 2] 3 w110.heap.size rfl (by simp)
                      have hB := bal (bz w110) (.cells #[.int .i64 1, .int .i64 2] 3)
                      change RdI (w110.alloc (.cells #[.int .i64 1, .int .i64 2] 3)) .i64 (.slice (some ⟨w110.heap.size, 0, none⟩) 2 2) [1, 2] at hR
                      generalize w110.alloc (.cells #[.int .i64 1, .int .i64 2] 3) = w111 at hR hB ⊢
                      have KP47 := Lib.hid ((KP46.out.up hB).and (keepI hR))
                      clear KP46
                      clear hR hB
                      go_wp2_with fail
                      have gf := KP47.out.here.2.2.2.2.2.2.2.2.1
                      have ge4 := KP47.out.here.1
                      refine (ints_lit _ _ _ [1, 2] gf ge4 (by decide)).mono ?_
                      rintro e w112 ⟨rfl, hB⟩
                      have KP48 := Lib.hid (KP47.out.up hB)
                      clear KP47
                      clear hB
                      clear gf ge4
                      go_wp2_with fail
                      have gBelow := KP48.out.here.2.2.2.2.2.2.2.2.2.2.2.2.2.2.2.2.2.2.2.2.2.2.2.2.2.2
                      go_ret
                      exact ⟨rfl, gBelow⟩
end Go.Proofs.YteknehlkdgamjaaGreat
