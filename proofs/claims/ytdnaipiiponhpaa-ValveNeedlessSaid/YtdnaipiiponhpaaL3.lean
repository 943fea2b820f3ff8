/- ValveNeedless holds; no condition. -/
import Derived.Test.YtdnaipiiponhpaaL1
import Derived.Test.YtdnaipiiponhpaaP4
namespace Go.Proofs.Ytdnaipiiponhpaa
open Go.RowKit Go.Shelf

theorem needless_r (p : Int) (x : Value) (V : List (Int × Int)) (w : World) (hx : RdP w x V) (hl : V.length ≤ 1000) :
    Calls Try.prog 32 #[.agg #[.int .i64 p, x]] w fun e w' => ∃ v, e = .returned (.tuple #[v, .int .i64 (checkR p V)]) ∧ RdI w' .i64 v (rneedR p V) ∧ Below w.heap.size w w' := by
  have := needless_rd p x V w hx hl; rwa [needL_eq] at this
theorem cut_r (p : Int) (x : Value) (V : List (Int × Int)) (w : World) (hx : RdP w x V) (hl : V.length ≤ 1000) :
    Calls Try.prog 34 #[.agg #[.int .i64 p, x]] w fun e w' => ∃ v, e = .returned (.tuple #[.agg #[.int .i64 (cutP p V), v], .int .i64 (checkR p V)]) ∧ RdP w' v (rcutL p V) ∧ Below w.heap.size w w' := by
  have := cut_any p x V w hx hl; rwa [cutL_eq] at this
theorem rounds_r (p : Int) (x : Value) (V : List (Int × Int)) (w : World) (hx : RdP w x V) (hl : V.length ≤ 1000) :
    Calls Try.prog 36 #[.agg #[.int .i64 p, x]] w fun e w' => ∃ v, e = .returned (.tuple #[v, .int .i64 (checkR p V)]) ∧ RdI w' .i64 v (rrR p V) ∧ Below w.heap.size w w' := by
  have := rounds_any p x V w hx hl; rwa [roundsL_eq] at this
theorem ends_r (p place : Int) (x : Value) (V : List (Int × Int)) (w : World) (hx : RdP w x V) (hl : V.length ≤ 1000) :
    Calls Try.prog 39 #[.agg #[.int .i64 p, x], .int .i64 place] w fun e w' => ∃ v, e = .returned (.tuple #[v, .int .i64 (rendsE p V place)]) ∧ RdI w' .i64 v (rendsR p V place) ∧ Below w.heap.size w w' := by
  have := ends_any p place x V w hx hl; rwa [endsE_eq, endsL_eq] at this

set_option maxRecDepth 100000 in
set_option maxHeartbeats 8000000 in
theorem needless_walk (p place : Int) (x : Value) (V : List (Int × Int)) (w : World) (hx : RdP w x V) :
    Calls Try.prog 5 #[.agg #[.int .i64 p, x], .int .i64 place] w fun e w' => e = .returned (.bool true) ∧ Below w.heap.size w w' := by
  obtain ⟨a, c, rfl⟩ := hx.ex _ rfl
  by_cases hV : 50 < V.length
  ·
    have KP0 := Lib.hid ((keepB (bz w)).and (keepP hx))
    clear hx
    go_enter Try.func5, Try.ntmps5
    go_wp2_with fail
    have KP1 := Lib.hid (((KP0.out.up (bal (bz w) _)).and (keepC (w := (w.alloc (.cells #[.int .i64 p, .slice a V.length c] 24))) (p := ⟨w.heap.size, 0, none⟩) (cnew (by simp) rfl))).and (keepC (w := (w.alloc (.cells #[.int .i64 p, .slice a V.length c] 24))) (p := ⟨w.heap.size, 1, none⟩) (cnew (by simp) rfl)))
    clear KP0
    refine (great_yes _ _ _ _ _ hV).mono ?_
    rintro e w1 ⟨rfl, hB⟩
    have KP2 := Lib.hid (KP1.out.up (btr (bz ((w.alloc (.cells #[.int .i64 p, .slice a V.length c] 24)))) hB))
    clear KP1
    clear hB
    have hall := KP2.out.here
    have hR1 := hall.1
    have hR0 := hall.2.1
    clear hall
    have zR := World.block_lt_of_cell? _ _ hR0
    simp only at zR
    go_wp2_with fail
    clear hR1 hR0 zR
    refine (works_any _).mono ?_
    rintro e w2 ⟨rfl, hB⟩
    have KP3 := Lib.hid (KP2.out.up (btr (bz w1) hB))
    clear KP2
    clear hB
    have hall := KP3.out.here
    have gBelow := hall.2.2.2
    clear hall
    go_wp2
    go_ret
    exact ⟨rfl, gBelow⟩
  · have hV : V.length ≤ 50 := by omega
    have KP0 := Lib.hid ((keepB (bz w)).and (keepP hx))
    clear hx
    go_enter Try.func5, Try.ntmps5
    go_wp2_with fail
    have KP1 := Lib.hid (((KP0.out.up (bal (bz w) _)).and (keepC (w := (w.alloc (.cells #[.int .i64 p, .slice a V.length c] 24))) (p := ⟨w.heap.size, 0, none⟩) (cnew (by simp) rfl))).and (keepC (w := (w.alloc (.cells #[.int .i64 p, .slice a V.length c] 24))) (p := ⟨w.heap.size, 1, none⟩) (cnew (by simp) rfl)))
    clear KP0
    refine (great_no _ _ _ _ _ hV).mono ?_
    rintro e w1 ⟨rfl, hB⟩
    have KP2 := Lib.hid (KP1.out.up (btr (bz ((w.alloc (.cells #[.int .i64 p, .slice a V.length c] 24)))) hB))
    clear KP1
    clear hB
    have hall := KP2.out.here
    have hR1 := hall.1
    have hR0 := hall.2.1
    clear hall
    have zR := World.block_lt_of_cell? _ _ hR0
    simp only at zR
    go_wp2_with fail
    clear hR1 hR0 zR
    have hall := KP2.out.here
    have gr := hall.2.2.1
    clear hall
    refine (needless_r p _ V _ (gr.mono (bz w1)) (by omega)).mono ?_
    rintro e w2 ⟨v, rfl, hRA, hB⟩
    obtain ⟨aA, cA, hv⟩ := hRA.ex _ rfl
    subst hv
    have KP3 := Lib.hid ((KP2.out.up (btr (bz w1) hB)).and (keepI hRA))
    clear KP2
    clear hRA hB
    clear gr
    have hall := KP3.out.here
    have hR1 := hall.2.1
    have hR0 := hall.2.2.1
    clear hall
    have zR := World.block_lt_of_cell? _ _ hR0
    simp only at zR
    go_wp2_with fail
    clear hR1 hR0 zR
    have hall := KP3.out.here
    have gr := hall.2.2.2.1
    clear hall
    refine (rneedless_any p _ V _ (gr.mono (bz w2)) (by omega)).mono ?_
    rintro e w3 ⟨v, rfl, hRB, hB⟩
    obtain ⟨aB, cB, hv⟩ := hRB.ex _ rfl
    subst hv
    have KP4 := Lib.hid ((KP3.out.up (btr (bz w2) hB)).and (keepI hRB))
    clear KP3
    clear hRB hB
    clear gr
    have hall := KP4.out.here
    have hR1 := hall.2.2.1
    have hR0 := hall.2.2.2.1
    clear hall
    have zR := World.block_lt_of_cell? _ _ hR0
    simp only at zR
    go_wp2_with fail
    clear hR1 hR0 zR
    have hall := KP4.out.here
    have gr := hall.2.2.2.2.1
    clear hall
    refine (cut_r p _ V _ (gr.mono (bz w3)) (by omega)).mono ?_
    rintro e w4 ⟨v, rfl, hRC, hB⟩
    obtain ⟨aC, cC, hv⟩ := hRC.ex _ rfl
    subst hv
    have KP5 := Lib.hid ((KP4.out.up (btr (bz w3) hB)).and (keepP hRC))
    clear KP4
    clear hRC hB
    clear gr
    have hall := KP5.out.here
    have hR1 := hall.2.2.2.1
    have hR0 := hall.2.2.2.2.1
    clear hall
    have zR := World.block_lt_of_cell? _ _ hR0
    simp only at zR
    go_wp2_with fail
    clear hR1 hR0 zR
    have KP6 := Lib.hid (((KP5.out.up (bal (bz w4) _)).and (keepC (w := (w4.alloc (.cells #[.int .i64 (cutP p V), .slice aC (rcutL p V).length cC] 24))) (p := ⟨w4.heap.size, 0, none⟩) (cnew (by simp) rfl))).and (keepC (w := (w4.alloc (.cells #[.int .i64 (cutP p V), .slice aC (rcutL p V).length cC] 24))) (p := ⟨w4.heap.size, 1, none⟩) (cnew (by simp) rfl)))
    clear KP5
    have hall := KP6.out.here
    have gr := hall.2.2.2.2.2.2.2.1
    clear hall
    refine (rcut_any p _ V _ (gr.mono (bz ((w4.alloc (.cells #[.int .i64 (cutP p V), .slice aC (rcutL p V).length cC] 24))))) (by omega)).mono ?_
    rintro e w5 ⟨v, rfl, hRD, hB⟩
    obtain ⟨aD, cD, hv⟩ := hRD.ex _ rfl
    subst hv
    have KP7 := Lib.hid ((KP6.out.up (btr (bz ((w4.alloc (.cells #[.int .i64 (cutP p V), .slice aC (rcutL p V).length cC] 24)))) hB)).and (keepP hRD))
    clear KP6
    clear hRD hB
    clear gr
    have hall := KP7.out.here
    have hC1 := hall.2.1
    have hC0 := hall.2.2.1
    have hR1 := hall.2.2.2.2.2.2.1
    have hR0 := hall.2.2.2.2.2.2.2.1
    clear hall
    have zR := World.block_lt_of_cell? _ _ hR0
    have zC := World.block_lt_of_cell? _ _ hC0
    simp only at zR zC
    go_wp2_with fail
    clear hC1 hC0 hR1 hR0 zR zC
    have KP8 := Lib.hid (((KP7.out.up (bal (bz w5) _)).and (keepC (w := (w5.alloc (.cells #[.int .i64 (cutP p V), .slice aD (rcutL p V).length cD] 24))) (p := ⟨w5.heap.size, 0, none⟩) (cnew (by simp) rfl))).and (keepC (w := (w5.alloc (.cells #[.int .i64 (cutP p V), .slice aD (rcutL p V).length cD] 24))) (p := ⟨w5.heap.size, 1, none⟩) (cnew (by simp) rfl)))
    clear KP7
    have hall := KP8.out.here
    have gr := hall.2.2.2.2.2.2.2.2.2.2.1
    clear hall
    refine (rounds_r p _ V _ (gr.mono (bz ((w5.alloc (.cells #[.int .i64 (cutP p V), .slice aD (rcutL p V).length cD] 24))))) (by omega)).mono ?_
    rintro e w6 ⟨v, rfl, hRM, hB⟩
    obtain ⟨aM, cM, hv⟩ := hRM.ex _ rfl
    subst hv
    have KP9 := Lib.hid ((KP8.out.up (btr (bz ((w5.alloc (.cells #[.int .i64 (cutP p V), .slice aD (rcutL p V).length cD] 24)))) hB)).and (keepI hRM))
    clear KP8
    clear hRM hB
    clear gr
    have hall := KP9.out.here
    have hD1 := hall.2.1
    have hD0 := hall.2.2.1
    have hC1 := hall.2.2.2.2.1
    have hC0 := hall.2.2.2.2.2.1
    have hR1 := hall.2.2.2.2.2.2.2.2.2.1
    have hR0 := hall.2.2.2.2.2.2.2.2.2.2.1
    clear hall
    have zR := World.block_lt_of_cell? _ _ hR0
    have zC := World.block_lt_of_cell? _ _ hC0
    have zD := World.block_lt_of_cell? _ _ hD0
    simp only at zR zC zD
    go_wp2_with fail
    clear hD1 hD0 hC1 hC0 hR1 hR0 zR zC zD
    have hall := KP9.out.here
    have gr := hall.2.2.2.2.2.2.2.2.2.2.2.1
    clear hall
    refine (rrounds_any p _ V _ (gr.mono (bz w6)) (by omega)).mono ?_
    rintro e w7 ⟨v, rfl, hRN, hB⟩
    obtain ⟨aN, cN, hv⟩ := hRN.ex _ rfl
    subst hv
    have KP10 := Lib.hid ((KP9.out.up (btr (bz w6) hB)).and (keepI hRN))
    clear KP9
    clear hRN hB
    clear gr
    have hall := KP10.out.here
    have hD1 := hall.2.2.1
    have hD0 := hall.2.2.2.1
    have hC1 := hall.2.2.2.2.2.1
    have hC0 := hall.2.2.2.2.2.2.1
    have hR1 := hall.2.2.2.2.2.2.2.2.2.2.1
    have hR0 := hall.2.2.2.2.2.2.2.2.2.2.2.1
    clear hall
    have zR := World.block_lt_of_cell? _ _ hR0
    have zC := World.block_lt_of_cell? _ _ hC0
    have zD := World.block_lt_of_cell? _ _ hD0
    simp only at zR zC zD
    go_wp2_with fail
    clear hD1 hD0 hC1 hC0 hR1 hR0 zR zC zD
    have hall := KP10.out.here
    have gB := hall.2.2.2.2.2.2.2.2.1
    have gA := hall.2.2.2.2.2.2.2.2.2.1
    clear hall
    refine (ints_eq _ _ (rneedR p V) _ gA gB (by have := rneedR_len p V; omega)).mono ?_
    rintro e w8 ⟨rfl, hB⟩
    have KP11 := Lib.hid (KP10.out.up (btr (bz w7) hB))
    clear KP10
    clear hB
    clear gB gA
    have hall := KP11.out.here
    have hD1 := hall.2.2.1
    have hD0 := hall.2.2.2.1
    have hC1 := hall.2.2.2.2.2.1
    have hC0 := hall.2.2.2.2.2.2.1
    have hR1 := hall.2.2.2.2.2.2.2.2.2.2.1
    have hR0 := hall.2.2.2.2.2.2.2.2.2.2.2.1
    clear hall
    have zR := World.block_lt_of_cell? _ _ hR0
    have zC := World.block_lt_of_cell? _ _ hC0
    have zD := World.block_lt_of_cell? _ _ hD0
    simp only at zR zC zD
    go_wp2_with fail
    clear hD1 hD0 hC1 hC0 hR1 hR0 zR zC zD
    have hall := KP11.out.here
    have gD := hall.2.2.2.2.1
    have gC := hall.2.2.2.2.2.2.2.1
    clear hall
    refine (same_eq _ _ _ (rcutL p V) _ gC gD (by have := rcutL_len p V; omega)).mono ?_
    rintro e w9 ⟨rfl, hB⟩
    have KP12 := Lib.hid (KP11.out.up (btr (bz w8) hB))
    clear KP11
    clear hB
    clear gD gC
    have hall := KP12.out.here
    have hD1 := hall.2.2.1
    have hD0 := hall.2.2.2.1
    have hC1 := hall.2.2.2.2.2.1
    have hC0 := hall.2.2.2.2.2.2.1
    have hR1 := hall.2.2.2.2.2.2.2.2.2.2.1
    have hR0 := hall.2.2.2.2.2.2.2.2.2.2.2.1
    clear hall
    have zR := World.block_lt_of_cell? _ _ hR0
    have zC := World.block_lt_of_cell? _ _ hC0
    have zD := World.block_lt_of_cell? _ _ hD0
    simp only at zR zC zD
    go_wp2_with fail
    clear hD1 hD0 hC1 hC0 hR1 hR0 zR zC zD
    have hall := KP12.out.here
    have gN := hall.1
    have gM := hall.2.1
    clear hall
    refine (ints_eq _ _ (rrR p V) _ gM gN (by have := rrR_len p V; omega)).mono ?_
    rintro e w10 ⟨rfl, hB⟩
    have KP13 := Lib.hid (KP12.out.up (btr (bz w9) hB))
    clear KP12
    clear hB
    clear gN gM
    have hall := KP13.out.here
    have hR1 := hall.2.2.2.2.2.2.2.2.2.2.1
    have hR0 := hall.2.2.2.2.2.2.2.2.2.2.2.1
    clear hall
    have zR := World.block_lt_of_cell? _ _ hR0
    simp only at zR
    go_wp2_with fail
    clear hR1 hR0 zR
    have hall := KP13.out.here
    have gr := hall.2.2.2.2.2.2.2.2.2.2.2.2.1
    clear hall
    refine (ends_r p place _ V _ (gr.mono (bz w10)) (by omega)).mono ?_
    rintro e w11 ⟨v, rfl, hRX, hB⟩
    obtain ⟨aX, cX, hv⟩ := hRX.ex _ rfl
    subst hv
    have KP14 := Lib.hid ((KP13.out.up (btr (bz w10) hB)).and (keepI hRX))
    clear KP13
    clear hRX hB
    clear gr
    have hall := KP14.out.here
    have hR1 := hall.2.2.2.2.2.2.2.2.2.2.2.1
    have hR0 := hall.2.2.2.2.2.2.2.2.2.2.2.2.1
    clear hall
    have zR := World.block_lt_of_cell? _ _ hR0
    simp only at zR
    go_wp2_with fail
    clear hR1 hR0 zR
    have hall := KP14.out.here
    have gr := hall.2.2.2.2.2.2.2.2.2.2.2.2.2.1
    clear hall
    refine (rends_any p place _ V _ (gr.mono (bz w11)) (by omega)).mono ?_
    rintro e w12 ⟨v, rfl, hRY, hB⟩
    obtain ⟨aY, cY, hv⟩ := hRY.ex _ rfl
    subst hv
    have KP15 := Lib.hid ((KP14.out.up (btr (bz w11) hB)).and (keepI hRY))
    clear KP14
    clear hRY hB
    clear gr
    have hall := KP15.out.here
    have hR1 := hall.2.2.2.2.2.2.2.2.2.2.2.2.1
    have hR0 := hall.2.2.2.2.2.2.2.2.2.2.2.2.2.1
    clear hall
    have zR := World.block_lt_of_cell? _ _ hR0
    simp only at zR
    go_wp2_with fail
    clear hR1 hR0 zR
    have hall := KP15.out.here
    have gr := hall.2.2.2.2.2.2.2.2.2.2.2.2.2.2.1
    clear hall
    refine (mirror_any p _ V _ (gr.mono (bz w12)) (by omega)).mono ?_
    rintro e w13 ⟨v, rfl, hRP, hB⟩
    obtain ⟨aP, cP, hv⟩ := hRP.ex _ rfl
    subst hv
    have KP16 := Lib.hid ((KP15.out.up (btr (bz w12) hB)).and (keepP hRP))
    clear KP15
    clear hRP hB
    clear gr
    have hall := KP16.out.here
    have hR1 := hall.2.2.2.2.2.2.2.2.2.2.2.2.2.1
    have hR0 := hall.2.2.2.2.2.2.2.2.2.2.2.2.2.2.1
    clear hall
    have zR := World.block_lt_of_cell? _ _ hR0
    simp only at zR
    go_wp2_with fail
    clear hR1 hR0 zR
    have KP17 := Lib.hid (((KP16.out.up (bal (bz w13) _)).and (keepC (w := (w13.alloc (.cells #[.int .i64 (cutP p V), .slice aP (mirrorL p V).length cP] 24))) (p := ⟨w13.heap.size, 0, none⟩) (cnew (by simp) rfl))).and (keepC (w := (w13.alloc (.cells #[.int .i64 (cutP p V), .slice aP (mirrorL p V).length cP] 24))) (p := ⟨w13.heap.size, 1, none⟩) (cnew (by simp) rfl)))
    clear KP16
    have hall := KP17.out.here
    have gr := hall.2.2.2.2.2.2.2.2.2.2.2.2.2.2.2.2.2.1
    clear hall
    refine (rmirror_any p _ V _ (gr.mono (bz ((w13.alloc (.cells #[.int .i64 (cutP p V), .slice aP (mirrorL p V).length cP] 24))))) (by omega)).mono ?_
    rintro e w14 ⟨v, rfl, hRQ, hB⟩
    obtain ⟨aQ, cQ, hv⟩ := hRQ.ex _ rfl
    subst hv
    have KP18 := Lib.hid ((KP17.out.up (btr (bz ((w13.alloc (.cells #[.int .i64 (cutP p V), .slice aP (mirrorL p V).length cP] 24)))) hB)).and (keepP hRQ))
    clear KP17
    clear hRQ hB
    clear gr
    have hall := KP18.out.here
    have hP1 := hall.2.1
    have hP0 := hall.2.2.1
    have hR1 := hall.2.2.2.2.2.2.2.2.2.2.2.2.2.2.2.2.1
    have hR0 := hall.2.2.2.2.2.2.2.2.2.2.2.2.2.2.2.2.2.1
    clear hall
    have zR := World.block_lt_of_cell? _ _ hR0
    have zP := World.block_lt_of_cell? _ _ hP0
    simp only at zR zP
    go_wp2_with fail
    clear hP1 hP0 hR1 hR0 zR zP
    have KP19 := Lib.hid (((KP18.out.up (bal (bz w14) _)).and (keepC (w := (w14.alloc (.cells #[.int .i64 (cutP p V), .slice aQ (mirrorL p V).length cQ] 24))) (p := ⟨w14.heap.size, 0, none⟩) (cnew (by simp) rfl))).and (keepC (w := (w14.alloc (.cells #[.int .i64 (cutP p V), .slice aQ (mirrorL p V).length cQ] 24))) (p := ⟨w14.heap.size, 1, none⟩) (cnew (by simp) rfl)))
    clear KP18
    have hall := KP19.out.here
    have gY := hall.2.2.2.2.2.2.1
    have gX := hall.2.2.2.2.2.2.2.1
    clear hall
    refine (ints_eq _ _ (rendsR p V place) _ gX gY (by have := rendsR_len p place V; omega)).mono ?_
    rintro e w15 ⟨rfl, hB⟩
    have KP20 := Lib.hid (KP19.out.up (btr (bz ((w14.alloc (.cells #[.int .i64 (cutP p V), .slice aQ (mirrorL p V).length cQ] 24)))) hB))
    clear KP19
    clear hB
    clear gY gX
    have hall := KP20.out.here
    have hQ1 := hall.1
    have hQ0 := hall.2.1
    have hP1 := hall.2.2.2.1
    have hP0 := hall.2.2.2.2.1
    have hR1 := hall.2.2.2.2.2.2.2.2.2.2.2.2.2.2.2.2.2.2.1
    have hR0 := hall.2.2.2.2.2.2.2.2.2.2.2.2.2.2.2.2.2.2.2.1
    clear hall
    have zR := World.block_lt_of_cell? _ _ hR0
    have zP := World.block_lt_of_cell? _ _ hP0
    have zQ := World.block_lt_of_cell? _ _ hQ0
    simp only at zR zP zQ
    go_wp2_with fail
    clear hQ1 hQ0 hP1 hP0 hR1 hR0 zR zP zQ
    have hall := KP20.out.here
    have gQ := hall.2.2.1
    have gP := hall.2.2.2.2.2.1
    clear hall
    refine (same_eq _ _ _ (mirrorL p V) _ gP gQ (by have := mirrorL_len p V; omega)).mono ?_
    rintro e w16 ⟨rfl, hB⟩
    have KP21 := Lib.hid (KP20.out.up (btr (bz w15) hB))
    clear KP20
    clear hB
    clear gQ gP
    have hall := KP21.out.here
    have hQ1 := hall.1
    have hQ0 := hall.2.1
    have hP1 := hall.2.2.2.1
    have hP0 := hall.2.2.2.2.1
    have hR1 := hall.2.2.2.2.2.2.2.2.2.2.2.2.2.2.2.2.2.2.1
    have hR0 := hall.2.2.2.2.2.2.2.2.2.2.2.2.2.2.2.2.2.2.2.1
    clear hall
    have zR := World.block_lt_of_cell? _ _ hR0
    have zP := World.block_lt_of_cell? _ _ hP0
    have zQ := World.block_lt_of_cell? _ _ hQ0
    simp only at zR zP zQ
    go_wp2_with fail
    clear hQ1 hQ0 hP1 hP0 hR1 hR0 zR zP zQ
    refine (works_any _).mono ?_
    rintro e w17 ⟨rfl, hB⟩
    have KP22 := Lib.hid (KP21.out.up (btr (bz w16) hB))
    clear KP21
    clear hB
    have hall := KP22.out.here
    have gBelow := hall.2.2.2.2.2.2.2.2.2.2.2.2.2.2.2.2.2.2.2.2.2
    clear hall
    go_wp2
    go_ret
    exact ⟨rfl, gBelow⟩
section
open Go.ChangeShapes Go.WideShapes Go.ChangeAt
set_option maxRecDepth 100000 in
theorem valveNeedless_lifted (os : Os) (started : os.Started) (H : Type) (enc : TypeId × Value → H) :
    ReturnsInHanded {} Try.checked os 5 .any (Rows.valveNeedlessSpec.pre6 enc Try.prog Try.f5 Rows.valveNeedlessRow.domain false) (Rows.valveNeedlessSpec.post enc Try.prog Try.f5 false true false false) := by
  refine returnsInHanded_of_change (C := Try.checked) Try.own started (by kernel_rfl) Try.func5
    (ChangeSpec.witness6 (enc := enc) (C := Try.checked) false ⟨#[], #[.agg #[.int .i64 0, .slice none 0 0], .int .i64 0], []⟩ 8 (by kernel_rfl) (by kernel_rfl) (by kernel_rfl) (by kernel_rfl)) ?_
  intro W base args ds gs before hval0 hW _ _
  have hval : ∀ (j : Nat) t v, Try.f5.params[j]? = some t → args[j]? = some v → Value.okWide Try.prog W .any base t v := hval0
  have hW' := hW
  obtain ⟨p, q, hA0, hV, rfl, hfz, hnd⟩ := hW
  have hA : DataW.TrodAll enc Try.prog W 0 (fun _ => true) true Try.f5.params.toList args.toList ds p := hA0
  have hA2 := hA
  have hlt : ∀ x ∈ p, x.block < W.heap.size := fun x hx => hW'.lt x (List.mem_append_left _ hx)
  rw [Try.params5] at hA hval
  obtain ⟨v0, vs0, d0, ds0, p0, q0, hargs, rfl, rfl, h0, r0⟩ := trodAll_cons hA
  obtain ⟨v1, vs1, d1, ds1, p1, q1, rfl, rfl, rfl, h1, r1⟩ := trodAll_cons r0
  obtain ⟨rfl, rfl, rfl⟩ := trodAll_nil r1
  obtain rfl : args = #[v0, v1] := by cases args; simp_all
  obtain ⟨rfl, rfl⟩ := trodVars_none hV
  obtain ⟨a0, x0, V0, rfl, hx0⟩ := open_row (hval 0 24 v0 rfl rfl) h0 (fun x hx => hlt x (by simp [hx]))
  obtain ⟨a1, rfl, rfl, rfl, w1⟩ := open_int Try.underlying3 (hval 1 3 v1 rfl rfl) h1
  clear hA0 hval0
  simp only [List.append_nil] at hW' hA2
  refine (needless_walk a0 a1 x0 V0 W hx0).mono fun e W' ⟨he, hb⟩ => ?_
  subst he
  exact ⟨_, rfl, law_post Try.laidOut Try.underlying4 hW' hA2 rfl rfl rfl rfl rfl (by kernel_rfl) hb⟩
theorem valveNeedless_holds : Rows.ValveNeedlessSaid :=
  OpenClaim.holds_of_wide 5 Try.f5 rfl rfl rfl rfl rfl rfl rfl ⟨rfl, rfl, rfl, rfl, rfl⟩ rfl rfl rfl rfl rfl (by kernel_rfl) Try.func5 (by kernel_rfl)
    (of_decide_eq_true (by kernel_rfl)) (by unfold Func.isWrapper; first | (rw [if_pos (by decide +kernel)]; kernel_rfl) | (rw [if_neg (by decide +kernel)]; exact ⟨rfl, rfl⟩))
    (fun os started H enc _ => valveNeedless_lifted os started H enc)
end
end Go.Proofs.Ytdnaipiiponhpaa
