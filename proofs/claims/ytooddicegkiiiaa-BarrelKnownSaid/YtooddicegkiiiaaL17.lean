/- BarrelKnown holds; no condition. -/
import Derived.Test.YtooddicegkiiiaaWk
namespace Go.Proofs.Ytooddicegkiiiaa
open Go.RowKit Go.Shelf
set_option maxRecDepth 100000 in
set_option maxHeartbeats 16000000 in
theorem barrelKnown_walk (w : World) : Calls Try.prog 17 #[] w fun e w' => e = .returned (.bool true) ∧ Below w.heap.size w w' := by
  go_enter Try.func17, Try.ntmps17
  have KP0 := Lib.hid (keepB (bz w))
  go_wp2_with fail
  refine (pins_lit _ [4, 1, 6, 3, 9, 0] [(4, 1), (6, 3), (9, 0)] _ (rdI_new _ [4, 1, 6, 3, 9, 0] _ (by decide +kernel)) (by decide +kernel) (by decide +kernel)).mono ?_
  rintro e w1 ⟨v, rfl, hRl, hB⟩
  obtain ⟨al, cl, hv⟩ := hRl.ex (3) rfl
  subst hv
  have KP1 := Lib.hid ((KP0.out.up (btr (bal (bz w) _) hB)).and (keepP hRl))
  clear KP0
  clear hRl hB
  go_wp2_with fail
  refine (pins_lit _ [4, 1, 6, 2] [(4, 1), (6, 2)] _ (rdI_new _ [4, 1, 6, 2] _ (by decide +kernel)) (by decide +kernel) (by decide +kernel)).mono ?_
  rintro e w2 ⟨v, rfl, hRm, hB⟩
  obtain ⟨am, cm, hv⟩ := hRm.ex (2) rfl
  subst hv
  have KP2 := Lib.hid ((KP1.out.up (btr (bal (bz w1) _) hB)).and (keepP hRm))
  clear KP1
  clear hRm hB
  go_wp2_with fail
  refine (pins_lit _ [4, 1, 6, 2, 3, 0, 5, 4] [(4, 1), (6, 2), (3, 0), (5, 4)] _ (rdI_new _ [4, 1, 6, 2, 3, 0, 5, 4] _ (by decide +kernel)) (by decide +kernel) (by decide +kernel)).mono ?_
  rintro e w3 ⟨v, rfl, hRn, hB⟩
  obtain ⟨an, cn, hv⟩ := hRn.ex (4) rfl
  subst hv
  have KP3 := Lib.hid ((KP2.out.up (btr (bal (bz w2) _) hB)).and (keepP hRn))
  clear KP2
  clear hRn hB
  go_wp2_with fail
  refine (pins_lit _ [2, 0, 2, 1] [(2, 0), (2, 1)] _ (rdI_new _ [2, 0, 2, 1] _ (by decide +kernel)) (by decide +kernel) (by decide +kernel)).mono ?_
  rintro e w4 ⟨v, rfl, hRk, hB⟩
  obtain ⟨ak, ck, hv⟩ := hRk.ex (2) rfl
  subst hv
  have KP4 := Lib.hid ((KP3.out.up (btr (bal (bz w3) _) hB)).and (keepP hRk))
  clear KP3
  clear hRk hB
  have hall := KP4.out.here
  clear hall
  go_wp2_with fail
  have hall := KP4.out.here
  have gl := hall.2.2.2.1
  clear hall
  refine (sounds_lit _ [(4, 1), (6, 3), (9, 0)] 3 [1] 0 _ gl (by decide +kernel) (by decide +kernel) (by decide +kernel)).mono ?_
  rintro e w5 ⟨v, rfl, hRsa, hB⟩
  obtain ⟨asa, csa, hv⟩ := hRsa.ex (1) rfl
  subst hv
  have KP5 := Lib.hid ((KP4.out.up (btr (bz w4) hB)).and (keepI hRsa))
  clear KP4
  clear hRsa hB
  clear gl
  have hall := KP5.out.here
  clear hall
  go_wp2_with fail
  have hall := KP5.out.here
  have gl := hall.2.2.2.2.1
  clear hall
  refine (sounds_lit _ [(4, 1), (6, 3), (9, 0)] 2 [] 0 _ gl (by decide +kernel) (by decide +kernel) (by decide +kernel)).mono ?_
  rintro e w6 ⟨v, rfl, hRsb, hB⟩
  obtain ⟨asb, csb, hv⟩ := hRsb.ex (0) rfl
  subst hv
  have KP6 := Lib.hid ((KP5.out.up (btr (bz w5) hB)).and (keepI hRsb))
  clear KP5
  clear hRsb hB
  clear gl
  have hall := KP6.out.here
  clear hall
  go_wp2_with fail
  have hall := KP6.out.here
  have gl := hall.2.2.2.2.2.1
  clear hall
  refine (sounds_lit _ [(4, 1), (6, 3), (9, 0)] (-1) [] 3 _ gl (by decide +kernel) (by decide +kernel) (by decide +kernel)).mono ?_
  rintro e w7 ⟨v, rfl, hRsc, hB⟩
  obtain ⟨asc, csc, hv⟩ := hRsc.ex (0) rfl
  subst hv
  have KP7 := Lib.hid ((KP6.out.up (btr (bz w6) hB)).and (keepI hRsc))
  clear KP6
  clear hRsc hB
  clear gl
  have hall := KP7.out.here
  clear hall
  go_wp2_with fail
  have hall := KP7.out.here
  have gl := hall.2.2.2.2.2.2.1
  clear hall
  refine (next_lit _ [(4, 1), (6, 3), (9, 0)] 9 9 0 _ gl (by decide +kernel) (by decide +kernel) (by decide +kernel)).mono ?_
  rintro e w8 ⟨rfl, hB⟩
  have KP8 := Lib.hid (KP7.out.up (btr (bz w7) hB))
  clear KP7
  clear hB
  clear gl
  have hall := KP8.out.here
  clear hall
  go_wp2_with fail
  have hall := KP8.out.here
  have gl := hall.2.2.2.2.2.2.1
  clear hall
  refine (count_lit _ [(4, 1), (6, 3), (9, 0)] 10 44 0 0 _ gl (by decide +kernel) (by decide +kernel) (by decide +kernel)).mono ?_
  rintro e w9 ⟨rfl, hB⟩
  have KP9 := Lib.hid (KP8.out.up (btr (bz w8) hB))
  clear KP8
  clear hB
  clear gl
  have hall := KP9.out.here
  clear hall
  go_wp2_with fail
  have hall := KP9.out.here
  have gm := hall.2.2.2.2.2.1
  clear hall
  refine (count_lit _ [(4, 1), (6, 2)] 0 100 0 0 _ gm (by decide +kernel) (by decide +kernel) (by decide +kernel)).mono ?_
  rintro e w10 ⟨rfl, hB⟩
  have KP10 := Lib.hid (KP9.out.up (btr (bz w9) hB))
  clear KP9
  clear hB
  clear gm
  have hall := KP10.out.here
  clear hall
  go_wp2_with fail
  have hall := KP10.out.here
  have gm := hall.2.2.2.2.2.1
  clear hall
  refine (cc_lit _ [(4, 1), (6, 2)] 1 1 0 2 _ gm (by decide +kernel) (by decide +kernel) (by decide +kernel)).mono ?_
  rintro e w11 ⟨rfl, hB⟩
  have KP11 := Lib.hid (KP10.out.up (btr (bz w10) hB))
  clear KP10
  clear hB
  clear gm
  have hall := KP11.out.here
  clear hall
  go_wp2_with fail
  have hall := KP11.out.here
  have gl := hall.2.2.2.2.2.2.1
  clear hall
  refine (clash_none _ [(4, 1), (6, 3), (9, 0)] _ gl (by decide +kernel) (by decide +kernel) (free_of_pairwise.2 (by decide +kernel))).mono ?_
  rintro e w12 ⟨rfl, hB⟩
  have KP12 := Lib.hid (KP11.out.up (btr (bz w11) hB))
  clear KP11
  clear hB
  clear gl
  have hall := KP12.out.here
  clear hall
  go_wp2_with fail
  have hall := KP12.out.here
  have gk := hall.2.2.2.1
  clear hall
  refine (group_lit _ [(2, 0), (2, 1)] [0] 0 _ gk (by decide +kernel) (by decide +kernel) (by decide +kernel)).mono ?_
  rintro e w13 ⟨v, rfl, hRg, hB⟩
  obtain ⟨ag, cg, hv⟩ := hRg.ex (1) rfl
  subst hv
  have KP13 := Lib.hid ((KP12.out.up (btr (bz w12) hB)).and (keepI hRg))
  clear KP12
  clear hRg hB
  clear gk
  go_wp2_with fail
  refine (of_id _ _).mono ?_
  rintro e w' ⟨rfl, rfl⟩
  go_wp2_with fail
  have hall := KP13.out.here
  have gn := hall.2.2.2.2.2.1
  clear hall
  refine (cg_lit _ _ [(4, 1), (6, 2), (3, 0), (5, 4)] [0, 2] 0 _ (gn.mono (bal (bz w13) _)) (rdI_new _ [0, 2] _ (by decide +kernel)) (by decide +kernel) (by decide +kernel) (by decide +kernel)).mono ?_
  rintro e w14 ⟨rfl, hB⟩
  have KP14 := Lib.hid (KP13.out.up (btr (bal (bz w13) _) hB))
  clear KP13
  clear hB
  clear gn
  go_wp2_with fail
  refine (of_id _ _).mono ?_
  rintro e w' ⟨rfl, rfl⟩
  go_wp2_with fail
  have hall := KP14.out.here
  have gn := hall.2.2.2.2.2.1
  clear hall
  refine (cg_lit _ _ [(4, 1), (6, 2), (3, 0), (5, 4)] [1, 0] 2 _ (gn.mono (bal (bz w14) _)) (rdI_new _ [1, 0] _ (by decide +kernel)) (by decide +kernel) (by decide +kernel) (by decide +kernel)).mono ?_
  rintro e w15 ⟨rfl, hB⟩
  have KP15 := Lib.hid (KP14.out.up (btr (bal (bz w14) _) hB))
  clear KP14
  clear hB
  clear gn
  have hall := KP15.out.here
  clear hall
  go_wp2_with fail
  have hall := KP15.out.here
  have gl := hall.2.2.2.2.2.2.2.1
  clear hall
  refine (quiet_lit _ [(4, 1), (6, 3), (9, 0)] 8 8 0 _ gl (by decide +kernel) (by decide +kernel) (by decide +kernel)).mono ?_
  rintro e w16 ⟨rfl, hB⟩
  have KP16 := Lib.hid (KP15.out.up (btr (bz w15) hB))
  clear KP15
  clear hB
  clear gl
  have hall := KP16.out.here
  clear hall
  go_wp2_with fail
  have hall := KP16.out.here
  have gm := hall.2.2.2.2.2.2.1
  clear hall
  refine (off_lit _ [(4, 1), (6, 2)] 0 [0, 2] 0 _ gm (by decide +kernel) (by decide +kernel) (by decide +kernel)).mono ?_
  rintro e w17 ⟨v, rfl, hRo, hB⟩
  obtain ⟨ao, co, hv⟩ := hRo.ex (2) rfl
  subst hv
  have KP17 := Lib.hid ((KP16.out.up (btr (bz w16) hB)).and (keepI hRo))
  clear KP16
  clear hRo hB
  clear gm
  go_wp2_with fail
  refine (of_id _ _).mono ?_
  rintro e w' ⟨rfl, rfl⟩
  go_wp2_with fail
  have hall := KP17.out.here
  have gsa := hall.2.2.2.2.1
  clear hall
  refine (ints_eq _ _ [1] _ (gsa.mono (bal (bz w17) _)) (rdI_new _ [1] _ (by decide +kernel)) (by decide +kernel)).mono ?_
  rintro e w18 ⟨rfl, hB⟩
  have KP18 := Lib.hid (KP17.out.up (btr (bal (bz w17) _) hB))
  clear KP17
  clear hB
  clear gsa
  go_wp2_with fail
  refine (of_id _ _).mono ?_
  rintro e w' ⟨rfl, rfl⟩
  go_wp2_with fail
  have hall := KP18.out.here
  have gg := hall.2.1
  clear hall
  refine (ints_eq _ _ [0] _ (gg.mono (bal (bz w18) _)) (rdI_new _ [0] _ (by decide +kernel)) (by decide +kernel)).mono ?_
  rintro e w19 ⟨rfl, hB⟩
  have KP19 := Lib.hid (KP18.out.up (btr (bal (bz w18) _) hB))
  clear KP18
  clear hB
  clear gg
  go_wp2_with fail
  refine (longs_id _ _).mono ?_
  rintro e w' ⟨rfl, rfl⟩
  go_wp2_with fail
  have hall := KP19.out.here
  have go := hall.1
  clear hall
  refine (longs_eq _ _ [0, 2] _ (go.mono (bal (bz w19) _)) (rdI_new _ [0, 2] _ (by decide +kernel)) (by decide +kernel)).mono ?_
  rintro e w20 ⟨rfl, hB⟩
  have KP20 := Lib.hid (KP19.out.up (btr (bal (bz w19) _) hB))
  clear KP19
  clear hB
  clear go
  have hall := KP20.out.here
  clear hall
  go_wp2_with fail
  refine (works_any _).mono ?_
  rintro e w21 ⟨rfl, hB⟩
  have KP21 := Lib.hid (KP20.out.up (btr (bz w20) hB))
  clear KP20
  clear hB
  go_wp2_with fail
  have hall := KP21.out.here
  have gBelow := hall.2.2.2.2.2.2.2.2.2
  clear hall
  go_ret
  exact ⟨rfl, gBelow⟩
section
open Go.ChangeShapes Go.WideShapes Go.ChangeAt
set_option maxRecDepth 100000 in
theorem barrelKnown_lifted (os : Os) (started : os.Started) (H : Type) (enc : TypeId × Value → H) :
    ReturnsInHanded {} Try.checked os 17 .any (Rows.barrelKnownSpec.pre6 enc Try.prog Try.f17 Rows.barrelKnownRow.domain false) (Rows.barrelKnownSpec.post enc Try.prog Try.f17 false true false false) := by
  refine returnsInHanded_of_change (C := Try.checked) Try.own started (by kernel_rfl) Try.func17
    (ChangeSpec.witness6 (enc := enc) (C := Try.checked) false ⟨#[], #[], []⟩ 8 (by kernel_rfl) (by kernel_rfl) (by kernel_rfl) (by kernel_rfl)) ?_
  intro W base args ds gs before hval0 hW _ _
  have hval : ∀ (j : Nat) t v, Try.f17.params[j]? = some t → args[j]? = some v → Value.okWide Try.prog W .any base t v := hval0
  have hW' := hW
  obtain ⟨p, q, hA0, hV, rfl, hfz, hnd⟩ := hW
  have hA : DataW.TrodAll enc Try.prog W 0 (fun _ => true) true Try.f17.params.toList args.toList ds p := hA0
  have hA2 := hA
  rw [Try.params17] at hA hval
  obtain ⟨hargs, rfl, rfl⟩ := trodAll_nil hA
  obtain rfl : args = #[] := by cases args; simp_all
  obtain ⟨rfl, rfl⟩ := trodVars_none hV
  clear hA0 hval0
  simp only [List.append_nil] at hW' hA2
  refine (barrelKnown_walk W).mono fun e W' ⟨he, hb⟩ => ?_
  subst he
  exact ⟨_, rfl, law_post Try.laidOut Try.underlying4 hW' hA2 rfl rfl rfl rfl rfl (by kernel_rfl) hb⟩
theorem barrelKnown_holds : Rows.BarrelKnownSaid :=
  OpenClaim.holds_of_wide 17 Try.f17 rfl rfl rfl rfl rfl rfl rfl ⟨rfl, rfl, rfl, rfl, rfl⟩ rfl rfl rfl rfl rfl (by kernel_rfl) Try.func17 (by kernel_rfl)
    (of_decide_eq_true (by kernel_rfl)) (by unfold Func.isWrapper; first | (rw [if_pos (by decide +kernel)]; kernel_rfl) | (rw [if_neg (by decide +kernel)]; exact ⟨rfl, rfl⟩))
    (fun os started H enc _ => barrelKnown_lifted os started H enc)
end
end Go.Proofs.Ytooddicegkiiiaa
