/- The examples of the chapter; a closed statement. -/
import Derived.Test.YtjajdpggoggoiaaWk
namespace Go.Proofs.Ytjajdpggoggoiaa
open Go.RowKit Go.Shelf

set_option maxRecDepth 100000 in
set_option maxHeartbeats 16000000 in
theorem shelfKnown_walk (w : World) : Calls Try.prog 14 #[] w fun e w' => e = .returned (.bool true) ∧ Below w.heap.size w w' := by
  go_enter Try.func14, Try.ntmps14
  have KP0 := Lib.hid (keepB (bz w))
  have hall := KP0.out.here
  clear hall
  go_wp2_with fail
  refine (day_lit 3 _).mono ?_
  rintro e w1 ⟨v, rfl, hRd, hB⟩
  obtain ⟨ad, cd, hv⟩ := hRd.ex (12) rfl
  subst hv
  have KP1 := Lib.hid ((KP0.out.up (btr (bz w) hB)).and (keepI hRd))
  clear KP0
  clear hRd hB
  have hall := KP1.out.here
  clear hall
  go_wp2_with fail
  refine (day_lit 4 _).mono ?_
  rintro e w2 ⟨v, rfl, hRe, hB⟩
  obtain ⟨ae, ce, hv⟩ := hRe.ex (12) rfl
  subst hv
  have KP2 := Lib.hid ((KP1.out.up (btr (bz w1) hB)).and (keepI hRe))
  clear KP1
  clear hRe hB
  go_wp2_with fail
  have KP3 := Lib.hid (((KP2.out.up (bal (bz w2) _)).and (keepC (w := (w2.alloc (.cells #[.int .i64 3, .slice ad 12 cd] 24))) (p := ⟨w2.heap.size, 0, none⟩) (v := .int .i64 3) (cnew (by simp) rfl))).and (keepC (w := (w2.alloc (.cells #[.int .i64 3, .slice ad 12 cd] 24))) (p := ⟨w2.heap.size, 1, none⟩) (v := .slice ad 12 cd) (cnew (by simp) rfl)))
  clear KP2
  have KP4 := Lib.hid (((KP3.out.up (bal (bz ((w2.alloc (.cells #[.int .i64 3, .slice ad 12 cd] 24)))) _)).and (keepC (w := ((w2.alloc (.cells #[.int .i64 3, .slice ad 12 cd] 24)).alloc (.cells #[.int .i64 4, .slice ae 12 ce] 24))) (p := ⟨w2.heap.size + 1, 0, none⟩) (v := .int .i64 4) (cnew (by simp) rfl))).and (keepC (w := ((w2.alloc (.cells #[.int .i64 3, .slice ad 12 cd] 24)).alloc (.cells #[.int .i64 4, .slice ae 12 ce] 24))) (p := ⟨w2.heap.size + 1, 1, none⟩) (v := .slice ae 12 ce) (cnew (by simp) rfl)))
  clear KP3
  have hall := KP4.out.here
  have gd := hall.2.2.2.2.2.1
  clear hall
  refine (fetches_lit 3 _ D12 3 [0, 1, 2, 3, 6, 9, 10] 0 _ gd (by decide +kernel) (by decide +kernel) (by decide +kernel)).mono ?_
  rintro e w3 ⟨v, rfl, hRa, hB⟩
  obtain ⟨aa, ca, hv⟩ := hRa.ex (7) rfl
  subst hv
  have KP5 := Lib.hid ((KP4.out.up (btr (bz (((w2.alloc (.cells #[.int .i64 3, .slice ad 12 cd] 24)).alloc (.cells #[.int .i64 4, .slice ae 12 ce] 24)))) hB)).and (keepI hRa))
  clear KP4
  clear hRa hB
  clear gd
  have hall := KP5.out.here
  have he1 := hall.2.1
  have he0 := hall.2.2.1
  have hd1 := hall.2.2.2.1
  have hd0 := hall.2.2.2.2.1
  clear hall
  have zd := World.block_lt_of_cell? _ _ hd0
  have ze := World.block_lt_of_cell? _ _ he0
  simp only at zd ze
  go_wp2_with fail
  clear he1 he0 hd1 hd0 zd ze
  have hall := KP5.out.here
  have ge := hall.2.2.2.2.2.1
  clear hall
  refine (fetches_lit 4 _ D12 1 [0, 1, 2, 3, 6, 7, 8, 9, 10, 11] 0 _ ge (by decide +kernel) (by decide +kernel) (by decide +kernel)).mono ?_
  rintro e w4 ⟨v, rfl, hRb, hB⟩
  obtain ⟨ab, cb, hv⟩ := hRb.ex (10) rfl
  subst hv
  have KP6 := Lib.hid ((KP5.out.up (btr (bz w3) hB)).and (keepI hRb))
  clear KP5
  clear hRb hB
  clear ge
  have hall := KP6.out.here
  have he1 := hall.2.2.1
  have he0 := hall.2.2.2.1
  have hd1 := hall.2.2.2.2.1
  have hd0 := hall.2.2.2.2.2.1
  clear hall
  have zd := World.block_lt_of_cell? _ _ hd0
  have ze := World.block_lt_of_cell? _ _ he0
  simp only at zd ze
  go_wp2_with fail
  clear he1 he0 hd1 hd0 zd ze
  have hall := KP6.out.here
  have ge := hall.2.2.2.2.2.2.1
  clear hall
  refine (fetches_lit 4 _ D12 2 [0, 1, 2, 3, 6, 9, 10, 11] 0 _ ge (by decide +kernel) (by decide +kernel) (by decide +kernel)).mono ?_
  rintro e w5 ⟨v, rfl, hRc, hB⟩
  obtain ⟨ac, cc, hv⟩ := hRc.ex (8) rfl
  subst hv
  have KP7 := Lib.hid ((KP6.out.up (btr (bz w4) hB)).and (keepI hRc))
  clear KP6
  clear hRc hB
  clear ge
  have hall := KP7.out.here
  have he1 := hall.2.2.2.1
  have he0 := hall.2.2.2.2.1
  have hd1 := hall.2.2.2.2.2.1
  have hd0 := hall.2.2.2.2.2.2.1
  clear hall
  have zd := World.block_lt_of_cell? _ _ hd0
  have ze := World.block_lt_of_cell? _ _ he0
  simp only at zd ze
  go_wp2_with fail
  clear he1 he0 hd1 hd0 zd ze
  have hall := KP7.out.here
  have gd := hall.2.2.2.2.2.2.2.2.1
  clear hall
  refine (plan_lit 3 _ D12 1 [0, 0, 0, 1, 2, 3, 4, 0, 0, 1, 2, 0] 0 _ gd (by decide +kernel) (by decide +kernel) (by decide +kernel)).mono ?_
  rintro e w6 ⟨v, rfl, hRp, hB⟩
  obtain ⟨ap, cp, hv⟩ := hRp.ex (12) rfl
  subst hv
  have KP8 := Lib.hid ((KP7.out.up (btr (bz w5) hB)).and (keepI hRp))
  clear KP7
  clear hRp hB
  clear gd
  have hall := KP8.out.here
  have he1 := hall.2.2.2.2.1
  have he0 := hall.2.2.2.2.2.1
  have hd1 := hall.2.2.2.2.2.2.1
  have hd0 := hall.2.2.2.2.2.2.2.1
  clear hall
  have zd := World.block_lt_of_cell? _ _ hd0
  have ze := World.block_lt_of_cell? _ _ he0
  simp only at zd ze
  go_wp2_with fail
  clear he1 he0 hd1 hd0 zd ze
  refine wp_region_flow [] [([0], 1, true), ([], 2, true), ([], 3, true)] [4, 5, 6, 7, 8] (by kernel_rfl) (by kernel_rfl) ?_
  intro w7 hB hh
  clear hh
  have KP9 := Lib.hid ((KP8.out.up (btr (bz w6) hB)).and (keepB (bz w7)))
  clear KP8
  clear hB
  have hall := KP9.out.here
  have he1 := hall.2.2.2.2.2.1
  have he0 := hall.2.2.2.2.2.2.1
  have hd1 := hall.2.2.2.2.2.2.2.1
  have hd0 := hall.2.2.2.2.2.2.2.2.1
  clear hall
  have zd := World.block_lt_of_cell? _ _ hd0
  have ze := World.block_lt_of_cell? _ _ he0
  simp only at zd ze
  have hL := @Later.cell w7
  simp only [flowP, flow, pickL, List.getElem?_cons_succ, List.getElem?_cons_zero]
  refine wpQuiet_nil ?_
  repeat (go_big_quiet_step (fail))
  refine wpQuiet_nil ?_
  go_wp2
  have KP10 := Lib.hid ((KP9.out.up (bal (bz w7) _)).and (keepI (rdI_at w7 [0, 0, 0, 3, 0, 0, 4, 0, 0, 2, 1] 3 (w7.heap.size) (by simp) (by decide +kernel))))
  clear KP9
  have hall := KP10.out.here
  have gSw7 := hall.2.1
  clear hall
  refine seg_grow ⟨⟨_, gSw7⟩, rfl⟩ ?_
  clear gSw7
  repeat (go_big_quiet_step (fail))
  refine wpQuiet_nil ?_
  go_wp2_with fail
  refine (of_id _ _).mono ?_
  rintro e w' ⟨rfl, rfl⟩
  go_wp2
  have hall := KP10.out.here
  have gSw7 := hall.2.1
  clear hall
  refine seg_grow ⟨⟨_, gSw7⟩, rfl⟩ ?_
  clear gSw7
  repeat (go_big_quiet_step (fail))
  refine wpQuiet_nil ?_
  go_wp2_with fail
  have hall := KP10.out.here
  have glit9 := hall.1
  have gd := hall.2.2.2.2.2.2.2.2.2.2.2.1
  clear hall
  refine (checkplan_lit 3 _ _ D12 [0, 0, 0, 3, 0, 0, 4, 0, 0, 2, 1] 0 15 _ gd glit9 (by decide +kernel) (by decide +kernel) (by decide +kernel)).mono ?_
  rintro e w8 ⟨rfl, hB⟩
  have KP11 := Lib.hid (KP10.out.up (btr (bz ((w7.alloc (.cells (arrI [0, 0, 0, 3, 0, 0, 4, 0, 0, 2, 1]) 3)))) hB))
  clear KP10
  clear hB
  clear glit9 gd
  go_wp2
  have hall := KP11.out.here
  have gSw7 := hall.2.1
  clear hall
  refine seg_grow ⟨⟨_, gSw7⟩, rfl⟩ ?_
  clear gSw7
  repeat (go_big_quiet_step (fail))
  refine wpQuiet_nil ?_
  refine only_done ?_
  clear he1 he0 hd1 hd0 zd ze hL
  have hall := KP11.out.here
  have he1 := hall.2.2.2.2.2.2.1
  have he0 := hall.2.2.2.2.2.2.2.1
  have hd1 := hall.2.2.2.2.2.2.2.2.1
  have hd0 := hall.2.2.2.2.2.2.2.2.2.1
  clear hall
  have zd := World.block_lt_of_cell? _ _ hd0
  have ze := World.block_lt_of_cell? _ _ he0
  simp only at zd ze
  go_wp2_with fail
  clear he1 he0 hd1 hd0 zd ze
  refine wp_region_flow [] [([0], 1, true), ([], 2, true), ([], 3, true)] [4, 5, 6, 7, 8] (by kernel_rfl) (by kernel_rfl) ?_
  intro w9 hB hh
  clear hh
  have KP12 := Lib.hid ((KP11.out.up (btr (bz w8) hB)).and (keepB (bz w9)))
  clear KP11
  clear hB
  have hall := KP12.out.here
  have he1 := hall.2.2.2.2.2.2.2.1
  have he0 := hall.2.2.2.2.2.2.2.2.1
  have hd1 := hall.2.2.2.2.2.2.2.2.2.1
  have hd0 := hall.2.2.2.2.2.2.2.2.2.2.1
  clear hall
  have zd := World.block_lt_of_cell? _ _ hd0
  have ze := World.block_lt_of_cell? _ _ he0
  simp only at zd ze
  have hL := @Later.cell w9
  simp only [flowP, flow, pickL, List.getElem?_cons_succ, List.getElem?_cons_zero]
  refine wpQuiet_nil ?_
  repeat (go_big_quiet_step (fail))
  refine wpQuiet_nil ?_
  go_wp2
  have KP13 := Lib.hid ((KP12.out.up (bal (bz w9) _)).and (keepI (rdI_at w9 [3] 3 (w9.heap.size) (by simp) (by decide +kernel))))
  clear KP12
  have hall := KP13.out.here
  have gSw9 := hall.2.1
  clear hall
  refine seg_grow ⟨⟨_, gSw9⟩, rfl⟩ ?_
  clear gSw9
  repeat (go_big_quiet_step (fail))
  refine wpQuiet_nil ?_
  go_wp2_with fail
  refine (of_id _ _).mono ?_
  rintro e w' ⟨rfl, rfl⟩
  go_wp2
  have hall := KP13.out.here
  have gSw9 := hall.2.1
  clear hall
  refine seg_grow ⟨⟨_, gSw9⟩, rfl⟩ ?_
  clear gSw9
  repeat (go_big_quiet_step (fail))
  refine wpQuiet_nil ?_
  go_wp2_with fail
  have hall := KP13.out.here
  have glit12 := hall.1
  have gd := hall.2.2.2.2.2.2.2.2.2.2.2.2.2.1
  clear hall
  refine (checktimes_lit 3 _ _ D12 [3] 6 0 _ gd glit12 (by decide +kernel) (by decide +kernel) (by decide +kernel)).mono ?_
  rintro e w10 ⟨rfl, hB⟩
  have KP14 := Lib.hid (KP13.out.up (btr (bz ((w9.alloc (.cells (arrI [3]) 3)))) hB))
  clear KP13
  clear hB
  clear glit12 gd
  go_wp2
  have hall := KP14.out.here
  have gSw9 := hall.2.1
  clear hall
  refine seg_grow ⟨⟨_, gSw9⟩, rfl⟩ ?_
  clear gSw9
  repeat (go_big_quiet_step (fail))
  refine wpQuiet_nil ?_
  refine only_done ?_
  clear he1 he0 hd1 hd0 zd ze hL
  have hall := KP14.out.here
  have he1 := hall.2.2.2.2.2.2.2.2.1
  have he0 := hall.2.2.2.2.2.2.2.2.2.1
  have hd1 := hall.2.2.2.2.2.2.2.2.2.2.1
  have hd0 := hall.2.2.2.2.2.2.2.2.2.2.2.1
  clear hall
  have zd := World.block_lt_of_cell? _ _ hd0
  have ze := World.block_lt_of_cell? _ _ he0
  simp only at zd ze
  go_wp2_with fail
  clear he1 he0 hd1 hd0 zd ze
  have hall := KP14.out.here
  have gd := hall.2.2.2.2.2.2.2.2.2.2.2.2.2.1
  clear hall
  refine (checktimes_lit 3 _ _ D12 [] 5 0 _ gd (rdI_nil _ _) (by decide +kernel) (by decide +kernel) (by decide +kernel)).mono ?_
  rintro e w11 ⟨rfl, hB⟩
  have KP15 := Lib.hid (KP14.out.up (btr (bz w10) hB))
  clear KP14
  clear hB
  clear gd
  have hall := KP15.out.here
  have he1 := hall.2.2.2.2.2.2.2.2.1
  have he0 := hall.2.2.2.2.2.2.2.2.2.1
  have hd1 := hall.2.2.2.2.2.2.2.2.2.2.1
  have hd0 := hall.2.2.2.2.2.2.2.2.2.2.2.1
  clear hall
  have zd := World.block_lt_of_cell? _ _ hd0
  have ze := World.block_lt_of_cell? _ _ he0
  simp only at zd ze
  go_wp2_with fail
  clear he1 he0 hd1 hd0 zd ze
  have hall := KP15.out.here
  have gd := hall.2.2.2.2.2.2.2.2.2.2.2.2.2.1
  clear hall
  refine (kind_lit 3 _ D12 0 2 0 _ gd (by decide +kernel) kind0).mono ?_
  rintro e w12 ⟨rfl, hB⟩
  have KP16 := Lib.hid (KP15.out.up (btr (bz w11) hB))
  clear KP15
  clear hB
  clear gd
  have hall := KP16.out.here
  have he1 := hall.2.2.2.2.2.2.2.2.1
  have he0 := hall.2.2.2.2.2.2.2.2.2.1
  have hd1 := hall.2.2.2.2.2.2.2.2.2.2.1
  have hd0 := hall.2.2.2.2.2.2.2.2.2.2.2.1
  clear hall
  have zd := World.block_lt_of_cell? _ _ hd0
  have ze := World.block_lt_of_cell? _ _ he0
  simp only at zd ze
  go_wp2_with fail
  clear he1 he0 hd1 hd0 zd ze
  have hall := KP16.out.here
  have gd := hall.2.2.2.2.2.2.2.2.2.2.2.2.2.1
  clear hall
  refine (kind_lit 3 _ D12 3 2 0 _ gd (by decide +kernel) kind3).mono ?_
  rintro e w13 ⟨rfl, hB⟩
  have KP17 := Lib.hid (KP16.out.up (btr (bz w12) hB))
  clear KP16
  clear hB
  clear gd
  have hall := KP17.out.here
  have he1 := hall.2.2.2.2.2.2.2.2.1
  have he0 := hall.2.2.2.2.2.2.2.2.2.1
  have hd1 := hall.2.2.2.2.2.2.2.2.2.2.1
  have hd0 := hall.2.2.2.2.2.2.2.2.2.2.2.1
  clear hall
  have zd := World.block_lt_of_cell? _ _ hd0
  have ze := World.block_lt_of_cell? _ _ he0
  simp only at zd ze
  go_wp2_with fail
  clear he1 he0 hd1 hd0 zd ze
  have hall := KP17.out.here
  have gd := hall.2.2.2.2.2.2.2.2.2.2.2.2.2.1
  clear hall
  refine (kind_lit 3 _ D12 12 0 3 _ gd (by decide +kernel) kind12).mono ?_
  rintro e w14 ⟨rfl, hB⟩
  have KP18 := Lib.hid (KP17.out.up (btr (bz w13) hB))
  clear KP17
  clear hB
  clear gd
  go_wp2_with fail
  refine (of_id _ _).mono ?_
  rintro e w' ⟨rfl, rfl⟩
  go_wp2_with fail
  have hall := KP18.out.here
  have ga := hall.2.2.2.2.2.2.2.1
  clear hall
  refine (ints_eq _ _ [0, 1, 2, 3, 6, 9, 10] _ (ga.mono (bal (bz w14) _)) (rdI_new _ [0, 1, 2, 3, 6, 9, 10] _ (by decide +kernel)) (by decide +kernel)).mono ?_
  rintro e w15 ⟨rfl, hB⟩
  have KP19 := Lib.hid (KP18.out.up (btr (bal (bz w14) _) hB))
  clear KP18
  clear hB
  clear ga
  go_wp2_with fail
  refine (of_id _ _).mono ?_
  rintro e w' ⟨rfl, rfl⟩
  go_wp2_with fail
  have hall := KP19.out.here
  have gb := hall.2.2.2.2.2.2.1
  clear hall
  refine (ints_eq _ _ [0, 1, 2, 3, 6, 7, 8, 9, 10, 11] _ (gb.mono (bal (bz w15) _)) (rdI_new _ [0, 1, 2, 3, 6, 7, 8, 9, 10, 11] _ (by decide +kernel)) (by decide +kernel)).mono ?_
  rintro e w16 ⟨rfl, hB⟩
  have KP20 := Lib.hid (KP19.out.up (btr (bal (bz w15) _) hB))
  clear KP19
  clear hB
  clear gb
  go_wp2_with fail
  refine (of_id _ _).mono ?_
  rintro e w' ⟨rfl, rfl⟩
  go_wp2_with fail
  have hall := KP20.out.here
  have gc := hall.2.2.2.2.2.1
  clear hall
  refine (ints_eq _ _ [0, 1, 2, 3, 6, 9, 10, 11] _ (gc.mono (bal (bz w16) _)) (rdI_new _ [0, 1, 2, 3, 6, 9, 10, 11] _ (by decide +kernel)) (by decide +kernel)).mono ?_
  rintro e w17 ⟨rfl, hB⟩
  have KP21 := Lib.hid (KP20.out.up (btr (bal (bz w16) _) hB))
  clear KP20
  clear hB
  clear gc
  go_wp2_with fail
  refine (of_id _ _).mono ?_
  rintro e w' ⟨rfl, rfl⟩
  go_wp2_with fail
  have hall := KP21.out.here
  have gp := hall.2.2.2.2.1
  clear hall
  refine (ints_eq _ _ [0, 0, 0, 1, 2, 3, 4, 0, 0, 1, 2, 0] _ (gp.mono (bal (bz w17) _)) (rdI_new _ [0, 0, 0, 1, 2, 3, 4, 0, 0, 1, 2, 0] _ (by decide +kernel)) (by decide +kernel)).mono ?_
  rintro e w18 ⟨rfl, hB⟩
  have KP22 := Lib.hid (KP21.out.up (btr (bal (bz w17) _) hB))
  clear KP21
  clear hB
  clear gp
  go_wp2_with fail
  refine (works_any _).mono ?_
  rintro e wz ⟨rfl, hB⟩
  have hall := KP22.out.here
  have gBelow := hall.2.2.2.2.2.2.2.2.2.2.2.2.2.2
  clear hall
  have HBZ := Lib.hid (btr gBelow hB)
  clear hB
  go_wp2_with fail
  go_ret
  exact ⟨rfl, HBZ.out⟩
section
open Go.ChangeShapes Go.WideShapes Go.ChangeAt
set_option maxRecDepth 100000 in
theorem shelfKnown_lifted (os : Os) (started : os.Started) (H : Type) (enc : TypeId × Value → H) :
    ReturnsInHanded {} Try.checked os 14 .any (Rows.shelfKnownSpec.pre6 enc Try.prog Try.f14 Rows.shelfKnownRow.domain false) (Rows.shelfKnownSpec.post enc Try.prog Try.f14 false true false false) := by
  refine returnsInHanded_of_change (C := Try.checked) Try.own started (by kernel_rfl) Try.func14
    (ChangeSpec.witness6 (enc := enc) (C := Try.checked) false ⟨#[], #[], []⟩ 8 (by kernel_rfl) (by kernel_rfl) (by kernel_rfl) (by kernel_rfl)) ?_
  intro W base args ds gs before hval0 hW _ _
  have hval : ∀ (j : Nat) t v, Try.f14.params[j]? = some t → args[j]? = some v → Value.okWide Try.prog W .any base t v := hval0
  have hW' := hW
  obtain ⟨p, q, hA0, hV, rfl, hfz, hnd⟩ := hW
  have hA : DataW.TrodAll enc Try.prog W 0 (fun _ => true) true Try.f14.params.toList args.toList ds p := hA0
  have hA2 := hA
  rw [Try.params14] at hA hval
  obtain ⟨hargs, rfl, rfl⟩ := trodAll_nil hA
  obtain rfl : args = #[] := by cases args; simp_all
  obtain ⟨rfl, rfl⟩ := trodVars_none hV
  clear hA0 hval0
  simp only [List.append_nil] at hW' hA2
  refine (shelfKnown_walk W).mono fun e W' ⟨he, hb⟩ => ?_
  subst he
  exact ⟨_, rfl, law_post Try.laidOut Try.underlying4 hW' hA2 rfl rfl rfl rfl rfl (by kernel_rfl) hb⟩
theorem shelfKnown_holds : Rows.ShelfKnownSaid :=
  OpenClaim.holds_of_wide 14 Try.f14 rfl rfl rfl rfl rfl rfl rfl ⟨rfl, rfl, rfl, rfl, rfl⟩ rfl rfl rfl rfl rfl (by kernel_rfl) Try.func14 (by kernel_rfl)
    (of_decide_eq_true (by kernel_rfl)) (by unfold Func.isWrapper; first | (rw [if_pos (by decide +kernel)]; kernel_rfl) | (rw [if_neg (by decide +kernel)]; exact ⟨rfl, rfl⟩))
    (fun os started H enc _ => shelfKnown_lifted os started H enc)
end
end Go.Proofs.Ytjajdpggoggoiaa
