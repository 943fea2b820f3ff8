/- RackKnown: the examples of the chapter; no condition. -/
import Derived.Test.YtnnfahdhmodejaaMWk
import Derived.Test.YtnnfahdhmodejaaMGI
namespace Go.Proofs.Ytnnfahdhmodejaa
open Go.RowKit Go.Shelf

theorem rdI_none (w : World) : RdI w .i64 (.slice none 0 0) [] := ⟨none, 0, rfl, Nat.le_refl _, Nat.zero_le _, fun h => absurd rfl h⟩
set_option maxRecDepth 100000 in
set_option maxHeartbeats 16000000 in
theorem rackKnown_walk (w : World) : Calls Try.prog 15 #[] w fun e w' => e = .returned (.bool true) ∧ Below w.heap.size w w' := by
  have KP0 := Lib.hid (keepB (bz w))
  go_enter Try.func15, Try.ntmps15
  go_wp2_with fail
  refine (sequence_any _).mono ?_
  rintro e w1 ⟨vs, rfl, hRs, hB⟩
  obtain ⟨pts, qts, hv⟩ := exI hRs 4 rfl
  subst hv
  have KP1 := Lib.hid ((KP0.out.up hB).and (keepI hRs))
  clear KP0
  clear hB hRs
  go_wp2_with fail
  refine (stand_any _).mono ?_
  rintro e w2 ⟨vr, rfl, hRr, hB⟩
  obtain ⟨ptr, qtr, hv⟩ := exL hRr 3 rfl
  subst hv
  have KP2 := Lib.hid ((KP1.out.up hB).and (keepL hRr))
  clear KP1
  clear hB hRr
  go_wp2_with fail
  have gr := KP2.out.here.1
  refine (put_lit _ _ _ _ _ _ _ gr (smlR (by decide) (by decide)) (exPut 1 [[1, 1, 1], [2], [3]] 0 (by decide +kernel) (by decide +kernel))).mono ?_
  rintro e w3 ⟨vd, rfl, hRd, hB⟩
  obtain ⟨ptd, qtd, hv⟩ := exL hRd 3 rfl
  subst hv
  have KP3 := Lib.hid ((KP2.out.up hB).and (keepL hRd))
  clear KP2
  clear hB hRd
  clear gr
  go_wp2_with fail
  have gr := KP3.out.here.2.1
  refine (take_lit _ _ _ _ _ _ _ gr (smlR (by decide) (by decide)) exTake3).mono ?_
  rintro e w4 ⟨vf, rfl, hRf, hB⟩
  obtain ⟨ptf, qtf, hv⟩ := exL hRf 0 rfl
  subst hv
  have KP4 := Lib.hid ((KP3.out.up hB).and (keepL hRf))
  clear KP3
  clear hB hRf
  clear gr
  go_wp2_with fail
  refine (of_id _ _).mono ?_
  rintro e w' ⟨rfl, rfl⟩
  go_wp2_with fail
  refine (rows_id _ _).mono ?_
  rintro e w' ⟨rfl, rfl⟩
  obtain ⟨w5, hw0, hR, hB⟩ := rows_one w4 [2, 1] (by simp)
  have hw : ((w4.alloc (.cells #[.int .i64 2, .int .i64 1] 3)).alloc (.cells #[.slice (some ⟨w4.heap.size, 0, none⟩) 2 2] 31)) = w5 := hw0
  rw [hw]
  clear hw0 hw
  have KP5 := Lib.hid ((KP4.out.up hB).and (keepL hR))
  clear KP4
  clear hR hB
  go_wp2_with fail
  have gl1 := KP5.out.here.1
  refine (rackc_lit _ _ _ _ gl1 (smlR (by decide) (by decide)) exCr2).mono ?_
  rintro e w6 ⟨rfl, hB⟩
  have KP6 := Lib.hid (KP5.out.up hB)
  clear KP5
  clear hB
  clear gl1
  go_wp2_with fail
  refine (of_id _ _).mono ?_
  rintro e w' ⟨rfl, rfl⟩
  go_wp2_with fail
  refine (of_id _ _).mono ?_
  rintro e w' ⟨rfl, rfl⟩
  go_wp2_with fail
  refine (rows_id _ _).mono ?_
  rintro e w' ⟨rfl, rfl⟩
  obtain ⟨w7, hw0, hR, hB⟩ := rows_two w6 [1] [2, 2] (by simp) (by simp)
  have hw : (((w6.alloc (.cells #[.int .i64 1] 3)).alloc (.cells #[.int .i64 2, .int .i64 2] 3)).alloc (.cells #[.slice (some ⟨w6.heap.size, 0, none⟩) 1 1, .slice (some ⟨w6.heap.size + 1, 0, none⟩) 2 2] 31)) = w7 := hw0
  rw [hw]
  clear hw0 hw
  have KP7 := Lib.hid ((KP6.out.up hB).and (keepL hR))
  clear KP6
  clear hR hB
  go_wp2_with fail
  have gl2 := KP7.out.here.1
  refine (rackc_lit _ _ _ _ gl2 (smlR (by decide) (by decide)) exCr3).mono ?_
  rintro e w8 ⟨rfl, hB⟩
  have KP8 := Lib.hid (KP7.out.up hB)
  clear KP7
  clear hB
  clear gl2
  go_wp2_with fail
  refine (of_id _ _).mono ?_
  rintro e w' ⟨rfl, rfl⟩
  go_wp2_with fail
  refine (of_id _ _).mono ?_
  rintro e w' ⟨rfl, rfl⟩
  go_wp2_with fail
  refine (rows_id _ _).mono ?_
  rintro e w' ⟨rfl, rfl⟩
  obtain ⟨w9, hw0, hR, hB⟩ := rows_two w8 [1, 2] [3] (by simp) (by simp)
  have hw : (((w8.alloc (.cells #[.int .i64 1, .int .i64 2] 3)).alloc (.cells #[.int .i64 3] 3)).alloc (.cells #[.slice (some ⟨w8.heap.size, 0, none⟩) 2 2, .slice (some ⟨w8.heap.size + 1, 0, none⟩) 1 1] 31)) = w9 := hw0
  rw [hw]
  clear hw0 hw
  have KP9 := Lib.hid ((KP8.out.up hB).and (keepL hR))
  clear KP8
  clear hR hB
  go_wp2_with fail
  have gl3 := KP9.out.here.1
  refine (orderc_lit _ _ _ _ gl3 (smlR (by decide) (by decide)) exCo2).mono ?_
  rintro e w10 ⟨rfl, hB⟩
  have KP10 := Lib.hid (KP9.out.up hB)
  clear KP9
  clear hB
  clear gl3
  go_wp2_with fail
  refine (of_id _ _).mono ?_
  rintro e w' ⟨rfl, rfl⟩
  obtain ⟨w11, hw0, hR, hB⟩ := ints_one w10 [1, 2] (by simp)
  have hw : w10.alloc (.cells #[.int .i64 1, .int .i64 2] 3) = w11 := hw0
  rw [hw]
  clear hw0 hw
  have KP11 := Lib.hid ((KP10.out.up hB).and (keepI hR))
  clear KP10
  clear hR hB
  go_wp2_with fail
  have gs := KP11.out.here.2.2.2.2.2.2.2.1
  have gl4 := KP11.out.here.1
  refine (checkrising_lit _ _ _ _ _ _ _ gs gl4 (by decide) (by decide) (exRis [1, 2] (by decide +kernel) (by decide +kernel))).mono ?_
  rintro e w12 ⟨rfl, hB⟩
  have KP12 := Lib.hid (KP11.out.up hB)
  clear KP11
  clear hB
  clear gs gl4
  go_wp2_with fail
  refine (of_id _ _).mono ?_
  rintro e w' ⟨rfl, rfl⟩
  go_wp2_with fail
  refine (of_id _ _).mono ?_
  rintro e w' ⟨rfl, rfl⟩
  go_wp2_with fail
  refine (rows_id _ _).mono ?_
  rintro e w' ⟨rfl, rfl⟩
  obtain ⟨w13, hw0, hR, hB⟩ := rows_two w12 [0, 1, 2] [3] (by simp) (by simp)
  have hw : (((w12.alloc (.cells #[.int .i64 0, .int .i64 1, .int .i64 2] 3)).alloc (.cells #[.int .i64 3] 3)).alloc (.cells #[.slice (some ⟨w12.heap.size, 0, none⟩) 3 3, .slice (some ⟨w12.heap.size + 1, 0, none⟩) 1 1] 31)) = w13 := hw0
  rw [hw]
  clear hw0 hw
  have KP13 := Lib.hid ((KP12.out.up hB).and (keepL hR))
  clear KP12
  clear hR hB
  go_wp2_with fail
  have gs := KP13.out.here.2.2.2.2.2.2.2.2.1
  have gl5 := KP13.out.here.1
  refine (checkfalls_lit _ _ _ _ _ _ _ gs gl5 (by decide) (smlR (by decide) (by decide)) exFal3).mono ?_
  rintro e w14 ⟨rfl, hB⟩
  have KP14 := Lib.hid (KP13.out.up hB)
  clear KP13
  clear hB
  clear gs gl5
  go_wp2_with fail
  refine (of_id _ _).mono ?_
  rintro e w' ⟨rfl, rfl⟩
  obtain ⟨w15, hw0, hR, hB⟩ := ints_one w14 [2, 2] (by simp)
  have hw : w14.alloc (.cells #[.int .i64 2, .int .i64 2] 3) = w15 := hw0
  rw [hw]
  clear hw0 hw
  have KP15 := Lib.hid ((KP14.out.up hB).and (keepI hR))
  clear KP14
  clear hR hB
  go_wp2_with fail
  have gl6 := KP15.out.here.1
  refine (count_lit _ _ _ _ _ gl6 (by decide) exCount3).mono ?_
  rintro e w16 ⟨rfl, hB⟩
  have KP16 := Lib.hid (KP15.out.up hB)
  clear KP15
  clear hB
  clear gl6
  go_wp2_with fail
  refine (count_lit _ _ _ _ _ (rdI_none _) (by decide) exCount4).mono ?_
  rintro e w17 ⟨rfl, hB⟩
  have KP17 := Lib.hid (KP16.out.up hB)
  clear KP16
  clear hB
  go_wp2_with fail
  refine (of_id _ _).mono ?_
  rintro e w' ⟨rfl, rfl⟩
  obtain ⟨w18, hw0, hR, hB⟩ := ints_one w17 [12, 1] (by simp)
  have hw : w17.alloc (.cells #[.int .i64 12, .int .i64 1] 3) = w18 := hw0
  rw [hw]
  clear hw0 hw
  have KP18 := Lib.hid ((KP17.out.up hB).and (keepI hR))
  clear KP17
  clear hR hB
  go_wp2_with fail
  have gl7 := KP18.out.here.1
  refine (count_lit _ _ _ _ _ gl7 (by decide) exCount5).mono ?_
  rintro e w19 ⟨rfl, hB⟩
  have KP19 := Lib.hid (KP18.out.up hB)
  clear KP18
  clear hB
  clear gl7
  go_wp2_with fail
  refine (of_id _ _).mono ?_
  rintro e w' ⟨rfl, rfl⟩
  go_wp2_with fail
  refine (of_id _ _).mono ?_
  rintro e w' ⟨rfl, rfl⟩
  go_wp2_with fail
  refine (of_id _ _).mono ?_
  rintro e w' ⟨rfl, rfl⟩
  go_wp2_with fail
  refine (rows_id _ _).mono ?_
  rintro e w' ⟨rfl, rfl⟩
  obtain ⟨w20, hw0, hR, hB⟩ := rows_three w19 [1, 1, 1] [2] [3] (by simp) (by simp) (by simp)
  have hw : ((((w19.alloc (.cells #[.int .i64 1, .int .i64 1, .int .i64 1] 3)).alloc (.cells #[.int .i64 2] 3)).alloc (.cells #[.int .i64 3] 3)).alloc (.cells #[.slice (some ⟨w19.heap.size, 0, none⟩) 3 3, .slice (some ⟨w19.heap.size + 1, 0, none⟩) 1 1, .slice (some ⟨w19.heap.size + 1 + 1, 0, none⟩) 1 1] 31)) = w20 := hw0
  rw [hw]
  clear hw0 hw
  have KP20 := Lib.hid ((KP19.out.up hB).and (keepL hR))
  clear KP19
  clear hR hB
  go_wp2_with fail
  have gd := KP20.out.here.2.2.2.2.2.2.2.2.2.1
  have gl8 := KP20.out.here.1
  refine (same_lit _ _ _ _ gd gl8 (smlR (by decide) (by decide))).mono ?_
  rintro e w21 ⟨rfl, hB⟩
  have KP21 := Lib.hid (KP20.out.up hB)
  clear KP20
  clear hB
  clear gd gl8
  go_wp2_with fail
  refine (works_any _).mono ?_
  rintro e w22 ⟨rfl, hB⟩
  have KP22 := Lib.hid (KP21.out.up hB)
  clear KP21
  clear hB
  go_wp2_with fail
  have gBelow := KP22.out.here.2.2.2.2.2.2.2.2.2.2.2.2
  go_ret
  exact ⟨rfl, gBelow⟩
section
open Go.ChangeShapes Go.WideShapes Go.ChangeAt
set_option maxRecDepth 100000 in
theorem rackKnown_lifted (os : Os) (started : os.Started) (H : Type) (enc : TypeId × Value → H) :
    ReturnsInHanded {} Try.checked os 15 .any (Rows.rackKnownSpec.pre6 enc Try.prog Try.f15 Rows.rackKnownRow.domain false) (Rows.rackKnownSpec.post enc Try.prog Try.f15 false true false false) := by
  refine returnsInHanded_of_change (C := Try.checked) Try.own started (by kernel_rfl) Try.func15
    (ChangeSpec.witness6 (enc := enc) (C := Try.checked) false ⟨#[], #[], []⟩ 8 (by kernel_rfl) (by kernel_rfl) (by kernel_rfl) (by kernel_rfl)) ?_
  intro W base args ds gs before hval0 hW _ _
  have hval : ∀ (j : Nat) t v, Try.f15.params[j]? = some t → args[j]? = some v → Value.okWide Try.prog W .any base t v := hval0
  have hW' := hW
  obtain ⟨p, q, hA0, hV, rfl, hfz, hnd⟩ := hW
  have hA : DataW.TrodAll enc Try.prog W 0 (fun _ => true) true Try.f15.params.toList args.toList ds p := hA0
  have hA2 := hA
  rw [Try.params15] at hA hval
  obtain ⟨hargs, rfl, rfl⟩ := trodAll_nil hA
  obtain rfl : args = #[] := by cases args; simp_all
  obtain ⟨rfl, rfl⟩ := trodVars_none hV
  clear hA0 hval0
  simp only [List.append_nil] at hW' hA2
  refine (rackKnown_walk W).mono fun e W' ⟨he, hb⟩ => ?_
  subst he
  exact ⟨_, rfl, law_post Try.laidOut Try.underlying4 hW' hA2 rfl rfl rfl rfl rfl (by kernel_rfl) hb⟩
theorem rackKnown_holds : Rows.RackKnownSaid :=
  OpenClaim.holds_of_wide 15 Try.f15 rfl rfl rfl rfl rfl rfl rfl ⟨rfl, rfl, rfl, rfl, rfl⟩ rfl rfl rfl rfl rfl (by kernel_rfl) Try.func15 (by kernel_rfl)
    (of_decide_eq_true (by kernel_rfl)) (by unfold Func.isWrapper; first | (rw [if_pos (by decide +kernel)]; kernel_rfl) | (rw [if_neg (by decide +kernel)]; exact ⟨rfl, rfl⟩))
    (fun os started H enc _ => rackKnown_lifted os started H enc)
end
end Go.Proofs.Ytnnfahdhmodejaa
