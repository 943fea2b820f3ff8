/- ValveMakes holds; no condition. -/
import Derived.Test.YtdnaipiiponhpaaZ2
import Derived.Test.YtdnaipiiponhpaaWorks
namespace Go.Proofs.Ytdnaipiiponhpaa
open Go.RowKit Go.Shelf

theorem bricksL_len (p : Int) : (bricksL p).length ≤ 1000 := by
  unfold bricksL
  split
  · simp
  · rename_i h
    have h1 : p.toNat ≤ 8 := by omega
    have h2 := bricksK_le p.toNat p.toNat
    have h3 : p.toNat * (p.toNat - 1) ≤ 8 * 7 := Nat.mul_le_mul h1 (by omega)
    omega
theorem mergeL_len (p : Int) : (mergeL p).length ≤ 1000 := by
  unfold mergeL
  split
  · simp
  · have := mergeN_le p.toNat (by omega); omega

set_option maxRecDepth 100000 in
set_option maxHeartbeats 4000000 in
theorem makes_walk (p : Int) (w : World) : Calls Try.prog 6 #[.int .i64 p] w fun e w' => e = .returned (.bool true) ∧ Below w.heap.size w w' := by
  go_enter Try.func6, Try.ntmps6
  have KP0 := Lib.hid (keepB (bz w))
  have hall := KP0.out.here
  clear hall
  go_wp2_with fail
  refine (bricks_any p _).mono ?_
  rintro e w1 ⟨v, rfl, hRA, hB⟩
  obtain ⟨aA, cA, hv⟩ := hRA.ex _ rfl
  subst hv
  have KP1 := Lib.hid ((KP0.out.up (btr (bz w) hB)).and (keepP hRA))
  clear KP0
  clear hRA hB
  have hall := KP1.out.here
  clear hall
  go_wp2_with fail
  have KP2 := Lib.hid (((KP1.out.up (bal (bz w1) _)).and (keepC (w := (w1.alloc (.cells #[.int .i64 (bricksP p), .slice aA (bricksL p).length cA] 24))) (p := ⟨w1.heap.size, 0, none⟩) (cnew (by simp) rfl))).and (keepC (w := (w1.alloc (.cells #[.int .i64 (bricksP p), .slice aA (bricksL p).length cA] 24))) (p := ⟨w1.heap.size, 1, none⟩) (cnew (by simp) rfl)))
  clear KP1
  refine (rbricks_any p _).mono ?_
  rintro e w2 ⟨v, rfl, hRB, hB⟩
  obtain ⟨aB, cB, hv⟩ := hRB.ex _ rfl
  subst hv
  have KP3 := Lib.hid ((KP2.out.up (btr (bz ((w1.alloc (.cells #[.int .i64 (bricksP p), .slice aA (bricksL p).length cA] 24)))) hB)).and (keepP hRB))
  clear KP2
  clear hRB hB
  have hall := KP3.out.here
  have hA1 := hall.2.1
  have hA0 := hall.2.2.1
  clear hall
  have zA := World.block_lt_of_cell? _ _ hA0
  simp only at zA
  go_wp2_with fail
  clear hA1 hA0 zA
  have KP4 := Lib.hid (((KP3.out.up (bal (bz w2) _)).and (keepC (w := (w2.alloc (.cells #[.int .i64 (bricksP p), .slice aB (bricksL p).length cB] 24))) (p := ⟨w2.heap.size, 0, none⟩) (cnew (by simp) rfl))).and (keepC (w := (w2.alloc (.cells #[.int .i64 (bricksP p), .slice aB (bricksL p).length cB] 24))) (p := ⟨w2.heap.size, 1, none⟩) (cnew (by simp) rfl)))
  clear KP3
  refine (merge_any p _).mono ?_
  rintro e w3 ⟨v, rfl, hRC, hB⟩
  obtain ⟨aC, cC, hv⟩ := hRC.ex _ rfl
  subst hv
  have KP5 := Lib.hid ((KP4.out.up (btr (bz ((w2.alloc (.cells #[.int .i64 (bricksP p), .slice aB (bricksL p).length cB] 24)))) hB)).and (keepP hRC))
  clear KP4
  clear hRC hB
  have hall := KP5.out.here
  have hB1 := hall.2.1
  have hB0 := hall.2.2.1
  have hA1 := hall.2.2.2.2.1
  have hA0 := hall.2.2.2.2.2.1
  clear hall
  have zA := World.block_lt_of_cell? _ _ hA0
  have zB := World.block_lt_of_cell? _ _ hB0
  simp only at zA zB
  go_wp2_with fail
  clear hB1 hB0 hA1 hA0 zA zB
  have KP6 := Lib.hid (((KP5.out.up (bal (bz w3) _)).and (keepC (w := (w3.alloc (.cells #[.int .i64 (bricksP p), .slice aC (mergeL p).length cC] 24))) (p := ⟨w3.heap.size, 0, none⟩) (cnew (by simp) rfl))).and (keepC (w := (w3.alloc (.cells #[.int .i64 (bricksP p), .slice aC (mergeL p).length cC] 24))) (p := ⟨w3.heap.size, 1, none⟩) (cnew (by simp) rfl)))
  clear KP5
  refine (rmerge_any p _).mono ?_
  rintro e w4 ⟨v, rfl, hRD, hB⟩
  obtain ⟨aD, cD, hv⟩ := hRD.ex _ rfl
  subst hv
  have KP7 := Lib.hid ((KP6.out.up (btr (bz ((w3.alloc (.cells #[.int .i64 (bricksP p), .slice aC (mergeL p).length cC] 24)))) hB)).and (keepP hRD))
  clear KP6
  clear hRD hB
  have hall := KP7.out.here
  have hC1 := hall.2.1
  have hC0 := hall.2.2.1
  have hB1 := hall.2.2.2.2.1
  have hB0 := hall.2.2.2.2.2.1
  have hA1 := hall.2.2.2.2.2.2.2.1
  have hA0 := hall.2.2.2.2.2.2.2.2.1
  clear hall
  have zA := World.block_lt_of_cell? _ _ hA0
  have zB := World.block_lt_of_cell? _ _ hB0
  have zC := World.block_lt_of_cell? _ _ hC0
  simp only at zA zB zC
  go_wp2_with fail
  clear hC1 hC0 hB1 hB0 hA1 hA0 zA zB zC
  have KP8 := Lib.hid (((KP7.out.up (bal (bz w4) _)).and (keepC (w := (w4.alloc (.cells #[.int .i64 (bricksP p), .slice aD (mergeL p).length cD] 24))) (p := ⟨w4.heap.size, 0, none⟩) (cnew (by simp) rfl))).and (keepC (w := (w4.alloc (.cells #[.int .i64 (bricksP p), .slice aD (mergeL p).length cD] 24))) (p := ⟨w4.heap.size, 1, none⟩) (cnew (by simp) rfl)))
  clear KP7
  have hall := KP8.out.here
  have gB := hall.2.2.2.2.2.2.2.2.1
  have gA := hall.2.2.2.2.2.2.2.2.2.2.2.1
  clear hall
  refine (same_eq _ _ _ (bricksL p) _ gA gB (bricksL_len p)).mono ?_
  rintro e w5 ⟨rfl, hB⟩
  have KP9 := Lib.hid (KP8.out.up (btr (bz ((w4.alloc (.cells #[.int .i64 (bricksP p), .slice aD (mergeL p).length cD] 24)))) hB))
  clear KP8
  clear hB
  clear gB gA
  have hall := KP9.out.here
  have hD1 := hall.1
  have hD0 := hall.2.1
  have hC1 := hall.2.2.2.1
  have hC0 := hall.2.2.2.2.1
  have hB1 := hall.2.2.2.2.2.2.1
  have hB0 := hall.2.2.2.2.2.2.2.1
  have hA1 := hall.2.2.2.2.2.2.2.2.2.1
  have hA0 := hall.2.2.2.2.2.2.2.2.2.2.1
  clear hall
  have zA := World.block_lt_of_cell? _ _ hA0
  have zB := World.block_lt_of_cell? _ _ hB0
  have zC := World.block_lt_of_cell? _ _ hC0
  have zD := World.block_lt_of_cell? _ _ hD0
  simp only at zA zB zC zD
  go_wp2_with fail
  clear hD1 hD0 hC1 hC0 hB1 hB0 hA1 hA0 zA zB zC zD
  have hall := KP9.out.here
  have gD := hall.2.2.1
  have gC := hall.2.2.2.2.2.1
  clear hall
  refine (same_eq _ _ _ (mergeL p) _ gC gD (mergeL_len p)).mono ?_
  rintro e w6 ⟨rfl, hB⟩
  have KP10 := Lib.hid (KP9.out.up (btr (bz w5) hB))
  clear KP9
  clear hB
  clear gD gC
  have hall := KP10.out.here
  have hD1 := hall.1
  have hD0 := hall.2.1
  have hC1 := hall.2.2.2.1
  have hC0 := hall.2.2.2.2.1
  have hB1 := hall.2.2.2.2.2.2.1
  have hB0 := hall.2.2.2.2.2.2.2.1
  have hA1 := hall.2.2.2.2.2.2.2.2.2.1
  have hA0 := hall.2.2.2.2.2.2.2.2.2.2.1
  clear hall
  have zA := World.block_lt_of_cell? _ _ hA0
  have zB := World.block_lt_of_cell? _ _ hB0
  have zC := World.block_lt_of_cell? _ _ hC0
  have zD := World.block_lt_of_cell? _ _ hD0
  simp only at zA zB zC zD
  go_wp2_with fail
  clear hD1 hD0 hC1 hC0 hB1 hB0 hA1 hA0 zA zB zC zD
  refine (works_any _).mono ?_
  rintro e w7 ⟨rfl, hB⟩
  have KP11 := Lib.hid (KP10.out.up (btr (bz w6) hB))
  clear KP10
  clear hB
  have hall := KP11.out.here
  have gBelow := hall.2.2.2.2.2.2.2.2.2.2.2.2
  clear hall
  go_wp2
  go_ret
  exact ⟨rfl, gBelow⟩
section
open Go.ChangeShapes Go.WideShapes Go.ChangeAt
set_option maxRecDepth 100000 in
theorem valveMakes_lifted (os : Os) (started : os.Started) (H : Type) (enc : TypeId × Value → H) :
    ReturnsInHanded {} Try.checked os 6 .any (Rows.valveMakesSpec.pre6 enc Try.prog Try.f6 Rows.valveMakesRow.domain false) (Rows.valveMakesSpec.post enc Try.prog Try.f6 false true false false) := by
  refine returnsInHanded_of_change (C := Try.checked) Try.own started (by kernel_rfl) Try.func6
    (ChangeSpec.witness6 (enc := enc) (C := Try.checked) false ⟨#[], #[.int .i64 0], []⟩ 8 (by kernel_rfl) (by kernel_rfl) (by kernel_rfl) (by kernel_rfl)) ?_
  intro W base args ds gs before hval0 hW _ _
  have hval : ∀ (j : Nat) t v, Try.f6.params[j]? = some t → args[j]? = some v → Value.okWide Try.prog W .any base t v := hval0
  have hW' := hW
  obtain ⟨p, q, hA0, hV, rfl, hfz, hnd⟩ := hW
  have hA : DataW.TrodAll enc Try.prog W 0 (fun _ => true) true Try.f6.params.toList args.toList ds p := hA0
  have hA2 := hA
  have hlt : ∀ x ∈ p, x.block < W.heap.size := fun x hx => hW'.lt x (List.mem_append_left _ hx)
  rw [Try.params6] at hA hval
  obtain ⟨v0, vs0, d0, ds0, p0, q0, hargs, rfl, rfl, h0, r0⟩ := trodAll_cons hA
  obtain ⟨rfl, rfl, rfl⟩ := trodAll_nil r0
  obtain rfl : args = #[v0] := by cases args; simp_all
  obtain ⟨rfl, rfl⟩ := trodVars_none hV
  obtain ⟨a0, rfl, rfl, rfl, w0⟩ := open_int Try.underlying3 (hval 0 3 v0 rfl rfl) h0
  clear hA0 hval0
  simp only [List.append_nil] at hW' hA2
  refine (makes_walk a0 W).mono fun e W' ⟨he, hb⟩ => ?_
  subst he
  exact ⟨_, rfl, law_post Try.laidOut Try.underlying4 hW' hA2 rfl rfl rfl rfl rfl (by kernel_rfl) hb⟩
theorem valveMakes_holds : Rows.ValveMakesSaid :=
  OpenClaim.holds_of_wide 6 Try.f6 rfl rfl rfl rfl rfl rfl rfl ⟨rfl, rfl, rfl, rfl, rfl⟩ rfl rfl rfl rfl rfl (by kernel_rfl) Try.func6 (by kernel_rfl)
    (of_decide_eq_true (by kernel_rfl)) (by unfold Func.isWrapper; first | (rw [if_pos (by decide +kernel)]; kernel_rfl) | (rw [if_neg (by decide +kernel)]; exact ⟨rfl, rfl⟩))
    (fun os started H enc _ => valveMakes_lifted os started H enc)
end
end Go.Proofs.Ytdnaipiiponhpaa
