/- The laws that compare the program with the document; no condition. -/
import Derived.Test.YtooddicegkiiiaaWk
namespace Go.Proofs.Ytooddicegkiiiaa
open Go.RowKit Go.Shelf

theorem sndR_le (V : List (Int × Int)) (t : Int) : (sndR V t).length ≤ V.length := by
  unfold sndR
  split
  · exact sndK_le V t V.length
  · simp

set_option maxRecDepth 100000 in
set_option maxHeartbeats 4000000 in
theorem barrelPins_walk (x : Value) (V : List (Int × Int)) (t : Int) (w : World) (hx : RdP w x V) :
    Calls Try.prog 3 #[x, .int .i64 t] w fun e w' => e = .returned (.bool true) ∧ Below w.heap.size w w' := by
  obtain ⟨a, c, rfl⟩ := hx.ex _ rfl
  by_cases hV : 9 < V.length
  · have CW := Lib.hid (fun wz (hB : Below w.heap.size w wz) => works_any wz)
    have CG := Lib.hid (fun w' => great_any a V.length c w')
    rw [decide_eq_true hV] at CG
    clear hV
    have KB0 := Lib.hid (bz w)
    go_enter Try.func3, Try.ntmps3
    go_wp2_with fail
    refine (CG.out _).mono ?_
    rintro e w' ⟨rfl, rfl⟩
    go_wp2_with fail
    refine (CW.out _ KB0.out).mono ?_
    rintro e w1 ⟨rfl, hk⟩
    have KB1 := Lib.hid (btr KB0.out hk)
    clear KB0 hk
    go_wp2_with fail
    go_ret
    exact ⟨rfl, KB1.out⟩
  · have CW := Lib.hid (fun wz (hB : Below w.heap.size w wz) => works_any wz)
    have CG := Lib.hid (fun w' => great_any a V.length c w')
    rw [decide_eq_false hV] at CG
    have hV2 : V.length ≤ 9 := by omega
    have C1 := Lib.hid (fun wz (hB : Below w.heap.size w wz) => sounds_any _ V t wz (hx.mono hB) (by omega))
    have C2 := Lib.hid (fun wz (hB : Below w.heap.size w wz) => rsounds_any _ V t wz (hx.mono hB) (by omega))
    have C3 := Lib.hid (fun wz (hB : Below w.heap.size w wz) => checkpins_any _ V wz (hx.mono hB) (by omega))
    have C4 := Lib.hid (fun wz (hB : Below w.heap.size w wz) => rcheck_any _ V wz (hx.mono hB) (by omega))
    have hl : (sndR V t).length ≤ 1000 := by have := sndR_le V t; omega
    unfold SndOk at C1 C2
    clear hV hV2
    generalize openE V [t] = q0 at *
    generalize sndR V t = q1 at *
    generalize checkP V = q2 at *
    have KB0 := Lib.hid (bz w)
    go_enter Try.func3, Try.ntmps3
    go_wp2_with fail
    refine (CG.out _).mono ?_
    rintro e w' ⟨rfl, rfl⟩
    go_wp2_with fail
    refine (C1.out _ KB0.out).mono ?_
    rintro e w1 ⟨u, rfl, fA, hk⟩
    have KB1 := Lib.hid (btr KB0.out hk)
    have HA1 := Lib.hid fA
    clear KB0 fA hk
    go_wp2_with fail
    refine (C2.out _ KB1.out).mono ?_
    rintro e w2 ⟨v, rfl, fB, hk⟩
    have KB2 := Lib.hid (btr KB1.out hk)
    have HA2 := Lib.hid (HA1.out.mono hk)
    have HB2 := Lib.hid fB
    clear KB1 HA1 fB hk
    go_wp2_with fail
    refine (C3.out _ KB2.out).mono ?_
    rintro e w3 ⟨rfl, hk⟩
    have KB3 := Lib.hid (btr KB2.out hk)
    have HA3 := Lib.hid (HA2.out.mono hk)
    have HB3 := Lib.hid (HB2.out.mono hk)
    clear KB2 HA2 HB2 hk
    go_wp2_with fail
    refine (C4.out _ KB3.out).mono ?_
    rintro e w4 ⟨rfl, hk⟩
    have KB4 := Lib.hid (btr KB3.out hk)
    have HA4 := Lib.hid (HA3.out.mono hk)
    have HB4 := Lib.hid (HB3.out.mono hk)
    clear KB3 HA3 HB3 hk
    go_wp2_with fail
    refine (ints_eq _ _ q1 _ HA4.out HB4.out hl).mono ?_
    rintro e w5 ⟨rfl, hk⟩
    have KB5 := Lib.hid (btr KB4.out hk)
    have HA5 := Lib.hid (HA4.out.mono hk)
    have HB5 := Lib.hid (HB4.out.mono hk)
    clear KB4 HA4 HB4 hk
    go_wp2_with fail
    refine (CW.out _ KB5.out).mono ?_
    rintro e w6 ⟨rfl, hk⟩
    have KB6 := Lib.hid (btr KB5.out hk)
    have HA6 := Lib.hid (HA5.out.mono hk)
    have HB6 := Lib.hid (HB5.out.mono hk)
    clear KB5 HA5 HB5 hk
    go_wp2_with fail
    go_ret
    exact ⟨rfl, KB6.out⟩
section
open Go.ChangeShapes Go.WideShapes Go.ChangeAt
set_option maxRecDepth 100000 in
theorem barrelPins_lifted (os : Os) (started : os.Started) (H : Type) (enc : TypeId × Value → H) :
    ReturnsInHanded {} Try.checked os 3 .any (Rows.barrelPinsSpec.pre6 enc Try.prog Try.f3 Rows.barrelPinsRow.domain false) (Rows.barrelPinsSpec.post enc Try.prog Try.f3 false true false false) := by
  refine returnsInHanded_of_change (C := Try.checked) Try.own started (by kernel_rfl) Try.func3
    (ChangeSpec.witness6 (enc := enc) (C := Try.checked) false ⟨#[], #[.slice none 0 0, .int .i64 0], []⟩ 8 (by kernel_rfl) (by kernel_rfl) (by kernel_rfl) (by kernel_rfl)) ?_
  intro W base args ds gs before hval0 hW _ _
  have hval : ∀ (j : Nat) t v, Try.f3.params[j]? = some t → args[j]? = some v → Value.okWide Try.prog W .any base t v := hval0
  have hW' := hW
  obtain ⟨p, q, hA0, hV, rfl, hfz, hnd⟩ := hW
  have hA : DataW.TrodAll enc Try.prog W 0 (fun _ => true) true Try.f3.params.toList args.toList ds p := hA0
  have hA2 := hA
  have hlt : ∀ x ∈ p, x.block < W.heap.size := fun x hx => hW'.lt x (List.mem_append_left _ hx)
  rw [Try.params3] at hA hval
  obtain ⟨v0, vs0, d0, ds0, p0, q0, hargs, rfl, rfl, h0, r0⟩ := trodAll_cons hA
  obtain ⟨v1, vs1, d1, ds1, p1, q1, rfl, rfl, rfl, h1, r1⟩ := trodAll_cons r0
  obtain ⟨rfl, rfl, rfl⟩ := trodAll_nil r1
  obtain rfl : args = #[v0, v1] := by cases args; simp_all
  obtain ⟨rfl, rfl⟩ := trodVars_none hV
  obtain ⟨V0, hx0, hw0⟩ := open_pins (hval 0 22 v0 rfl rfl) h0 (fun x hx => hlt x (by simp [hx]))
  obtain ⟨a1, rfl, rfl, rfl, w1⟩ := open_int Try.underlying2 (hval 1 2 v1 rfl rfl) h1
  clear hA0 hval0
  simp only [List.append_nil] at hW' hA2
  refine (barrelPins_walk v0 V0 a1 W hx0).mono fun e W' ⟨he, hb⟩ => ?_
  subst he
  exact ⟨_, rfl, law_post Try.laidOut Try.underlying4 hW' hA2 rfl rfl rfl rfl rfl (by kernel_rfl) hb⟩
theorem barrelPins_holds : Rows.BarrelPinsSaid :=
  OpenClaim.holds_of_wide 3 Try.f3 rfl rfl rfl rfl rfl rfl rfl ⟨rfl, rfl, rfl, rfl, rfl⟩ rfl rfl rfl rfl rfl (by kernel_rfl) Try.func3 (by kernel_rfl)
    (of_decide_eq_true (by kernel_rfl)) (by unfold Func.isWrapper; first | (rw [if_pos (by decide +kernel)]; kernel_rfl) | (rw [if_neg (by decide +kernel)]; exact ⟨rfl, rfl⟩))
    (fun os started H enc _ => barrelPins_lifted os started H enc)
end
set_option maxRecDepth 100000 in
set_option maxHeartbeats 4000000 in
theorem barrelFirsts_walk (x : Value) (V : List (Int × Int)) (f t : Int) (w : World) (hx : RdP w x V) :
    Calls Try.prog 4 #[x, .int .i64 f, .int .i64 t] w fun e w' => e = .returned (.bool true) ∧ Below w.heap.size w w' := by
  obtain ⟨a, c, rfl⟩ := hx.ex _ rfl
  by_cases hV : 9 < V.length
  · have CW := Lib.hid (fun wz (hB : Below w.heap.size w wz) => works_any wz)
    have CG := Lib.hid (fun w' => great_any a V.length c w')
    rw [decide_eq_true hV] at CG
    clear hV
    have KB0 := Lib.hid (bz w)
    go_enter Try.func4, Try.ntmps4
    go_wp2_with fail
    refine (CG.out _).mono ?_
    rintro e w' ⟨rfl, rfl⟩
    go_wp2_with fail
    refine (CW.out _ KB0.out).mono ?_
    rintro e w1 ⟨rfl, hk⟩
    have KB1 := Lib.hid (btr KB0.out hk)
    clear KB0 hk
    go_wp2_with fail
    go_ret
    exact ⟨rfl, KB1.out⟩
  · have CW := Lib.hid (fun wz (hB : Below w.heap.size w wz) => works_any wz)
    have CG := Lib.hid (fun w' => great_any a V.length c w')
    rw [decide_eq_false hV] at CG
    have hV2 : V.length ≤ 9 := by omega
    have C1 := Lib.hid (fun wz (hB : Below w.heap.size w wz) => first_any _ V wz (hx.mono hB) (by omega))
    have C2 := Lib.hid (fun wz (hB : Below w.heap.size w wz) => rfirst_any _ V wz (hx.mono hB) (by omega))
    have C3 := Lib.hid (fun wz (hB : Below w.heap.size w wz) => next_any _ V f wz (hx.mono hB) (by omega))
    have C4 := Lib.hid (fun wz (hB : Below w.heap.size w wz) => rnext_any _ V f wz (hx.mono hB) (by omega))
    have C5 := Lib.hid (fun wz (hB : Below w.heap.size w wz) => count_any _ V f t wz (hx.mono hB) (by omega))
    have C6 := Lib.hid (fun wz (hB : Below w.heap.size w wz) => rcount_any _ V f t wz (hx.mono hB) (by omega))
    clear hV hV2
    generalize firstA V = q0 at *
    generalize firstB V = q1 at *
    generalize firstE V = q2 at *
    generalize nextN V f = q3 at *
    generalize nextE V f = q4 at *
    generalize countN V f t = q5 at *
    generalize countE V f t = q6 at *
    have KB0 := Lib.hid (bz w)
    go_enter Try.func4, Try.ntmps4
    go_wp2_with fail
    refine (CG.out _).mono ?_
    rintro e w' ⟨rfl, rfl⟩
    go_wp2_with fail
    refine (C1.out _ KB0.out).mono ?_
    rintro e w1 ⟨rfl, hk⟩
    have KB1 := Lib.hid (btr KB0.out hk)
    clear KB0 hk
    go_wp2_with fail
    refine (C2.out _ KB1.out).mono ?_
    rintro e w2 ⟨rfl, hk⟩
    have KB2 := Lib.hid (btr KB1.out hk)
    clear KB1 hk
    go_wp2_with fail
    refine (C3.out _ KB2.out).mono ?_
    rintro e w3 ⟨rfl, hk⟩
    have KB3 := Lib.hid (btr KB2.out hk)
    clear KB2 hk
    go_wp2_with fail
    refine (C4.out _ KB3.out).mono ?_
    rintro e w4 ⟨rfl, hk⟩
    have KB4 := Lib.hid (btr KB3.out hk)
    clear KB3 hk
    go_wp2_with fail
    refine (C5.out _ KB4.out).mono ?_
    rintro e w5 ⟨rfl, hk⟩
    have KB5 := Lib.hid (btr KB4.out hk)
    clear KB4 hk
    go_wp2_with fail
    refine (C6.out _ KB5.out).mono ?_
    rintro e w6 ⟨rfl, hk⟩
    have KB6 := Lib.hid (btr KB5.out hk)
    clear KB5 hk
    go_wp2_with fail
    refine (CW.out _ KB6.out).mono ?_
    rintro e w7 ⟨rfl, hk⟩
    have KB7 := Lib.hid (btr KB6.out hk)
    clear KB6 hk
    go_wp2_with fail
    go_ret
    exact ⟨rfl, KB7.out⟩
section
open Go.ChangeShapes Go.WideShapes Go.ChangeAt
set_option maxRecDepth 100000 in
theorem barrelFirsts_lifted (os : Os) (started : os.Started) (H : Type) (enc : TypeId × Value → H) :
    ReturnsInHanded {} Try.checked os 4 .any (Rows.barrelFirstsSpec.pre6 enc Try.prog Try.f4 Rows.barrelFirstsRow.domain false) (Rows.barrelFirstsSpec.post enc Try.prog Try.f4 false true false false) := by
  refine returnsInHanded_of_change (C := Try.checked) Try.own started (by kernel_rfl) Try.func4
    (ChangeSpec.witness6 (enc := enc) (C := Try.checked) false ⟨#[], #[.slice none 0 0, .int .i64 0, .int .i64 0], []⟩ 8 (by kernel_rfl) (by kernel_rfl) (by kernel_rfl) (by kernel_rfl)) ?_
  intro W base args ds gs before hval0 hW _ _
  have hval : ∀ (j : Nat) t v, Try.f4.params[j]? = some t → args[j]? = some v → Value.okWide Try.prog W .any base t v := hval0
  have hW' := hW
  obtain ⟨p, q, hA0, hV, rfl, hfz, hnd⟩ := hW
  have hA : DataW.TrodAll enc Try.prog W 0 (fun _ => true) true Try.f4.params.toList args.toList ds p := hA0
  have hA2 := hA
  have hlt : ∀ x ∈ p, x.block < W.heap.size := fun x hx => hW'.lt x (List.mem_append_left _ hx)
  rw [Try.params4] at hA hval
  obtain ⟨v0, vs0, d0, ds0, p0, q0, hargs, rfl, rfl, h0, r0⟩ := trodAll_cons hA
  obtain ⟨v1, vs1, d1, ds1, p1, q1, rfl, rfl, rfl, h1, r1⟩ := trodAll_cons r0
  obtain ⟨v2, vs2, d2, ds2, p2, q2, rfl, rfl, rfl, h2, r2⟩ := trodAll_cons r1
  obtain ⟨rfl, rfl, rfl⟩ := trodAll_nil r2
  obtain rfl : args = #[v0, v1, v2] := by cases args; simp_all
  obtain ⟨rfl, rfl⟩ := trodVars_none hV
  obtain ⟨V0, hx0, hw0⟩ := open_pins (hval 0 22 v0 rfl rfl) h0 (fun x hx => hlt x (by simp [hx]))
  obtain ⟨a1, rfl, rfl, rfl, w1⟩ := open_int Try.underlying2 (hval 1 2 v1 rfl rfl) h1
  obtain ⟨a2, rfl, rfl, rfl, w2⟩ := open_int Try.underlying2 (hval 2 2 v2 rfl rfl) h2
  clear hA0 hval0
  simp only [List.append_nil] at hW' hA2
  refine (barrelFirsts_walk v0 V0 a1 a2 W hx0).mono fun e W' ⟨he, hb⟩ => ?_
  subst he
  exact ⟨_, rfl, law_post Try.laidOut Try.underlying4 hW' hA2 rfl rfl rfl rfl rfl (by kernel_rfl) hb⟩
theorem barrelFirsts_holds : Rows.BarrelFirstsSaid :=
  OpenClaim.holds_of_wide 4 Try.f4 rfl rfl rfl rfl rfl rfl rfl ⟨rfl, rfl, rfl, rfl, rfl⟩ rfl rfl rfl rfl rfl (by kernel_rfl) Try.func4 (by kernel_rfl)
    (of_decide_eq_true (by kernel_rfl)) (by unfold Func.isWrapper; first | (rw [if_pos (by decide +kernel)]; kernel_rfl) | (rw [if_neg (by decide +kernel)]; exact ⟨rfl, rfl⟩))
    (fun os started H enc _ => barrelFirsts_lifted os started H enc)
end
set_option maxRecDepth 100000 in
set_option maxHeartbeats 4000000 in
theorem barrelClashes_walk (x : Value) (V : List (Int × Int)) (i k : Int) (w : World) (hx : RdP w x V) :
    Calls Try.prog 5 #[x, .int .i64 i, .int .i64 k] w fun e w' => e = .returned (.bool true) ∧ Below w.heap.size w w' := by
  obtain ⟨a, c, rfl⟩ := hx.ex _ rfl
  by_cases hV : 9 < V.length
  · have CW := Lib.hid (fun wz (hB : Below w.heap.size w wz) => works_any wz)
    have CG := Lib.hid (fun w' => great_any a V.length c w')
    rw [decide_eq_true hV] at CG
    clear hV
    have KB0 := Lib.hid (bz w)
    go_enter Try.func5, Try.ntmps5
    go_wp2_with fail
    refine (CG.out _).mono ?_
    rintro e w' ⟨rfl, rfl⟩
    go_wp2_with fail
    refine (CW.out _ KB0.out).mono ?_
    rintro e w1 ⟨rfl, hk⟩
    have KB1 := Lib.hid (btr KB0.out hk)
    clear KB0 hk
    go_wp2_with fail
    go_ret
    exact ⟨rfl, KB1.out⟩
  · have CW := Lib.hid (fun wz (hB : Below w.heap.size w wz) => works_any wz)
    have CG := Lib.hid (fun w' => great_any a V.length c w')
    rw [decide_eq_false hV] at CG
    have hV2 : V.length ≤ 9 := by omega
    have C1 := Lib.hid (fun wz (hB : Below w.heap.size w wz) => checkclash_any _ V i k wz (hx.mono hB) (by omega))
    have C2 := Lib.hid (fun wz (hB : Below w.heap.size w wz) => rcheckclash_any _ V i k wz (hx.mono hB) (by omega))
    have C3 := Lib.hid (fun wz (hB : Below w.heap.size w wz) => clash_any _ V wz (hx.mono hB) (by omega))
    have C4 := Lib.hid (fun wz (hB : Below w.heap.size w wz) => rclash_any _ V wz (hx.mono hB) (by omega))
    clear hV hV2
    generalize ccN V i k = q0 at *
    generalize ccE V i k = q1 at *
    generalize clA V = q2 at *
    generalize clK V = q3 at *
    generalize clE' V = q4 at *
    have KB0 := Lib.hid (bz w)
    go_enter Try.func5, Try.ntmps5
    go_wp2_with fail
    refine (CG.out _).mono ?_
    rintro e w' ⟨rfl, rfl⟩
    go_wp2_with fail
    refine (C1.out _ KB0.out).mono ?_
    rintro e w1 ⟨rfl, hk⟩
    have KB1 := Lib.hid (btr KB0.out hk)
    clear KB0 hk
    go_wp2_with fail
    refine (C2.out _ KB1.out).mono ?_
    rintro e w2 ⟨rfl, hk⟩
    have KB2 := Lib.hid (btr KB1.out hk)
    clear KB1 hk
    go_wp2_with fail
    refine (C3.out _ KB2.out).mono ?_
    rintro e w3 ⟨rfl, hk⟩
    have KB3 := Lib.hid (btr KB2.out hk)
    clear KB2 hk
    go_wp2_with fail
    refine (C4.out _ KB3.out).mono ?_
    rintro e w4 ⟨rfl, hk⟩
    have KB4 := Lib.hid (btr KB3.out hk)
    clear KB3 hk
    go_wp2_with fail
    refine (CW.out _ KB4.out).mono ?_
    rintro e w5 ⟨rfl, hk⟩
    have KB5 := Lib.hid (btr KB4.out hk)
    clear KB4 hk
    go_wp2_with fail
    go_ret
    exact ⟨rfl, KB5.out⟩
section
open Go.ChangeShapes Go.WideShapes Go.ChangeAt
set_option maxRecDepth 100000 in
theorem barrelClashes_lifted (os : Os) (started : os.Started) (H : Type) (enc : TypeId × Value → H) :
    ReturnsInHanded {} Try.checked os 5 .any (Rows.barrelClashesSpec.pre6 enc Try.prog Try.f5 Rows.barrelClashesRow.domain false) (Rows.barrelClashesSpec.post enc Try.prog Try.f5 false true false false) := by
  refine returnsInHanded_of_change (C := Try.checked) Try.own started (by kernel_rfl) Try.func5
    (ChangeSpec.witness6 (enc := enc) (C := Try.checked) false ⟨#[], #[.slice none 0 0, .int .i64 0, .int .i64 0], []⟩ 8 (by kernel_rfl) (by kernel_rfl) (by kernel_rfl) (by kernel_rfl)) ?_
  intro W base args ds gs before hval0 hW _ _
  have hval : ∀ (j : Nat) t v, Try.f5.params[j]? = some t → args[j]? = some v → Value.okWide Try.prog W .any base t v := hval0
  have hW' := hW
  obtain ⟨p, q, hA0, hV, rfl, hfz, hnd⟩ := hW
  have hA : DataW.TrodAll enc Try.prog W 0 (fun _ => true) true Try.f5.params.toList args.toList ds p := hA0
  have hA2 := hA
  have hlt : ∀ x ∈ p, x.block < W.heap.size := fun x hx => hW'.lt x (List.mem_append_left _ hx)
  rw [Try.params5] at hA hval
  obtain ⟨v0, vs0, d0, ds0, p0, q0, hargs, rfl, rfl, h0, r0⟩ := trodAll_cons hA
  obtain ⟨v1, vs1, d1, ds1, p1, q1, rfl, rfl, rfl, h1, r1⟩ := trodAll_cons r0
  obtain ⟨v2, vs2, d2, ds2, p2, q2, rfl, rfl, rfl, h2, r2⟩ := trodAll_cons r1
  obtain ⟨rfl, rfl, rfl⟩ := trodAll_nil r2
  obtain rfl : args = #[v0, v1, v2] := by cases args; simp_all
  obtain ⟨rfl, rfl⟩ := trodVars_none hV
  obtain ⟨V0, hx0, hw0⟩ := open_pins (hval 0 22 v0 rfl rfl) h0 (fun x hx => hlt x (by simp [hx]))
  obtain ⟨a1, rfl, rfl, rfl, w1⟩ := open_int Try.underlying3 (hval 1 3 v1 rfl rfl) h1
  obtain ⟨a2, rfl, rfl, rfl, w2⟩ := open_int Try.underlying3 (hval 2 3 v2 rfl rfl) h2
  clear hA0 hval0
  simp only [List.append_nil] at hW' hA2
  refine (barrelClashes_walk v0 V0 a1 a2 W hx0).mono fun e W' ⟨he, hb⟩ => ?_
  subst he
  exact ⟨_, rfl, law_post Try.laidOut Try.underlying4 hW' hA2 rfl rfl rfl rfl rfl (by kernel_rfl) hb⟩
theorem barrelClashes_holds : Rows.BarrelClashesSaid :=
  OpenClaim.holds_of_wide 5 Try.f5 rfl rfl rfl rfl rfl rfl rfl ⟨rfl, rfl, rfl, rfl, rfl⟩ rfl rfl rfl rfl rfl (by kernel_rfl) Try.func5 (by kernel_rfl)
    (of_decide_eq_true (by kernel_rfl)) (by unfold Func.isWrapper; first | (rw [if_pos (by decide +kernel)]; kernel_rfl) | (rw [if_neg (by decide +kernel)]; exact ⟨rfl, rfl⟩))
    (fun os started H enc _ => barrelClashes_lifted os started H enc)
end
theorem grpN_le (V : List (Int × Int)) : (grpN V).length ≤ V.length := by
  unfold grpN
  split
  · exact (gre_inc V V.length [] 0 ⟨List.Pairwise.nil, by simp⟩ (by simp)).len
  · simp

set_option maxRecDepth 100000 in
set_option maxHeartbeats 4000000 in
theorem barrelGroups_walk (x : Value) (V : List (Int × Int)) (y : Value) (g : List Int) (w : World) (hx : RdP w x V) (hy : RdI w .i64 y g) :
    Calls Try.prog 6 #[x, y] w fun e w' => e = .returned (.bool true) ∧ Below w.heap.size w w' := by
  obtain ⟨a, c, rfl⟩ := hx.ex _ rfl
  by_cases hV : 9 < V.length
  · obtain ⟨b, d, rfl⟩ := hy.ex _ rfl
    have CW := Lib.hid (fun wz (hB : Below w.heap.size w wz) => works_any wz)
    have CG := Lib.hid (fun w' => great_any a V.length c w')
    rw [decide_eq_true hV] at CG
    clear hV
    have KB0 := Lib.hid (bz w)
    go_enter Try.func6, Try.ntmps6
    go_wp2_with fail
    refine (CG.out _).mono ?_
    rintro e w' ⟨rfl, rfl⟩
    go_wp2_with fail
    refine (CW.out _ KB0.out).mono ?_
    rintro e w1 ⟨rfl, hk⟩
    have KB1 := Lib.hid (btr KB0.out hk)
    clear KB0 hk
    go_wp2_with fail
    go_ret
    exact ⟨rfl, KB1.out⟩
  · obtain ⟨b, d, rfl⟩ := hy.ex _ rfl
    by_cases hg : 9 < g.length
    · have hg2 : (9 : Int) < (g.length : Int) := by omega
      have CW := Lib.hid (fun wz (hB : Below w.heap.size w wz) => works_any wz)
      have CG := Lib.hid (fun w' => great_any a V.length c w')
      rw [decide_eq_false hV] at CG
      clear hV hg
      have KB0 := Lib.hid (bz w)
      go_enter Try.func6, Try.ntmps6
      go_wp2_with fail
      refine (CG.out _).mono ?_
      rintro e w' ⟨rfl, rfl⟩
      go_wp2_with fail
      refine (CW.out _ KB0.out).mono ?_
      rintro e w1 ⟨rfl, hk⟩
      have KB1 := Lib.hid (btr KB0.out hk)
      clear KB0 hk
      go_wp2_with fail
      go_ret
      exact ⟨rfl, KB1.out⟩
    · have hg2 : ¬ (9 : Int) < (g.length : Int) := by omega
      have CW := Lib.hid (fun wz (hB : Below w.heap.size w wz) => works_any wz)
      have CG := Lib.hid (fun w' => great_any a V.length c w')
      rw [decide_eq_false hV] at CG
      have hV2 : V.length ≤ 9 := by omega
      have C1 := Lib.hid (fun wz (hB : Below w.heap.size w wz) => group_any _ V wz (hx.mono hB) (by omega))
      have C2 := Lib.hid (fun wz (hB : Below w.heap.size w wz) => rgroup_any _ V wz (hx.mono hB) (by omega))
      have C3 := Lib.hid (fun wz (hB : Below w.heap.size w wz) => checkgroup_any _ _ V g wz (hx.mono hB) (hy.mono hB) (by omega) (by omega))
      have C4 := Lib.hid (fun wz (hB : Below w.heap.size w wz) => rcheckgroup_any _ _ V g wz (hx.mono hB) (hy.mono hB) (by omega) (by omega))
      have hl : (natL (grpN V)).length ≤ 1000 := by rw [natL_len]; have := grpN_le V; omega
      unfold GrpOk at C1
      unfold RGrpOk at C2
      rw [rgr_eq] at C2
      clear hV hV2 hg
      generalize cgE V g = q0 at *
      generalize natL (grpN V) = q1 at *
      generalize checkP V = q2 at *
      have KB0 := Lib.hid (bz w)
      go_enter Try.func6, Try.ntmps6
      go_wp2_with fail
      refine (CG.out _).mono ?_
      rintro e w' ⟨rfl, rfl⟩
      go_wp2_with fail
      refine (C1.out _ KB0.out).mono ?_
      rintro e w1 ⟨u, rfl, fA, hk⟩
      have KB1 := Lib.hid (btr KB0.out hk)
      have HA1 := Lib.hid fA
      clear KB0 fA hk
      go_wp2_with fail
      refine (C2.out _ KB1.out).mono ?_
      rintro e w2 ⟨v, rfl, fB, hk⟩
      have KB2 := Lib.hid (btr KB1.out hk)
      have HA2 := Lib.hid (HA1.out.mono hk)
      have HB2 := Lib.hid fB
      clear KB1 HA1 fB hk
      go_wp2_with fail
      refine (C3.out _ KB2.out).mono ?_
      rintro e w3 ⟨rfl, hk⟩
      have KB3 := Lib.hid (btr KB2.out hk)
      have HA3 := Lib.hid (HA2.out.mono hk)
      have HB3 := Lib.hid (HB2.out.mono hk)
      clear KB2 HA2 HB2 hk
      go_wp2_with fail
      refine (C4.out _ KB3.out).mono ?_
      rintro e w4 ⟨rfl, hk⟩
      have KB4 := Lib.hid (btr KB3.out hk)
      have HA4 := Lib.hid (HA3.out.mono hk)
      have HB4 := Lib.hid (HB3.out.mono hk)
      clear KB3 HA3 HB3 hk
      go_wp2_with fail
      refine (ints_eq _ _ q1 _ HA4.out HB4.out hl).mono ?_
      rintro e w5 ⟨rfl, hk⟩
      have KB5 := Lib.hid (btr KB4.out hk)
      have HA5 := Lib.hid (HA4.out.mono hk)
      have HB5 := Lib.hid (HB4.out.mono hk)
      clear KB4 HA4 HB4 hk
      go_wp2_with fail
      refine (CW.out _ KB5.out).mono ?_
      rintro e w6 ⟨rfl, hk⟩
      have KB6 := Lib.hid (btr KB5.out hk)
      have HA6 := Lib.hid (HA5.out.mono hk)
      have HB6 := Lib.hid (HB5.out.mono hk)
      clear KB5 HA5 HB5 hk
      go_wp2_with fail
      go_ret
      exact ⟨rfl, KB6.out⟩
section
open Go.ChangeShapes Go.WideShapes Go.ChangeAt
set_option maxRecDepth 100000 in
theorem barrelGroups_lifted (os : Os) (started : os.Started) (H : Type) (enc : TypeId × Value → H) :
    ReturnsInHanded {} Try.checked os 6 .any (Rows.barrelGroupsSpec.pre6 enc Try.prog Try.f6 Rows.barrelGroupsRow.domain false) (Rows.barrelGroupsSpec.post enc Try.prog Try.f6 false true false false) := by
  refine returnsInHanded_of_change (C := Try.checked) Try.own started (by kernel_rfl) Try.func6
    (ChangeSpec.witness6 (enc := enc) (C := Try.checked) false ⟨#[], #[.slice none 0 0, .slice none 0 0], []⟩ 8 (by kernel_rfl) (by kernel_rfl) (by kernel_rfl) (by kernel_rfl)) ?_
  intro W base args ds gs before hval0 hW _ _
  have hval : ∀ (j : Nat) t v, Try.f6.params[j]? = some t → args[j]? = some v → Value.okWide Try.prog W .any base t v := hval0
  have hW' := hW
  obtain ⟨p, q, hA0, hV, rfl, hfz, hnd⟩ := hW
  have hA : DataW.TrodAll enc Try.prog W 0 (fun _ => true) true Try.f6.params.toList args.toList ds p := hA0
  have hA2 := hA
  have hlt : ∀ x ∈ p, x.block < W.heap.size := fun x hx => hW'.lt x (List.mem_append_left _ hx)
  rw [Try.params6] at hA hval
  obtain ⟨v0, vs0, d0, ds0, p0, q0, hargs, rfl, rfl, h0, r0⟩ := trodAll_cons hA
  obtain ⟨v1, vs1, d1, ds1, p1, q1, rfl, rfl, rfl, h1, r1⟩ := trodAll_cons r0
  obtain ⟨rfl, rfl, rfl⟩ := trodAll_nil r1
  obtain rfl : args = #[v0, v1] := by cases args; simp_all
  obtain ⟨rfl, rfl⟩ := trodVars_none hV
  obtain ⟨V0, hx0, hw0⟩ := open_pins (hval 0 22 v0 rfl rfl) h0 (fun x hx => hlt x (by simp [hx]))
  obtain ⟨X1, hx1, hw1⟩ := open_ints_rd Try.underlying25 Try.underlying3 (by kernel_rfl) (hval 1 25 v1 rfl rfl) h1 (fun x hx => hlt x (by simp [hx]))
  clear hA0 hval0
  simp only [List.append_nil] at hW' hA2
  refine (barrelGroups_walk v0 V0 v1 X1 W hx0 hx1).mono fun e W' ⟨he, hb⟩ => ?_
  subst he
  exact ⟨_, rfl, law_post Try.laidOut Try.underlying4 hW' hA2 rfl rfl rfl rfl rfl (by kernel_rfl) hb⟩
theorem barrelGroups_holds : Rows.BarrelGroupsSaid :=
  OpenClaim.holds_of_wide 6 Try.f6 rfl rfl rfl rfl rfl rfl rfl ⟨rfl, rfl, rfl, rfl, rfl⟩ rfl rfl rfl rfl rfl (by kernel_rfl) Try.func6 (by kernel_rfl)
    (of_decide_eq_true (by kernel_rfl)) (by unfold Func.isWrapper; first | (rw [if_pos (by decide +kernel)]; kernel_rfl) | (rw [if_neg (by decide +kernel)]; exact ⟨rfl, rfl⟩))
    (fun os started H enc _ => barrelGroups_lifted os started H enc)
end
theorem offL_le (V : List (Int × Int)) (i : Int) : (offL V i).length ≤ 1000 := by
  rw [← rofL_eq]
  unfold rofL
  split
  · simp
  · split
    · simp
    · rename_i hc ho
      have hV := (okPins_of (by simpa using hc)).v
      have hb : 0 ≤ i ∧ i < V.length := by simp [outB] at ho; omega
      have hp := hV.at (show i.toNat < V.length by omega)
      rw [natL_len]
      have := rofN_le V i.toNat (pin V i.toNat).1.toNat
      omega

set_option maxRecDepth 100000 in
set_option maxHeartbeats 4000000 in
theorem barrelQuiets_walk (x : Value) (V : List (Int × Int)) (f i : Int) (w : World) (hx : RdP w x V) :
    Calls Try.prog 7 #[x, .int .i64 f, .int .i64 i] w fun e w' => e = .returned (.bool true) ∧ Below w.heap.size w w' := by
  obtain ⟨a, c, rfl⟩ := hx.ex _ rfl
  by_cases hV : 9 < V.length
  · have CW := Lib.hid (fun wz (hB : Below w.heap.size w wz) => works_any wz)
    have CG := Lib.hid (fun w' => great_any a V.length c w')
    rw [decide_eq_true hV] at CG
    clear hV
    have KB0 := Lib.hid (bz w)
    go_enter Try.func7, Try.ntmps7
    go_wp2_with fail
    refine (CG.out _).mono ?_
    rintro e w' ⟨rfl, rfl⟩
    go_wp2_with fail
    refine (CW.out _ KB0.out).mono ?_
    rintro e w1 ⟨rfl, hk⟩
    have KB1 := Lib.hid (btr KB0.out hk)
    clear KB0 hk
    go_wp2_with fail
    go_ret
    exact ⟨rfl, KB1.out⟩
  · have CW := Lib.hid (fun wz (hB : Below w.heap.size w wz) => works_any wz)
    have CG := Lib.hid (fun w' => great_any a V.length c w')
    rw [decide_eq_false hV] at CG
    have hV2 : V.length ≤ 9 := by omega
    have C1 := Lib.hid (fun wz (hB : Below w.heap.size w wz) => quiet_any _ V f wz (hx.mono hB) (by omega))
    have C2 := Lib.hid (fun wz (hB : Below w.heap.size w wz) => rquiet_any _ V f wz (hx.mono hB) (by omega))
    have C3 := Lib.hid (fun wz (hB : Below w.heap.size w wz) => offsets_any _ V i wz (hx.mono hB) (by omega))
    have C4 := Lib.hid (fun wz (hB : Below w.heap.size w wz) => roffsets_any _ V i wz (hx.mono hB) (by omega))
    have hl : (offL V i).length ≤ 1000 := offL_le V i
    unfold OffOk at C3
    unfold ROffOk at C4
    rw [rofL_eq] at C4
    rw [(rquiet_eq V f).1, (rquiet_eq V f).2] at C2
    clear hV hV2
    generalize quietN V f = q0 at *
    generalize quietE V f = q1 at *
    generalize offL V i = q2 at *
    generalize offE V i = q3 at *
    have KB0 := Lib.hid (bz w)
    go_enter Try.func7, Try.ntmps7
    go_wp2_with fail
    refine (CG.out _).mono ?_
    rintro e w' ⟨rfl, rfl⟩
    go_wp2_with fail
    refine (C1.out _ KB0.out).mono ?_
    rintro e w1 ⟨rfl, hk⟩
    have KB1 := Lib.hid (btr KB0.out hk)
    clear KB0 hk
    go_wp2_with fail
    refine (C2.out _ KB1.out).mono ?_
    rintro e w2 ⟨rfl, hk⟩
    have KB2 := Lib.hid (btr KB1.out hk)
    clear KB1 hk
    go_wp2_with fail
    refine (C3.out _ KB2.out).mono ?_
    rintro e w3 ⟨u, rfl, fA, hk⟩
    have KB3 := Lib.hid (btr KB2.out hk)
    have HA3 := Lib.hid fA
    clear KB2 fA hk
    go_wp2_with fail
    refine (C4.out _ KB3.out).mono ?_
    rintro e w4 ⟨v, rfl, fB, hk⟩
    have KB4 := Lib.hid (btr KB3.out hk)
    have HA4 := Lib.hid (HA3.out.mono hk)
    have HB4 := Lib.hid fB
    clear KB3 HA3 fB hk
    go_wp2_with fail
    refine (longs_eq _ _ q2 _ HA4.out HB4.out hl).mono ?_
    rintro e w5 ⟨rfl, hk⟩
    have KB5 := Lib.hid (btr KB4.out hk)
    have HA5 := Lib.hid (HA4.out.mono hk)
    have HB5 := Lib.hid (HB4.out.mono hk)
    clear KB4 HA4 HB4 hk
    go_wp2_with fail
    refine (CW.out _ KB5.out).mono ?_
    rintro e w6 ⟨rfl, hk⟩
    have KB6 := Lib.hid (btr KB5.out hk)
    have HA6 := Lib.hid (HA5.out.mono hk)
    have HB6 := Lib.hid (HB5.out.mono hk)
    clear KB5 HA5 HB5 hk
    go_wp2_with fail
    go_ret
    exact ⟨rfl, KB6.out⟩
section
open Go.ChangeShapes Go.WideShapes Go.ChangeAt
set_option maxRecDepth 100000 in
theorem barrelQuiets_lifted (os : Os) (started : os.Started) (H : Type) (enc : TypeId × Value → H) :
    ReturnsInHanded {} Try.checked os 7 .any (Rows.barrelQuietsSpec.pre6 enc Try.prog Try.f7 Rows.barrelQuietsRow.domain false) (Rows.barrelQuietsSpec.post enc Try.prog Try.f7 false true false false) := by
  refine returnsInHanded_of_change (C := Try.checked) Try.own started (by kernel_rfl) Try.func7
    (ChangeSpec.witness6 (enc := enc) (C := Try.checked) false ⟨#[], #[.slice none 0 0, .int .i64 0, .int .i64 0], []⟩ 8 (by kernel_rfl) (by kernel_rfl) (by kernel_rfl) (by kernel_rfl)) ?_
  intro W base args ds gs before hval0 hW _ _
  have hval : ∀ (j : Nat) t v, Try.f7.params[j]? = some t → args[j]? = some v → Value.okWide Try.prog W .any base t v := hval0
  have hW' := hW
  obtain ⟨p, q, hA0, hV, rfl, hfz, hnd⟩ := hW
  have hA : DataW.TrodAll enc Try.prog W 0 (fun _ => true) true Try.f7.params.toList args.toList ds p := hA0
  have hA2 := hA
  have hlt : ∀ x ∈ p, x.block < W.heap.size := fun x hx => hW'.lt x (List.mem_append_left _ hx)
  rw [Try.params7] at hA hval
  obtain ⟨v0, vs0, d0, ds0, p0, q0, hargs, rfl, rfl, h0, r0⟩ := trodAll_cons hA
  obtain ⟨v1, vs1, d1, ds1, p1, q1, rfl, rfl, rfl, h1, r1⟩ := trodAll_cons r0
  obtain ⟨v2, vs2, d2, ds2, p2, q2, rfl, rfl, rfl, h2, r2⟩ := trodAll_cons r1
  obtain ⟨rfl, rfl, rfl⟩ := trodAll_nil r2
  obtain rfl : args = #[v0, v1, v2] := by cases args; simp_all
  obtain ⟨rfl, rfl⟩ := trodVars_none hV
  obtain ⟨V0, hx0, hw0⟩ := open_pins (hval 0 22 v0 rfl rfl) h0 (fun x hx => hlt x (by simp [hx]))
  obtain ⟨a1, rfl, rfl, rfl, w1⟩ := open_int Try.underlying2 (hval 1 2 v1 rfl rfl) h1
  obtain ⟨a2, rfl, rfl, rfl, w2⟩ := open_int Try.underlying3 (hval 2 3 v2 rfl rfl) h2
  clear hA0 hval0
  simp only [List.append_nil] at hW' hA2
  refine (barrelQuiets_walk v0 V0 a1 a2 W hx0).mono fun e W' ⟨he, hb⟩ => ?_
  subst he
  exact ⟨_, rfl, law_post Try.laidOut Try.underlying4 hW' hA2 rfl rfl rfl rfl rfl (by kernel_rfl) hb⟩
theorem barrelQuiets_holds : Rows.BarrelQuietsSaid :=
  OpenClaim.holds_of_wide 7 Try.f7 rfl rfl rfl rfl rfl rfl rfl ⟨rfl, rfl, rfl, rfl, rfl⟩ rfl rfl rfl rfl rfl (by kernel_rfl) Try.func7 (by kernel_rfl)
    (of_decide_eq_true (by kernel_rfl)) (by unfold Func.isWrapper; first | (rw [if_pos (by decide +kernel)]; kernel_rfl) | (rw [if_neg (by decide +kernel)]; exact ⟨rfl, rfl⟩))
    (fun os started H enc _ => barrelQuiets_lifted os started H enc)
end
end Go.Proofs.Ytooddicegkiiiaa
