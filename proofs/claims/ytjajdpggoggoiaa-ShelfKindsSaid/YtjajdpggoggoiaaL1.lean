/- The laws that compare the program with the document; no condition. -/
import Derived.Test.YtjajdpggoggoiaaWk
namespace Go.Proofs.Ytjajdpggoggoiaa
open Go.RowKit Go.Shelf

set_option maxRecDepth 100000 in
set_option maxHeartbeats 16000000 in
theorem shelfDays_walk (R : Int) (x : Value) (W : List Int) (y : Value) (P : List Int) (w : World) (hx0 : RdI w .i64 x W) (hy0 : RdI w .i64 y P) :
    Calls Try.prog 3 #[.agg #[.int .i64 R, x], y] w fun e w' => e = .returned (.bool true) ∧ Below w.heap.size w w' := by
  obtain ⟨a, c, rfl⟩ := hx0.ex _ rfl
  obtain ⟨b, d, rfl⟩ := hy0.ex _ rfl
  by_cases hV : 24 < W.length
  · obtain ⟨wA, hwA⟩ : ∃ wA, w.alloc (.cells #[.int .i64 R, .slice a W.length c] 24) = wA := ⟨_, rfl⟩
    have HBA := Lib.hid (show Below w.heap.size w wA by rw [← hwA]; exact bal (bz w) _)
    have hr0 : wA.cell? ⟨w.heap.size, 0, none⟩ = some (.int .i64 R) := by rw [← hwA]; exact cnew rfl rfl
    have hr1 : wA.cell? ⟨w.heap.size, 1, none⟩ = some (.slice a W.length c) := by rw [← hwA]; exact cnew rfl rfl
    have hrz : w.heap.size < wA.heap.size := by rw [← hwA]; simp
    have HR0 := Lib.hid (fun wz (hB : Below wA.heap.size wA wz) => (hB.cell (p := ⟨w.heap.size, 0, none⟩) hrz).trans hr0)
    have HR1 := Lib.hid (fun wz (hB : Below wA.heap.size wA wz) => (hB.cell (p := ⟨w.heap.size, 1, none⟩) hrz).trans hr1)
    have HRZ := Lib.hid (fun wz (hB : Below wA.heap.size wA wz) => Nat.lt_of_lt_of_le hrz hB.size)
    have HX := Lib.hid (hx0.mono HBA.out)
    clear hr0 hr1 hrz hx0
    have CW := Lib.hid (fun wz (hB : Below wA.heap.size wA wz) => works_any wz)
    have CG := Lib.hid (fun wz (hB : Below wA.heap.size wA wz) => great_any R a W.length c wz)
    rw [decide_eq_true hV] at CG
    clear hV
    have KB0 := Lib.hid (bz wA)
    go_enter Try.func3, Try.ntmps3
    go_upto_region 1 with fail
    try rw [hwA]
    clear hwA
    have r0 := HR0.out _ KB0.out; have r1 := HR1.out _ KB0.out; have rz := HRZ.out _ KB0.out
    go_wp2_with fail
    clear r0 r1 rz
    refine (CG.out _ KB0.out).mono ?_
    rintro e w1 ⟨rfl, hk⟩
    have KB1 := Lib.hid (btr KB0.out hk)
    clear KB0 hk
    have r0 := HR0.out _ KB1.out; have r1 := HR1.out _ KB1.out; have rz := HRZ.out _ KB1.out
    go_wp2_with fail
    clear r0 r1 rz
    refine (CW.out _ KB1.out).mono ?_
    rintro e w2 ⟨rfl, hk⟩
    have KB2 := Lib.hid (btr KB1.out hk)
    clear KB1 hk
    have r0 := HR0.out _ KB2.out; have r1 := HR1.out _ KB2.out; have rz := HRZ.out _ KB2.out
    go_wp2_with fail
    clear r0 r1 rz
    go_ret
    exact ⟨rfl, btr HBA.out KB2.out⟩
  by_cases hM : 30 < P.length
  · obtain ⟨wA, hwA⟩ : ∃ wA, w.alloc (.cells #[.int .i64 R, .slice a W.length c] 24) = wA := ⟨_, rfl⟩
    have HBA := Lib.hid (show Below w.heap.size w wA by rw [← hwA]; exact bal (bz w) _)
    have hr0 : wA.cell? ⟨w.heap.size, 0, none⟩ = some (.int .i64 R) := by rw [← hwA]; exact cnew rfl rfl
    have hr1 : wA.cell? ⟨w.heap.size, 1, none⟩ = some (.slice a W.length c) := by rw [← hwA]; exact cnew rfl rfl
    have hrz : w.heap.size < wA.heap.size := by rw [← hwA]; simp
    have HR0 := Lib.hid (fun wz (hB : Below wA.heap.size wA wz) => (hB.cell (p := ⟨w.heap.size, 0, none⟩) hrz).trans hr0)
    have HR1 := Lib.hid (fun wz (hB : Below wA.heap.size wA wz) => (hB.cell (p := ⟨w.heap.size, 1, none⟩) hrz).trans hr1)
    have HRZ := Lib.hid (fun wz (hB : Below wA.heap.size wA wz) => Nat.lt_of_lt_of_le hrz hB.size)
    have HX := Lib.hid (hx0.mono HBA.out)
    clear hr0 hr1 hrz hx0
    have CW := Lib.hid (fun wz (hB : Below wA.heap.size wA wz) => works_any wz)
    have CG := Lib.hid (fun wz (hB : Below wA.heap.size wA wz) => great_any R a W.length c wz)
    rw [decide_eq_false hV] at CG
    have hM2 : (30 : Int) < (P.length : Int) := by omega
    clear hV hM
    have KB0 := Lib.hid (bz wA)
    go_enter Try.func3, Try.ntmps3
    go_upto_region 1 with fail
    try rw [hwA]
    clear hwA
    have r0 := HR0.out _ KB0.out; have r1 := HR1.out _ KB0.out; have rz := HRZ.out _ KB0.out
    go_wp2_with fail
    clear r0 r1 rz
    refine (CG.out _ KB0.out).mono ?_
    rintro e w1 ⟨rfl, hk⟩
    have KB1 := Lib.hid (btr KB0.out hk)
    clear KB0 hk
    have r0 := HR0.out _ KB1.out; have r1 := HR1.out _ KB1.out; have rz := HRZ.out _ KB1.out
    go_wp2_with fail
    clear r0 r1 rz
    refine (CW.out _ KB1.out).mono ?_
    rintro e w2 ⟨rfl, hk⟩
    have KB2 := Lib.hid (btr KB1.out hk)
    clear KB1 hk
    have r0 := HR0.out _ KB2.out; have r1 := HR1.out _ KB2.out; have rz := HRZ.out _ KB2.out
    go_wp2_with fail
    clear r0 r1 rz
    go_ret
    exact ⟨rfl, btr HBA.out KB2.out⟩
  · obtain ⟨wA, hwA⟩ : ∃ wA, w.alloc (.cells #[.int .i64 R, .slice a W.length c] 24) = wA := ⟨_, rfl⟩
    have HBA := Lib.hid (show Below w.heap.size w wA by rw [← hwA]; exact bal (bz w) _)
    have hr0 : wA.cell? ⟨w.heap.size, 0, none⟩ = some (.int .i64 R) := by rw [← hwA]; exact cnew rfl rfl
    have hr1 : wA.cell? ⟨w.heap.size, 1, none⟩ = some (.slice a W.length c) := by rw [← hwA]; exact cnew rfl rfl
    have hrz : w.heap.size < wA.heap.size := by rw [← hwA]; simp
    have HR0 := Lib.hid (fun wz (hB : Below wA.heap.size wA wz) => (hB.cell (p := ⟨w.heap.size, 0, none⟩) hrz).trans hr0)
    have HR1 := Lib.hid (fun wz (hB : Below wA.heap.size wA wz) => (hB.cell (p := ⟨w.heap.size, 1, none⟩) hrz).trans hr1)
    have HRZ := Lib.hid (fun wz (hB : Below wA.heap.size wA wz) => Nat.lt_of_lt_of_le hrz hB.size)
    have HX := Lib.hid (hx0.mono HBA.out)
    clear hr0 hr1 hrz hx0
    have CW := Lib.hid (fun wz (hB : Below wA.heap.size wA wz) => works_any wz)
    have CG := Lib.hid (fun wz (hB : Below wA.heap.size wA wz) => great_any R a W.length c wz)
    rw [decide_eq_false hV] at CG
    have hV2 : W.length ≤ 24 := by omega
    have hM2 : ¬ (30 : Int) < (P.length : Int) := by omega
    have hM3 : P.length ≤ 1000 := by omega
    have HY := Lib.hid (hy0.mono HBA.out)
    clear hy0 hM
    have C1 := Lib.hid (fun wz (hB : Below wA.heap.size wA wz) => checkplan_any R _ _ W P wz (HX.out.mono hB) (HY.out.mono hB) (by omega) hM3)
    have C2 := Lib.hid (fun wz (hB : Below wA.heap.size wA wz) => rcheckplan_any R _ _ W P wz (HX.out.mono hB) (HY.out.mono hB) (by omega) hM3)
    have C3 := Lib.hid (fun wz (hB : Below wA.heap.size wA wz) => checkday_any R _ W wz (HX.out.mono hB) (by omega))
    have C4 := Lib.hid (fun wz (hB : Below wA.heap.size wA wz) => rcheckday_any R _ W wz (HX.out.mono hB) (by omega))
    unfold PlanOk at C1 C2
    clear hV hV2 hM3
    generalize (planR R W P).1 = q0 at *
    generalize (planR R W P).2 = q1 at *
    generalize checkD R W = q2 at *
    have KB0 := Lib.hid (bz wA)
    go_enter Try.func3, Try.ntmps3
    go_upto_region 1 with fail
    try rw [hwA]
    clear hwA
    have r0 := HR0.out _ KB0.out; have r1 := HR1.out _ KB0.out; have rz := HRZ.out _ KB0.out
    go_wp2_with fail
    clear r0 r1 rz
    refine (CG.out _ KB0.out).mono ?_
    rintro e w1 ⟨rfl, hk⟩
    have KB1 := Lib.hid (btr KB0.out hk)
    clear KB0 hk
    have r0 := HR0.out _ KB1.out; have r1 := HR1.out _ KB1.out; have rz := HRZ.out _ KB1.out
    go_wp2_with fail
    clear r0 r1 rz
    refine (C1.out _ KB1.out).mono ?_
    rintro e w2 ⟨rfl, hk⟩
    have KB2 := Lib.hid (btr KB1.out hk)
    clear KB1 hk
    have r0 := HR0.out _ KB2.out; have r1 := HR1.out _ KB2.out; have rz := HRZ.out _ KB2.out
    go_wp2_with fail
    clear r0 r1 rz
    refine (C2.out _ KB2.out).mono ?_
    rintro e w3 ⟨rfl, hk⟩
    have KB3 := Lib.hid (btr KB2.out hk)
    clear KB2 hk
    have r0 := HR0.out _ KB3.out; have r1 := HR1.out _ KB3.out; have rz := HRZ.out _ KB3.out
    go_wp2_with fail
    clear r0 r1 rz
    refine wp_region_flow [] [([0, 2], 1, true), ([], 3, true), ([4, 5, 6, 7, 8, 9, 10, 11, 12, 13, 14, 15], 16, true)] [17, 18] (by kernel_rfl) (by kernel_rfl) ?_
    intro w4 hk hh
    clear hh
    have KB4 := Lib.hid (btr KB3.out hk)
    have r0 := HR0.out _ KB4.out; have r1 := HR1.out _ KB4.out; have rz := HRZ.out _ KB4.out
    have hL := @Later.cell w4
    have HW := Lib.hid (bz w4)
    clear KB3 hk
    simp only [flowP, flow, pickL, List.getElem?_cons_succ, List.getElem?_cons_zero]
    refine wpQuiet_nil ?_
    repeat (go_big_quiet_step (fail))
    refine wpQuiet_nil ?_
    go_wp2_with fail
    refine (C3.out _ KB4.out).mono ?_
    rintro e w5 ⟨rfl, hk⟩
    have KB5 := Lib.hid (btr KB4.out hk)
    have HW2 := Lib.hid (btr HW.out hk)
    clear HW KB4
    go_wp2
    refine seg_grow ⟨⟨_, HW2.out⟩, rfl⟩ ?_
    have HW := HW2
    clear HW2 hk
    repeat (go_big_quiet_step (fail))
    refine wpQuiet_nil ?_
    go_wp2_with fail
    refine (C4.out _ KB5.out).mono ?_
    rintro e w6 ⟨rfl, hk⟩
    have KB6 := Lib.hid (btr KB5.out hk)
    have HW2 := Lib.hid (btr HW.out hk)
    clear HW KB5
    go_wp2
    refine seg_grow ⟨⟨_, HW2.out⟩, rfl⟩ ?_
    have HW := HW2
    clear HW2 hk
    repeat (go_big_quiet_step (fail))
    refine wpQuiet_nil ?_
    go_wp2_with fail
    refine (CW.out _ KB6.out).mono ?_
    rintro e w7 ⟨rfl, hk⟩
    have KB7 := Lib.hid (btr KB6.out hk)
    have HW2 := Lib.hid (btr HW.out hk)
    clear HW KB6
    go_wp2
    refine seg_grow ⟨⟨_, HW2.out⟩, rfl⟩ ?_
    have HW := HW2
    clear HW2 hk
    repeat (go_big_quiet_step (fail))
    refine wpQuiet_nil ?_
    refine only_done ?_
    clear HW r0 r1 rz hL
    have r0 := HR0.out _ KB7.out; have r1 := HR1.out _ KB7.out; have rz := HRZ.out _ KB7.out
    go_wp2_with fail
    clear r0 r1 rz
    go_ret
    exact ⟨rfl, btr HBA.out KB7.out⟩
section
open Go.ChangeShapes Go.WideShapes Go.ChangeAt
set_option maxRecDepth 100000 in
theorem shelfDays_lifted (os : Os) (started : os.Started) (H : Type) (enc : TypeId × Value → H) :
    ReturnsInHanded {} Try.checked os 3 .any (Rows.shelfDaysSpec.pre6 enc Try.prog Try.f3 Rows.shelfDaysRow.domain false) (Rows.shelfDaysSpec.post enc Try.prog Try.f3 false true false false) := by
  refine returnsInHanded_of_change (C := Try.checked) Try.own started (by kernel_rfl) Try.func3
    (ChangeSpec.witness6 (enc := enc) (C := Try.checked) false ⟨#[], #[.agg #[.int .i64 0, .slice none 0 0], .slice none 0 0], []⟩ 8 (by kernel_rfl) (by kernel_rfl) (by kernel_rfl) (by kernel_rfl)) ?_
  intro W base args ds gs before hval0 hW _ _
  have hval : ∀ (j : Nat) t v, Try.f3.params[j]? = some t → args[j]? = some v → Value.okWide Try.prog W .any base t v := hval0
  have hW' := hW
  obtain ⟨p, q, hA0, hV, rfl, hfz, hnd⟩ := hW
  have hA : DataW.TrodAll enc Try.prog W 0 (fun _ => true) true Try.f3.params.toList args.toList ds p := hA0
  have hA2 := hA
  have hlt : ∀ x ∈ p, x.block < W.heap.size := fun x hx => hW'.lt x (List.mem_append_left _ hx)
  rw [Try.params3] at hA hval
  obtain ⟨v0, vs0, d0, ds0, p0, q0, hargs, rfl, rfl, h0, r0⟩ := trodAll_cons hA
  obtain ⟨v1, vs1, d1, ds1, p1, q1, rfl, rfl, rfl, h1, r1⟩ := trodAll_cons r0
  obtain ⟨rfl, rfl, rfl⟩ := trodAll_nil r1
  obtain rfl : args = #[v0, v1] := by cases args; simp_all
  obtain ⟨rfl, rfl⟩ := trodVars_none hV
  obtain ⟨R0, x0, X0, rfl, hx0⟩ := open_day (hval 0 24 v0 rfl rfl) h0 (fun x hx => hlt x (by simp [hx]))
  obtain ⟨X1, hx1, hw1⟩ := open_ints_rd Try.underlying22 Try.underlying3 (by kernel_rfl) (hval 1 22 v1 rfl rfl) h1 (fun x hx => hlt x (by simp [hx]))
  clear hA0 hval0
  simp only [List.append_nil] at hW' hA2
  refine (shelfDays_walk R0 x0 X0 v1 X1 W hx0 hx1).mono fun e W' ⟨he, hb⟩ => ?_
  subst he
  exact ⟨_, rfl, law_post Try.laidOut Try.underlying4 hW' hA2 rfl rfl rfl rfl rfl (by kernel_rfl) hb⟩
theorem shelfDays_holds : Rows.ShelfDaysSaid :=
  OpenClaim.holds_of_wide 3 Try.f3 rfl rfl rfl rfl rfl rfl rfl ⟨rfl, rfl, rfl, rfl, rfl⟩ rfl rfl rfl rfl rfl (by kernel_rfl) Try.func3 (by kernel_rfl)
    (of_decide_eq_true (by kernel_rfl)) (by unfold Func.isWrapper; first | (rw [if_pos (by decide +kernel)]; kernel_rfl) | (rw [if_neg (by decide +kernel)]; exact ⟨rfl, rfl⟩))
    (fun os started H enc _ => shelfDays_lifted os started H enc)
end
theorem planL_le (R : Int) (W : List Int) (r : Int) (h : W.length ≤ 24) : (planL R W r).length ≤ 1000 := by
  unfold planL
  split
  · have := runK_len R r W W.length; omega
  · simp
theorem fetL_le (R : Int) (W : List Int) (r : Int) (h : W.length ≤ 24) : (fetL R W r).length ≤ 1000 := by
  unfold fetL
  split
  · have := runK_len R r W W.length; omega
  · simp
theorem dpsL_le (R : Int) (W : List Int) (h : W.length ≤ 24) : (dpsL R W).length ≤ 1000 := by
  unfold dpsL
  split
  · rw [depL_len]; omega
  · simp
theorem timsL_le (R : Int) (W : List Int) (h : W.length ≤ 24) : (timsL R W).length ≤ 1000 := by
  unfold timsL
  split
  · have := chainF_len (befT R W) (W.length + 2) (befT R W (W.length + 1))
    unfold timesP
    rw [List.length_reverse]; omega
  · simp

set_option maxRecDepth 100000 in
set_option maxHeartbeats 16000000 in
theorem shelfPlans_walk (R : Int) (x : Value) (W : List Int) (r : Int) (w : World) (hx0 : RdI w .i64 x W) :
    Calls Try.prog 4 #[.agg #[.int .i64 R, x], .int .i64 r] w fun e w' => e = .returned (.bool true) ∧ Below w.heap.size w w' := by
  obtain ⟨a, c, rfl⟩ := hx0.ex _ rfl
  by_cases hV : 24 < W.length
  · obtain ⟨wA, hwA⟩ : ∃ wA, w.alloc (.cells #[.int .i64 R, .slice a W.length c] 24) = wA := ⟨_, rfl⟩
    have HBA := Lib.hid (show Below w.heap.size w wA by rw [← hwA]; exact bal (bz w) _)
    have hr0 : wA.cell? ⟨w.heap.size, 0, none⟩ = some (.int .i64 R) := by rw [← hwA]; exact cnew rfl rfl
    have hr1 : wA.cell? ⟨w.heap.size, 1, none⟩ = some (.slice a W.length c) := by rw [← hwA]; exact cnew rfl rfl
    have hrz : w.heap.size < wA.heap.size := by rw [← hwA]; simp
    have HR0 := Lib.hid (fun wz (hB : Below wA.heap.size wA wz) => (hB.cell (p := ⟨w.heap.size, 0, none⟩) hrz).trans hr0)
    have HR1 := Lib.hid (fun wz (hB : Below wA.heap.size wA wz) => (hB.cell (p := ⟨w.heap.size, 1, none⟩) hrz).trans hr1)
    have HRZ := Lib.hid (fun wz (hB : Below wA.heap.size wA wz) => Nat.lt_of_lt_of_le hrz hB.size)
    have HX := Lib.hid (hx0.mono HBA.out)
    clear hr0 hr1 hrz hx0
    have CW := Lib.hid (fun wz (hB : Below wA.heap.size wA wz) => works_any wz)
    have CG := Lib.hid (fun wz (hB : Below wA.heap.size wA wz) => great_any R a W.length c wz)
    rw [decide_eq_true hV] at CG
    clear hV
    have KB0 := Lib.hid (bz wA)
    go_enter Try.func4, Try.ntmps4
    go_upto_region 1 with fail
    try rw [hwA]
    clear hwA
    have r0 := HR0.out _ KB0.out; have r1 := HR1.out _ KB0.out; have rz := HRZ.out _ KB0.out
    go_wp2_with fail
    clear r0 r1 rz
    refine (CG.out _ KB0.out).mono ?_
    rintro e w1 ⟨rfl, hk⟩
    have KB1 := Lib.hid (btr KB0.out hk)
    clear KB0 hk
    have r0 := HR0.out _ KB1.out; have r1 := HR1.out _ KB1.out; have rz := HRZ.out _ KB1.out
    go_wp2_with fail
    clear r0 r1 rz
    refine (CW.out _ KB1.out).mono ?_
    rintro e w2 ⟨rfl, hk⟩
    have KB2 := Lib.hid (btr KB1.out hk)
    clear KB1 hk
    have r0 := HR0.out _ KB2.out; have r1 := HR1.out _ KB2.out; have rz := HRZ.out _ KB2.out
    go_wp2_with fail
    clear r0 r1 rz
    go_ret
    exact ⟨rfl, btr HBA.out KB2.out⟩
  · obtain ⟨wA, hwA⟩ : ∃ wA, w.alloc (.cells #[.int .i64 R, .slice a W.length c] 24) = wA := ⟨_, rfl⟩
    have HBA := Lib.hid (show Below w.heap.size w wA by rw [← hwA]; exact bal (bz w) _)
    have hr0 : wA.cell? ⟨w.heap.size, 0, none⟩ = some (.int .i64 R) := by rw [← hwA]; exact cnew rfl rfl
    have hr1 : wA.cell? ⟨w.heap.size, 1, none⟩ = some (.slice a W.length c) := by rw [← hwA]; exact cnew rfl rfl
    have hrz : w.heap.size < wA.heap.size := by rw [← hwA]; simp
    have HR0 := Lib.hid (fun wz (hB : Below wA.heap.size wA wz) => (hB.cell (p := ⟨w.heap.size, 0, none⟩) hrz).trans hr0)
    have HR1 := Lib.hid (fun wz (hB : Below wA.heap.size wA wz) => (hB.cell (p := ⟨w.heap.size, 1, none⟩) hrz).trans hr1)
    have HRZ := Lib.hid (fun wz (hB : Below wA.heap.size wA wz) => Nat.lt_of_lt_of_le hrz hB.size)
    have HX := Lib.hid (hx0.mono HBA.out)
    clear hr0 hr1 hrz hx0
    have CW := Lib.hid (fun wz (hB : Below wA.heap.size wA wz) => works_any wz)
    have CG := Lib.hid (fun wz (hB : Below wA.heap.size wA wz) => great_any R a W.length c wz)
    rw [decide_eq_false hV] at CG
    have hV2 : W.length ≤ 24 := by omega
    have C1 := Lib.hid (fun wz (hB : Below wA.heap.size wA wz) => plan_any R _ W r wz (HX.out.mono hB) (by omega))
    have C2 := Lib.hid (fun wz (hB : Below wA.heap.size wA wz) => rplan_any R _ W r wz (HX.out.mono hB) (by omega))
    have C3 := Lib.hid (fun wz (hB : Below wA.heap.size wA wz) => fetches_any R _ W r wz (HX.out.mono hB) (by omega))
    have C4 := Lib.hid (fun wz (hB : Below wA.heap.size wA wz) => rfetches_any R _ W r wz (HX.out.mono hB) (by omega))
    have hl1 := planL_le R W r hV2
    have hl2 := fetL_le R W r hV2
    clear hV hV2
    generalize ruleE R W r = q0 at *
    generalize planL R W r = q1 at *
    generalize fetL R W r = q2 at *
    have KB0 := Lib.hid (bz wA)
    go_enter Try.func4, Try.ntmps4
    go_upto_region 1 with fail
    try rw [hwA]
    clear hwA
    have r0 := HR0.out _ KB0.out; have r1 := HR1.out _ KB0.out; have rz := HRZ.out _ KB0.out
    go_wp2_with fail
    clear r0 r1 rz
    refine (CG.out _ KB0.out).mono ?_
    rintro e w1 ⟨rfl, hk⟩
    have KB1 := Lib.hid (btr KB0.out hk)
    clear KB0 hk
    have r0 := HR0.out _ KB1.out; have r1 := HR1.out _ KB1.out; have rz := HRZ.out _ KB1.out
    go_wp2_with fail
    clear r0 r1 rz
    refine (C1.out _ KB1.out).mono ?_
    rintro e w2 ⟨u1, rfl, fA, hk⟩
    have KB2 := Lib.hid (btr KB1.out hk)
    have HA2 := Lib.hid fA
    clear KB1 fA hk
    have r0 := HR0.out _ KB2.out; have r1 := HR1.out _ KB2.out; have rz := HRZ.out _ KB2.out
    go_wp2_with fail
    clear r0 r1 rz
    refine (C2.out _ KB2.out).mono ?_
    rintro e w3 ⟨u2, rfl, fB, hk⟩
    have KB3 := Lib.hid (btr KB2.out hk)
    have HA3 := Lib.hid (HA2.out.mono hk)
    have HB3 := Lib.hid fB
    clear KB2 HA2 fB hk
    have r0 := HR0.out _ KB3.out; have r1 := HR1.out _ KB3.out; have rz := HRZ.out _ KB3.out
    go_wp2_with fail
    clear r0 r1 rz
    refine (C3.out _ KB3.out).mono ?_
    rintro e w4 ⟨u3, rfl, fC, hk⟩
    have KB4 := Lib.hid (btr KB3.out hk)
    have HA4 := Lib.hid (HA3.out.mono hk)
    have HB4 := Lib.hid (HB3.out.mono hk)
    have HC4 := Lib.hid fC
    clear KB3 HA3 HB3 fC hk
    have r0 := HR0.out _ KB4.out; have r1 := HR1.out _ KB4.out; have rz := HRZ.out _ KB4.out
    go_wp2_with fail
    clear r0 r1 rz
    refine (C4.out _ KB4.out).mono ?_
    rintro e w5 ⟨u4, rfl, fD, hk⟩
    have KB5 := Lib.hid (btr KB4.out hk)
    have HA5 := Lib.hid (HA4.out.mono hk)
    have HB5 := Lib.hid (HB4.out.mono hk)
    have HC5 := Lib.hid (HC4.out.mono hk)
    have HD5 := Lib.hid fD
    clear KB4 HA4 HB4 HC4 fD hk
    have r0 := HR0.out _ KB5.out; have r1 := HR1.out _ KB5.out; have rz := HRZ.out _ KB5.out
    go_wp2_with fail
    clear r0 r1 rz
    refine (ints_eq _ _ q1 _ HA5.out HB5.out hl1).mono ?_
    rintro e w6 ⟨rfl, hk⟩
    have KB6 := Lib.hid (btr KB5.out hk)
    have HA6 := Lib.hid (HA5.out.mono hk)
    have HB6 := Lib.hid (HB5.out.mono hk)
    have HC6 := Lib.hid (HC5.out.mono hk)
    have HD6 := Lib.hid (HD5.out.mono hk)
    clear KB5 HA5 HB5 HC5 HD5 hk
    have r0 := HR0.out _ KB6.out; have r1 := HR1.out _ KB6.out; have rz := HRZ.out _ KB6.out
    go_wp2_with fail
    clear r0 r1 rz
    refine (ints_eq _ _ q2 _ HC6.out HD6.out hl2).mono ?_
    rintro e w7 ⟨rfl, hk⟩
    have KB7 := Lib.hid (btr KB6.out hk)
    have HA7 := Lib.hid (HA6.out.mono hk)
    have HB7 := Lib.hid (HB6.out.mono hk)
    have HC7 := Lib.hid (HC6.out.mono hk)
    have HD7 := Lib.hid (HD6.out.mono hk)
    clear KB6 HA6 HB6 HC6 HD6 hk
    have r0 := HR0.out _ KB7.out; have r1 := HR1.out _ KB7.out; have rz := HRZ.out _ KB7.out
    go_wp2_with fail
    clear r0 r1 rz
    refine (CW.out _ KB7.out).mono ?_
    rintro e w8 ⟨rfl, hk⟩
    have KB8 := Lib.hid (btr KB7.out hk)
    have HA8 := Lib.hid (HA7.out.mono hk)
    have HB8 := Lib.hid (HB7.out.mono hk)
    have HC8 := Lib.hid (HC7.out.mono hk)
    have HD8 := Lib.hid (HD7.out.mono hk)
    clear KB7 HA7 HB7 HC7 HD7 hk
    have r0 := HR0.out _ KB8.out; have r1 := HR1.out _ KB8.out; have rz := HRZ.out _ KB8.out
    go_wp2_with fail
    clear r0 r1 rz
    go_ret
    exact ⟨rfl, btr HBA.out KB8.out⟩
section
open Go.ChangeShapes Go.WideShapes Go.ChangeAt
set_option maxRecDepth 100000 in
theorem shelfPlans_lifted (os : Os) (started : os.Started) (H : Type) (enc : TypeId × Value → H) :
    ReturnsInHanded {} Try.checked os 4 .any (Rows.shelfPlansSpec.pre6 enc Try.prog Try.f4 Rows.shelfPlansRow.domain false) (Rows.shelfPlansSpec.post enc Try.prog Try.f4 false true false false) := by
  refine returnsInHanded_of_change (C := Try.checked) Try.own started (by kernel_rfl) Try.func4
    (ChangeSpec.witness6 (enc := enc) (C := Try.checked) false ⟨#[], #[.agg #[.int .i64 0, .slice none 0 0], .int .i64 0], []⟩ 8 (by kernel_rfl) (by kernel_rfl) (by kernel_rfl) (by kernel_rfl)) ?_
  intro W base args ds gs before hval0 hW _ _
  have hval : ∀ (j : Nat) t v, Try.f4.params[j]? = some t → args[j]? = some v → Value.okWide Try.prog W .any base t v := hval0
  have hW' := hW
  obtain ⟨p, q, hA0, hV, rfl, hfz, hnd⟩ := hW
  have hA : DataW.TrodAll enc Try.prog W 0 (fun _ => true) true Try.f4.params.toList args.toList ds p := hA0
  have hA2 := hA
  have hlt : ∀ x ∈ p, x.block < W.heap.size := fun x hx => hW'.lt x (List.mem_append_left _ hx)
  rw [Try.params4] at hA hval
  obtain ⟨v0, vs0, d0, ds0, p0, q0, hargs, rfl, rfl, h0, r0⟩ := trodAll_cons hA
  obtain ⟨v1, vs1, d1, ds1, p1, q1, rfl, rfl, rfl, h1, r1⟩ := trodAll_cons r0
  obtain ⟨rfl, rfl, rfl⟩ := trodAll_nil r1
  obtain rfl : args = #[v0, v1] := by cases args; simp_all
  obtain ⟨rfl, rfl⟩ := trodVars_none hV
  obtain ⟨R0, x0, X0, rfl, hx0⟩ := open_day (hval 0 24 v0 rfl rfl) h0 (fun x hx => hlt x (by simp [hx]))
  obtain ⟨a1, rfl, rfl, rfl, w1⟩ := open_int Try.underlying3 (hval 1 3 v1 rfl rfl) h1
  clear hA0 hval0
  simp only [List.append_nil] at hW' hA2
  refine (shelfPlans_walk R0 x0 X0 a1 W hx0).mono fun e W' ⟨he, hb⟩ => ?_
  subst he
  exact ⟨_, rfl, law_post Try.laidOut Try.underlying4 hW' hA2 rfl rfl rfl rfl rfl (by kernel_rfl) hb⟩
theorem shelfPlans_holds : Rows.ShelfPlansSaid :=
  OpenClaim.holds_of_wide 4 Try.f4 rfl rfl rfl rfl rfl rfl rfl ⟨rfl, rfl, rfl, rfl, rfl⟩ rfl rfl rfl rfl rfl (by kernel_rfl) Try.func4 (by kernel_rfl)
    (of_decide_eq_true (by kernel_rfl)) (by unfold Func.isWrapper; first | (rw [if_pos (by decide +kernel)]; kernel_rfl) | (rw [if_neg (by decide +kernel)]; exact ⟨rfl, rfl⟩))
    (fun os started H enc _ => shelfPlans_lifted os started H enc)
end
set_option maxRecDepth 100000 in
set_option maxHeartbeats 16000000 in
theorem shelfKinds_walk (R : Int) (x : Value) (W : List Int) (p : Int) (w : World) (hx0 : RdI w .i64 x W) :
    Calls Try.prog 6 #[.agg #[.int .i64 R, x], .int .i64 p] w fun e w' => e = .returned (.bool true) ∧ Below w.heap.size w w' := by
  obtain ⟨a, c, rfl⟩ := hx0.ex _ rfl
  by_cases hV : 24 < W.length
  · obtain ⟨wA, hwA⟩ : ∃ wA, w.alloc (.cells #[.int .i64 R, .slice a W.length c] 24) = wA := ⟨_, rfl⟩
    have HBA := Lib.hid (show Below w.heap.size w wA by rw [← hwA]; exact bal (bz w) _)
    have hr0 : wA.cell? ⟨w.heap.size, 0, none⟩ = some (.int .i64 R) := by rw [← hwA]; exact cnew rfl rfl
    have hr1 : wA.cell? ⟨w.heap.size, 1, none⟩ = some (.slice a W.length c) := by rw [← hwA]; exact cnew rfl rfl
    have hrz : w.heap.size < wA.heap.size := by rw [← hwA]; simp
    have HR0 := Lib.hid (fun wz (hB : Below wA.heap.size wA wz) => (hB.cell (p := ⟨w.heap.size, 0, none⟩) hrz).trans hr0)
    have HR1 := Lib.hid (fun wz (hB : Below wA.heap.size wA wz) => (hB.cell (p := ⟨w.heap.size, 1, none⟩) hrz).trans hr1)
    have HRZ := Lib.hid (fun wz (hB : Below wA.heap.size wA wz) => Nat.lt_of_lt_of_le hrz hB.size)
    have HX := Lib.hid (hx0.mono HBA.out)
    clear hr0 hr1 hrz hx0
    have CW := Lib.hid (fun wz (hB : Below wA.heap.size wA wz) => works_any wz)
    have CG := Lib.hid (fun wz (hB : Below wA.heap.size wA wz) => great_any R a W.length c wz)
    rw [decide_eq_true hV] at CG
    clear hV
    have KB0 := Lib.hid (bz wA)
    go_enter Try.func6, Try.ntmps6
    go_upto_region 1 with fail
    try rw [hwA]
    clear hwA
    have r0 := HR0.out _ KB0.out; have r1 := HR1.out _ KB0.out; have rz := HRZ.out _ KB0.out
    go_wp2_with fail
    clear r0 r1 rz
    refine (CG.out _ KB0.out).mono ?_
    rintro e w1 ⟨rfl, hk⟩
    have KB1 := Lib.hid (btr KB0.out hk)
    clear KB0 hk
    have r0 := HR0.out _ KB1.out; have r1 := HR1.out _ KB1.out; have rz := HRZ.out _ KB1.out
    go_wp2_with fail
    clear r0 r1 rz
    refine (CW.out _ KB1.out).mono ?_
    rintro e w2 ⟨rfl, hk⟩
    have KB2 := Lib.hid (btr KB1.out hk)
    clear KB1 hk
    have r0 := HR0.out _ KB2.out; have r1 := HR1.out _ KB2.out; have rz := HRZ.out _ KB2.out
    go_wp2_with fail
    clear r0 r1 rz
    go_ret
    exact ⟨rfl, btr HBA.out KB2.out⟩
  · obtain ⟨wA, hwA⟩ : ∃ wA, w.alloc (.cells #[.int .i64 R, .slice a W.length c] 24) = wA := ⟨_, rfl⟩
    have HBA := Lib.hid (show Below w.heap.size w wA by rw [← hwA]; exact bal (bz w) _)
    have hr0 : wA.cell? ⟨w.heap.size, 0, none⟩ = some (.int .i64 R) := by rw [← hwA]; exact cnew rfl rfl
    have hr1 : wA.cell? ⟨w.heap.size, 1, none⟩ = some (.slice a W.length c) := by rw [← hwA]; exact cnew rfl rfl
    have hrz : w.heap.size < wA.heap.size := by rw [← hwA]; simp
    have HR0 := Lib.hid (fun wz (hB : Below wA.heap.size wA wz) => (hB.cell (p := ⟨w.heap.size, 0, none⟩) hrz).trans hr0)
    have HR1 := Lib.hid (fun wz (hB : Below wA.heap.size wA wz) => (hB.cell (p := ⟨w.heap.size, 1, none⟩) hrz).trans hr1)
    have HRZ := Lib.hid (fun wz (hB : Below wA.heap.size wA wz) => Nat.lt_of_lt_of_le hrz hB.size)
    have HX := Lib.hid (hx0.mono HBA.out)
    clear hr0 hr1 hrz hx0
    have CW := Lib.hid (fun wz (hB : Below wA.heap.size wA wz) => works_any wz)
    have CG := Lib.hid (fun wz (hB : Below wA.heap.size wA wz) => great_any R a W.length c wz)
    rw [decide_eq_false hV] at CG
    have hV2 : W.length ≤ 24 := by omega
    have C1 := Lib.hid (fun wz (hB : Below wA.heap.size wA wz) => pkind_any R _ W p wz (HX.out.mono hB) (by omega))
    have C2 := Lib.hid (fun wz (hB : Below wA.heap.size wA wz) => rkind_any R _ W p wz (HX.out.mono hB) (by omega))
    have C3 := Lib.hid (fun wz (hB : Below wA.heap.size wA wz) => depths_any R _ W wz (HX.out.mono hB) (by omega))
    have C4 := Lib.hid (fun wz (hB : Below wA.heap.size wA wz) => rdepths_any R _ W wz (HX.out.mono hB) (by omega))
    have hl1 := dpsL_le R W hV2
    clear hV hV2
    generalize (kindR R W p).1 = q0 at *
    generalize (kindR R W p).2 = q1 at *
    generalize checkD R W = q2 at *
    generalize dpsL R W = q3 at *
    have KB0 := Lib.hid (bz wA)
    go_enter Try.func6, Try.ntmps6
    go_upto_region 1 with fail
    try rw [hwA]
    clear hwA
    have r0 := HR0.out _ KB0.out; have r1 := HR1.out _ KB0.out; have rz := HRZ.out _ KB0.out
    go_wp2_with fail
    clear r0 r1 rz
    refine (CG.out _ KB0.out).mono ?_
    rintro e w1 ⟨rfl, hk⟩
    have KB1 := Lib.hid (btr KB0.out hk)
    clear KB0 hk
    have r0 := HR0.out _ KB1.out; have r1 := HR1.out _ KB1.out; have rz := HRZ.out _ KB1.out
    go_wp2_with fail
    clear r0 r1 rz
    refine (C1.out _ KB1.out).mono ?_
    rintro e w2 ⟨rfl, hk⟩
    have KB2 := Lib.hid (btr KB1.out hk)
    clear KB1 hk
    have r0 := HR0.out _ KB2.out; have r1 := HR1.out _ KB2.out; have rz := HRZ.out _ KB2.out
    go_wp2_with fail
    clear r0 r1 rz
    refine (C2.out _ KB2.out).mono ?_
    rintro e w3 ⟨rfl, hk⟩
    have KB3 := Lib.hid (btr KB2.out hk)
    clear KB2 hk
    have r0 := HR0.out _ KB3.out; have r1 := HR1.out _ KB3.out; have rz := HRZ.out _ KB3.out
    go_wp2_with fail
    clear r0 r1 rz
    refine (C3.out _ KB3.out).mono ?_
    rintro e w4 ⟨u3, rfl, fC, hk⟩
    have KB4 := Lib.hid (btr KB3.out hk)
    have HC4 := Lib.hid fC
    clear KB3 fC hk
    have r0 := HR0.out _ KB4.out; have r1 := HR1.out _ KB4.out; have rz := HRZ.out _ KB4.out
    go_wp2_with fail
    clear r0 r1 rz
    refine (C4.out _ KB4.out).mono ?_
    rintro e w5 ⟨u4, rfl, fD, hk⟩
    have KB5 := Lib.hid (btr KB4.out hk)
    have HC5 := Lib.hid (HC4.out.mono hk)
    have HD5 := Lib.hid fD
    clear KB4 HC4 fD hk
    have r0 := HR0.out _ KB5.out; have r1 := HR1.out _ KB5.out; have rz := HRZ.out _ KB5.out
    go_wp2_with fail
    clear r0 r1 rz
    refine (ints_eq _ _ q3 _ HC5.out HD5.out hl1).mono ?_
    rintro e w6 ⟨rfl, hk⟩
    have KB6 := Lib.hid (btr KB5.out hk)
    have HC6 := Lib.hid (HC5.out.mono hk)
    have HD6 := Lib.hid (HD5.out.mono hk)
    clear KB5 HC5 HD5 hk
    have r0 := HR0.out _ KB6.out; have r1 := HR1.out _ KB6.out; have rz := HRZ.out _ KB6.out
    go_wp2_with fail
    clear r0 r1 rz
    refine (CW.out _ KB6.out).mono ?_
    rintro e w7 ⟨rfl, hk⟩
    have KB7 := Lib.hid (btr KB6.out hk)
    have HC7 := Lib.hid (HC6.out.mono hk)
    have HD7 := Lib.hid (HD6.out.mono hk)
    clear KB6 HC6 HD6 hk
    have r0 := HR0.out _ KB7.out; have r1 := HR1.out _ KB7.out; have rz := HRZ.out _ KB7.out
    go_wp2_with fail
    clear r0 r1 rz
    go_ret
    exact ⟨rfl, btr HBA.out KB7.out⟩
section
open Go.ChangeShapes Go.WideShapes Go.ChangeAt
set_option maxRecDepth 100000 in
theorem shelfKinds_lifted (os : Os) (started : os.Started) (H : Type) (enc : TypeId × Value → H) :
    ReturnsInHanded {} Try.checked os 6 .any (Rows.shelfKindsSpec.pre6 enc Try.prog Try.f6 Rows.shelfKindsRow.domain false) (Rows.shelfKindsSpec.post enc Try.prog Try.f6 false true false false) := by
  refine returnsInHanded_of_change (C := Try.checked) Try.own started (by kernel_rfl) Try.func6
    (ChangeSpec.witness6 (enc := enc) (C := Try.checked) false ⟨#[], #[.agg #[.int .i64 0, .slice none 0 0], .int .i64 0], []⟩ 8 (by kernel_rfl) (by kernel_rfl) (by kernel_rfl) (by kernel_rfl)) ?_
  intro W base args ds gs before hval0 hW _ _
  have hval : ∀ (j : Nat) t v, Try.f6.params[j]? = some t → args[j]? = some v → Value.okWide Try.prog W .any base t v := hval0
  have hW' := hW
  obtain ⟨p, q, hA0, hV, rfl, hfz, hnd⟩ := hW
  have hA : DataW.TrodAll enc Try.prog W 0 (fun _ => true) true Try.f6.params.toList args.toList ds p := hA0
  have hA2 := hA
  have hlt : ∀ x ∈ p, x.block < W.heap.size := fun x hx => hW'.lt x (List.mem_append_left _ hx)
  rw [Try.params6] at hA hval
  obtain ⟨v0, vs0, d0, ds0, p0, q0, hargs, rfl, rfl, h0, r0⟩ := trodAll_cons hA
  obtain ⟨v1, vs1, d1, ds1, p1, q1, rfl, rfl, rfl, h1, r1⟩ := trodAll_cons r0
  obtain ⟨rfl, rfl, rfl⟩ := trodAll_nil r1
  obtain rfl : args = #[v0, v1] := by cases args; simp_all
  obtain ⟨rfl, rfl⟩ := trodVars_none hV
  obtain ⟨R0, x0, X0, rfl, hx0⟩ := open_day (hval 0 24 v0 rfl rfl) h0 (fun x hx => hlt x (by simp [hx]))
  obtain ⟨a1, rfl, rfl, rfl, w1⟩ := open_int Try.underlying3 (hval 1 3 v1 rfl rfl) h1
  clear hA0 hval0
  simp only [List.append_nil] at hW' hA2
  refine (shelfKinds_walk R0 x0 X0 a1 W hx0).mono fun e W' ⟨he, hb⟩ => ?_
  subst he
  exact ⟨_, rfl, law_post Try.laidOut Try.underlying4 hW' hA2 rfl rfl rfl rfl rfl (by kernel_rfl) hb⟩
theorem shelfKinds_holds : Rows.ShelfKindsSaid :=
  OpenClaim.holds_of_wide 6 Try.f6 rfl rfl rfl rfl rfl rfl rfl ⟨rfl, rfl, rfl, rfl, rfl⟩ rfl rfl rfl rfl rfl (by kernel_rfl) Try.func6 (by kernel_rfl)
    (of_decide_eq_true (by kernel_rfl)) (by unfold Func.isWrapper; first | (rw [if_pos (by decide +kernel)]; kernel_rfl) | (rw [if_neg (by decide +kernel)]; exact ⟨rfl, rfl⟩))
    (fun os started H enc _ => shelfKinds_lifted os started H enc)
end
set_option maxRecDepth 100000 in
set_option maxHeartbeats 16000000 in
theorem shelfTimes_walk (R : Int) (x : Value) (W : List Int) (y : Value) (P : List Int) (w : World) (hx0 : RdI w .i64 x W) (hy0 : RdI w .i64 y P) :
    Calls Try.prog 5 #[.agg #[.int .i64 R, x], y] w fun e w' => e = .returned (.bool true) ∧ Below w.heap.size w w' := by
  obtain ⟨a, c, rfl⟩ := hx0.ex _ rfl
  obtain ⟨b, d, rfl⟩ := hy0.ex _ rfl
  by_cases hV : 24 < W.length
  · obtain ⟨wA, hwA⟩ : ∃ wA, w.alloc (.cells #[.int .i64 R, .slice a W.length c] 24) = wA := ⟨_, rfl⟩
    have HBA := Lib.hid (show Below w.heap.size w wA by rw [← hwA]; exact bal (bz w) _)
    have hr0 : wA.cell? ⟨w.heap.size, 0, none⟩ = some (.int .i64 R) := by rw [← hwA]; exact cnew rfl rfl
    have hr1 : wA.cell? ⟨w.heap.size, 1, none⟩ = some (.slice a W.length c) := by rw [← hwA]; exact cnew rfl rfl
    have hrz : w.heap.size < wA.heap.size := by rw [← hwA]; simp
    have HR0 := Lib.hid (fun wz (hB : Below wA.heap.size wA wz) => (hB.cell (p := ⟨w.heap.size, 0, none⟩) hrz).trans hr0)
    have HR1 := Lib.hid (fun wz (hB : Below wA.heap.size wA wz) => (hB.cell (p := ⟨w.heap.size, 1, none⟩) hrz).trans hr1)
    have HRZ := Lib.hid (fun wz (hB : Below wA.heap.size wA wz) => Nat.lt_of_lt_of_le hrz hB.size)
    have HX := Lib.hid (hx0.mono HBA.out)
    clear hr0 hr1 hrz hx0
    have CW := Lib.hid (fun wz (hB : Below wA.heap.size wA wz) => works_any wz)
    have CG := Lib.hid (fun wz (hB : Below wA.heap.size wA wz) => great_any R a W.length c wz)
    rw [decide_eq_true hV] at CG
    clear hV
    have KB0 := Lib.hid (bz wA)
    go_enter Try.func5, Try.ntmps5
    go_upto_region 1 with fail
    try rw [hwA]
    clear hwA
    have r0 := HR0.out _ KB0.out; have r1 := HR1.out _ KB0.out; have rz := HRZ.out _ KB0.out
    go_wp2_with fail
    clear r0 r1 rz
    refine (CG.out _ KB0.out).mono ?_
    rintro e w1 ⟨rfl, hk⟩
    have KB1 := Lib.hid (btr KB0.out hk)
    clear KB0 hk
    have r0 := HR0.out _ KB1.out; have r1 := HR1.out _ KB1.out; have rz := HRZ.out _ KB1.out
    go_wp2_with fail
    clear r0 r1 rz
    refine (CW.out _ KB1.out).mono ?_
    rintro e w2 ⟨rfl, hk⟩
    have KB2 := Lib.hid (btr KB1.out hk)
    clear KB1 hk
    have r0 := HR0.out _ KB2.out; have r1 := HR1.out _ KB2.out; have rz := HRZ.out _ KB2.out
    go_wp2_with fail
    clear r0 r1 rz
    go_ret
    exact ⟨rfl, btr HBA.out KB2.out⟩
  by_cases hM : 30 < P.length
  · obtain ⟨wA, hwA⟩ : ∃ wA, w.alloc (.cells #[.int .i64 R, .slice a W.length c] 24) = wA := ⟨_, rfl⟩
    have HBA := Lib.hid (show Below w.heap.size w wA by rw [← hwA]; exact bal (bz w) _)
    have hr0 : wA.cell? ⟨w.heap.size, 0, none⟩ = some (.int .i64 R) := by rw [← hwA]; exact cnew rfl rfl
    have hr1 : wA.cell? ⟨w.heap.size, 1, none⟩ = some (.slice a W.length c) := by rw [← hwA]; exact cnew rfl rfl
    have hrz : w.heap.size < wA.heap.size := by rw [← hwA]; simp
    have HR0 := Lib.hid (fun wz (hB : Below wA.heap.size wA wz) => (hB.cell (p := ⟨w.heap.size, 0, none⟩) hrz).trans hr0)
    have HR1 := Lib.hid (fun wz (hB : Below wA.heap.size wA wz) => (hB.cell (p := ⟨w.heap.size, 1, none⟩) hrz).trans hr1)
    have HRZ := Lib.hid (fun wz (hB : Below wA.heap.size wA wz) => Nat.lt_of_lt_of_le hrz hB.size)
    have HX := Lib.hid (hx0.mono HBA.out)
    clear hr0 hr1 hrz hx0
    have CW := Lib.hid (fun wz (hB : Below wA.heap.size wA wz) => works_any wz)
    have CG := Lib.hid (fun wz (hB : Below wA.heap.size wA wz) => great_any R a W.length c wz)
    rw [decide_eq_false hV] at CG
    have hM2 : (30 : Int) < (P.length : Int) := by omega
    clear hV hM
    have KB0 := Lib.hid (bz wA)
    go_enter Try.func5, Try.ntmps5
    go_upto_region 1 with fail
    try rw [hwA]
    clear hwA
    have r0 := HR0.out _ KB0.out; have r1 := HR1.out _ KB0.out; have rz := HRZ.out _ KB0.out
    go_wp2_with fail
    clear r0 r1 rz
    refine (CG.out _ KB0.out).mono ?_
    rintro e w1 ⟨rfl, hk⟩
    have KB1 := Lib.hid (btr KB0.out hk)
    clear KB0 hk
    have r0 := HR0.out _ KB1.out; have r1 := HR1.out _ KB1.out; have rz := HRZ.out _ KB1.out
    go_wp2_with fail
    clear r0 r1 rz
    refine (CW.out _ KB1.out).mono ?_
    rintro e w2 ⟨rfl, hk⟩
    have KB2 := Lib.hid (btr KB1.out hk)
    clear KB1 hk
    have r0 := HR0.out _ KB2.out; have r1 := HR1.out _ KB2.out; have rz := HRZ.out _ KB2.out
    go_wp2_with fail
    clear r0 r1 rz
    go_ret
    exact ⟨rfl, btr HBA.out KB2.out⟩
  · obtain ⟨wA, hwA⟩ : ∃ wA, w.alloc (.cells #[.int .i64 R, .slice a W.length c] 24) = wA := ⟨_, rfl⟩
    have HBA := Lib.hid (show Below w.heap.size w wA by rw [← hwA]; exact bal (bz w) _)
    have hr0 : wA.cell? ⟨w.heap.size, 0, none⟩ = some (.int .i64 R) := by rw [← hwA]; exact cnew rfl rfl
    have hr1 : wA.cell? ⟨w.heap.size, 1, none⟩ = some (.slice a W.length c) := by rw [← hwA]; exact cnew rfl rfl
    have hrz : w.heap.size < wA.heap.size := by rw [← hwA]; simp
    have HR0 := Lib.hid (fun wz (hB : Below wA.heap.size wA wz) => (hB.cell (p := ⟨w.heap.size, 0, none⟩) hrz).trans hr0)
    have HR1 := Lib.hid (fun wz (hB : Below wA.heap.size wA wz) => (hB.cell (p := ⟨w.heap.size, 1, none⟩) hrz).trans hr1)
    have HRZ := Lib.hid (fun wz (hB : Below wA.heap.size wA wz) => Nat.lt_of_lt_of_le hrz hB.size)
    have HX := Lib.hid (hx0.mono HBA.out)
    clear hr0 hr1 hrz hx0
    have CW := Lib.hid (fun wz (hB : Below wA.heap.size wA wz) => works_any wz)
    have CG := Lib.hid (fun wz (hB : Below wA.heap.size wA wz) => great_any R a W.length c wz)
    rw [decide_eq_false hV] at CG
    have hV2 : W.length ≤ 24 := by omega
    have hM2 : ¬ (30 : Int) < (P.length : Int) := by omega
    have hM3 : P.length ≤ 1000 := by omega
    have HY := Lib.hid (hy0.mono HBA.out)
    clear hy0 hM
    have C1 := Lib.hid (fun wz (hB : Below wA.heap.size wA wz) => fewest_any R _ W wz (HX.out.mono hB) (by omega))
    have C2 := Lib.hid (fun wz (hB : Below wA.heap.size wA wz) => rfewest_any R _ W wz (HX.out.mono hB) (by omega))
    have C3 := Lib.hid (fun wz (hB : Below wA.heap.size wA wz) => checktimes_any R _ _ W P wz (HX.out.mono hB) (HY.out.mono hB) (by omega) hM3)
    have C4 := Lib.hid (fun wz (hB : Below wA.heap.size wA wz) => rchecktimes_any R _ _ W P wz (HX.out.mono hB) (HY.out.mono hB) (by omega) hM3)
    have C5 := Lib.hid (fun wz (hB : Below wA.heap.size wA wz) => ptimes_any R _ W wz (HX.out.mono hB) (by omega))
    have hl1 := timsL_le R W hV2
    have C6 := Lib.hid (fun wz (hB : Below wA.heap.size wA wz) => fun y hy => rchecktimes_any R _ y W (timsL R W) wz (HX.out.mono hB) hy (by omega) hl1)
    unfold TimesOk at C3 C4 C6
    unfold fewD at C2
    by_cases hc : checkD R W = 0
    · have hok := timesP_ok (okD_of hc)
      have ht : timesR R W (timsL R W) = (aheadD R W W.length 0, 0) := by unfold timsL timesR; rw [if_pos hc, if_neg (by simpa using hc), if_neg (by rw [hok.1]; simp), hok.2]
      rw [ht] at C6
      rw [if_pos hc] at C1 C2
      rw [hc] at C1 C2 C5
      clear hV hV2 hM3 hok ht hc hl1
      generalize (timesR R W P).1 = q0 at *
      generalize (timesR R W P).2 = q1 at *
      generalize aheadD R W W.length 0 = q2 at *
      generalize timsL R W = q3 at *
      have KB0 := Lib.hid (bz wA)
      go_enter Try.func5, Try.ntmps5
      go_upto_region 1 with fail
      try rw [hwA]
      clear hwA
      have r0 := HR0.out _ KB0.out; have r1 := HR1.out _ KB0.out; have rz := HRZ.out _ KB0.out
      go_wp2_with fail
      clear r0 r1 rz
      refine (CG.out _ KB0.out).mono ?_
      rintro e w1 ⟨rfl, hk⟩
      have KB1 := Lib.hid (btr KB0.out hk)
      clear KB0 hk
      have r0 := HR0.out _ KB1.out; have r1 := HR1.out _ KB1.out; have rz := HRZ.out _ KB1.out
      go_wp2_with fail
      clear r0 r1 rz
      refine (C1.out _ KB1.out).mono ?_
      rintro e w2 ⟨rfl, hk⟩
      have KB2 := Lib.hid (btr KB1.out hk)
      clear KB1 hk
      have r0 := HR0.out _ KB2.out; have r1 := HR1.out _ KB2.out; have rz := HRZ.out _ KB2.out
      go_wp2_with fail
      clear r0 r1 rz
      refine (C2.out _ KB2.out).mono ?_
      rintro e w3 ⟨rfl, hk⟩
      have KB3 := Lib.hid (btr KB2.out hk)
      clear KB2 hk
      have r0 := HR0.out _ KB3.out; have r1 := HR1.out _ KB3.out; have rz := HRZ.out _ KB3.out
      go_wp2_with fail
      clear r0 r1 rz
      refine (C3.out _ KB3.out).mono ?_
      rintro e w4 ⟨rfl, hk⟩
      have KB4 := Lib.hid (btr KB3.out hk)
      clear KB3 hk
      have r0 := HR0.out _ KB4.out; have r1 := HR1.out _ KB4.out; have rz := HRZ.out _ KB4.out
      go_wp2_with fail
      clear r0 r1 rz
      refine (C4.out _ KB4.out).mono ?_
      rintro e w5 ⟨rfl, hk⟩
      have KB5 := Lib.hid (btr KB4.out hk)
      clear KB4 hk
      have r0 := HR0.out _ KB5.out; have r1 := HR1.out _ KB5.out; have rz := HRZ.out _ KB5.out
      go_wp2_with fail
      clear r0 r1 rz
      refine (C5.out _ KB5.out).mono ?_
      rintro e w6 ⟨u5, rfl, fE, hk⟩
      have KB6 := Lib.hid (btr KB5.out hk)
      have HE6 := Lib.hid fE
      clear KB5 fE hk
      have r0 := HR0.out _ KB6.out; have r1 := HR1.out _ KB6.out; have rz := HRZ.out _ KB6.out
      go_wp2_with fail
      clear r0 r1 rz
      refine (C6.out _ KB6.out _ HE6.out).mono ?_
      rintro e w7 ⟨rfl, hk⟩
      have KB7 := Lib.hid (btr KB6.out hk)
      have HE7 := Lib.hid (HE6.out.mono hk)
      clear KB6 HE6 hk
      have r0 := HR0.out _ KB7.out; have r1 := HR1.out _ KB7.out; have rz := HRZ.out _ KB7.out
      go_wp2_with fail
      clear r0 r1 rz
      refine (CW.out _ KB7.out).mono ?_
      rintro e w8 ⟨rfl, hk⟩
      have KB8 := Lib.hid (btr KB7.out hk)
      have HE8 := Lib.hid (HE7.out.mono hk)
      clear KB7 HE7 hk
      have r0 := HR0.out _ KB8.out; have r1 := HR1.out _ KB8.out; have rz := HRZ.out _ KB8.out
      go_wp2_with fail
      clear r0 r1 rz
      go_ret
      exact ⟨rfl, btr HBA.out KB8.out⟩
    · have ht : timsL R W = [] := by unfold timsL; rw [if_neg hc]
      rw [ht] at C5
      rw [if_neg hc] at C1 C2
      have t1 : (checkD R W != 0) = true := by simpa using hc
      clear hV hV2 hM3 ht hc hl1 C6
      generalize (timesR R W P).1 = q0 at *
      generalize (timesR R W P).2 = q1 at *
      generalize checkD R W = q2 at *
      have KB0 := Lib.hid (bz wA)
      go_enter Try.func5, Try.ntmps5
      go_upto_region 1 with fail
      try rw [hwA]
      clear hwA
      have r0 := HR0.out _ KB0.out; have r1 := HR1.out _ KB0.out; have rz := HRZ.out _ KB0.out
      go_wp2_with fail
      clear r0 r1 rz
      refine (CG.out _ KB0.out).mono ?_
      rintro e w1 ⟨rfl, hk⟩
      have KB1 := Lib.hid (btr KB0.out hk)
      clear KB0 hk
      have r0 := HR0.out _ KB1.out; have r1 := HR1.out _ KB1.out; have rz := HRZ.out _ KB1.out
      go_wp2_with fail
      clear r0 r1 rz
      refine (C1.out _ KB1.out).mono ?_
      rintro e w2 ⟨rfl, hk⟩
      have KB2 := Lib.hid (btr KB1.out hk)
      clear KB1 hk
      have r0 := HR0.out _ KB2.out; have r1 := HR1.out _ KB2.out; have rz := HRZ.out _ KB2.out
      go_wp2_with fail
      clear r0 r1 rz
      refine (C2.out _ KB2.out).mono ?_
      rintro e w3 ⟨rfl, hk⟩
      have KB3 := Lib.hid (btr KB2.out hk)
      clear KB2 hk
      have r0 := HR0.out _ KB3.out; have r1 := HR1.out _ KB3.out; have rz := HRZ.out _ KB3.out
      go_wp2_with fail
      clear r0 r1 rz
      refine (C3.out _ KB3.out).mono ?_
      rintro e w4 ⟨rfl, hk⟩
      have KB4 := Lib.hid (btr KB3.out hk)
      clear KB3 hk
      have r0 := HR0.out _ KB4.out; have r1 := HR1.out _ KB4.out; have rz := HRZ.out _ KB4.out
      go_wp2_with fail
      clear r0 r1 rz
      refine (C4.out _ KB4.out).mono ?_
      rintro e w5 ⟨rfl, hk⟩
      have KB5 := Lib.hid (btr KB4.out hk)
      clear KB4 hk
      have r0 := HR0.out _ KB5.out; have r1 := HR1.out _ KB5.out; have rz := HRZ.out _ KB5.out
      go_wp2_with fail
      clear r0 r1 rz
      refine (C5.out _ KB5.out).mono ?_
      rintro e w6 ⟨u5, rfl, fE, hk⟩
      obtain ⟨aE, cE, hv⟩ := fE.ex 0 rfl
      subst hv
      have KB6 := Lib.hid (btr KB5.out hk)
      have HE6 := Lib.hid fE
      clear KB5 fE hk
      have r0 := HR0.out _ KB6.out; have r1 := HR1.out _ KB6.out; have rz := HRZ.out _ KB6.out
      go_wp2_with fail
      clear r0 r1 rz
      refine (CW.out _ KB6.out).mono ?_
      rintro e w7 ⟨rfl, hk⟩
      have KB7 := Lib.hid (btr KB6.out hk)
      have HE7 := Lib.hid (HE6.out.mono hk)
      clear KB6 HE6 hk
      have r0 := HR0.out _ KB7.out; have r1 := HR1.out _ KB7.out; have rz := HRZ.out _ KB7.out
      go_wp2_with fail
      clear r0 r1 rz
      go_ret
      exact ⟨rfl, btr HBA.out KB7.out⟩
section
open Go.ChangeShapes Go.WideShapes Go.ChangeAt
set_option maxRecDepth 100000 in
theorem shelfTimes_lifted (os : Os) (started : os.Started) (H : Type) (enc : TypeId × Value → H) :
    ReturnsInHanded {} Try.checked os 5 .any (Rows.shelfTimesSpec.pre6 enc Try.prog Try.f5 Rows.shelfTimesRow.domain false) (Rows.shelfTimesSpec.post enc Try.prog Try.f5 false true false false) := by
  refine returnsInHanded_of_change (C := Try.checked) Try.own started (by kernel_rfl) Try.func5
    (ChangeSpec.witness6 (enc := enc) (C := Try.checked) false ⟨#[], #[.agg #[.int .i64 0, .slice none 0 0], .slice none 0 0], []⟩ 8 (by kernel_rfl) (by kernel_rfl) (by kernel_rfl) (by kernel_rfl)) ?_
  intro W base args ds gs before hval0 hW _ _
  have hval : ∀ (j : Nat) t v, Try.f5.params[j]? = some t → args[j]? = some v → Value.okWide Try.prog W .any base t v := hval0
  have hW' := hW
  obtain ⟨p, q, hA0, hV, rfl, hfz, hnd⟩ := hW
  have hA : DataW.TrodAll enc Try.prog W 0 (fun _ => true) true Try.f5.params.toList args.toList ds p := hA0
  have hA2 := hA
  have hlt : ∀ x ∈ p, x.block < W.heap.size := fun x hx => hW'.lt x (List.mem_append_left _ hx)
  rw [Try.params5] at hA hval
  obtain ⟨v0, vs0, d0, ds0, p0, q0, hargs, rfl, rfl, h0, r0⟩ := trodAll_cons hA
  obtain ⟨v1, vs1, d1, ds1, p1, q1, rfl, rfl, rfl, h1, r1⟩ := trodAll_cons r0
  obtain ⟨rfl, rfl, rfl⟩ := trodAll_nil r1
  obtain rfl : args = #[v0, v1] := by cases args; simp_all
  obtain ⟨rfl, rfl⟩ := trodVars_none hV
  obtain ⟨R0, x0, X0, rfl, hx0⟩ := open_day (hval 0 24 v0 rfl rfl) h0 (fun x hx => hlt x (by simp [hx]))
  obtain ⟨X1, hx1, hw1⟩ := open_ints_rd Try.underlying22 Try.underlying3 (by kernel_rfl) (hval 1 22 v1 rfl rfl) h1 (fun x hx => hlt x (by simp [hx]))
  clear hA0 hval0
  simp only [List.append_nil] at hW' hA2
  refine (shelfTimes_walk R0 x0 X0 v1 X1 W hx0 hx1).mono fun e W' ⟨he, hb⟩ => ?_
  subst he
  exact ⟨_, rfl, law_post Try.laidOut Try.underlying4 hW' hA2 rfl rfl rfl rfl rfl (by kernel_rfl) hb⟩
theorem shelfTimes_holds : Rows.ShelfTimesSaid :=
  OpenClaim.holds_of_wide 5 Try.f5 rfl rfl rfl rfl rfl rfl rfl ⟨rfl, rfl, rfl, rfl, rfl⟩ rfl rfl rfl rfl rfl (by kernel_rfl) Try.func5 (by kernel_rfl)
    (of_decide_eq_true (by kernel_rfl)) (by unfold Func.isWrapper; first | (rw [if_pos (by decide +kernel)]; kernel_rfl) | (rw [if_neg (by decide +kernel)]; exact ⟨rfl, rfl⟩))
    (fun os started H enc _ => shelfTimes_lifted os started H enc)
end
end Go.Proofs.Ytjajdpggoggoiaa
