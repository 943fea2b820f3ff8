/- What a rule fetches: program and document. -/
import Derived.Test.YtjajdpggoggoiaaWk
namespace Go.Proofs.Ytjajdpggoggoiaa
open Go.RowKit Go.Shelf

theorem rule_ok {R : Int} {W : List Int} {r : Int} (hc : checkD R W = 0) (h1 : 1 ≤ r) (h3 : r ≤ 3) : ruleE R W r = 0 := by
  unfold ruleE
  rw [if_neg (by simpa using hc), if_neg]
  simp [outB]
  omega
/-- The list that a rule fetches. -/
def fetR (R r : Int) (W : List Int) : List Int := (runK R r W W.length).fet
theorem fetR_len {R r : Int} {W : List Int} : (fetR R r W).length ≤ W.length := (runK_len R r W W.length).2.2
set_option maxRecDepth 100000 in
set_option maxHeartbeats 16000000 in
theorem fetched_any (R : Int) (x : Value) (W : List Int) (r : Int) (w : World) (hx0 : RdI w .i64 x W) (hc : checkD R W = 0) (h1 : 1 ≤ r) (h3 : r ≤ 3) :
    Calls Try.prog 36 #[.agg #[.int .i64 R, x], .int .i64 r] w fun e w' => ∃ u, e = .returned (.tuple #[u, .bool true]) ∧ RdI w' .i64 u (fetR R r W) ∧ Below w.heap.size w w' := by
  obtain ⟨a, c, rfl⟩ := hx0.ex _ rfl
  have hd := okD_of hc
  have h16 := hd.l16
  have hr := rule_ok hc h1 h3
  have hl := runK_len R r W W.length
  have hp := (run_lazy (rule := r) hd).planR hc
  rw [← runK_plan, ← fetN_len] at hp
  have e1 : fetL R W r = (runK R r W W.length).fet := by unfold fetL; rw [if_pos hr]
  have e2 : planL R W r = (runK R r W W.length).plan := by unfold planL; rw [if_pos hr]
  have hF : ¬ ((W.length : Int) < ((runK R r W W.length).fet.length : Int)) := by omega
  unfold fetR
  obtain ⟨wA, hwA⟩ : ∃ wA, w.alloc (.cells #[.int .i64 R, .slice a W.length c] 24) = wA := ⟨_, rfl⟩
  have HBA := Lib.hid (show Below w.heap.size w wA by rw [← hwA]; exact bal (bz w) _)
  have hr0 : wA.cell? ⟨w.heap.size, 0, none⟩ = some (.int .i64 R) := by rw [← hwA]; exact cnew rfl rfl
  have hr1 : wA.cell? ⟨w.heap.size, 1, none⟩ = some (.slice a W.length c) := by rw [← hwA]; exact cnew rfl rfl
  have hrz : w.heap.size < wA.heap.size := by rw [← hwA]; simp
  have HR0 := Lib.hid (fun wz (hB : Below wA.heap.size wA wz) => (hB.cell (p := ⟨w.heap.size, 0, none⟩) hrz).trans hr0)
  have HR1 := Lib.hid (fun wz (hB : Below wA.heap.size wA wz) => (hB.cell (p := ⟨w.heap.size, 1, none⟩) hrz).trans hr1)
  have HRZ := Lib.hid (fun wz (hB : Below wA.heap.size wA wz) => Nat.lt_of_lt_of_le hrz hB.size)
  have HX := Lib.hid (hx0.mono HBA.out)
  clear hr0 hr1 hrz hx0
  have C1 := Lib.hid (fun wz (hB : Below wA.heap.size wA wz) => fetches_any R _ W r wz (HX.out.mono hB) (by omega))
  have C2 := Lib.hid (fun wz (hB : Below wA.heap.size wA wz) => plan_any R _ W r wz (HX.out.mono hB) (by omega))
  rw [hr, e1] at C1
  rw [hr, e2] at C2
  have C3 := Lib.hid (fun wz (hB : Below wA.heap.size wA wz) => fun y hy => checkplan_any R _ y W (runK R r W W.length).plan wz (HX.out.mono hB) hy (by omega) (by omega))
  have C4 := Lib.hid (fun wz (hB : Below wA.heap.size wA wz) => fun y hy => rcheckplan_any R _ y W (runK R r W W.length).plan wz (HX.out.mono hB) hy (by omega) (by omega))
  unfold PlanOk at C3 C4
  rw [hp] at C3 C4
  clear hr hl hp e1 e2 hd h16 hc h1 h3
  generalize (runK R r W W.length).plan = P at *
  generalize (runK R r W W.length).fet = F at *
  have KB0 := Lib.hid (bz wA)
  go_enter Try.func36, Try.ntmps36
  go_upto_region 1 with fail
  try rw [hwA]
  clear hwA
  have r0 := HR0.out _ KB0.out; have r1 := HR1.out _ KB0.out; have rz := HRZ.out _ KB0.out
  go_wp2_with fail
  clear r0 r1 rz
  refine (C1.out _ KB0.out).mono ?_
  rintro e w1 ⟨u1, rfl, fF, hk⟩
  obtain ⟨aF, cF, hv⟩ := fF.ex F.length rfl
  subst hv
  have KB1 := Lib.hid (btr KB0.out hk)
  have HF1 := Lib.hid fF
  clear KB0 fF hk
  have r0 := HR0.out _ KB1.out; have r1 := HR1.out _ KB1.out; have rz := HRZ.out _ KB1.out
  go_wp2_with fail
  clear r0 r1 rz
  refine (C2.out _ KB1.out).mono ?_
  rintro e w2 ⟨u2, rfl, fP, hk⟩
  have KB2 := Lib.hid (btr KB1.out hk)
  have HF2 := Lib.hid (HF1.out.mono hk)
  have HP2 := Lib.hid fP
  clear KB1 HF1 fP hk
  have r0 := HR0.out _ KB2.out; have r1 := HR1.out _ KB2.out; have rz := HRZ.out _ KB2.out
  go_wp2_with fail
  clear r0 r1 rz
  refine (C3.out _ KB2.out _ HP2.out).mono ?_
  rintro e w3 ⟨rfl, hk⟩
  have KB3 := Lib.hid (btr KB2.out hk)
  have HF3 := Lib.hid (HF2.out.mono hk)
  have HP3 := Lib.hid (HP2.out.mono hk)
  clear KB2 HF2 HP2 hk
  have r0 := HR0.out _ KB3.out; have r1 := HR1.out _ KB3.out; have rz := HRZ.out _ KB3.out
  go_wp2_with fail
  clear r0 r1 rz
  refine (C4.out _ KB3.out _ HP3.out).mono ?_
  rintro e w4 ⟨rfl, hk⟩
  have KB4 := Lib.hid (btr KB3.out hk)
  have HF4 := Lib.hid (HF3.out.mono hk)
  have HP4 := Lib.hid (HP3.out.mono hk)
  clear KB3 HF3 HP3 hk
  have r0 := HR0.out _ KB4.out; have r1 := HR1.out _ KB4.out; have rz := HRZ.out _ KB4.out
  go_wp2_with fail
  clear r0 r1 rz
  go_ret2
  exact ⟨_, rfl, HF4.out, btr HBA.out KB4.out⟩
end Go.Proofs.Ytjajdpggoggoiaa
