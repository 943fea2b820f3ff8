/- Merged texts: heavy works; no condition. -/
import Derived.Test.YteknehlkdgamjaaGreatMGK
import Derived.Test.YteknehlkdgamjaaGreatMGU
namespace Go.Proofs.YteknehlkdgamjaaGreat
open Go.RowKit Go.Shelf

def heavyJ (J : List Job) : Bool := greatJ J || (decide (9 < J.length) && (workC J == 0))
theorem heavy_false {J : List Job} (h : heavyJ J = false) : greatJ J = false ∧ (errC J = 0 → J.length ≤ 9) := by
  unfold heavyJ at h
  simp only [Bool.or_eq_false_iff] at h
  refine ⟨h.1, fun he => ?_⟩
  have hw : workC J = 0 := by unfold errC at he; split at he <;> first | assumption | (rename_i h1; exact absurd he h1)
  have := h.2
  simp [hw] at this
  omega
set_option maxRecDepth 100000 in
set_option maxHeartbeats 1600000 in
theorem heavy_any (v : Value) (J : List Job) (w : World) (hx0 : RdJ w v J) :
    Calls Tryz.prog 30 #[.agg #[v]] w fun e w' => e = .returned (.bool (heavyJ J)) ∧ Below w.heap.size w w' := by
  have HGR := Lib.hid (fun wz (h : Below w.heap.size w wz) => great_any v J wz (hx0.mono h))
  have HGS := Lib.hid (fun h => great_sm (J := J) h)
  have HRW := Lib.hid (fun wz (h : Below w.heap.size w wz) (hs : SmJ J) => rwork_any v J wz (hx0.mono h) hs)
  obtain ⟨a, c, rfl⟩ := hx0.sl
  clear hx0
  unfold heavyJ
  obtain ⟨n, hn⟩ : ∃ n, n = J.length := ⟨_, rfl⟩
  rw [← hn] at HGR HRW ⊢
  clear hn
  have HB0 := Lib.hid (bal (bz w) (.cells #[.slice a n c] 24))
  have gq : (w.alloc (.cells #[.slice a n c] 24)).cell? ⟨w.heap.size, 0, none⟩ = some (.slice a n c) := cnew rfl rfl
  have zq : w.heap.size < (w.alloc (.cells #[.slice a n c] 24)).heap.size := by simp
  generalize greatJ J = gr at *
  generalize workC J = wq at *
  go_enter Tryz.func30, Tryz.ntmps30
  go_wp2_with fail
  generalize w.alloc (.cells #[.slice a n c] 24) = w1 at *
  refine (HGR.out _ HB0.out).mono ?_
  rintro e w2 ⟨rfl, hB⟩
  have HB2 := Lib.hid hB
  have g2 := (hB.cell (p := ⟨w.heap.size, 0, none⟩) zq).trans gq
  have z2 := Nat.lt_of_lt_of_le zq hB.size
  clear hB gq zq
  cases gr with
  | true =>
    go_wp2_with fail
    go_ret
    exact ⟨rfl, btr HB0.out HB2.out⟩
  | false =>
    have HSM := Lib.hid (HGS.out (by first | trivial | rfl))
    by_cases hl : 9 < n
    · have t1 : decide ((9 : Int) < (n : Int)) = true := decide_eq_true (by omega)
      have t2 : decide (9 < n) = true := decide_eq_true hl
      clear hl
      go_wp2_with fail
      refine (HRW.out _ (btr HB0.out HB2.out) HSM.out).mono ?_
      rintro e w3 ⟨rfl, hB⟩
      have HB3 := Lib.hid (btr HB0.out (btr HB2.out hB))
      clear hB
      go_wp2_with fail
      go_ret
      refine ⟨?_, HB3.out⟩
      first | rfl | (simp [t2]) | (congr 1; simp [t2, beq_eq_decide])
    · have t1 : decide ((9 : Int) < (n : Int)) = false := decide_eq_false (by omega)
      have t2 : decide (9 < n) = false := decide_eq_false hl
      clear hl
      go_wp2_with fail
      go_ret
      refine ⟨?_, btr HB0.out HB2.out⟩
      first | rfl | (simp [t2])
end Go.Proofs.YteknehlkdgamjaaGreat
