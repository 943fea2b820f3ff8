/- Which pins are valid: CheckPins of the program; lists of at most 1000 pins. -/
import Derived.Test.YtooddicegkiiiaaV1
namespace Go.Proofs.Ytooddicegkiiiaa
open Go.RowKit

/-- A pin that is not valid. -/
def oddP (v : Int × Int) : Bool := outB 1 200 v.1 || outB 0 (v.1 - 1) v.2

theorem one_slice {w : World} {p : Int} {b : Nat} (h : w.cell? ⟨b, 0, none⟩ = some (.int .i64 p)) (hb : b < w.heap.size) : RdI w .i64 (.slice (some ⟨b, 0, none⟩) 1 1) [p] := by
  refine ⟨_, _, rfl, by simp, by unfold maxLen; omega, fun _ => ⟨_, _, rfl, hb, fun j u hj => ?_⟩⟩
  match j, hj with
  | 0, hj => simp at hj; subst hj; exact h

set_option maxRecDepth 100000 in
set_option maxHeartbeats 400000 in
theorem oddf_any (x y : Int) (w : World) :
    Calls Try.prog 59 #[.agg #[.int .i64 x, .int .i64 y]] w fun e w' => e = .returned (.bool (oddP (x, y))) ∧ Below w.heap.size w w' := by
  cases hw : [x].any (outB 1 200)
  · have hx : 1 ≤ x ∧ x ≤ 200 := by simp [outB] at hw; omega
    have e : oddP (x, y) = [y].any (outB 0 (x - 1)) := by simp at hw; simp [oddP, hw]
    rw [e]; clear e
    have HW := Lib.hid hw; clear hw
    have hx1 := hx.1; have hx2 := hx.2; clear hx
    go_enter Try.func59, Try.ntmps59
    go_wp2_with fail
    refine (within_any _ [x] _ _ _ (one_slice (by simp) (by simp)) (by simp)).mono ?_
    rintro e w2 ⟨rfl, hB2⟩
    rw [HW.out]
    obtain ⟨hc, hf⟩ := bcell hB2
    have hz := hB2.size
    simp only [World.size_alloc] at hz
    go_wp2_with fail
    refine (within_any _ [y] _ _ _ (one_slice (by simp) (by simp)) (by simp)).mono ?_
    rintro e w3 ⟨rfl, hB3⟩
    go_wp2
    go_ret
    exact ⟨ret_bool (by simp), btr (bal (btr (bal (bal (bz _) _) _) hB2) _) hB3⟩
  · have e : oddP (x, y) = true := by simp at hw; simp [oddP, hw]
    rw [e]; clear e
    have HW := Lib.hid hw; clear hw
    go_enter Try.func59, Try.ntmps59
    go_wp2_with fail
    refine (within_any _ [x] _ _ _ (one_slice (by simp) (by simp)) (by simp)).mono ?_
    rintro e w2 ⟨rfl, hB2⟩
    rw [HW.out]
    go_wp2
    go_ret
    exact ⟨rfl, btr (bal (bal (bz _) _) _) hB2⟩

set_option maxRecDepth 100000 in
set_option maxHeartbeats 400000 in
theorem indexp_any (x : Value) (V : List (Int × Int)) (w : World) (hx0 : RdP w x V) (hl : V.length ≤ 1000) :
    Calls Try.prog 77 #[x, .func (.func 59) #[] #[]] w fun e w' => e = .returned (.int .i64 (idxOf oddP V)) ∧ Below w.heap.size w w' := by
  obtain ⟨a, ca, rfl, _, _, hx⟩ := hx0.form
  clear hx0
  go_enter Try.func77, Try.ntmps77
  go_wp2
  go_loopw [5, 8] (fun j i wr => ∃ k : Nat, k ≤ V.length ∧ i = .int .i64 k ∧ (∀ i, i < k → oddP (V[i]?.getD (0, 0)) = false) ∧ Below w.heap.size w wr) (fun _ i _ => V.length - (intOf i).toNat)
  case atStart => exact ⟨0, Nat.zero_le _, rfl, by intro i h1; omega, bz _⟩
  case round =>
    obtain ⟨k, hk, rfl, ht, hB⟩ := hrel
    have HT := Lib.hid ht; clear ht
    by_cases hlt : k < V.length
    · obtain ⟨bx, ox, rfl, hbx, hcx⟩ := hx (by omega)
      have gx := (hB.cell (p := ⟨bx, ox + k * 2, none⟩) hbx).trans (hcx k hlt).1
      have gy := (hB.cell (p := ⟨bx, ox + k * 2 + 1, none⟩) hbx).trans (hcx k hlt).2
      clear hx hcx
      generalize hp : V[k]?.getD (0, 0) = q at *
      have HP := Lib.hid hp; clear hp
      obtain ⟨q1, q2⟩ := q
      go_wp2_with fail
      refine (oddf_any _ _ _).mono ?_
      rintro e w2 ⟨rfl, hB2⟩
      have hB3 := btr hB hB2
      cases hb : oddP (q1, q2)
      · go_wp2
        go_roundw
        case rel =>
          refine ⟨k + 1, by omega, by go_num, fun i h1 => ?_, hB3⟩
          by_cases e : i = k
          · subst e; rw [HP.out]; exact hb
          · exact HT.out i (by omega)
        case measure => simp [intOf]; omega
      · go_wp2
        go_ret
        exact ⟨ret_int (find_none_step HT.out hlt (by rw [HP.out]; exact hb)).symm, hB3⟩
    · go_wp2
      go_ret
      exact ⟨ret_int (find_none fun i hi => HT.out i (by omega)).symm, hB⟩

set_option maxRecDepth 100000 in
set_option maxHeartbeats 400000 in
theorem containsp_any (x : Value) (V : List (Int × Int)) (w : World) (hx0 : RdP w x V) (hl : V.length ≤ 1000) :
    Calls Try.prog 61 #[x, .func (.func 59) #[] #[]] w fun e w' => e = .returned (.bool (V.any oddP)) ∧ Below w.heap.size w w' := by
  go_enter Try.func61, Try.ntmps61
  go_wp2_with (go_at_call 77; refine (indexp_any _ _ _ hx0 hl).mono ?_)
  rintro e w2 ⟨rfl, hB2⟩
  have H := Lib.hid (idxOf_any oddP V)
  go_wp2
  go_ret
  exact ⟨ret_bool H.out, hB2⟩

/-- What CheckPins returns. -/
def checkP (V : List (Int × Int)) : Int := if V.length < 1 ∨ 5 < V.length then 6 else if V.any oddP then 3 else 0

set_option maxRecDepth 100000 in
set_option maxHeartbeats 400000 in
theorem checkpins_any (x : Value) (V : List (Int × Int)) (w : World) (hx0 : RdP w x V) (hl : V.length ≤ 1000) :
    Calls Try.prog 22 #[x] w fun e w' => e = .returned (.int .i64 (checkP V)) ∧ Below w.heap.size w w' := by
  obtain ⟨a, ca, rfl, _, _, hx⟩ := hx0.form
  by_cases hp : V.length < 1 ∨ 5 < V.length
  · have e : checkP V = 6 := by unfold checkP; rw [if_pos (by omega)]
    rw [e]; clear e
    have hw : [(V.length : Int)].any (outB 1 5) = true := by simp [outB]; omega
    have HW := Lib.hid hw; clear hw
    go_enter Try.func22, Try.ntmps22
    go_wp2_with fail
    refine (within_any _ [(V.length : Int)] _ _ _ (one_slice (by simp) (by simp)) (by simp)).mono ?_
    rintro e w2 ⟨rfl, hB2⟩
    rw [HW.out]
    go_wp2
    go_ret
    exact ⟨rfl, btr (bal (bz _) _) hB2⟩
  · have hw : [(V.length : Int)].any (outB 1 5) = false := by simp [outB]; omega
    have HW := Lib.hid hw; clear hw
    cases hb : V.any oddP
    all_goals
      have e : checkP V = if V.any oddP then 3 else 0 := by unfold checkP; rw [if_neg (by omega)]
      rw [e, hb]; clear e
      have HV := Lib.hid hb; clear hb
      go_enter Try.func22, Try.ntmps22
      go_wp2_with fail
      refine (within_any _ [(V.length : Int)] _ _ _ (one_slice (by simp) (by simp)) (by simp)).mono ?_
      rintro e w2 ⟨rfl, hB2⟩
      rw [HW.out]
      go_wp2_with fail
      refine (containsp_any _ V _ (hx0.mono (btr (bal (bz w) _) hB2)) (by omega)).mono ?_
      rintro e w3 ⟨rfl, hB3⟩
      rw [HV.out]
      go_wp2
      go_ret
      exact ⟨rfl, btr (btr (bal (bz w) _) hB2) hB3⟩

/-- Valid pins. -/
structure OkPins (V : List (Int × Int)) : Prop where
  l1 : 1 ≤ V.length
  l5 : V.length ≤ 5
  ok : ∀ v ∈ V, 1 ≤ v.1 ∧ v.1 ≤ 200 ∧ 0 ≤ v.2 ∧ v.2 < v.1
theorem okPins_of {V : List (Int × Int)} (h : checkP V = 0) : OkPins V := by
  unfold checkP at h
  split at h
  · omega
  · split at h
    · omega
    · rename_i h1 h2
      refine ⟨by omega, by omega, fun v hv => ?_⟩
      simp only [Bool.not_eq_true, List.any_eq_false] at h2
      have := h2 v hv
      simp [oddP, outB] at this
      omega
theorem check_of_ok {V : List (Int × Int)} (h : OkPins V) : checkP V = 0 := by
  have h1 := h.l1; have h2 := h.l5
  unfold checkP
  rw [if_neg (by omega), if_neg]
  simp only [Bool.not_eq_true, List.any_eq_false]
  intro v hv
  have := h.ok v hv
  simp [oddP, outB]
  omega
end Go.Proofs.Ytooddicegkiiiaa
