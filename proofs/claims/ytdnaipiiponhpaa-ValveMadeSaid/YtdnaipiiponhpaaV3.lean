/- open, and the program's CheckRow; rows of at most 1000 valves. -/
import Derived.Test.YtdnaipiiponhpaaV2
namespace Go.Proofs.Ytdnaipiiponhpaa
open Go.RowKit

set_option maxRecDepth 100000 in
set_option maxHeartbeats 400000 in
theorem indexp_any (x : Value) (V : List (Int × Int)) (p : Int) (br : Nat) (w : World) (hx0 : RdP w x V) (hl : V.length ≤ 1000)
    (h1 : w.cell? ⟨br, 0, none⟩ = some (.int .i64 p)) (hbr : br < w.heap.size) (hp1 : 1 ≤ p) (hp2 : p ≤ 8) :
    Calls Try.prog 79 #[x, .func (.func 61) #[] #[.pointer (some ⟨br, 0, none⟩)]] w fun e w' => e = .returned (.int .i64 (idxOf (oddV p) V)) ∧ Below w.heap.size w w' := by
  obtain ⟨a, ca, rfl, _, _, hx⟩ := hx0.form
  clear hx0
  go_enter Try.func79, Try.ntmps79
  go_wp2
  go_loopw [5, 8] (fun j i wr => ∃ k : Nat, k ≤ V.length ∧ i = .int .i64 k ∧ (∀ i, i < k → oddV p (V[i]?.getD (0, 0)) = false) ∧ Below w.heap.size w wr) (fun _ i _ => V.length - (intOf i).toNat)
  case atStart => exact ⟨0, Nat.zero_le _, rfl, by intro i h1; omega, bz _⟩
  case round =>
    obtain ⟨k, hk, rfl, ht, hB⟩ := hrel
    have HT := Lib.hid ht; clear ht
    by_cases hlt : k < V.length
    · obtain ⟨bx, ox, rfl, hbx, hcx⟩ := hx (by omega)
      have gx := (hB.cell (p := ⟨bx, ox + k * 2, none⟩) hbx).trans (hcx k hlt).1
      have gy := (hB.cell (p := ⟨bx, ox + k * 2 + 1, none⟩) hbx).trans (hcx k hlt).2
      have g1 := (hB.cell (p := ⟨br, 0, none⟩) hbr).trans h1
      have hbr' : br < wr.heap.size := Nat.lt_of_lt_of_le hbr hB.size
      clear hx hcx
      generalize hp : V[k]?.getD (0, 0) = q at *
      have HP := Lib.hid hp; clear hp
      obtain ⟨q1, q2⟩ := q
      go_wp2_with fail
      refine (oddf_any _ _ _ _ _ g1 hbr' hp1 hp2).mono ?_
      rintro e w2 ⟨rfl, hB2⟩
      have hB3 := btr hB hB2
      cases hb : oddV p (q1, q2)
      · go_wp2
        go_roundw
        case rel =>
          refine ⟨k + 1, by omega, by go_num, fun i h1 => ?_, hB3⟩
          by_cases e : i = k
          · subst e; rw [HP.out]; exact hb
          · exact HT.out i (by omega)
        case measure => simp [intOf]; omega
      · go_wp2
        go_ret
        exact ⟨ret_int (find_none_step HT.out hlt (by rw [HP.out]; exact hb)).symm, hB3⟩
    · go_wp2
      go_ret
      exact ⟨ret_int (find_none fun i hi => HT.out i (by omega)).symm, hB⟩

set_option maxRecDepth 100000 in
set_option maxHeartbeats 400000 in
theorem containsp_any (x : Value) (V : List (Int × Int)) (p : Int) (br : Nat) (w : World) (hx0 : RdP w x V) (hl : V.length ≤ 1000)
    (h1 : w.cell? ⟨br, 0, none⟩ = some (.int .i64 p)) (hbr : br < w.heap.size) (hp1 : 1 ≤ p) (hp2 : p ≤ 8) :
    Calls Try.prog 63 #[x, .func (.func 61) #[] #[.pointer (some ⟨br, 0, none⟩)]] w fun e w' => e = .returned (.bool (V.any (oddV p))) ∧ Below w.heap.size w w' := by
  go_enter Try.func63, Try.ntmps63
  go_wp2_with (go_at_call 79; refine (indexp_any _ _ _ _ _ hx0 hl h1 hbr hp1 hp2).mono ?_)
  rintro e w2 ⟨rfl, hB2⟩
  have H := Lib.hid (idxOf_any (oddV p) V)
  go_wp2
  go_ret
  exact ⟨ret_bool H.out, hB2⟩

/-- What CheckRow returns. -/
def checkR (p : Int) (V : List (Int × Int)) : Int := if p < 1 ∨ 8 < p ∨ 40 < V.length then 6 else if V.any (oddV p) then 2 else 0

theorem one_slice {w : World} {p : Int} {b : Nat} (h : w.cell? ⟨b, 0, none⟩ = some (.int .i64 p)) (hb : b < w.heap.size) : RdI w .i64 (.slice (some ⟨b, 0, none⟩) 1 1) [p] := by
  refine ⟨_, _, rfl, by simp, by unfold maxLen; omega, fun _ => ⟨_, _, rfl, hb, fun j u hj => ?_⟩⟩
  match j, hj with
  | 0, hj => simp at hj; subst hj; exact h

set_option maxRecDepth 100000 in
set_option maxHeartbeats 400000 in
theorem checkrow_any (p : Int) (x : Value) (V : List (Int × Int)) (w : World) (hx0 : RdP w x V) (hl : V.length ≤ 1000) :
    Calls Try.prog 20 #[.agg #[.int .i64 p, x]] w fun e w' => e = .returned (.int .i64 (checkR p V)) ∧ Below w.heap.size w w' := by
  obtain ⟨a, ca, rfl, _, _, hx⟩ := hx0.form
  by_cases hp : p < 1 ∨ 8 < p
  · have e : checkR p V = 6 := by unfold checkR; rw [if_pos (by omega)]
    rw [e]; clear e
    have hw : [p].any (outB 1 8) = true := by simp [outB]; omega
    have HW := Lib.hid hw; clear hw
    go_enter Try.func20, Try.ntmps20
    go_wp2_with fail
    refine (within_any _ [p] _ _ _ (one_slice (by simp) (by simp)) (by simp)).mono ?_
    rintro e w2 ⟨rfl, hB2⟩
    rw [HW.out]
    go_wp2
    go_ret
    exact ⟨rfl, btr (bal (bal (bz _) _) _) hB2⟩
  · have hw : [p].any (outB 1 8) = false := by simp [outB]; omega
    have HW := Lib.hid hw; clear hw
    by_cases hn : 40 < V.length
    · have e : checkR p V = 6 := by unfold checkR; rw [if_pos (by omega)]
      rw [e]; clear e
      go_enter Try.func20, Try.ntmps20
      go_wp2_with fail
      refine (within_any _ [p] _ _ _ (one_slice (by simp) (by simp)) (by simp)).mono ?_
      rintro e w2 ⟨rfl, hB2⟩
      rw [HW.out]
      obtain ⟨hc, hf⟩ := bcell hB2
      go_wp2
      go_ret
      exact ⟨rfl, btr (bal (bal (bz _) _) _) hB2⟩
    · cases hb : V.any (oddV p)
      all_goals
        have e : checkR p V = if V.any (oddV p) then 2 else 0 := by unfold checkR; rw [if_neg (by omega)]
        rw [e, hb]; clear e
        have HV := Lib.hid hb; clear hb
        go_enter Try.func20, Try.ntmps20
        go_wp2_with fail
        refine (within_any _ [p] _ _ _ (one_slice (by simp) (by simp)) (by simp)).mono ?_
        rintro e w2 ⟨rfl, hB2⟩
        rw [HW.out]
        obtain ⟨hc, hf⟩ := bcell hB2
        have hz := hB2.size
        simp only [World.size_alloc] at hz
        go_wp2_with fail
        have hB1 := btr (bal (bal (bz w) _) _) hB2
        refine (containsp_any _ V p w.heap.size _ (hx0.mono hB1) (by omega) ?_ (by omega) (by omega) (by omega)).mono ?_
        · rw [hc _ _ (by simp; omega)]; simp
        rintro e w3 ⟨rfl, hB3⟩
        rw [HV.out]
        go_wp2
        go_ret
        exact ⟨rfl, btr hB1 hB3⟩

/-- A valid row. -/
structure OkRow (p : Int) (V : List (Int × Int)) : Prop where
  p1 : 1 ≤ p
  p8 : p ≤ 8
  len : V.length ≤ 40
  ok : ∀ v ∈ V, 0 ≤ v.1 ∧ v.1 < v.2 ∧ v.2 < p

theorem okRow_of {p : Int} {V : List (Int × Int)} (h : checkR p V = 0) : OkRow p V := by
  unfold checkR at h
  split at h
  · omega
  · split at h
    · omega
    · rename_i h1 h2
      refine ⟨by omega, by omega, by omega, fun v hv => ?_⟩
      simp only [Bool.not_eq_true, List.any_eq_false] at h2
      have := h2 v hv
      simp [oddV, outB] at this
      omega
theorem check_of_ok {p : Int} {V : List (Int × Int)} (h : OkRow p V) : checkR p V = 0 := by
  have h1 := h.p1; have h2 := h.p8; have h3 := h.len
  unfold checkR
  rw [if_neg (by omega), if_neg]
  simp only [Bool.not_eq_true, List.any_eq_false]
  intro v hv
  have := h.ok v hv
  simp [oddV, outB]
  omega

/-- What open returns: the bench, a box with the row in it. -/
def IsBench (w : World) (b : Nat) (p : Int) (x : Value) : Prop := b < w.heap.size ∧ w.cell? ⟨b, 0, none⟩ = some (.int .i64 p) ∧ w.cell? ⟨b, 1, none⟩ = some x
theorem IsBench.mono {w w' : World} {b : Nat} {p : Int} {x : Value} (h : IsBench w b p x) (hb : Below w.heap.size w w') : IsBench w' b p x :=
  ⟨Nat.lt_of_lt_of_le h.1 hb.size, (hb.cell (p := ⟨b, 0, none⟩) h.1).trans h.2.1, (hb.cell (p := ⟨b, 1, none⟩) h.1).trans h.2.2⟩

def OpenOk (w : World) (p : Int) (x : Value) (e : Ending) (w' : World) : Prop := ∃ b, e = .returned (.tuple #[.pointer (some ⟨b, 0, none⟩), .int .i64 0]) ∧ w.heap.size ≤ b ∧ IsBench w' b p x ∧ Below w.heap.size w w'

set_option maxRecDepth 100000 in
set_option maxHeartbeats 400000 in
theorem open_no (p : Int) (x : Value) (V : List (Int × Int)) (w : World) (hx0 : RdP w x V) (hl : V.length ≤ 1000) (h : checkR p V ≠ 0) :
    Calls Try.prog 57 #[.agg #[.int .i64 p, x]] w fun e w' => e = .returned (.tuple #[.pointer none, .int .i64 (checkR p V)]) ∧ Below w.heap.size w w' := by
  obtain ⟨a, ca, rfl, _, _, _⟩ := hx0.form
  generalize hc : checkR p V = c at *
  have HC := Lib.hid hc; clear hc
  have hcb : (c != 0) = true := by simpa using h
  have hce : (c == 0) = false := by simpa using h
  clear h
  go_enter Try.func57, Try.ntmps57
  go_wp2_with fail
  refine (checkrow_any _ _ V _ (hx0.mono (bal (bz _) _)) hl).mono ?_
  rintro e w2 ⟨rfl, hB2⟩
  rw [HC.out]
  go_wp2
  go_ret2
  exact ⟨rfl, btr (bal (bz _) _) hB2⟩

set_option maxRecDepth 100000 in
set_option maxHeartbeats 400000 in
theorem open_ok (p : Int) (x : Value) (V : List (Int × Int)) (w : World) (hx0 : RdP w x V) (h : OkRow p V) :
    Calls Try.prog 57 #[.agg #[.int .i64 p, x]] w (OpenOk w p x) := by
  have hl := h.len
  obtain ⟨a, ca, rfl, _, _, _⟩ := hx0.form
  have HC := Lib.hid (check_of_ok h)
  go_enter Try.func57, Try.ntmps57
  go_wp2_with fail
  refine (checkrow_any _ _ V _ (hx0.mono (bal (bz _) _)) (by omega)).mono ?_
  rintro e w2 ⟨rfl, hB2⟩
  rw [HC.out]
  obtain ⟨hcc, hf⟩ := bcell hB2
  have hz := hB2.size
  simp only [World.size_alloc] at hz
  go_wp2
  go_ret2
  refine ⟨_, rfl, ?_, ⟨?_, ?_, ?_⟩, bal (btr (bal (bz _) _) hB2) _⟩
  · omega
  · simp
  · simp
  · simp
end Go.Proofs.Ytdnaipiiponhpaa
