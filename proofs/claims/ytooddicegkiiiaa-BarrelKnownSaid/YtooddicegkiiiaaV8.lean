/- open, First, Count of the program. -/
import Derived.Test.YtooddicegkiiiaaV7
namespace Go.Proofs.Ytooddicegkiiiaa
open Go.RowKit Go.Shelf

def openE (V : List (Int × Int)) (T : List Int) : Int := if checkP V ≠ 0 then checkP V else if T.any (outB 0 1000000000000) then 3 else 0
theorem checkP_cases (V : List (Int × Int)) : checkP V = 0 ∨ checkP V = 3 ∨ checkP V = 6 := by
  unfold checkP; split
  · exact .inr (.inr rfl)
  · split
    · exact .inr (.inl rfl)
    · exact .inl rfl
theorem OkPins.v {V : List (Int × Int)} (h : OkPins V) : OkV V := h.ok

def OpenOk (V : List (Int × Int)) (w : World) (e : Ending) (w' : World) : Prop := ∃ b, e = .returned (.tuple #[.pointer (some ⟨b, 0, none⟩), .int .i64 0]) ∧ w.heap.size ≤ b ∧ IsDrum w' b V ∧ Below w.heap.size w w'

set_option maxRecDepth 100000 in
set_option maxHeartbeats 400000 in
theorem open_no (x y : Value) (V : List (Int × Int)) (T : List Int) (w : World) (hx0 : RdP w x V) (hy : RdI w .i64 y T) (hl : V.length ≤ 1000) (hT : T.length ≤ 1000) (h : openE V T ≠ 0) :
    Calls Try.prog 56 #[x, y] w fun e w' => e = .returned (.tuple #[.pointer none, .int .i64 (openE V T)]) ∧ Below w.heap.size w w' := by
  obtain ⟨a, ca, rfl, _, _, _⟩ := hx0.form
  by_cases hc : checkP V = 0
  · have ho : T.any (outB 0 1000000000000) = true := by
      unfold openE at h; rw [if_neg (by simpa using hc)] at h
      cases hh : T.any (outB 0 1000000000000)
      · rw [hh] at h; simp at h
      · rfl
    have e : openE V T = 3 := by unfold openE; rw [if_neg (by simpa using hc), ho]; rfl
    rw [e]; clear e h
    have HC := Lib.hid hc; have HO := Lib.hid ho; clear hc ho
    go_enter Try.func56, Try.ntmps56
    go_wp2_with fail
    refine (checkpins_any _ V _ hx0 hl).mono ?_
    rintro e w2 ⟨rfl, hB2⟩
    rw [HC.out]
    go_wp2_with fail
    refine (within_any _ T _ _ _ (hy.mono hB2) hT).mono ?_
    rintro e w3 ⟨rfl, hB3⟩
    rw [HO.out]
    go_wp2_with fail
    go_ret2
    exact ⟨rfl, btr hB2 hB3⟩
  · have e : openE V T = checkP V := by unfold openE; rw [if_pos (by simpa using hc)]
    rw [e]; clear e h
    generalize hq : checkP V = q at *
    have HC := Lib.hid hq; clear hq
    have hcb : (q != 0) = true := by simpa using hc
    have hce : (q == 0) = false := by simpa using hc
    clear hc
    go_enter Try.func56, Try.ntmps56
    go_wp2_with fail
    refine (checkpins_any _ V _ hx0 hl).mono ?_
    rintro e w2 ⟨rfl, hB2⟩
    rw [HC.out]
    go_wp2_with fail
    go_ret2
    exact ⟨rfl, hB2⟩
theorem openE_zero {V : List (Int × Int)} {T : List Int} (h : openE V T = 0) : checkP V = 0 ∧ T.any (outB 0 1000000000000) = false := by
  unfold openE at h
  by_cases hc : checkP V = 0
  · rw [if_neg (by simpa using hc)] at h
    refine ⟨hc, ?_⟩
    cases hh : T.any (outB 0 1000000000000)
    · rfl
    · rw [hh] at h; simp at h
  · rw [if_pos (by simpa using hc)] at h; exact absurd h hc
set_option maxRecDepth 100000 in
set_option maxHeartbeats 400000 in
theorem open_ok (x y : Value) (V : List (Int × Int)) (T : List Int) (w : World) (hx0 : RdP w x V) (hy : RdI w .i64 y T) (hT : T.length ≤ 1000) (h : openE V T = 0) :
    Calls Try.prog 56 #[x, y] w (OpenOk V w) := by
  obtain ⟨hc, ho⟩ := openE_zero h
  have hV := okPins_of hc
  have hl := hV.l5
  obtain ⟨a, ca, rfl, _, _, _⟩ := hx0.form
  have HC := Lib.hid hc; have HO := Lib.hid ho; clear hc ho h
  go_enter Try.func56, Try.ntmps56
  go_wp2_with fail
  refine (checkpins_any _ V _ hx0 (by omega)).mono ?_
  rintro e w2 ⟨rfl, hB2⟩
  rw [HC.out]
  go_wp2_with fail
  refine (within_any _ T _ _ _ (hy.mono hB2) hT).mono ?_
  rintro e w3 ⟨rfl, hB3⟩
  rw [HO.out]
  go_wp2_with fail
  refine (newdrum_any _ V _ (hx0.mono (btr hB2 hB3)) hV.v hl).mono ?_
  rintro e w4 ⟨b, rfl, hb, hD, hB4⟩
  go_wp2_with fail
  go_ret2
  exact ⟨b, rfl, by have := hB2.size; have := hB3.size; omega, hD, btr (btr hB2 hB3) hB4⟩

theorem rdI_nil (w : World) (k : IntKind) : RdI w k (.slice none 0 0) [] := ⟨none, 0, rfl, Nat.le_refl _, by unfold maxLen; omega, fun h => absurd rfl h⟩
theorem openE_nil (V : List (Int × Int)) : openE V [] = checkP V := by
  unfold openE
  split
  · rfl
  · rename_i h; simp at h; simp [h]
/-- What First returns. -/
def firstE (V : List (Int × Int)) : Int := if checkP V ≠ 0 then checkP V else if jO V then 0 else 21
def firstA (V : List (Int × Int)) : Int := if checkP V ≠ 0 then 0 else jA V
def firstB (V : List (Int × Int)) : Int := if checkP V ≠ 0 then 0 else jB V

set_option maxRecDepth 100000 in
set_option maxHeartbeats 1000000 in
theorem first_any (x : Value) (V : List (Int × Int)) (w : World) (hx0 : RdP w x V) (hl : V.length ≤ 1000) :
    Calls Try.prog 25 #[x] w fun e w' => e = .returned (.tuple #[.int .i64 (firstA V), .int .i64 (firstB V), .int .i64 (firstE V)]) ∧ Below w.heap.size w w' := by
  obtain ⟨a, ca, rfl, _, _, _⟩ := hx0.form
  by_cases hc : checkP V = 0
  · have hV := okPins_of hc
    have HO := Lib.hid (open_ok _ _ V [] w hx0 (rdI_nil _ _) (by simp) (by rw [openE_nil]; exact hc))
    have e1 : firstA V = jA V := by unfold firstA; rw [if_neg (by simpa using hc)]
    have e2 : firstB V = jB V := by unfold firstB; rw [if_neg (by simpa using hc)]
    have e3 : firstE V = if jO V then 0 else 21 := by unfold firstE; rw [if_neg (by simpa using hc)]
    rw [e1, e2, e3]; clear e1 e2 e3
    have HJ := Lib.hid (fun b w' hD => join_any b V w' hD hV.v hV.l5)
    have HN := Lib.hid (fun h => j_false (V := V) hV.v h)
    clear hc
    generalize jO V = o at *
    generalize jA V = A at *
    generalize jB V = B at *
    go_enter Try.func25, Try.ntmps25
    go_wp2_with fail
    refine HO.out.mono ?_
    rintro e w2 ⟨b, rfl, hb, hD, hB2⟩
    go_wp2_with fail
    refine (HJ.out b _ hD).mono ?_
    rintro e w3 ⟨rfl, hB3⟩
    cases o
    · obtain ⟨_, h1, h2⟩ := HN.out rfl
      subst h1; subst h2
      go_wp2_with fail
      go_ret3
      exact ⟨rfl, btr hB2 hB3⟩
    · go_wp2_with fail
      go_ret3
      exact ⟨rfl, btr hB2 hB3⟩
  · have HO := Lib.hid (open_no _ _ V [] w hx0 (rdI_nil _ _) hl (by simp) (by rw [openE_nil]; exact hc))
    have e1 : firstA V = 0 := by unfold firstA; rw [if_pos (by simpa using hc)]
    have e2 : firstB V = 0 := by unfold firstB; rw [if_pos (by simpa using hc)]
    have e3 : firstE V = checkP V := by unfold firstE; rw [if_pos (by simpa using hc)]
    rw [e1, e2, e3]; clear e1 e2 e3
    rw [openE_nil] at HO
    have hcb : (checkP V != 0) = true := by simpa using hc
    have hce : (checkP V == 0) = false := by simpa using hc
    clear hc
    generalize checkP V = q at *
    go_enter Try.func25, Try.ntmps25
    go_wp2_with fail
    refine HO.out.mono ?_
    rintro e w2 ⟨rfl, hB2⟩
    go_wp2_with fail
    go_ret3
    exact ⟨rfl, hB2⟩
end Go.Proofs.Ytooddicegkiiiaa
