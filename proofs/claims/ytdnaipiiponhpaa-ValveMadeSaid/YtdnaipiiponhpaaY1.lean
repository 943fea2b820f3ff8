/- The document's Sorts and Pattern; every row of at most 1000 valves. -/
import Derived.Test.YtdnaipiiponhpaaX9
namespace Go.Proofs.Ytdnaipiiponhpaa
open Go.RowKit Go.Shelf

def rsortsE (p : Int) (V : List (Int × Int)) : Int := if checkR p V ≠ 0 then checkR p V else if (patOf p.toNat V).isSome then 23 else 0

set_option maxRecDepth 100000 in
set_option maxHeartbeats 1000000 in
theorem rsorts_any (p : Int) (x : Value) (V : List (Int × Int)) (w : World) (hx0 : RdP w x V) (hl : V.length ≤ 1000) :
    Calls Try.prog 28 #[.agg #[.int .i64 p, x]] w fun e w' => e = .returned (.int .i64 (rsortsE p V)) ∧ Below w.heap.size w w' := by
  obtain ⟨a, ca, rfl, _, _, _⟩ := hx0.form
  have H0 := Lib.hid fun w1 (hB : Below w.heap.size w w1) => rcheck_any p _ V w1 (hx0.mono hB) hl
  unfold rsortsE
  by_cases h : checkR p V = 0
  · have hc0 : ¬ (checkR p V ≠ 0) := by simpa using h
    rw [if_neg hc0]
    rw [h] at H0
    obtain ⟨n, rfl, hV⟩ := cond_row h
    clear hc0 h
    rw [show ((n : Nat) : Int).toNat = n by omega]
    have H1 := Lib.hid fun w1 (hB : Below w.heap.size w w1) => patternof_any n _ V w1 (hx0.mono hB) hV
    generalize (patOf n V).isSome = s at *
    cases s
    · rw [if_neg (by simp)]
      go_enter Try.func28, Try.ntmps28
      go_wp2_with fail
      refine (H0.out _ (bal (bz _) _)).mono ?_
      rintro e w2 ⟨rfl, hB2⟩
      have hB3 : Below w.heap.size w w2 := btr (bal (bz _) _) hB2
      have c0 : w2.cell? ⟨w.heap.size, 0, none⟩ = some (.int .i64 n) := (hB2.cell (by simp)).trans (cnew rfl rfl)
      have c1 : w2.cell? ⟨w.heap.size, 1, none⟩ = some (.slice a V.length ca) := (hB2.cell (by simp)).trans (cnew rfl rfl)
      go_wp2_with fail
      refine (H1.out _ hB3).mono ?_
      rintro e w3 ⟨v, rfl, _, hB4⟩
      go_wp2
      go_ret
      exact ⟨rfl, btr hB3 hB4⟩
    · rw [if_pos rfl]
      go_enter Try.func28, Try.ntmps28
      go_wp2_with fail
      refine (H0.out _ (bal (bz _) _)).mono ?_
      rintro e w2 ⟨rfl, hB2⟩
      have hB3 : Below w.heap.size w w2 := btr (bal (bz _) _) hB2
      have c0 : w2.cell? ⟨w.heap.size, 0, none⟩ = some (.int .i64 n) := (hB2.cell (by simp)).trans (cnew rfl rfl)
      have c1 : w2.cell? ⟨w.heap.size, 1, none⟩ = some (.slice a V.length ca) := (hB2.cell (by simp)).trans (cnew rfl rfl)
      go_wp2_with fail
      refine (H1.out _ hB3).mono ?_
      rintro e w3 ⟨v, rfl, _, hB4⟩
      go_wp2
      go_ret
      exact ⟨rfl, btr hB3 hB4⟩
  · rw [if_pos h]
    generalize checkR p V = c at *
    have e0 : (c != 0) = true := by simpa using h
    clear h
    go_enter Try.func28, Try.ntmps28
    go_wp2_with fail
    refine (H0.out _ (bal (bz _) _)).mono ?_
    rintro e w2 ⟨rfl, hB2⟩
    have hB3 : Below w.heap.size w w2 := btr (bal (bz _) _) hB2
    have c0 : w2.cell? ⟨w.heap.size, 0, none⟩ = some (.int .i64 p) := (hB2.cell (by simp)).trans (cnew rfl rfl)
    have c1 : w2.cell? ⟨w.heap.size, 1, none⟩ = some (.slice a V.length ca) := (hB2.cell (by simp)).trans (cnew rfl rfl)
    go_wp2_with fail
    refine (H0.out _ hB3).mono ?_
    rintro e w3 ⟨rfl, hB4⟩
    go_wp2
    go_ret
    exact ⟨rfl, btr hB3 hB4⟩

def rpatE (p : Int) (V : List (Int × Int)) : Int := if checkR p V ≠ 0 then checkR p V else if (patOf p.toNat V).isSome then 0 else 5
def rpatL (p : Int) (V : List (Int × Int)) : List Int := if checkR p V ≠ 0 then [] else patOfL p.toNat V

set_option maxRecDepth 100000 in
set_option maxHeartbeats 1000000 in
theorem rpattern_any (p : Int) (x : Value) (V : List (Int × Int)) (w : World) (hx0 : RdP w x V) (hl : V.length ≤ 1000) :
    Calls Try.prog 24 #[.agg #[.int .i64 p, x]] w fun e w' => ∃ v, e = .returned (.tuple #[v, .int .i64 (rpatE p V)]) ∧ RdI w' .i64 v (rpatL p V) ∧ Below w.heap.size w w' := by
  obtain ⟨a, ca, rfl, _, _, _⟩ := hx0.form
  have H0 := Lib.hid fun w1 (hB : Below w.heap.size w w1) => rcheck_any p _ V w1 (hx0.mono hB) hl
  unfold rpatE rpatL
  by_cases h : checkR p V = 0
  · have hc0 : ¬ (checkR p V ≠ 0) := by simpa using h
    simp only [if_neg hc0]
    rw [h] at H0
    obtain ⟨n, rfl, hV⟩ := cond_row h
    clear hc0 h
    rw [show ((n : Nat) : Int).toNat = n by omega]
    have H1 := Lib.hid fun w1 (hB : Below w.heap.size w w1) => patternof_any n _ V w1 (hx0.mono hB) hV
    have hnil : (patOf n V).isSome = false → patOfL n V = [] := by
      intro h; unfold patOfL; cases hp : patOf n V with
      | none => rfl
      | some t => rw [hp] at h; cases h
    generalize (patOf n V).isSome = s at *
    have HNIL := Lib.hid hnil; clear hnil
    cases s
    · rw [if_neg (by simp)]
      go_enter Try.func24, Try.ntmps24
      go_wp2_with fail
      refine (H0.out _ (bal (bz _) _)).mono ?_
      rintro e w2 ⟨rfl, hB2⟩
      have hB3 : Below w.heap.size w w2 := btr (bal (bz _) _) hB2
      have c0 : w2.cell? ⟨w.heap.size, 0, none⟩ = some (.int .i64 n) := (hB2.cell (by simp)).trans (cnew rfl rfl)
      have c1 : w2.cell? ⟨w.heap.size, 1, none⟩ = some (.slice a V.length ca) := (hB2.cell (by simp)).trans (cnew rfl rfl)
      go_wp2_with fail
      refine (H1.out _ hB3).mono ?_
      rintro e w3 ⟨v, rfl, _, hB4⟩
      go_wp2
      go_ret2
      exact ⟨.slice none 0 0, rfl, by have h := HNIL.out; simp only [forall_const] at h; rw [h]; exact rdI_nil _ _, btr hB3 hB4⟩
    · rw [if_pos rfl]
      go_enter Try.func24, Try.ntmps24
      go_wp2_with fail
      refine (H0.out _ (bal (bz _) _)).mono ?_
      rintro e w2 ⟨rfl, hB2⟩
      have hB3 : Below w.heap.size w w2 := btr (bal (bz _) _) hB2
      have c0 : w2.cell? ⟨w.heap.size, 0, none⟩ = some (.int .i64 n) := (hB2.cell (by simp)).trans (cnew rfl rfl)
      have c1 : w2.cell? ⟨w.heap.size, 1, none⟩ = some (.slice a V.length ca) := (hB2.cell (by simp)).trans (cnew rfl rfl)
      go_wp2_with fail
      refine (H1.out _ hB3).mono ?_
      rintro e w3 ⟨v, rfl, hrd, hB4⟩
      have HRD := Lib.hid hrd; clear hrd
      go_wp2
      go_ret2
      exact ⟨v, rfl, HRD.out, btr hB3 hB4⟩
  · simp only [if_pos (show checkR p V ≠ 0 from h)]
    generalize checkR p V = c at *
    have e0 : (c != 0) = true := by simpa using h
    clear h
    go_enter Try.func24, Try.ntmps24
    go_wp2_with fail
    refine (H0.out _ (bal (bz _) _)).mono ?_
    rintro e w2 ⟨rfl, hB2⟩
    have hB3 : Below w.heap.size w w2 := btr (bal (bz _) _) hB2
    have c0 : w2.cell? ⟨w.heap.size, 0, none⟩ = some (.int .i64 p) := (hB2.cell (by simp)).trans (cnew rfl rfl)
    have c1 : w2.cell? ⟨w.heap.size, 1, none⟩ = some (.slice a V.length ca) := (hB2.cell (by simp)).trans (cnew rfl rfl)
    go_wp2_with fail
    refine (H0.out _ hB3).mono ?_
    rintro e w3 ⟨rfl, hB4⟩
    go_wp2
    go_ret2
    exact ⟨_, rfl, rdI_nil _ _, btr hB3 hB4⟩
end Go.Proofs.Ytdnaipiiponhpaa
