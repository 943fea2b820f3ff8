/- The document's PatternOf; valid rows. -/
import Derived.Test.YtdnaipiiponhpaaX8
namespace Go.Proofs.Ytdnaipiiponhpaa
open Go.RowKit Go.Shelf

/-- The number of the first pattern that is not sorted. -/
def badB (p : Nat) (V : List (Int × Int)) (t : Nat) : Bool := !sortedB (runV V (bitsOf p t))
def patOf (p : Nat) (V : List (Int × Int)) : Option Nat := (List.range (2 ^ p)).find? (badB p V)
def patOfL (p : Nat) (V : List (Int × Int)) : List Int := match patOf p V with | some t => bitsOf p t | none => []

set_option maxRecDepth 100000 in
set_option maxHeartbeats 1000000 in
theorem patternof_any (p : Nat) (x : Value) (V : List (Int × Int)) (w : World) (hx0 : RdP w x V) (hV : OkRow p V) :
    Calls Try.prog 66 #[.agg #[.int .i64 p, x]] w fun e w' => ∃ v, e = .returned (.tuple #[v, .bool (patOf p V).isSome]) ∧ RdI w' .i64 v (patOfL p V) ∧ Below w.heap.size w w' := by
  have hp1 := hV.p1; have hp8 := hV.p8; have h40 := hV.len
  obtain ⟨a, ca, rfl, _, _, _⟩ := hx0.form
  have h256 := pow_le_8 p (by omega)
  obtain ⟨m, hm⟩ : ∃ m, m = 2 ^ p := ⟨_, rfl⟩
  have hwp : wrap64 ((2 : Int) ^ p) = (m : Int) := by
    have e : (2 : Int) ^ p = ((2 ^ p : Nat) : Int) := by simp
    rw [e, ← hm]
    unfold wrap64
    omega
  have HM := Lib.hid hm
  rw [← hm] at h256
  clear hm
  go_enter Try.func66, Try.ntmps66
  go_wp2
  go_loopw [4, 5, 6, 7, 8, 9, 10, 11, 12, 13, 14, 15, 16, 17, 18, 19, 20, 21, 22, 23, 24] (fun i _ _ _ _ _ _ _ _ _ _ _ _ _ _ _ _ _ _ _ _ wr => ∃ t : Nat, t ≤ m ∧ i = .int .i64 t ∧ Below w.heap.size w wr ∧ w.heap.size < wr.heap.size ∧ wr.cell? ⟨w.heap.size, 0, none⟩ = some (.int .i64 p) ∧ wr.cell? ⟨w.heap.size, 1, none⟩ = some (.slice a V.length ca) ∧ ∀ s, s < t → badB p V s = false)
    (fun i _ _ _ _ _ _ _ _ _ _ _ _ _ _ _ _ _ _ _ _ _ => m - (intOf i).toNat)
  case atStart => exact ⟨0, Nat.zero_le _, rfl, bal (bz _) _, by simp, cnew rfl rfl, cnew rfl rfl, by intro s h; omega⟩
  case round =>
    obtain ⟨t, ht, rfl, hB, hz, c0, c1, hall⟩ := hrel
    have HA := Lib.hid hall; clear hall
    by_cases htp : t < m
    · go_wp2_with fail
      refine (patterned_any p t wr (by omega) (by omega)).mono ?_
      rintro e w2 ⟨v, rfl, hown, hB2⟩
      have hB3 : Below w.heap.size w w2 := btr hB hB2
      have d0 := (hB2.cell (p := ⟨w.heap.size, 0, none⟩) hz).trans c0
      have d1 := (hB2.cell (p := ⟨w.heap.size, 1, none⟩) hz).trans c1
      have hbl : (bitsOf p t).length = p := by simp [bitsOf]
      have hrd : RdI w2 .i64 v (bitsOf p t) := RdI.of_owns hown
      have HRD := Lib.hid hrd
      have hz2 := hB2.size
      clear hown c0 c1 hrd
      go_wp2_with fail
      refine (runof_any _ _ V (bitsOf p t) w2 (hx0.mono hB3) HRD.out (by omega) (by omega) (by omega) (fun v hv => by obtain ⟨h1, h2, h3⟩ := hV.ok v hv; omega)).mono ?_
      rintro e w3 ⟨v3, rfl, hown3, hB4⟩
      have hrd3 : RdI w3 .i64 v3 (runV V (bitsOf p t)) := RdI.of_owns hown3
      have hlr : (runV V (bitsOf p t)).length = p := by rw [runV_length]; exact hbl
      have HRD3 := Lib.hid hrd3
      clear hown3 hrd3
      go_wp2_with fail
      refine (sorted_any _ _ w3 HRD3.out (by omega)).mono ?_
      rintro e w4 ⟨rfl, hB5⟩
      have hB6 : Below w.heap.size w w4 := btr (btr hB3 hB4) hB5
      have hB7 : Below w2.heap.size w2 w4 := btr hB4 hB5
      have g0 := (hB7.cell (p := ⟨w.heap.size, 0, none⟩) (by simp; omega)).trans d0
      have g1 := (hB7.cell (p := ⟨w.heap.size, 1, none⟩) (by simp; omega)).trans d1
      have hz7 := hB7.size
      have hbad : badB p V t = !sortedB (runV V (bitsOf p t)) := rfl
      generalize sortedB (runV V (bitsOf p t)) = s at *
      have HBAD := Lib.hid hbad; clear hbad
      have HRD4 := Lib.hid (HRD.out.mono hB7)
      cases s
      · have hpo : patOf p V = some t := by
          unfold patOf
          rw [← HM.out, List.find?_range_eq_some]
          exact ⟨HBAD.out, by simpa using htp, fun s hs => by rw [HA.out s hs]; rfl⟩
        have HPO := Lib.hid hpo; clear hpo
        go_wp2_with fail
        refine (rints_any _ _ w4 HRD4.out (by omega)).mono ?_
        rintro e w5 ⟨v5, rfl, hown5, hB8⟩
        have HO5 := Lib.hid hown5; clear hown5
        go_wp2
        go_ret2
        refine ⟨v5, by rw [HPO.out]; rfl, ?_, btr hB6 hB8⟩
        unfold patOfL
        rw [HPO.out]
        exact RdI.of_owns HO5.out
      · go_wp2
        refine ⟨⟨t + 1, by omega, by simp, hB6, by omega, g0, g1, fun s hs => ?_⟩, by simp [intOf]; omega⟩
        by_cases e : s = t
        · subst e; exact HBAD.out
        · exact HA.out s (by omega)
    · have hpo : patOf p V = none := by
        unfold patOf
        rw [List.find?_eq_none]
        intro s hs
        rw [List.mem_range, ← HM.out] at hs
        rw [HA.out s (by omega)]
        simp
      have HPO := Lib.hid hpo; clear hpo
      go_wp2
      go_ret2
      refine ⟨.slice none 0 0, by rw [HPO.out]; rfl, ?_, hB⟩
      unfold patOfL
      rw [HPO.out]
      exact rdI_nil _ _
end Go.Proofs.Ytdnaipiiponhpaa
