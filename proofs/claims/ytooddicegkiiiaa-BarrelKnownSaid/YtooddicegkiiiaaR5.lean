/- The document's Count. -/
import Derived.Test.YtooddicegkiiiaaR4
namespace Go.Proofs.Ytooddicegkiiiaa
open Go.RowKit Go.Shelf

/-- What below returns. -/
def blwN (A B : Int) (o : Bool) (t : Int) : Int := if o = false ∨ t ≤ A then 0 else (t - A + B - 1) / B
set_option maxRecDepth 100000 in
set_option maxHeartbeats 1000000 in
theorem below_any (x : Value) (V : List (Int × Int)) (t : Int) (w : World) (hx0 : RdP w x V) (hV : OkV V) (hl : V.length ≤ 5) (t0 : 0 ≤ t) (t1 : t ≤ 1000000000001) :
    Calls Try.prog 65 #[x, .int .i64 t] w fun e w' => e = .returned (.int .i64 (blwN (jA V) (jB V) (jO V) t)) ∧ Below w.heap.size w w' := by
  obtain ⟨a, ca, rfl, _, _, _⟩ := hx0.form
  have HJ := Lib.hid (fun w' hx => rjoin_any (.slice a V.length ca) V w' hx hV hl)
  have hbd := (jbd hV hl).1
  generalize jO V = o at *
  generalize jA V = A at *
  generalize jB V = B at *
  cases o
  · rw [show blwN A B false t = 0 from by simp [blwN]]
    clear hbd
    go_enter Try.func65, Try.ntmps65
    go_wp2_with fail
    refine (HJ.out _ hx0).mono ?_
    rintro e w3 ⟨rfl, hB3⟩
    go_wp2_with fail
    go_ret
    exact ⟨rfl, hB3⟩
  · obtain ⟨a0, a1, a2⟩ := hbd rfl
    clear hbd
    by_cases ht : t ≤ A
    · rw [show blwN A B true t = 0 from by unfold blwN; rw [if_pos (.inr ht)]]
      go_enter Try.func65, Try.ntmps65
      go_wp2_with fail
      refine (HJ.out _ hx0).mono ?_
      rintro e w3 ⟨rfl, hB3⟩
      go_wp2_with fail
      go_ret
      exact ⟨rfl, hB3⟩
    · rw [show blwN A B true t = (t - A + B - 1) / B from by unfold blwN; rw [if_neg (by simp; omega)]]
      have q0 : 0 ≤ (t - A + B - 1) / B := Int.ediv_nonneg (by omega) (by omega)
      have q1 : (t - A + B - 1) / B ≤ t - A + B - 1 := Int.ediv_le_self _ (by omega)
      have w1 : IntKind.i64.wrap (t - A) = t - A := IntWalk.i64_in _ (by omega)
      have w2 : IntKind.i64.wrap (t - A + B) = t - A + B := IntWalk.i64_in _ (by omega)
      have w3 : IntKind.i64.wrap (t - A + B - 1) = t - A + B - 1 := IntWalk.i64_in _ (by omega)
      have w4 : IntKind.i64.wrap ((t - A + B - 1).tdiv B) = (t - A + B - 1) / B := by rw [Int.tdiv_eq_ediv_of_nonneg (by omega)]; exact IntWalk.i64_in _ (by omega)
      clear q0 q1
      generalize hq : (t - A + B - 1) / B = q at *
      have hbb : ((B : Int) == 0) = false := by rw [beq_eq_false_iff_ne]; omega
      go_enter Try.func65, Try.ntmps65
      go_wp2_with fail
      refine (HJ.out _ hx0).mono ?_
      rintro e w3 ⟨rfl, hB3⟩
      go_wp2_with fail
      go_ret
      exact ⟨rfl, hB3⟩
/-- The times counted from the first one on, and the ones below. -/
theorem below_count {A B : Int} {o : Bool} {f t : Int} (hA : o = true → 0 ≤ A ∧ A < B) (hft : f ≤ t) : blwN A B o (t + 1) - blwN A B o f = cntN A B o f t := by
  cases o
  · simp [blwN, cntN]
  · obtain ⟨a0, a1⟩ := hA rfl
    have e : ∀ x : Int, (x - A + B - 1) / B = (x - 1 - A) / B + 1 := fun x => by
      rw [show x - A + B - 1 = (x - 1 - A) + B by omega, Int.add_ediv_of_dvd_right ⟨1, by omega⟩, Int.ediv_self (by omega)]
    unfold blwN cntN
    simp only [Bool.true_eq_false, false_or]
    rw [e, e, show t + 1 - 1 - A = t - A by omega]
    split <;> split <;> split <;> omega
theorem blwN_bd {A B : Int} {o : Bool} {t : Int} (hA : o = true → 0 ≤ A ∧ A < B) (t0 : 0 ≤ t) (t1 : t ≤ 1000000000001) : 0 ≤ blwN A B o t ∧ blwN A B o t ≤ 1000000000001 := by
  cases o
  · simp [blwN]
  · obtain ⟨a0, a1⟩ := hA rfl
    unfold blwN
    split
    · omega
    · rename_i h
      simp at h
      have e : (t - A + B - 1) / B = (t - 1 - A) / B + 1 := by
        rw [show t - A + B - 1 = (t - 1 - A) + B by omega, Int.add_ediv_of_dvd_right ⟨1, by omega⟩, Int.ediv_self (by omega)]
      have q0 : 0 ≤ (t - 1 - A) / B := Int.ediv_nonneg (by omega) (by omega)
      have q1 : (t - 1 - A) / B ≤ t - 1 - A := Int.ediv_le_self _ (by omega)
      omega

set_option maxRecDepth 100000 in
set_option maxHeartbeats 1000000 in
theorem rcount_any (x : Value) (V : List (Int × Int)) (f t : Int) (w : World) (hx0 : RdP w x V) (hl : V.length ≤ 1000) :
    Calls Try.prog 30 #[x, .int .i64 f, .int .i64 t] w fun e w' => e = .returned (.tuple #[.int .i64 (countN V f t), .int .i64 (countE V f t)]) ∧ Below w.heap.size w w' := by
  obtain ⟨a, ca, rfl, _, _, _⟩ := hx0.form
  have HK := Lib.hid (fun w' hx => rcheck_any (.slice a V.length ca) V w' hx hl)
  have HTf := Lib.hid (istime_any f)
  have HTt := Lib.hid (istime_any t)
  by_cases hc : checkP V = 0
  · have hV := okPins_of hc
    have hop := openE_ok [f, t] hc
    simp only [List.any_cons, List.any_nil, Bool.or_false] at hop
    rw [hc] at HK
    cases ho : outB 0 1000000000000 f
    · cases ho2 : outB 0 1000000000000 t
      · rw [ho, ho2] at hop
        simp only [Bool.false_eq_true, if_false, Bool.or_self] at hop
        have e1 : countN V f t = if t < f then 0 else cntN (jA V) (jB V) (jO V) f t := by unfold countN; rw [if_neg (by simpa using hop)]
        have e2 : countE V f t = if t < f then 2 else 0 := by unfold countE; rw [if_neg (by simpa using hop)]
        rw [e1, e2]; clear e1 e2
        rw [ho] at HTf
        rw [ho2] at HTt
        have hft : 0 ≤ f ∧ f ≤ 1000000000000 ∧ 0 ≤ t ∧ t ≤ 1000000000000 := by simp [outB] at ho ho2; omega
        obtain ⟨f0, f1, t0, t1⟩ := hft
        clear hc hop ho ho2
        by_cases hlt : t < f
        · rw [if_pos hlt, if_pos hlt]
          go_enter Try.func30, Try.ntmps30
          go_wp2_with fail
          refine (HK.out _ hx0).mono ?_
          rintro e w2 ⟨rfl, hB2⟩
          go_wp2_with fail
          refine (HTf.out _).mono ?_
          rintro e w2 ⟨rfl, rfl⟩
          go_wp2_with fail
          refine (HTt.out _).mono ?_
          rintro e w2 ⟨rfl, rfl⟩
          go_wp2_with fail
          go_ret2
          exact ⟨rfl, hB2⟩
        · rw [if_neg hlt, if_neg hlt]
          have hbd := (jbd hV.v hV.l5).1
          have hA : jO V = true → 0 ≤ jA V ∧ jA V < jB V := fun h => ⟨(hbd h).1, (hbd h).2.1⟩
          have HBC := Lib.hid (below_count hA (show f ≤ t by omega))
          have HB1 := Lib.hid (fun w' hx => below_any (.slice a V.length ca) V (t + 1) w' hx hV.v hV.l5 (by omega) (by omega))
          have HB2 := Lib.hid (fun w' hx => below_any (.slice a V.length ca) V f w' hx hV.v hV.l5 (by omega) (by omega))
          obtain ⟨b1, b2⟩ := blwN_bd hA (show 0 ≤ t + 1 by omega) (by omega)
          obtain ⟨b3, b4⟩ := blwN_bd hA (show 0 ≤ f by omega) (by omega)
          have w1 : IntKind.i64.wrap (t + 1) = t + 1 := IntWalk.i64_in _ (by omega)
          clear hbd hA
          generalize blwN (jA V) (jB V) (jO V) (t + 1) = p at *
          generalize blwN (jA V) (jB V) (jO V) f = q at *
          generalize cntN (jA V) (jB V) (jO V) f t = r at *
          have w2 : IntKind.i64.wrap (p - q) = p - q := IntWalk.i64_in _ (by omega)
          go_enter Try.func30, Try.ntmps30
          go_wp2_with fail
          refine (HK.out _ hx0).mono ?_
          rintro e w2 ⟨rfl, hB2⟩
          go_wp2_with fail
          refine (HTf.out _).mono ?_
          rintro e w2 ⟨rfl, rfl⟩
          go_wp2_with fail
          refine (HTt.out _).mono ?_
          rintro e w2 ⟨rfl, rfl⟩
          go_wp2_with fail
          refine (HB1.out _ (hx0.mono hB2)).mono ?_
          rintro e w3 ⟨rfl, hB3⟩
          go_wp2_with fail
          refine (HB2.out _ (hx0.mono (btr hB2 hB3))).mono ?_
          rintro e w4 ⟨rfl, hB4⟩
          go_wp2_with fail
          go_ret2
          exact ⟨by rw [HBC.out]; rfl, btr hB2 (btr hB3 hB4)⟩
      · rw [ho, ho2] at hop
        simp only [if_true, Bool.false_or] at hop
        rw [ho] at HTf
        rw [ho2] at HTt
        have e1 : countN V f t = 0 := by unfold countN; rw [if_pos (by rw [hop]; decide)]
        have e2 : countE V f t = 3 := by unfold countE; rw [if_pos (by rw [hop]; decide), hop]
        rw [e1, e2]; clear e1 e2 hop ho ho2 hc
        go_enter Try.func30, Try.ntmps30
        go_wp2_with fail
        refine (HK.out _ hx0).mono ?_
        rintro e w2 ⟨rfl, hB2⟩
        go_wp2_with fail
        refine (HTf.out _).mono ?_
        rintro e w2 ⟨rfl, rfl⟩
        go_wp2_with fail
        refine (HTt.out _).mono ?_
        rintro e w2 ⟨rfl, rfl⟩
        go_wp2_with fail
        go_ret2
        exact ⟨rfl, hB2⟩
    · rw [ho] at hop
      simp only [if_true, Bool.true_or] at hop
      rw [ho] at HTf
      have e1 : countN V f t = 0 := by unfold countN; rw [if_pos (by rw [hop]; decide)]
      have e2 : countE V f t = 3 := by unfold countE; rw [if_pos (by rw [hop]; decide), hop]
      rw [e1, e2]; clear e1 e2 hop ho hc
      go_enter Try.func30, Try.ntmps30
      go_wp2_with fail
      refine (HK.out _ hx0).mono ?_
      rintro e w2 ⟨rfl, hB2⟩
      go_wp2_with fail
      refine (HTf.out _).mono ?_
      rintro e w2 ⟨rfl, rfl⟩
      go_wp2_with fail
      go_ret2
      exact ⟨rfl, hB2⟩
  · have hop := openE_no [f, t] hc
    have e1 : countN V f t = 0 := by unfold countN; rw [if_pos (by rw [hop]; exact hc)]
    have e2 : countE V f t = checkP V := by unfold countE; rw [if_pos (by rw [hop]; exact hc), hop]
    rw [e1, e2]; clear e1 e2 hop
    have hcb : (checkP V != 0) = true := by simpa using hc
    have hce : (checkP V == 0) = false := by simpa using hc
    clear hc
    generalize checkP V = q at *
    go_enter Try.func30, Try.ntmps30
    go_wp2_with fail
    refine (HK.out _ hx0).mono ?_
    rintro e w2 ⟨rfl, hB2⟩
    go_wp2_with fail
    refine (HK.out _ (hx0.mono hB2)).mono ?_
    rintro e w3 ⟨rfl, hB3⟩
    go_wp2_with fail
    go_ret2
    exact ⟨rfl, btr hB2 hB3⟩
end Go.Proofs.Ytooddicegkiiiaa
