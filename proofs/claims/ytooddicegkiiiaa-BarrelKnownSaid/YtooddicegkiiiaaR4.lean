/- The document's First, Next. -/
import Derived.Test.YtooddicegkiiiaaR3
import Derived.Test.YtooddicegkiiiaaX6
namespace Go.Proofs.Ytooddicegkiiiaa
open Go.RowKit Go.Shelf

theorem jbd {V : List (Int × Int)} (hV : OkV V) (h5 : V.length ≤ 5) : (jO V = true → 0 ≤ jA V ∧ jA V < jB V ∧ jB V ≤ 320000000000) ∧ (jO V = false → jA V = 0 ∧ jB V = 0) :=
  ⟨fun h => ⟨(j_true hV h).t0, (j_true hV h).tp, (j_true hV h).le hV h5⟩, fun h => ⟨(j_false hV h).2.1, (j_false hV h).2.2⟩⟩
set_option maxRecDepth 100000 in
set_option maxHeartbeats 1000000 in
theorem rfirst_any (x : Value) (V : List (Int × Int)) (w : World) (hx0 : RdP w x V) (hl : V.length ≤ 1000) :
    Calls Try.prog 26 #[x] w fun e w' => e = .returned (.tuple #[.int .i64 (firstA V), .int .i64 (firstB V), .int .i64 (firstE V)]) ∧ Below w.heap.size w w' := by
  obtain ⟨a, ca, rfl, _, _, _⟩ := hx0.form
  have HK := Lib.hid (fun w' hx => rcheck_any (.slice a V.length ca) V w' hx hl)
  by_cases hc : checkP V = 0
  · have hV := okPins_of hc
    have e1 : firstA V = jA V := by unfold firstA; rw [if_neg (by simpa using hc)]
    have e2 : firstB V = jB V := by unfold firstB; rw [if_neg (by simpa using hc)]
    have e3 : firstE V = if jO V then 0 else 21 := by unfold firstE; rw [if_neg (by simpa using hc)]
    rw [e1, e2, e3]; clear e1 e2 e3
    have HJ := Lib.hid (fun w' hx => rjoin_any (.slice a V.length ca) V w' hx hV.v hV.l5)
    have HN := Lib.hid (jbd hV.v hV.l5).2
    rw [hc] at HK
    clear hc
    generalize jO V = o at *
    generalize jA V = A at *
    generalize jB V = B at *
    go_enter Try.func26, Try.ntmps26
    go_wp2_with fail
    refine (HK.out _ hx0).mono ?_
    rintro e w2 ⟨rfl, hB2⟩
    go_wp2_with fail
    refine (HJ.out _ (hx0.mono hB2)).mono ?_
    rintro e w3 ⟨rfl, hB3⟩
    cases o
    · obtain ⟨h1, h2⟩ := HN.out rfl
      subst h1; subst h2
      go_wp2_with fail
      go_ret3
      exact ⟨rfl, btr hB2 hB3⟩
    · go_wp2_with fail
      go_ret3
      exact ⟨rfl, btr hB2 hB3⟩
  · have e1 : firstA V = 0 := by unfold firstA; rw [if_pos (by simpa using hc)]
    have e2 : firstB V = 0 := by unfold firstB; rw [if_pos (by simpa using hc)]
    have e3 : firstE V = checkP V := by unfold firstE; rw [if_pos (by simpa using hc)]
    rw [e1, e2, e3]; clear e1 e2 e3
    have hcb : (checkP V != 0) = true := by simpa using hc
    have hce : (checkP V == 0) = false := by simpa using hc
    clear hc
    generalize checkP V = q at *
    go_enter Try.func26, Try.ntmps26
    go_wp2_with fail
    refine (HK.out _ hx0).mono ?_
    rintro e w2 ⟨rfl, hB2⟩
    go_wp2_with fail
    refine (HK.out _ (hx0.mono hB2)).mono ?_
    rintro e w3 ⟨rfl, hB3⟩
    go_wp2_with fail
    go_ret3
    exact ⟨rfl, btr hB2 hB3⟩

theorem openE_no {V : List (Int × Int)} (T : List Int) (h : checkP V ≠ 0) : openE V T = checkP V := by unfold openE; rw [if_pos h]
theorem openE_ok {V : List (Int × Int)} (T : List Int) (h : checkP V = 0) : openE V T = if T.any (outB 0 1000000000000) then 3 else 0 := by unfold openE; rw [if_neg (by simpa using h)]

set_option maxRecDepth 100000 in
set_option maxHeartbeats 1000000 in
theorem rnext_any (x : Value) (V : List (Int × Int)) (f : Int) (w : World) (hx0 : RdP w x V) (hl : V.length ≤ 1000) :
    Calls Try.prog 28 #[x, .int .i64 f] w fun e w' => e = .returned (.tuple #[.int .i64 (nextN V f), .int .i64 (nextE V f)]) ∧ Below w.heap.size w w' := by
  obtain ⟨a, ca, rfl, _, _, _⟩ := hx0.form
  have HK := Lib.hid (fun w' hx => rcheck_any (.slice a V.length ca) V w' hx hl)
  have HT := Lib.hid istime_any
  by_cases hc : checkP V = 0
  · have hV := okPins_of hc
    have hop := openE_ok [f] hc
    simp only [List.any_cons, List.any_nil, Bool.or_false] at hop
    have HT0 := Lib.hid (istime_any f)
    rw [hc] at HK
    cases ho : outB 0 1000000000000 f
    · rw [ho] at hop HT0
      simp only [Bool.false_eq_true, if_false] at hop
      have e1 : nextN V f = (nxO (jA V) (jB V) (jO V) f).1 := by unfold nextN; rw [if_pos hop]
      have e2 : nextE V f = (nxO (jA V) (jB V) (jO V) f).2 := by unfold nextE; rw [if_pos hop]
      rw [e1, e2]; clear e1 e2
      have hft : 0 ≤ f ∧ f ≤ 1000000000000 := by simp [outB] at ho; omega
      obtain ⟨f0, f1⟩ := hft
      have HJ := Lib.hid (fun w' hx => rjoin_any (.slice a V.length ca) V w' hx hV.v hV.l5)
      have hbd := (jbd hV.v hV.l5).1
      clear hc hop ho hV
      generalize jO V = o at *
      generalize jA V = A at *
      generalize jB V = B at *
      cases o
      · clear hbd
        go_enter Try.func28, Try.ntmps28
        go_wp2_with fail
        refine (HK.out _ hx0).mono ?_
        rintro e w2 ⟨rfl, hB2⟩
        go_wp2_with fail
        refine (HT0.out _).mono ?_
        rintro e w2 ⟨rfl, rfl⟩
        go_wp2_with fail
        refine (HJ.out _ (hx0.mono hB2)).mono ?_
        rintro e w3 ⟨rfl, hB3⟩
        go_wp2_with fail
        go_ret2
        exact ⟨rfl, btr hB2 hB3⟩
      · obtain ⟨a0, a1, a2⟩ := hbd rfl
        clear hbd
        have hT3 := fun w' => istime_any (nextF A B f) w'
        have hnx : nxO A B true f = if 1000000000000 < nextF A B f then (0, 4) else (nextF A B f, 0) := rfl
        generalize nxO A B true f = nx at *
        have n0 : 0 ≤ nextF A B f := by
          unfold nextF
          split
          · have : 0 ≤ (f - A + B - 1) / B * B := Int.mul_nonneg (Int.ediv_nonneg (by omega) (by omega)) (by omega)
            omega
          · omega
        have hdo : outB 0 1000000000000 (nextF A B f) = decide (1000000000000 < nextF A B f) := by
          simp only [outB]
          exact decide_eq_decide.2 ⟨fun h => by omega, fun h => by omega⟩
        rw [hdo] at hT3
        clear hdo
        by_cases hlt : A < f
        · have hnf : nextF A B f = A + (f - A + B - 1) / B * B := by unfold nextF; rw [if_pos hlt]
          have q0 : 0 ≤ (f - A + B - 1) / B := Int.ediv_nonneg (by omega) (by omega)
          have q1 : (f - A + B - 1) / B ≤ f - A + B - 1 := Int.ediv_le_self _ (by omega)
          have q2 : 0 ≤ (f - A + B - 1) / B * B := Int.mul_nonneg q0 (by omega)
          have q3 : (f - A + B - 1) / B * B ≤ f - A + B - 1 := Int.ediv_mul_le _ (by omega)
          have w1 : IntKind.i64.wrap (f - A) = f - A := IntWalk.i64_in _ (by omega)
          have w2 : IntKind.i64.wrap (f - A + B) = f - A + B := IntWalk.i64_in _ (by omega)
          have w3 : IntKind.i64.wrap (f - A + B - 1) = f - A + B - 1 := IntWalk.i64_in _ (by omega)
          have w4 : IntKind.i64.wrap ((f - A + B - 1).tdiv B) = (f - A + B - 1) / B := by rw [Int.tdiv_eq_ediv_of_nonneg (by omega)]; exact IntWalk.i64_in _ (by omega)
          have w5 : IntKind.i64.wrap ((f - A + B - 1) / B * B) = (f - A + B - 1) / B * B := IntWalk.i64_in _ (by omega)
          have w6 : IntKind.i64.wrap (A + (f - A + B - 1) / B * B) = A + (f - A + B - 1) / B * B := IntWalk.i64_in _ (by omega)
          rw [hnf] at hT3 n0 hnx
          clear hnf q0 q1 q2 q3
          have HT3 := Lib.hid hT3; have HNX := Lib.hid hnx; clear hT3 hnx
          generalize hq : (f - A + B - 1) / B * B = q at *
          have hbb : ((B : Int) == 0) = false := by rw [beq_eq_false_iff_ne]; omega
          go_enter Try.func28, Try.ntmps28
          go_wp2_with fail
          refine (HK.out _ hx0).mono ?_
          rintro e w2 ⟨rfl, hB2⟩
          go_wp2_with fail
          refine (HT0.out _).mono ?_
          rintro e w2 ⟨rfl, rfl⟩
          go_wp2_with fail
          refine (HJ.out _ (hx0.mono hB2)).mono ?_
          rintro e w3 ⟨rfl, hB3⟩
          go_wp2_with fail
          refine (HT3.out _).mono ?_
          rintro e w2 ⟨rfl, rfl⟩
          by_cases ht : 1000000000000 < A + q
          · rw [show decide (1000000000000 < A + q) = true from decide_eq_true ht]
            go_wp2_with fail
            go_ret2
            exact ⟨by have h := HNX.out; rw [if_pos ht] at h; rw [h]; rfl, btr hB2 hB3⟩
          · rw [show decide (1000000000000 < A + q) = false from decide_eq_false ht]
            go_wp2_with fail
            go_ret2
            exact ⟨by have h := HNX.out; rw [if_neg (Int.not_lt.2 ht)] at h; rw [h]; rfl, btr hB2 hB3⟩
        · have hnf : nextF A B f = A := by unfold nextF; rw [if_neg hlt]
          rw [hnf] at hT3 n0 hnx
          clear hnf
          have HT3 := Lib.hid hT3; have HNX := Lib.hid hnx; clear hT3 hnx
          go_enter Try.func28, Try.ntmps28
          go_wp2_with fail
          refine (HK.out _ hx0).mono ?_
          rintro e w2 ⟨rfl, hB2⟩
          go_wp2_with fail
          refine (HT0.out _).mono ?_
          rintro e w2 ⟨rfl, rfl⟩
          go_wp2_with fail
          refine (HJ.out _ (hx0.mono hB2)).mono ?_
          rintro e w3 ⟨rfl, hB3⟩
          go_wp2_with fail
          refine (HT3.out _).mono ?_
          rintro e w2 ⟨rfl, rfl⟩
          by_cases ht : 1000000000000 < A
          · rw [show decide (1000000000000 < A) = true from decide_eq_true ht]
            go_wp2_with fail
            go_ret2
            exact ⟨by have h := HNX.out; rw [if_pos ht] at h; rw [h]; rfl, btr hB2 hB3⟩
          · rw [show decide (1000000000000 < A) = false from decide_eq_false ht]
            go_wp2_with fail
            go_ret2
            exact ⟨by have h := HNX.out; rw [if_neg (Int.not_lt.2 ht)] at h; rw [h]; rfl, btr hB2 hB3⟩
    · rw [ho] at hop HT0
      simp only [if_true] at hop
      have e1 : nextN V f = 0 := by unfold nextN; rw [if_neg (by rw [hop]; decide)]
      have e2 : nextE V f = 3 := by unfold nextE; rw [if_neg (by rw [hop]; decide), hop]
      rw [e1, e2]; clear e1 e2 hop ho hc
      go_enter Try.func28, Try.ntmps28
      go_wp2_with fail
      refine (HK.out _ hx0).mono ?_
      rintro e w2 ⟨rfl, hB2⟩
      go_wp2_with fail
      refine (HT0.out _).mono ?_
      rintro e w2 ⟨rfl, rfl⟩
      go_wp2_with fail
      go_ret2
      exact ⟨rfl, hB2⟩
  · have hop := openE_no [f] hc
    have e1 : nextN V f = 0 := by unfold nextN; rw [if_neg (by rw [hop]; exact hc)]
    have e2 : nextE V f = checkP V := by unfold nextE; rw [if_neg (by rw [hop]; exact hc), hop]
    rw [e1, e2]; clear e1 e2 hop
    have hcb : (checkP V != 0) = true := by simpa using hc
    have hce : (checkP V == 0) = false := by simpa using hc
    clear hc
    generalize checkP V = q at *
    go_enter Try.func28, Try.ntmps28
    go_wp2_with fail
    refine (HK.out _ hx0).mono ?_
    rintro e w2 ⟨rfl, hB2⟩
    go_wp2_with fail
    refine (HK.out _ (hx0.mono hB2)).mono ?_
    rintro e w3 ⟨rfl, hB3⟩
    go_wp2_with fail
    go_ret2
    exact ⟨rfl, btr hB2 hB3⟩
end Go.Proofs.Ytooddicegkiiiaa
