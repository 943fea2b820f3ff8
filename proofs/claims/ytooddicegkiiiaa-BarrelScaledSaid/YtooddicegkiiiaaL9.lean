/- BarrelWhen holds; no condition. -/
import Derived.Test.YtooddicegkiiiaaL9a
namespace Go.Proofs.Ytooddicegkiiiaa
open Go.RowKit Go.Shelf

set_option maxRecDepth 100000 in
set_option maxHeartbeats 16000000 in
theorem when_near (x : Value) (V : List (Int × Int)) (n z : Int) (w : World) (hx : RdP w x V) (h0 : 0 ≤ n) (h1 : n < 18446744073709551616) (z0 : 0 ≤ z) (z1 : z ≤ 255) (hz : 0 < z) :
    Calls Try.prog 9 #[x, .int .u64 n, .int .u8 z] w fun e w' => e = .returned (.bool true) ∧ Below w.heap.size w w' := by
  obtain ⟨a, c, rfl⟩ := hx.ex _ rfl
  have CW := Lib.hid (fun wz (hB : Below w.heap.size w wz) => works_any wz)
  have CF := Lib.hid (fun wz (hB : Below w.heap.size w wz) => fine_any _ V wz (hx.mono hB))
  by_cases hc : checkP V = 0
  · rw [hc] at CF
    have hV := okPins_of hc
    have h5 := hV.l5
    have HT := Lib.hid (fun w1 => timed_any n w1 h0 h1)
    have t0 : 0 ≤ n % 1000000000001 := by omega
    have t1 : n % 1000000000001 ≤ 1000000000000 := by omega
    generalize n % 1000000000001 = T at *
    have CT := Lib.hid (fun wz (hB : Below w.heap.size w wz) => together_ok _ V wz (hx.mono hB) hc)
    cases ho : jO V
    · rw [ho] at CT
      have CN := Lib.hid (fun wz (hB : Below w.heap.size w wz) => next_any _ V T wz (hx.mono hB) (by omega))
      rw [(next_ok hc t0 t1).1, (next_ok hc t0 t1).2, ho] at CN
      unfold nxO at CN
      simp only [Bool.false_eq_true, if_false] at CN
      generalize jA V = A at *
      generalize jB V = Bp at *
      have KB0 := Lib.hid (bz w)
      go_enter Try.func9, Try.ntmps9
      go_wp2_with fail
      refine (CF.out _ KB0.out).mono ?_
      rintro e w1 ⟨rfl, hk⟩
      have KB1 := Lib.hid (btr KB0.out hk)
      clear KB0 hk
      go_wp2_with fail
      refine (CT.out _ KB1.out).mono ?_
      rintro e w2 ⟨rfl, hk⟩
      have KB2 := Lib.hid (btr KB1.out hk)
      clear KB1 hk
      go_wp2_with fail
      refine (HT.out _).mono ?_
      rintro e w' ⟨rfl, rfl⟩
      go_wp2_with fail
      refine (CN.out _ KB2.out).mono ?_
      rintro e w3 ⟨rfl, hk⟩
      have KB3 := Lib.hid (btr KB2.out hk)
      clear KB2 hk
      go_wp2_with fail
      refine (CW.out _ KB3.out).mono ?_
      rintro e w4 ⟨rfl, hk⟩
      have KB4 := Lib.hid (btr KB3.out hk)
      clear KB3 hk
      go_wp2_with fail
      go_ret
      exact ⟨rfl, KB4.out⟩
    · rw [ho] at CT
      obtain ⟨a0, a1, a2⟩ := (jbd hV.v hV.l5).1 ho
      have HALL := Lib.hid (fun t (ht : 0 ≤ t) => all_iff hV.v ho (t := t) ht)
      have HS := Lib.hid (fun t (ht : 0 ≤ t) (ht1 : t ≤ 1000000000000) wz (hB : Below w.heap.size w wz) => sounds_any _ V t wz (hx.mono hB) (by omega))
      have HN := Lib.hid (fun t (ht : 0 ≤ t) (ht1 : t ≤ 1000000000000) wz (hB : Below w.heap.size w wz) => next_any _ V t wz (hx.mono hB) (by omega))
      have HO := Lib.hid (fun t (ht : 0 ≤ t) (ht1 : t ≤ 1000000000000) => open_time hc ht ht1)
      have HX := Lib.hid (fun t (ht : 0 ≤ t) (ht1 : t ≤ 1000000000000) => next_ok hc ht ht1)
      rw [ho] at HX
      clear ho hc hV hx
      generalize jA V = A at *
      generalize jB V = Bp at *
      have q0 : 0 ≤ T / Bp * Bp := Int.mul_nonneg (Int.ediv_nonneg (by omega) (by omega)) (by omega)
      have q1 : T / Bp * Bp ≤ T := Int.ediv_mul_le _ (by omega)
      have m0 : 0 ≤ z % 3 := by omega
      have m1 : z % 3 ≤ 2 := by omega
      have hz1 : 0 < z := hz
      obtain ⟨Q, hQ⟩ : ∃ Q, T / Bp * Bp = Q := ⟨_, rfl⟩
      have w1 : IntKind.i64.wrap (T / Bp * Bp) = Q := by rw [hQ]; rw [hQ] at q0 q1; exact IntWalk.i64_in _ (by omega)
      rw [hQ] at q0 q1
      obtain ⟨Sm, hS⟩ : ∃ Sm, A + Q = Sm := ⟨_, rfl⟩
      have w2 : IntKind.i64.wrap (A + Q) = Sm := by rw [hS]; exact IntWalk.i64_in _ (by omega)
      obtain ⟨Xm, hX⟩ : ∃ Xm, Sm + z % 3 = Xm := ⟨_, rfl⟩
      have w3 : IntKind.i64.wrap (Sm + z % 3) = Xm := by rw [hX]; exact IntWalk.i64_in _ (by omega)
      have hXA : A ≤ Xm := by omega
      have hz2 : decide (0 < z) = true := decide_eq_true hz1
      clear hQ hS hX q0 q1
      by_cases hXm : Xm < 1000000000000
      · have ht0 : 0 ≤ Xm := by omega
        have ht1 : Xm ≤ 1000000000000 := by omega
        have CS := Lib.hid (HS.out Xm ht0 ht1)
        unfold SndOk at CS
        rw [(HO.out Xm ht0 ht1).1, (HO.out Xm ht0 ht1).2] at CS
        have CN := Lib.hid (HN.out Xm ht0 ht1)
        rw [(HX.out Xm ht0 ht1).1, (HX.out Xm ht0 ht1).2] at CN
        obtain ⟨n1, n2, n3, n4, n5⟩ := next_facts (t := Xm) a0 a1
        have hall := HALL.out Xm ht0
        unfold nxO at CN
        simp only [if_true] at CN
        clear HS HN HO HX HALL
        generalize nextF A Bp Xm = N at *
        generalize sndK V Xm V.length = X at *
        have hB0 : (Bp == 0) = false := by rw [beq_eq_false_iff_ne]; omega
        have hlen : ((X.length : Int) == (V.length : Int)) = (X.length == V.length) := by rw [Bool.eq_iff_iff]; simp; omega
        rcases Int.lt_or_le Xm A with hlt | hle
        · omega
        · have dA : decide (A ≤ Xm) = true := decide_eq_true hle
          rw [dA, Bool.true_and] at hall
          rw [hall] at hlen
          have hd0 := Int.emod_nonneg (Xm - A) (b := Bp) (by omega)
          generalize hr : (Xm - A) % Bp = r at *
          by_cases hr0 : r = 0
          · have hr1 : (r == 0) = true := by simpa using hr0
            rw [hr1] at hall hlen
            clear hr0
            by_cases hov : 1000000000000 < N
            · rw [if_pos hov] at CN
              simp only at CN
              have dt : decide (1000000000000 - Bp < Xm) = true := decide_eq_true (by omega)
              clear n1 n2 n3 n4 n5
              have KB0 := Lib.hid (bz w)
              go_enter Try.func9, Try.ntmps9
              go_wp2_with fail
              refine (CF.out _ KB0.out).mono ?_
              rintro e w1 ⟨rfl, hk⟩
              have KB1 := Lib.hid (btr KB0.out hk)
              clear KB0 hk
              go_wp2_with fail
              refine (CT.out _ KB1.out).mono ?_
              rintro e w2 ⟨rfl, hk⟩
              have KB2 := Lib.hid (btr KB1.out hk)
              clear KB1 hk
              go_wp2_with fail
              refine (HT.out _).mono ?_
              rintro e w' ⟨rfl, rfl⟩
              go_wp2_with fail
              refine (CS.out _ KB2.out).mono ?_
              rintro e w3 ⟨v, rfl, fS, hk⟩
              obtain ⟨aS, cS, hv⟩ := fS.ex _ rfl
              subst hv
              have KB3 := Lib.hid (btr KB2.out hk)
              have HS3 := Lib.hid fS
              clear KB2 fS hk
              go_wp2_with fail
              refine (CN.out _ KB3.out).mono ?_
              rintro e w4 ⟨rfl, hk⟩
              have KB4 := Lib.hid (btr KB3.out hk)
              have HS4 := Lib.hid (HS3.out.mono hk)
              clear KB3 HS3 hk
              go_wp2_with fail
              refine (CW.out _ KB4.out).mono ?_
              rintro e w5 ⟨rfl, hk⟩
              have KB5 := Lib.hid (btr KB4.out hk)
              have HS5 := Lib.hid (HS4.out.mono hk)
              clear KB4 HS4 hk
              go_wp2_with fail
              go_ret
              exact ⟨rfl, KB5.out⟩
            · rw [if_neg hov] at CN
              simp only at CN
              have e1 : decide (Xm ≤ N) = true := decide_eq_true n1
              have e2 : decide (N ≤ 1000000000000) = true := decide_eq_true (by omega)
              have e3 : decide (A ≤ N) = true := decide_eq_true n2
              have e4 : ((N - A) % Bp == 0) = true := by rw [n3]; rfl
              have hN2 : N ≤ 1000000000000 := by omega
              have hN0 : 0 ≤ N := by omega
              clear hov n3
              have e6 : decide (N - Bp < Xm) = true := decide_eq_true (by omega)
              clear n4
              have KB0 := Lib.hid (bz w)
              go_enter Try.func9, Try.ntmps9
              go_wp2_with fail
              refine (CF.out _ KB0.out).mono ?_
              rintro e w1 ⟨rfl, hk⟩
              have KB1 := Lib.hid (btr KB0.out hk)
              clear KB0 hk
              go_wp2_with fail
              refine (CT.out _ KB1.out).mono ?_
              rintro e w2 ⟨rfl, hk⟩
              have KB2 := Lib.hid (btr KB1.out hk)
              clear KB1 hk
              go_wp2_with fail
              refine (HT.out _).mono ?_
              rintro e w' ⟨rfl, rfl⟩
              go_wp2_with fail
              refine (CS.out _ KB2.out).mono ?_
              rintro e w3 ⟨v, rfl, fS, hk⟩
              obtain ⟨aS, cS, hv⟩ := fS.ex _ rfl
              subst hv
              have KB3 := Lib.hid (btr KB2.out hk)
              have HS3 := Lib.hid fS
              clear KB2 fS hk
              go_wp2_with fail
              refine (CN.out _ KB3.out).mono ?_
              rintro e w4 ⟨rfl, hk⟩
              have KB4 := Lib.hid (btr KB3.out hk)
              have HS4 := Lib.hid (HS3.out.mono hk)
              clear KB3 HS3 hk
              go_wp2_with fail
              refine (CW.out _ KB4.out).mono ?_
              rintro e w5 ⟨rfl, hk⟩
              have KB5 := Lib.hid (btr KB4.out hk)
              have HS5 := Lib.hid (HS4.out.mono hk)
              clear KB4 HS4 hk
              go_wp2_with fail
              go_ret
              exact ⟨rfl, KB5.out⟩
          · have hr1 : (r == 0) = false := by simpa using hr0
            rw [hr1] at hall hlen
            clear hr0
            by_cases hov : 1000000000000 < N
            · rw [if_pos hov] at CN
              simp only at CN
              have dt : decide (1000000000000 - Bp < Xm) = true := decide_eq_true (by omega)
              clear n1 n2 n3 n4 n5
              have KB0 := Lib.hid (bz w)
              go_enter Try.func9, Try.ntmps9
              go_wp2_with fail
              refine (CF.out _ KB0.out).mono ?_
              rintro e w1 ⟨rfl, hk⟩
              have KB1 := Lib.hid (btr KB0.out hk)
              clear KB0 hk
              go_wp2_with fail
              refine (CT.out _ KB1.out).mono ?_
              rintro e w2 ⟨rfl, hk⟩
              have KB2 := Lib.hid (btr KB1.out hk)
              clear KB1 hk
              go_wp2_with fail
              refine (HT.out _).mono ?_
              rintro e w' ⟨rfl, rfl⟩
              go_wp2_with fail
              refine (CS.out _ KB2.out).mono ?_
              rintro e w3 ⟨v, rfl, fS, hk⟩
              obtain ⟨aS, cS, hv⟩ := fS.ex _ rfl
              subst hv
              have KB3 := Lib.hid (btr KB2.out hk)
              have HS3 := Lib.hid fS
              clear KB2 fS hk
              go_wp2_with fail
              refine (CN.out _ KB3.out).mono ?_
              rintro e w4 ⟨rfl, hk⟩
              have KB4 := Lib.hid (btr KB3.out hk)
              have HS4 := Lib.hid (HS3.out.mono hk)
              clear KB3 HS3 hk
              go_wp2_with fail
              refine (CW.out _ KB4.out).mono ?_
              rintro e w5 ⟨rfl, hk⟩
              have KB5 := Lib.hid (btr KB4.out hk)
              have HS5 := Lib.hid (HS4.out.mono hk)
              clear KB4 HS4 hk
              go_wp2_with fail
              go_ret
              exact ⟨rfl, KB5.out⟩
            · rw [if_neg hov] at CN
              simp only at CN
              have e1 : decide (Xm ≤ N) = true := decide_eq_true n1
              have e2 : decide (N ≤ 1000000000000) = true := decide_eq_true (by omega)
              have e3 : decide (A ≤ N) = true := decide_eq_true n2
              have e4 : ((N - A) % Bp == 0) = true := by rw [n3]; rfl
              have hN2 : N ≤ 1000000000000 := by omega
              have hN0 : 0 ≤ N := by omega
              clear hov n3
              have e6 : decide (N - Bp < Xm) = true := decide_eq_true (by omega)
              clear n4
              have KB0 := Lib.hid (bz w)
              go_enter Try.func9, Try.ntmps9
              go_wp2_with fail
              refine (CF.out _ KB0.out).mono ?_
              rintro e w1 ⟨rfl, hk⟩
              have KB1 := Lib.hid (btr KB0.out hk)
              clear KB0 hk
              go_wp2_with fail
              refine (CT.out _ KB1.out).mono ?_
              rintro e w2 ⟨rfl, hk⟩
              have KB2 := Lib.hid (btr KB1.out hk)
              clear KB1 hk
              go_wp2_with fail
              refine (HT.out _).mono ?_
              rintro e w' ⟨rfl, rfl⟩
              go_wp2_with fail
              refine (CS.out _ KB2.out).mono ?_
              rintro e w3 ⟨v, rfl, fS, hk⟩
              obtain ⟨aS, cS, hv⟩ := fS.ex _ rfl
              subst hv
              have KB3 := Lib.hid (btr KB2.out hk)
              have HS3 := Lib.hid fS
              clear KB2 fS hk
              go_wp2_with fail
              refine (CN.out _ KB3.out).mono ?_
              rintro e w4 ⟨rfl, hk⟩
              have KB4 := Lib.hid (btr KB3.out hk)
              have HS4 := Lib.hid (HS3.out.mono hk)
              clear KB3 HS3 hk
              go_wp2_with fail
              refine (CW.out _ KB4.out).mono ?_
              rintro e w5 ⟨rfl, hk⟩
              have KB5 := Lib.hid (btr KB4.out hk)
              have HS5 := Lib.hid (HS4.out.mono hk)
              clear KB4 HS4 hk
              go_wp2_with fail
              go_ret
              exact ⟨rfl, KB5.out⟩
      · have hXm2 : (1000000000000 : Int) ≤ Xm := by omega
        have ht0 : 0 ≤ (1000000000000 : Int) := by omega
        have ht1 : (1000000000000 : Int) ≤ 1000000000000 := Int.le_refl _
        have CS := Lib.hid (HS.out (1000000000000 : Int) ht0 ht1)
        unfold SndOk at CS
        rw [(HO.out (1000000000000 : Int) ht0 ht1).1, (HO.out (1000000000000 : Int) ht0 ht1).2] at CS
        have CN := Lib.hid (HN.out (1000000000000 : Int) ht0 ht1)
        rw [(HX.out (1000000000000 : Int) ht0 ht1).1, (HX.out (1000000000000 : Int) ht0 ht1).2] at CN
        obtain ⟨n1, n2, n3, n4, n5⟩ := next_facts (t := (1000000000000 : Int)) a0 a1
        have hall := HALL.out (1000000000000 : Int) ht0
        unfold nxO at CN
        simp only [if_true] at CN
        clear HS HN HO HX HALL
        generalize nextF A Bp (1000000000000 : Int) = N at *
        generalize sndK V (1000000000000 : Int) V.length = X at *
        have hB0 : (Bp == 0) = false := by rw [beq_eq_false_iff_ne]; omega
        have hlen : ((X.length : Int) == (V.length : Int)) = (X.length == V.length) := by rw [Bool.eq_iff_iff]; simp; omega
        rcases Int.lt_or_le (1000000000000 : Int) A with hlt | hle
        · omega
        · have dA : decide (A ≤ (1000000000000 : Int)) = true := decide_eq_true hle
          rw [dA, Bool.true_and] at hall
          rw [hall] at hlen
          have hd0 := Int.emod_nonneg ((1000000000000 : Int) - A) (b := Bp) (by omega)
          generalize hr : ((1000000000000 : Int) - A) % Bp = r at *
          by_cases hr0 : r = 0
          · have hr1 : (r == 0) = true := by simpa using hr0
            rw [hr1] at hall hlen
            clear hr0
            by_cases hov : 1000000000000 < N
            · rw [if_pos hov] at CN
              simp only at CN
              have dt : decide (1000000000000 - Bp < (1000000000000 : Int)) = true := decide_eq_true (by omega)
              clear n1 n2 n3 n4 n5
              have KB0 := Lib.hid (bz w)
              go_enter Try.func9, Try.ntmps9
              go_wp2_with fail
              refine (CF.out _ KB0.out).mono ?_
              rintro e w1 ⟨rfl, hk⟩
              have KB1 := Lib.hid (btr KB0.out hk)
              clear KB0 hk
              go_wp2_with fail
              refine (CT.out _ KB1.out).mono ?_
              rintro e w2 ⟨rfl, hk⟩
              have KB2 := Lib.hid (btr KB1.out hk)
              clear KB1 hk
              go_wp2_with fail
              refine (HT.out _).mono ?_
              rintro e w' ⟨rfl, rfl⟩
              go_wp2_with fail
              refine (CS.out _ KB2.out).mono ?_
              rintro e w3 ⟨v, rfl, fS, hk⟩
              obtain ⟨aS, cS, hv⟩ := fS.ex _ rfl
              subst hv
              have KB3 := Lib.hid (btr KB2.out hk)
              have HS3 := Lib.hid fS
              clear KB2 fS hk
              go_wp2_with fail
              refine (CN.out _ KB3.out).mono ?_
              rintro e w4 ⟨rfl, hk⟩
              have KB4 := Lib.hid (btr KB3.out hk)
              have HS4 := Lib.hid (HS3.out.mono hk)
              clear KB3 HS3 hk
              go_wp2_with fail
              refine (CW.out _ KB4.out).mono ?_
              rintro e w5 ⟨rfl, hk⟩
              have KB5 := Lib.hid (btr KB4.out hk)
              have HS5 := Lib.hid (HS4.out.mono hk)
              clear KB4 HS4 hk
              go_wp2_with fail
              go_ret
              exact ⟨rfl, KB5.out⟩
            · rw [if_neg hov] at CN
              simp only at CN
              have e1 : decide ((1000000000000 : Int) ≤ N) = true := decide_eq_true n1
              have e2 : decide (N ≤ 1000000000000) = true := decide_eq_true (by omega)
              have e3 : decide (A ≤ N) = true := decide_eq_true n2
              have e4 : ((N - A) % Bp == 0) = true := by rw [n3]; rfl
              have hN2 : N ≤ 1000000000000 := by omega
              have hN0 : 0 ≤ N := by omega
              clear hov n3
              have e6 : decide (N - Bp < (1000000000000 : Int)) = true := decide_eq_true (by omega)
              clear n4
              have KB0 := Lib.hid (bz w)
              go_enter Try.func9, Try.ntmps9
              go_wp2_with fail
              refine (CF.out _ KB0.out).mono ?_
              rintro e w1 ⟨rfl, hk⟩
              have KB1 := Lib.hid (btr KB0.out hk)
              clear KB0 hk
              go_wp2_with fail
              refine (CT.out _ KB1.out).mono ?_
              rintro e w2 ⟨rfl, hk⟩
              have KB2 := Lib.hid (btr KB1.out hk)
              clear KB1 hk
              go_wp2_with fail
              refine (HT.out _).mono ?_
              rintro e w' ⟨rfl, rfl⟩
              go_wp2_with fail
              refine (CS.out _ KB2.out).mono ?_
              rintro e w3 ⟨v, rfl, fS, hk⟩
              obtain ⟨aS, cS, hv⟩ := fS.ex _ rfl
              subst hv
              have KB3 := Lib.hid (btr KB2.out hk)
              have HS3 := Lib.hid fS
              clear KB2 fS hk
              go_wp2_with fail
              refine (CN.out _ KB3.out).mono ?_
              rintro e w4 ⟨rfl, hk⟩
              have KB4 := Lib.hid (btr KB3.out hk)
              have HS4 := Lib.hid (HS3.out.mono hk)
              clear KB3 HS3 hk
              go_wp2_with fail
              refine (CW.out _ KB4.out).mono ?_
              rintro e w5 ⟨rfl, hk⟩
              have KB5 := Lib.hid (btr KB4.out hk)
              have HS5 := Lib.hid (HS4.out.mono hk)
              clear KB4 HS4 hk
              go_wp2_with fail
              go_ret
              exact ⟨rfl, KB5.out⟩
          · have hr1 : (r == 0) = false := by simpa using hr0
            rw [hr1] at hall hlen
            clear hr0
            by_cases hov : 1000000000000 < N
            · rw [if_pos hov] at CN
              simp only at CN
              have dt : decide (1000000000000 - Bp < (1000000000000 : Int)) = true := decide_eq_true (by omega)
              clear n1 n2 n3 n4 n5
              have KB0 := Lib.hid (bz w)
              go_enter Try.func9, Try.ntmps9
              go_wp2_with fail
              refine (CF.out _ KB0.out).mono ?_
              rintro e w1 ⟨rfl, hk⟩
              have KB1 := Lib.hid (btr KB0.out hk)
              clear KB0 hk
              go_wp2_with fail
              refine (CT.out _ KB1.out).mono ?_
              rintro e w2 ⟨rfl, hk⟩
              have KB2 := Lib.hid (btr KB1.out hk)
              clear KB1 hk
              go_wp2_with fail
              refine (HT.out _).mono ?_
              rintro e w' ⟨rfl, rfl⟩
              go_wp2_with fail
              refine (CS.out _ KB2.out).mono ?_
              rintro e w3 ⟨v, rfl, fS, hk⟩
              obtain ⟨aS, cS, hv⟩ := fS.ex _ rfl
              subst hv
              have KB3 := Lib.hid (btr KB2.out hk)
              have HS3 := Lib.hid fS
              clear KB2 fS hk
              go_wp2_with fail
              refine (CN.out _ KB3.out).mono ?_
              rintro e w4 ⟨rfl, hk⟩
              have KB4 := Lib.hid (btr KB3.out hk)
              have HS4 := Lib.hid (HS3.out.mono hk)
              clear KB3 HS3 hk
              go_wp2_with fail
              refine (CW.out _ KB4.out).mono ?_
              rintro e w5 ⟨rfl, hk⟩
              have KB5 := Lib.hid (btr KB4.out hk)
              have HS5 := Lib.hid (HS4.out.mono hk)
              clear KB4 HS4 hk
              go_wp2_with fail
              go_ret
              exact ⟨rfl, KB5.out⟩
            · rw [if_neg hov] at CN
              simp only at CN
              have e1 : decide ((1000000000000 : Int) ≤ N) = true := decide_eq_true n1
              have e2 : decide (N ≤ 1000000000000) = true := decide_eq_true (by omega)
              have e3 : decide (A ≤ N) = true := decide_eq_true n2
              have e4 : ((N - A) % Bp == 0) = true := by rw [n3]; rfl
              have hN2 : N ≤ 1000000000000 := by omega
              have hN0 : 0 ≤ N := by omega
              clear hov n3
              have e6 : decide (N - Bp < (1000000000000 : Int)) = true := decide_eq_true (by omega)
              clear n4
              have KB0 := Lib.hid (bz w)
              go_enter Try.func9, Try.ntmps9
              go_wp2_with fail
              refine (CF.out _ KB0.out).mono ?_
              rintro e w1 ⟨rfl, hk⟩
              have KB1 := Lib.hid (btr KB0.out hk)
              clear KB0 hk
              go_wp2_with fail
              refine (CT.out _ KB1.out).mono ?_
              rintro e w2 ⟨rfl, hk⟩
              have KB2 := Lib.hid (btr KB1.out hk)
              clear KB1 hk
              go_wp2_with fail
              refine (HT.out _).mono ?_
              rintro e w' ⟨rfl, rfl⟩
              go_wp2_with fail
              refine (CS.out _ KB2.out).mono ?_
              rintro e w3 ⟨v, rfl, fS, hk⟩
              obtain ⟨aS, cS, hv⟩ := fS.ex _ rfl
              subst hv
              have KB3 := Lib.hid (btr KB2.out hk)
              have HS3 := Lib.hid fS
              clear KB2 fS hk
              go_wp2_with fail
              refine (CN.out _ KB3.out).mono ?_
              rintro e w4 ⟨rfl, hk⟩
              have KB4 := Lib.hid (btr KB3.out hk)
              have HS4 := Lib.hid (HS3.out.mono hk)
              clear KB3 HS3 hk
              go_wp2_with fail
              refine (CW.out _ KB4.out).mono ?_
              rintro e w5 ⟨rfl, hk⟩
              have KB5 := Lib.hid (btr KB4.out hk)
              have HS5 := Lib.hid (HS4.out.mono hk)
              clear KB4 HS4 hk
              go_wp2_with fail
              go_ret
              exact ⟨rfl, KB5.out⟩
  · have hcb : (checkP V == 0) = false := by simpa using hc
    rw [hcb] at CF
    have KB0 := Lib.hid (bz w)
    go_enter Try.func9, Try.ntmps9
    go_wp2_with fail
    refine (CF.out _ KB0.out).mono ?_
    rintro e w1 ⟨rfl, hk⟩
    have KB1 := Lib.hid (btr KB0.out hk)
    clear KB0 hk
    go_wp2_with fail
    refine (CW.out _ KB1.out).mono ?_
    rintro e w2 ⟨rfl, hk⟩
    have KB2 := Lib.hid (btr KB1.out hk)
    clear KB1 hk
    go_wp2_with fail
    go_ret
    exact ⟨rfl, KB2.out⟩
theorem barrelWhen_walk (x : Value) (V : List (Int × Int)) (n z : Int) (w : World) (hx : RdP w x V) (h0 : 0 ≤ n) (h1 : n < 18446744073709551616) (z0 : 0 ≤ z) (z1 : z ≤ 255) :
    Calls Try.prog 9 #[x, .int .u64 n, .int .u8 z] w fun e w' => e = .returned (.bool true) ∧ Below w.heap.size w w' := by
  by_cases hz : z = 0
  · exact when_far x V n z w hx h0 h1 z0 z1 hz
  · exact when_near x V n z w hx h0 h1 z0 z1 (by omega)
theorem wf_u8 {n : Int} (h : (Lit.int .u8 n).wf = true) : 0 ≤ n ∧ n ≤ 255 := by
  simp [Lit.wf, IntKind.min, IntKind.max, IntKind.signed, IntKind.bits] at h
  omega
section
open Go.ChangeShapes Go.WideShapes Go.ChangeAt
set_option maxRecDepth 100000 in
theorem barrelWhen_lifted (os : Os) (started : os.Started) (H : Type) (enc : TypeId × Value → H) :
    ReturnsInHanded {} Try.checked os 9 .any (Rows.barrelWhenSpec.pre6 enc Try.prog Try.f9 Rows.barrelWhenRow.domain false) (Rows.barrelWhenSpec.post enc Try.prog Try.f9 false true false false) := by
  refine returnsInHanded_of_change (C := Try.checked) Try.own started (by kernel_rfl) Try.func9
    (ChangeSpec.witness6 (enc := enc) (C := Try.checked) false ⟨#[], #[.slice none 0 0, .int .u64 0, .int .u8 0], []⟩ 8 (by kernel_rfl) (by kernel_rfl) (by kernel_rfl) (by kernel_rfl)) ?_
  intro W base args ds gs before hval0 hW _ _
  have hval : ∀ (j : Nat) t v, Try.f9.params[j]? = some t → args[j]? = some v → Value.okWide Try.prog W .any base t v := hval0
  have hW' := hW
  obtain ⟨p, q, hA0, hV, rfl, hfz, hnd⟩ := hW
  have hA : DataW.TrodAll enc Try.prog W 0 (fun _ => true) true Try.f9.params.toList args.toList ds p := hA0
  have hA2 := hA
  have hlt : ∀ x ∈ p, x.block < W.heap.size := fun x hx => hW'.lt x (List.mem_append_left _ hx)
  rw [Try.params9] at hA hval
  obtain ⟨v0, vs0, d0, ds0, p0, q0, hargs, rfl, rfl, h0, r0⟩ := trodAll_cons hA
  obtain ⟨v1, vs1, d1, ds1, p1, q1, rfl, rfl, rfl, h1, r1⟩ := trodAll_cons r0
  obtain ⟨v2, vs2, d2, ds2, p2, q2, rfl, rfl, rfl, h2, r2⟩ := trodAll_cons r1
  obtain ⟨rfl, rfl, rfl⟩ := trodAll_nil r2
  obtain rfl : args = #[v0, v1, v2] := by cases args; simp_all
  obtain ⟨rfl, rfl⟩ := trodVars_none hV
  obtain ⟨V0, hx0, hw0⟩ := open_pins (hval 0 22 v0 rfl rfl) h0 (fun x hx => hlt x (by simp [hx]))
  obtain ⟨a1, rfl, rfl, rfl, w1⟩ := open_int Try.underlying50 (hval 1 50 v1 rfl rfl) h1
  obtain ⟨a2, rfl, rfl, rfl, w2⟩ := open_int Try.underlying5 (hval 2 5 v2 rfl rfl) h2
  clear hA0 hval0
  simp only [List.append_nil] at hW' hA2
  refine (barrelWhen_walk v0 V0 a1 a2 W hx0 (wf_u64 w1).1 (wf_u64 w1).2 (wf_u8 w2).1 (wf_u8 w2).2).mono fun e W' ⟨he, hb⟩ => ?_
  subst he
  exact ⟨_, rfl, law_post Try.laidOut Try.underlying4 hW' hA2 rfl rfl rfl rfl rfl (by kernel_rfl) hb⟩
theorem barrelWhen_holds : Rows.BarrelWhenSaid :=
  OpenClaim.holds_of_wide 9 Try.f9 rfl rfl rfl rfl rfl rfl rfl ⟨rfl, rfl, rfl, rfl, rfl⟩ rfl rfl rfl rfl rfl (by kernel_rfl) Try.func9 (by kernel_rfl)
    (of_decide_eq_true (by kernel_rfl)) (by unfold Func.isWrapper; first | (rw [if_pos (by decide +kernel)]; kernel_rfl) | (rw [if_neg (by decide +kernel)]; exact ⟨rfl, rfl⟩))
    (fun os started H enc _ => barrelWhen_lifted os started H enc)
end
end Go.Proofs.Ytooddicegkiiiaa
