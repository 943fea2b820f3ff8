/- BarrelWhen holds; no condition. -/
import Derived.Test.YtooddicegkiiiaaL8
namespace Go.Proofs.Ytooddicegkiiiaa
open Go.RowKit Go.Shelf

theorem next_facts {A B t : Int} (a0 : 0 ≤ A) (a1 : A < B) : t ≤ nextF A B t ∧ A ≤ nextF A B t ∧ (nextF A B t - A) % B = 0 ∧ (nextF A B t - B < t ∨ nextF A B t - B < A) ∧ (A < t ∨ nextF A B t = A) := by
  unfold nextF
  split
  · rename_i h
    have e := Int.mul_ediv_add_emod (t - A + B - 1) B
    have e1 := Int.emod_nonneg (t - A + B - 1) (b := B) (by omega)
    have e2 := Int.emod_lt_of_pos (t - A + B - 1) (b := B) (by omega)
    rw [Int.mul_comm] at e
    have e3 : 0 ≤ (t - A + B - 1) / B * B := Int.mul_nonneg (Int.ediv_nonneg (by omega) (by omega)) (by omega)
    have e4 : (A + (t - A + B - 1) / B * B - A) % B = 0 := by rw [show A + (t - A + B - 1) / B * B - A = (t - A + B - 1) / B * B by omega]; exact Int.mul_emod_left _ _
    generalize (t - A + B - 1) / B * B = q at *
    generalize (t - A + B - 1) % B = r at *
    exact ⟨by omega, by omega, e4, .inl (by omega), .inl h⟩
  · exact ⟨by omega, by omega, by simp, .inr (by omega), .inr rfl⟩
theorem all_iff {V : List (Int × Int)} (hV : OkV V) (h : jO V = true) {t : Int} (h0 : 0 ≤ t) : ((sndK V t V.length).length == V.length) = (decide (jA V ≤ t) && ((t - jA V) % jB V == 0)) := by
  have hJ := j_true hV h
  have a0 := hJ.t0; have a1 := hJ.tp
  rw [Bool.eq_iff_iff]
  simp only [beq_iff_eq, Bool.and_eq_true, decide_eq_true_eq]
  rw [snd_all, hJ.all, Int.dvd_iff_emod_eq_zero]
  constructor
  · intro hd
    refine ⟨?_, hd⟩
    rcases Int.lt_or_le t (jA V) with hlt | hle
    · have := dvd_small (p := jB V) (by omega) (Int.dvd_of_emod_eq_zero hd) (by omega) (by omega)
      omega
    · exact hle
  · exact fun h => h.2
theorem next_ok {V : List (Int × Int)} (hc : checkP V = 0) {t : Int} (h0 : 0 ≤ t) (h1 : t ≤ 1000000000000) : nextN V t = (nxO (jA V) (jB V) (jO V) t).1 ∧ nextE V t = (nxO (jA V) (jB V) (jO V) t).2 := by
  unfold nextN nextE
  rw [if_pos (open_time hc h0 h1).1, if_pos (open_time hc h0 h1).1]
  exact ⟨rfl, rfl⟩

set_option maxRecDepth 100000 in
set_option maxHeartbeats 16000000 in
theorem when_far (x : Value) (V : List (Int × Int)) (n z : Int) (w : World) (hx : RdP w x V) (h0 : 0 ≤ n) (h1 : n < 18446744073709551616) (z0 : 0 ≤ z) (z1 : z ≤ 255) (hz : z = 0) :
    Calls Try.prog 9 #[x, .int .u64 n, .int .u8 z] w fun e w' => e = .returned (.bool true) ∧ Below w.heap.size w w' := by
  obtain ⟨a, c, rfl⟩ := hx.ex _ rfl
  have CW := Lib.hid (fun wz (hB : Below w.heap.size w wz) => works_any wz)
  have CF := Lib.hid (fun wz (hB : Below w.heap.size w wz) => fine_any _ V wz (hx.mono hB))
  by_cases hc : checkP V = 0
  · rw [hc] at CF
    have hV := okPins_of hc
    have h5 := hV.l5
    have HT := Lib.hid (fun w1 => timed_any n w1 h0 h1)
    have t0 : 0 ≤ n % 1000000000001 := by omega
    have t1 : n % 1000000000001 ≤ 1000000000000 := by omega
    generalize n % 1000000000001 = T at *
    have CT := Lib.hid (fun wz (hB : Below w.heap.size w wz) => together_ok _ V wz (hx.mono hB) hc)
    cases ho : jO V
    · rw [ho] at CT
      have CN := Lib.hid (fun wz (hB : Below w.heap.size w wz) => next_any _ V T wz (hx.mono hB) (by omega))
      rw [(next_ok hc t0 t1).1, (next_ok hc t0 t1).2, ho] at CN
      unfold nxO at CN
      simp only [Bool.false_eq_true, if_false] at CN
      generalize jA V = A at *
      generalize jB V = Bp at *
      have KB0 := Lib.hid (bz w)
      go_enter Try.func9, Try.ntmps9
      go_wp2_with fail
      refine (CF.out _ KB0.out).mono ?_
      rintro e w1 ⟨rfl, hk⟩
      have KB1 := Lib.hid (btr KB0.out hk)
      clear KB0 hk
      go_wp2_with fail
      refine (CT.out _ KB1.out).mono ?_
      rintro e w2 ⟨rfl, hk⟩
      have KB2 := Lib.hid (btr KB1.out hk)
      clear KB1 hk
      go_wp2_with fail
      refine (HT.out _).mono ?_
      rintro e w' ⟨rfl, rfl⟩
      go_wp2_with fail
      refine (CN.out _ KB2.out).mono ?_
      rintro e w3 ⟨rfl, hk⟩
      have KB3 := Lib.hid (btr KB2.out hk)
      clear KB2 hk
      go_wp2_with fail
      refine (CW.out _ KB3.out).mono ?_
      rintro e w4 ⟨rfl, hk⟩
      have KB4 := Lib.hid (btr KB3.out hk)
      clear KB3 hk
      go_wp2_with fail
      go_ret
      exact ⟨rfl, KB4.out⟩
    · rw [ho] at CT
      obtain ⟨a0, a1, a2⟩ := (jbd hV.v hV.l5).1 ho
      have HALL := Lib.hid (fun t (ht : 0 ≤ t) => all_iff hV.v ho (t := t) ht)
      have HS := Lib.hid (fun t (ht : 0 ≤ t) (ht1 : t ≤ 1000000000000) wz (hB : Below w.heap.size w wz) => sounds_any _ V t wz (hx.mono hB) (by omega))
      have HN := Lib.hid (fun t (ht : 0 ≤ t) (ht1 : t ≤ 1000000000000) wz (hB : Below w.heap.size w wz) => next_any _ V t wz (hx.mono hB) (by omega))
      have HO := Lib.hid (fun t (ht : 0 ≤ t) (ht1 : t ≤ 1000000000000) => open_time hc ht ht1)
      have HX := Lib.hid (fun t (ht : 0 ≤ t) (ht1 : t ≤ 1000000000000) => next_ok hc ht ht1)
      rw [ho] at HX
      clear ho hc hV hx
      generalize jA V = A at *
      generalize jB V = Bp at *
      have q0 : 0 ≤ T / Bp * Bp := Int.mul_nonneg (Int.ediv_nonneg (by omega) (by omega)) (by omega)
      have q1 : T / Bp * Bp ≤ T := Int.ediv_mul_le _ (by omega)
      have m0 : 0 ≤ z % 3 := by omega
      have m1 : z % 3 ≤ 2 := by omega
      subst hz
      have ht0 := t0
      have ht1 := t1
      clear q0 q1 m0 m1
      have CS := Lib.hid (HS.out T ht0 ht1)
      unfold SndOk at CS
      rw [(HO.out T ht0 ht1).1, (HO.out T ht0 ht1).2] at CS
      have CN := Lib.hid (HN.out T ht0 ht1)
      rw [(HX.out T ht0 ht1).1, (HX.out T ht0 ht1).2] at CN
      obtain ⟨n1, n2, n3, n4, n5⟩ := next_facts (t := T) a0 a1
      have hall := HALL.out T ht0
      unfold nxO at CN
      simp only [if_true] at CN
      clear HS HN HO HX HALL
      generalize nextF A Bp T = N at *
      generalize sndK V T V.length = X at *
      have hB0 : (Bp == 0) = false := by rw [beq_eq_false_iff_ne]; omega
      have hlen : ((X.length : Int) == (V.length : Int)) = (X.length == V.length) := by rw [Bool.eq_iff_iff]; simp; omega
      rcases Int.lt_or_le T A with hlt | hle
      · have dA : decide (A ≤ T) = false := decide_eq_false (by omega)
        rw [dA, Bool.false_and] at hall
        rw [hall] at hlen
        have hov : ¬ 1000000000000 < N := by omega
        rw [if_neg hov] at CN
        simp only at CN
        have e1 : decide (T ≤ N) = true := decide_eq_true n1
        have e2 : decide (N ≤ 1000000000000) = true := decide_eq_true (by omega)
        have e3 : decide (A ≤ N) = true := decide_eq_true n2
        have e4 : ((N - A) % Bp == 0) = true := by rw [n3]; rfl
        have hN2 : N ≤ 1000000000000 := by omega
        have hN0 : 0 ≤ N := by omega
        clear hov n3
        have e6 : decide (N - Bp < T) = true := decide_eq_true (by omega)
        clear n4
        have KB0 := Lib.hid (bz w)
        go_enter Try.func9, Try.ntmps9
        go_wp2_with fail
        refine (CF.out _ KB0.out).mono ?_
        rintro e w1 ⟨rfl, hk⟩
        have KB1 := Lib.hid (btr KB0.out hk)
        clear KB0 hk
        go_wp2_with fail
        refine (CT.out _ KB1.out).mono ?_
        rintro e w2 ⟨rfl, hk⟩
        have KB2 := Lib.hid (btr KB1.out hk)
        clear KB1 hk
        go_wp2_with fail
        refine (HT.out _).mono ?_
        rintro e w' ⟨rfl, rfl⟩
        go_wp2_with fail
        refine (CS.out _ KB2.out).mono ?_
        rintro e w3 ⟨v, rfl, fS, hk⟩
        obtain ⟨aS, cS, hv⟩ := fS.ex _ rfl
        subst hv
        have KB3 := Lib.hid (btr KB2.out hk)
        have HS3 := Lib.hid fS
        clear KB2 fS hk
        go_wp2_with fail
        refine (CN.out _ KB3.out).mono ?_
        rintro e w4 ⟨rfl, hk⟩
        have KB4 := Lib.hid (btr KB3.out hk)
        have HS4 := Lib.hid (HS3.out.mono hk)
        clear KB3 HS3 hk
        go_wp2_with fail
        refine (CW.out _ KB4.out).mono ?_
        rintro e w5 ⟨rfl, hk⟩
        have KB5 := Lib.hid (btr KB4.out hk)
        have HS5 := Lib.hid (HS4.out.mono hk)
        clear KB4 HS4 hk
        go_wp2_with fail
        go_ret
        exact ⟨rfl, KB5.out⟩
      · have dA : decide (A ≤ T) = true := decide_eq_true hle
        rw [dA, Bool.true_and] at hall
        rw [hall] at hlen
        have hd0 := Int.emod_nonneg (T - A) (b := Bp) (by omega)
        generalize hr : (T - A) % Bp = r at *
        by_cases hr0 : r = 0
        · have hr1 : (r == 0) = true := by simpa using hr0
          rw [hr1] at hall hlen
          clear hr0
          by_cases hov : 1000000000000 < N
          · rw [if_pos hov] at CN
            simp only at CN
            have dt : decide (1000000000000 - Bp < T) = true := decide_eq_true (by omega)
            clear n1 n2 n3 n4 n5
            have KB0 := Lib.hid (bz w)
            go_enter Try.func9, Try.ntmps9
            go_wp2_with fail
            refine (CF.out _ KB0.out).mono ?_
            rintro e w1 ⟨rfl, hk⟩
            have KB1 := Lib.hid (btr KB0.out hk)
            clear KB0 hk
            go_wp2_with fail
            refine (CT.out _ KB1.out).mono ?_
            rintro e w2 ⟨rfl, hk⟩
            have KB2 := Lib.hid (btr KB1.out hk)
            clear KB1 hk
            go_wp2_with fail
            refine (HT.out _).mono ?_
            rintro e w' ⟨rfl, rfl⟩
            go_wp2_with fail
            refine (CS.out _ KB2.out).mono ?_
            rintro e w3 ⟨v, rfl, fS, hk⟩
            obtain ⟨aS, cS, hv⟩ := fS.ex _ rfl
            subst hv
            have KB3 := Lib.hid (btr KB2.out hk)
            have HS3 := Lib.hid fS
            clear KB2 fS hk
            go_wp2_with fail
            refine (CN.out _ KB3.out).mono ?_
            rintro e w4 ⟨rfl, hk⟩
            have KB4 := Lib.hid (btr KB3.out hk)
            have HS4 := Lib.hid (HS3.out.mono hk)
            clear KB3 HS3 hk
            go_wp2_with fail
            refine (CW.out _ KB4.out).mono ?_
            rintro e w5 ⟨rfl, hk⟩
            have KB5 := Lib.hid (btr KB4.out hk)
            have HS5 := Lib.hid (HS4.out.mono hk)
            clear KB4 HS4 hk
            go_wp2_with fail
            go_ret
            exact ⟨rfl, KB5.out⟩
          · rw [if_neg hov] at CN
            simp only at CN
            have e1 : decide (T ≤ N) = true := decide_eq_true n1
            have e2 : decide (N ≤ 1000000000000) = true := decide_eq_true (by omega)
            have e3 : decide (A ≤ N) = true := decide_eq_true n2
            have e4 : ((N - A) % Bp == 0) = true := by rw [n3]; rfl
            have hN2 : N ≤ 1000000000000 := by omega
            have hN0 : 0 ≤ N := by omega
            clear hov n3
            have e6 : decide (N - Bp < T) = true := decide_eq_true (by omega)
            clear n4
            have KB0 := Lib.hid (bz w)
            go_enter Try.func9, Try.ntmps9
            go_wp2_with fail
            refine (CF.out _ KB0.out).mono ?_
            rintro e w1 ⟨rfl, hk⟩
            have KB1 := Lib.hid (btr KB0.out hk)
            clear KB0 hk
            go_wp2_with fail
            refine (CT.out _ KB1.out).mono ?_
            rintro e w2 ⟨rfl, hk⟩
            have KB2 := Lib.hid (btr KB1.out hk)
            clear KB1 hk
            go_wp2_with fail
            refine (HT.out _).mono ?_
            rintro e w' ⟨rfl, rfl⟩
            go_wp2_with fail
            refine (CS.out _ KB2.out).mono ?_
            rintro e w3 ⟨v, rfl, fS, hk⟩
            obtain ⟨aS, cS, hv⟩ := fS.ex _ rfl
            subst hv
            have KB3 := Lib.hid (btr KB2.out hk)
            have HS3 := Lib.hid fS
            clear KB2 fS hk
            go_wp2_with fail
            refine (CN.out _ KB3.out).mono ?_
            rintro e w4 ⟨rfl, hk⟩
            have KB4 := Lib.hid (btr KB3.out hk)
            have HS4 := Lib.hid (HS3.out.mono hk)
            clear KB3 HS3 hk
            go_wp2_with fail
            refine (CW.out _ KB4.out).mono ?_
            rintro e w5 ⟨rfl, hk⟩
            have KB5 := Lib.hid (btr KB4.out hk)
            have HS5 := Lib.hid (HS4.out.mono hk)
            clear KB4 HS4 hk
            go_wp2_with fail
            go_ret
            exact ⟨rfl, KB5.out⟩
        · have hr1 : (r == 0) = false := by simpa using hr0
          rw [hr1] at hall hlen
          clear hr0
          by_cases hov : 1000000000000 < N
          · rw [if_pos hov] at CN
            simp only at CN
            have dt : decide (1000000000000 - Bp < T) = true := decide_eq_true (by omega)
            clear n1 n2 n3 n4 n5
            have KB0 := Lib.hid (bz w)
            go_enter Try.func9, Try.ntmps9
            go_wp2_with fail
            refine (CF.out _ KB0.out).mono ?_
            rintro e w1 ⟨rfl, hk⟩
            have KB1 := Lib.hid (btr KB0.out hk)
            clear KB0 hk
            go_wp2_with fail
            refine (CT.out _ KB1.out).mono ?_
            rintro e w2 ⟨rfl, hk⟩
            have KB2 := Lib.hid (btr KB1.out hk)
            clear KB1 hk
            go_wp2_with fail
            refine (HT.out _).mono ?_
            rintro e w' ⟨rfl, rfl⟩
            go_wp2_with fail
            refine (CS.out _ KB2.out).mono ?_
            rintro e w3 ⟨v, rfl, fS, hk⟩
            obtain ⟨aS, cS, hv⟩ := fS.ex _ rfl
            subst hv
            have KB3 := Lib.hid (btr KB2.out hk)
            have HS3 := Lib.hid fS
            clear KB2 fS hk
            go_wp2_with fail
            refine (CN.out _ KB3.out).mono ?_
            rintro e w4 ⟨rfl, hk⟩
            have KB4 := Lib.hid (btr KB3.out hk)
            have HS4 := Lib.hid (HS3.out.mono hk)
            clear KB3 HS3 hk
            go_wp2_with fail
            refine (CW.out _ KB4.out).mono ?_
            rintro e w5 ⟨rfl, hk⟩
            have KB5 := Lib.hid (btr KB4.out hk)
            have HS5 := Lib.hid (HS4.out.mono hk)
            clear KB4 HS4 hk
            go_wp2_with fail
            go_ret
            exact ⟨rfl, KB5.out⟩
          · rw [if_neg hov] at CN
            simp only at CN
            have e1 : decide (T ≤ N) = true := decide_eq_true n1
            have e2 : decide (N ≤ 1000000000000) = true := decide_eq_true (by omega)
            have e3 : decide (A ≤ N) = true := decide_eq_true n2
            have e4 : ((N - A) % Bp == 0) = true := by rw [n3]; rfl
            have hN2 : N ≤ 1000000000000 := by omega
            have hN0 : 0 ≤ N := by omega
            clear hov n3
            have e6 : decide (N - Bp < T) = true := decide_eq_true (by omega)
            clear n4
            have KB0 := Lib.hid (bz w)
            go_enter Try.func9, Try.ntmps9
            go_wp2_with fail
            refine (CF.out _ KB0.out).mono ?_
            rintro e w1 ⟨rfl, hk⟩
            have KB1 := Lib.hid (btr KB0.out hk)
            clear KB0 hk
            go_wp2_with fail
            refine (CT.out _ KB1.out).mono ?_
            rintro e w2 ⟨rfl, hk⟩
            have KB2 := Lib.hid (btr KB1.out hk)
            clear KB1 hk
            go_wp2_with fail
            refine (HT.out _).mono ?_
            rintro e w' ⟨rfl, rfl⟩
            go_wp2_with fail
            refine (CS.out _ KB2.out).mono ?_
            rintro e w3 ⟨v, rfl, fS, hk⟩
            obtain ⟨aS, cS, hv⟩ := fS.ex _ rfl
            subst hv
            have KB3 := Lib.hid (btr KB2.out hk)
            have HS3 := Lib.hid fS
            clear KB2 fS hk
            go_wp2_with fail
            refine (CN.out _ KB3.out).mono ?_
            rintro e w4 ⟨rfl, hk⟩
            have KB4 := Lib.hid (btr KB3.out hk)
            have HS4 := Lib.hid (HS3.out.mono hk)
            clear KB3 HS3 hk
            go_wp2_with fail
            refine (CW.out _ KB4.out).mono ?_
            rintro e w5 ⟨rfl, hk⟩
            have KB5 := Lib.hid (btr KB4.out hk)
            have HS5 := Lib.hid (HS4.out.mono hk)
            clear KB4 HS4 hk
            go_wp2_with fail
            go_ret
            exact ⟨rfl, KB5.out⟩
  · have hcb : (checkP V == 0) = false := by simpa using hc
    rw [hcb] at CF
    have KB0 := Lib.hid (bz w)
    go_enter Try.func9, Try.ntmps9
    go_wp2_with fail
    refine (CF.out _ KB0.out).mono ?_
    rintro e w1 ⟨rfl, hk⟩
    have KB1 := Lib.hid (btr KB0.out hk)
    clear KB0 hk
    go_wp2_with fail
    refine (CW.out _ KB1.out).mono ?_
    rintro e w2 ⟨rfl, hk⟩
    have KB2 := Lib.hid (btr KB1.out hk)
    clear KB1 hk
    go_wp2_with fail
    go_ret
    exact ⟨rfl, KB2.out⟩
end Go.Proofs.Ytooddicegkiiiaa
