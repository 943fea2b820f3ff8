/- BarrelCounted holds; no condition. -/
import Derived.Test.YtooddicegkiiiaaL11
namespace Go.Proofs.Ytooddicegkiiiaa
open Go.RowKit Go.Shelf

theorem three (X Y Z M : Int) (x0 : 0 ≤ X) (x1 : X ≤ M) (y0 : 0 ≤ Y) (y1 : Y ≤ M) (z0 : 0 ≤ Z) (z1 : Z ≤ M) : ∃ fa fb fc : Int,
    (if Z < if Y < X then Y else X then Z else if Y < X then Y else X) = fa ∧
    (if (if Y < X then Y else X) < if Z < if X < Y then Y else X then Z else if X < Y then Y else X then
      if Z < if X < Y then Y else X then Z else if X < Y then Y else X else if Y < X then Y else X) = fb ∧
    (if (if X < Y then Y else X) < Z then Z else if X < Y then Y else X) = fc ∧ 0 ≤ fa ∧ fa ≤ fb ∧ fb ≤ fc ∧ fc ≤ M := by
  refine ⟨_, _, _, rfl, rfl, rfl, ?_, ?_, ?_, ?_⟩ <;> (repeat' split) <;> omega
/-- How many times below one there are at which all pins sound. -/
structure BlwOk (V : List (Int × Int)) (blw : Int → Int) : Prop where
  st : ∀ t, 0 ≤ t → ((sndK V t V.length).length = V.length ∧ blw (t + 1) = blw t + 1) ∨ ((sndK V t V.length).length ≠ V.length ∧ blw (t + 1) = blw t)
  bd : ∀ t, 0 ≤ t → t ≤ 1000000000001 → 0 ≤ blw t ∧ blw t ≤ 1000000000001
  mono : ∀ t s, 0 ≤ t → t ≤ s → blw t ≤ blw s
  round : jO V = true → ∀ t, 0 ≤ t → blw (t + jB V) - blw t = 1
  zero : jO V = false → ∀ t, blw t = 0
theorem blw_ok {V : List (Int × Int)} (hc : checkP V = 0) : BlwOk V (blwN (jA V) (jB V) (jO V)) := by
  have hV := (okPins_of hc).v
  have hA : jO V = true → 0 ≤ jA V ∧ jA V < jB V := fun h => by have := (jbd hV (okPins_of hc).l5).1 h; omega
  refine ⟨fun t t0 => ?_, fun t t0 t1 => blwN_bd hA t0 t1, fun t s t0 hts => ?_, fun ho t t0 => ?_, fun ho t => ?_⟩
  · have h := blw_step (t := t) hA t0
    have hj := snd_just hV (T := t)
    by_cases hh : jO V = true ∧ jB V ∣ t - jA V
    · rw [if_pos hh] at h; exact .inl ⟨hj.2 hh, h⟩
    · rw [if_neg hh] at h; exact .inr ⟨fun e => hh (hj.1 e), by omega⟩
  · have h := blw_mono hA t0 (s - t).toNat
    rwa [show t + ((s - t).toNat : Int) = s by omega] at h
  · rw [ho]; exact blw_round (hA ho) t0
  · rw [ho]; simp [blwN]
theorem count_ok (x : Value) (V : List (Int × Int)) (w : World) (hx0 : RdP w x V) (hc : checkP V = 0) : ∃ blw : Int → Int, BlwOk V blw ∧
    ∀ f t, 0 ≤ f → f ≤ t → t ≤ 1000000000000 → ∀ wz, Below w.heap.size w wz → Calls Try.prog 29 #[x, .int .i64 f, .int .i64 t] wz fun e w' => e = .returned (.tuple #[.int .i64 (blw (t + 1) - blw f), .int .i64 0]) ∧ Below wz.heap.size wz w' := by
  have hA : jO V = true → 0 ≤ jA V ∧ jA V < jB V := fun h => by have := (jbd (okPins_of hc).v (okPins_of hc).l5).1 h; omega
  refine ⟨_, blw_ok hc, fun f t f0 hft t1 wz hB => ?_⟩
  have ho : openE V [f, t] = 0 := by rw [openE_ok _ hc, if_neg]; simp [outB]; omega
  have h := count_any x V f t wz (hx0.mono hB) (by have := (okPins_of hc).l5; omega)
  have e1 : countN V f t = cntN (jA V) (jB V) (jO V) f t := by unfold countN; rw [if_neg (by simpa using ho), if_neg (by omega)]
  have e2 : countE V f t = 0 := by unfold countE; rw [if_neg (by simpa using ho), if_neg (by omega)]
  rw [e1, e2, ← below_count hA hft] at h
  exact h

set_option maxRecDepth 100000 in
set_option maxHeartbeats 16000000 in
theorem barrelCounted_walk (x : Value) (V : List (Int × Int)) (n1 n2 n3 : Int) (w : World) (hx : RdP w x V) (h0 : 0 ≤ n1) (h1 : n1 < 18446744073709551616) (g0 : 0 ≤ n2) (g1 : n2 < 18446744073709551616) (k0 : 0 ≤ n3) (k1 : n3 < 18446744073709551616) :
    Calls Try.prog 10 #[x, .int .u64 n1, .int .u64 n2, .int .u64 n3] w fun e w' => e = .returned (.bool true) ∧ Below w.heap.size w w' := by
  obtain ⟨a, c, rfl⟩ := hx.ex _ rfl
  have CW := Lib.hid (fun wz (hB : Below w.heap.size w wz) => works_any wz)
  have CF := Lib.hid (fun wz (hB : Below w.heap.size w wz) => fine_any _ V wz (hx.mono hB))
  by_cases hc : checkP V = 0
  · rw [hc] at CF
    have hV := okPins_of hc
    have h5 := hV.l5; have hl1 := hV.l1
    have HT1 := Lib.hid (fun w1 => timed_any n1 w1 h0 h1)
    have HT2 := Lib.hid (fun w1 => timed_any n2 w1 g0 g1)
    have HT3 := Lib.hid (fun w1 => timed_any n3 w1 k0 k1)
    have t0 : 0 ≤ n1 % 1000000000001 := by omega
    have t1 : n1 % 1000000000001 ≤ 1000000000000 := by omega
    have s0 : 0 ≤ n2 % 1000000000001 := by omega
    have s1 : n2 % 1000000000001 ≤ 1000000000000 := by omega
    have r0 : 0 ≤ n3 % 1000000000001 := by omega
    have r1 : n3 % 1000000000001 ≤ 1000000000000 := by omega
    generalize n1 % 1000000000001 = X at *
    generalize n2 % 1000000000001 = Y at *
    generalize n3 % 1000000000001 = Z at *
    clear h0 h1 g0 g1 k0 k1
    obtain ⟨fa, fb, fc, hmA, hmB, hmC, f0, f1, f2, f3⟩ := three X Y Z 1000000000000 t0 t1 s0 s1 r0 r1
    obtain ⟨blw, hbo, hcc⟩ := count_ok _ V w hx hc
    have HBO := Lib.hid hbo; have CC := Lib.hid hcc
    clear hbo hcc
    have HMA := Lib.hid hmA; have HMB := Lib.hid hmB; have HMC := Lib.hid hmC; clear hmA hmB hmC
    have CS := Lib.hid (fun p (p0 : 0 ≤ p) (p1 : p ≤ 1000000000000) wz (hB : Below w.heap.size w wz) => sounds_len _ V p wz (hx.mono hB) hc p0 p1)
    have HJB := Lib.hid ((jbd hV.v hV.l5).1)
    have CT := Lib.hid (fun wz (hB : Below w.heap.size w wz) => together_ok _ V wz (hx.mono hB) hc)
    have KB0 := Lib.hid (bz w)
    go_enter Try.func10, Try.ntmps10
    go_wp2_with fail
    refine (CF.out _ KB0.out).mono ?_
    rintro e w1 ⟨rfl, hk⟩
    have KB1 := Lib.hid (btr KB0.out hk)
    clear KB0 hk
    go_wp2_with fail
    refine (CT.out _ KB1.out).mono ?_
    rintro e w2 ⟨rfl, hk⟩
    have KB2 := Lib.hid (btr KB1.out hk)
    clear KB1 hk
    go_wp2_with fail
    refine (HT1.out _).mono ?_
    rintro e w' ⟨rfl, rfl⟩
    go_wp2_with fail
    refine (HT2.out _).mono ?_
    rintro e w' ⟨rfl, rfl⟩
    go_wp2_with fail
    refine (HT3.out _).mono ?_
    rintro e w' ⟨rfl, rfl⟩
    go_upto_region 8 with fail
    rw [HMA.out, HMB.out, HMC.out]
    generalize (if Z < if X < Y then Y else X then Z else if X < Y then Y else X) = g3
    generalize (if Y < X then Y else X) = g1
    generalize (if X < Y then Y else X) = g2
    clear HMA HMB HMC t0 t1 s0 s1 r0 r1 HT1 HT2 HT3
    rcases Int.lt_or_eq_of_le f2 with hlt | heq
    · have hne : (fb == fc) = false := by rw [beq_eq_false_iff_ne]; omega
      have CC1 := Lib.hid (CC.out fa fb f0 f1 (by omega))
      have CC2 := Lib.hid (CC.out (fb + 1) fc (by omega) (by omega) f3)
      have CC3 := Lib.hid (CC.out fa fc f0 (by omega) f3)
      have b1 := (HBO.out).mono fa (fb + 1) f0 (by omega)
      have b2 := (HBO.out).mono (fb + 1) (fc + 1) (by omega) (by omega)
      have b3 := ((HBO.out).bd fa f0 (by omega)).1
      have b4 := ((HBO.out).bd (fc + 1) (by omega) (by omega)).2
      obtain ⟨m, hm⟩ : ∃ m, blw (fb + 1) - blw fa = m := ⟨_, rfl⟩
      obtain ⟨n, hn⟩ : ∃ n, blw (fc + 1) - blw (fb + 1) = n := ⟨_, rfl⟩
      have hmn : blw (fc + 1) - blw fa = m + n := by omega
      have HMN := Lib.hid hmn
      rw [hm] at CC1; rw [hn] at CC2; rw [hmn] at CC3
      have m0 : 0 ≤ m := by omega
      have m1 : m ≤ 1000000000001 := by omega
      have q0 : 0 ≤ n := by omega
      have q1 : n ≤ 1000000000001 := by omega
      have d1 : decide (m < 0) = false := decide_eq_false (by omega)
      have d2 : decide (n < 0) = false := decide_eq_false (by omega)
      have d3 : decide (1000000000001 < m) = false := decide_eq_false (by omega)
      have d4 : decide (1000000000001 < n) = false := decide_eq_false (by omega)
      have d5 : (m + n != m + n) = false := by simp
      obtain ⟨te, hto, o1, o2, o3⟩ : ∃ te : Int, (if fa + 40 < 1000000000000 then fa + 40 else 1000000000000) = te ∧ fa ≤ te ∧ te ≤ 1000000000000 ∧ te ≤ fa + 40 := ⟨_, rfl, by split <;> omega, by split <;> omega, by split <;> omega⟩
      have HTO := Lib.hid hto
      clear hm hn hmn b1 b2 b3 b4 hto
      go_wp2_with fail
      refine (CC1.out _ KB2.out).mono ?_
      rintro e w3 ⟨rfl, hk⟩
      have KB3 := Lib.hid (btr KB2.out hk)
      clear KB2 hk
      go_wp2_with fail
      refine (CC2.out _ KB3.out).mono ?_
      rintro e w4 ⟨rfl, hk⟩
      have KB4 := Lib.hid (btr KB3.out hk)
      clear KB3 hk
      go_wp2_with fail
      refine (CC3.out _ KB4.out).mono ?_
      rintro e w5 ⟨rfl, hk⟩
      have KB5 := Lib.hid (btr KB4.out hk)
      clear KB4 hk
      go_upto_region 17 with fail
      rw [HTO.out]
      clear HTO d1 d2 d3 d4 d5
      go_wp2_with fail
      go_loopw [25, 27, 28, 29] (fun s25 i _ _ wr => ∃ (k : Nat) (f p : Int), p ≤ te + 1 ∧ Hid (p = fa + (k : Int)) ∧ Hid (f = blw p - blw fa) ∧ s25 = .int .i64 f ∧ i = .int .i64 p ∧ Below w.heap.size w wr) (fun _ i _ _ _ => (te + 1 - intOf i).toNat)
      case atStart => exact ⟨0, 0, fa, by omega, Lib.hid (by simp), Lib.hid (by omega), rfl, rfl, KB5.out⟩
      case round =>
        obtain ⟨k, f, p, hk, HP, HF, rfl, rfl, hBr⟩ := hrel
        clear KB5 CC1 CC2 CC3
        have KBL := Lib.hid hBr
        clear hBr
        have p0 : 0 ≤ p := by have := HP.out; omega
        have z1 : 0 ≤ f := by have := HF.out; have := HBO.out.mono fa p f0 (by have := HP.out; omega); omega
        have z2 : f ≤ 1000000000001 := by have := HF.out; have := HBO.out.bd p p0 (by omega); have := HBO.out.bd fa f0 (by omega); omega
        by_cases hle : p ≤ te
        · have p1 : p ≤ 1000000000000 := by omega
          have CS1 := Lib.hid (CS.out p p0 p1)
          rcases HBO.out.st p p0 with ⟨hl, hs⟩ | ⟨hl, hs⟩
          · have HS := Lib.hid hs
            have HP1 : Hid (p + 1 = fa + ((k + 1 : Nat) : Int)) := Lib.hid (by have := HP.out; omega)
            rw [hl] at CS1
            have HF1 : Hid (f + 1 = blw (p + 1) - blw fa) := Lib.hid (by have := HF.out; omega)
            clear hl hs
            go_wp2_with fail
            refine (CS1.out _ KBL.out).mono ?_
            rintro e w31 ⟨ax, cx, rfl, hk⟩
            have KB31 := Lib.hid (btr KBL.out hk)
            clear KBL hk
            go_wp2_with fail
            go_roundw
            case rel => exact ⟨k + 1, f + 1, p + 1, by omega, HP1, HF1, rfl, rfl, KB31.out⟩
            case measure => simp [intOf]; omega
          · have HS := Lib.hid hs
            have HP1 : Hid (p + 1 = fa + ((k + 1 : Nat) : Int)) := Lib.hid (by have := HP.out; omega)
            have HF1 : Hid (f = blw (p + 1) - blw fa) := Lib.hid (by have := HF.out; omega)
            generalize (sndK V p V.length).length = L at *
            have l1 : ((L : Int) == (V.length : Int)) = false := by rw [beq_eq_false_iff_ne]; omega
            have l2 : (L == V.length) = false := by rw [beq_eq_false_iff_ne]; omega
            clear hl hs
            go_wp2_with fail
            refine (CS1.out _ KBL.out).mono ?_
            rintro e w31 ⟨ax, cx, rfl, hk⟩
            have KB31 := Lib.hid (btr KBL.out hk)
            clear KBL hk
            go_wp2_with fail
            go_roundw
            case rel => exact ⟨k + 1, f, p + 1, by omega, HP1, HF1, rfl, rfl, KB31.out⟩
            case measure => simp [intOf]; omega
        · have hpe : p = te + 1 := by omega
          subst hpe
          have CD := Lib.hid (CC.out fa te f0 o1 o2)
          rw [← HF.out] at CD
          cases ho : jO V
          · have e1 := HMN.out
            rw [HBO.out.zero ho, HBO.out.zero ho] at e1
            have e2 : (m + n == 0) = true := by rw [beq_iff_eq]; omega
            have e3 : m + n = 0 := by omega
            clear e1
            go_wp2_with fail
            refine (CD.out _ KBL.out).mono ?_
            rintro e w31 ⟨rfl, hk⟩
            have KB31 := Lib.hid (btr KBL.out hk)
            clear KBL hk
            go_wp2_with fail
            refine (CW.out _ KB31.out).mono ?_
            rintro e w32 ⟨rfl, hk⟩
            have KB32 := Lib.hid (btr KB31.out hk)
            clear KB31 hk
            go_wp2_with fail
            go_ret
            exact ⟨rfl, KB32.out⟩
          · obtain ⟨a0, a1, a2⟩ := HJB.out ho
            have hr := HBO.out.round ho fa f0
            by_cases hov : fa + jB V - 1 ≤ 1000000000000
            · have CE := Lib.hid (CC.out fa (fa + jB V - 1) f0 (by omega) hov)
              rw [show fa + jB V - 1 + 1 = fa + jB V by omega, hr] at CE
              generalize jB V = Bp at *
              generalize jA V = A at *
              have e1 : decide (1000000000000 < fa + Bp - 1) = false := decide_eq_false (by omega)
              clear hr
              go_wp2_with fail
              refine (CD.out _ KBL.out).mono ?_
              rintro e w31 ⟨rfl, hk⟩
              have KB31 := Lib.hid (btr KBL.out hk)
              clear KBL hk
              go_wp2_with fail
              refine (CE.out _ KB31.out).mono ?_
              rintro e w32 ⟨rfl, hk⟩
              have KB32 := Lib.hid (btr KB31.out hk)
              clear KB31 hk
              go_wp2_with fail
              refine (CW.out _ KB32.out).mono ?_
              rintro e w33 ⟨rfl, hk⟩
              have KB33 := Lib.hid (btr KB32.out hk)
              clear KB32 hk
              go_wp2_with fail
              go_ret
              exact ⟨rfl, KB33.out⟩
            · generalize jB V = Bp at *
              generalize jA V = A at *
              have e1 : decide (1000000000000 < fa + Bp - 1) = true := decide_eq_true (by omega)
              clear hr
              go_wp2_with fail
              refine (CD.out _ KBL.out).mono ?_
              rintro e w31 ⟨rfl, hk⟩
              have KB31 := Lib.hid (btr KBL.out hk)
              clear KBL hk
              go_wp2_with fail
              refine (CW.out _ KB31.out).mono ?_
              rintro e w32 ⟨rfl, hk⟩
              have KB32 := Lib.hid (btr KB31.out hk)
              clear KB31 hk
              go_wp2_with fail
              go_ret
              exact ⟨rfl, KB32.out⟩
    · subst heq
      have hee : (fb == fb) = true := by simp
      go_wp2_with fail
      refine (CW.out _ KB2.out).mono ?_
      rintro e w3 ⟨rfl, hk⟩
      have KB3 := Lib.hid (btr KB2.out hk)
      clear KB2 hk
      go_wp2_with fail
      go_ret
      exact ⟨rfl, KB3.out⟩
  · have hcb : (checkP V == 0) = false := by simpa using hc
    rw [hcb] at CF
    have KB0 := Lib.hid (bz w)
    go_enter Try.func10, Try.ntmps10
    go_wp2_with fail
    refine (CF.out _ KB0.out).mono ?_
    rintro e w1 ⟨rfl, hk⟩
    have KB1 := Lib.hid (btr KB0.out hk)
    clear KB0 hk
    go_wp2_with fail
    refine (CW.out _ KB1.out).mono ?_
    rintro e w2 ⟨rfl, hk⟩
    have KB2 := Lib.hid (btr KB1.out hk)
    clear KB1 hk
    go_wp2_with fail
    go_ret
    exact ⟨rfl, KB2.out⟩
section
open Go.ChangeShapes Go.WideShapes Go.ChangeAt
set_option maxRecDepth 100000 in
theorem barrelCounted_lifted (os : Os) (started : os.Started) (H : Type) (enc : TypeId × Value → H) :
    ReturnsInHanded {} Try.checked os 10 .any (Rows.barrelCountedSpec.pre6 enc Try.prog Try.f10 Rows.barrelCountedRow.domain false) (Rows.barrelCountedSpec.post enc Try.prog Try.f10 false true false false) := by
  refine returnsInHanded_of_change (C := Try.checked) Try.own started (by kernel_rfl) Try.func10
    (ChangeSpec.witness6 (enc := enc) (C := Try.checked) false ⟨#[], #[.slice none 0 0, .int .u64 0, .int .u64 0, .int .u64 0], []⟩ 8 (by kernel_rfl) (by kernel_rfl) (by kernel_rfl) (by kernel_rfl)) ?_
  intro W base args ds gs before hval0 hW _ _
  have hval : ∀ (j : Nat) t v, Try.f10.params[j]? = some t → args[j]? = some v → Value.okWide Try.prog W .any base t v := hval0
  have hW' := hW
  obtain ⟨p, q, hA0, hV, rfl, hfz, hnd⟩ := hW
  have hA : DataW.TrodAll enc Try.prog W 0 (fun _ => true) true Try.f10.params.toList args.toList ds p := hA0
  have hA2 := hA
  have hlt : ∀ x ∈ p, x.block < W.heap.size := fun x hx => hW'.lt x (List.mem_append_left _ hx)
  rw [Try.params10] at hA hval
  obtain ⟨v0, vs0, d0, ds0, p0, q0, hargs, rfl, rfl, h0, r0⟩ := trodAll_cons hA
  obtain ⟨v1, vs1, d1, ds1, p1, q1, rfl, rfl, rfl, h1, r1⟩ := trodAll_cons r0
  obtain ⟨v2, vs2, d2, ds2, p2, q2, rfl, rfl, rfl, h2, r2⟩ := trodAll_cons r1
  obtain ⟨v3, vs3, d3, ds3, p3, q3, rfl, rfl, rfl, h3, r3⟩ := trodAll_cons r2
  obtain ⟨rfl, rfl, rfl⟩ := trodAll_nil r3
  obtain rfl : args = #[v0, v1, v2, v3] := by cases args; simp_all
  obtain ⟨rfl, rfl⟩ := trodVars_none hV
  obtain ⟨V0, hx0, hw0⟩ := open_pins (hval 0 22 v0 rfl rfl) h0 (fun x hx => hlt x (by simp [hx]))
  obtain ⟨a1, rfl, rfl, rfl, w1⟩ := open_int Try.underlying50 (hval 1 50 v1 rfl rfl) h1
  obtain ⟨a2, rfl, rfl, rfl, w2⟩ := open_int Try.underlying50 (hval 2 50 v2 rfl rfl) h2
  obtain ⟨a3, rfl, rfl, rfl, w3⟩ := open_int Try.underlying50 (hval 3 50 v3 rfl rfl) h3
  clear hA0 hval0
  simp only [List.append_nil] at hW' hA2
  refine (barrelCounted_walk v0 V0 a1 a2 a3 W hx0 (wf64 w1).1 (wf64 w1).2 (wf64 w2).1 (wf64 w2).2 (wf64 w3).1 (wf64 w3).2).mono fun e W' ⟨he, hb⟩ => ?_
  subst he
  exact ⟨_, rfl, law_post Try.laidOut Try.underlying4 hW' hA2 rfl rfl rfl rfl rfl (by kernel_rfl) hb⟩
theorem barrelCounted_holds : Rows.BarrelCountedSaid :=
  OpenClaim.holds_of_wide 10 Try.f10 rfl rfl rfl rfl rfl rfl rfl ⟨rfl, rfl, rfl, rfl, rfl⟩ rfl rfl rfl rfl rfl (by kernel_rfl) Try.func10 (by kernel_rfl)
    (of_decide_eq_true (by kernel_rfl)) (by unfold Func.isWrapper; first | (rw [if_pos (by decide +kernel)]; kernel_rfl) | (rw [if_neg (by decide +kernel)]; exact ⟨rfl, rfl⟩))
    (fun os started H enc _ => barrelCounted_lifted os started H enc)
end
end Go.Proofs.Ytooddicegkiiiaa
