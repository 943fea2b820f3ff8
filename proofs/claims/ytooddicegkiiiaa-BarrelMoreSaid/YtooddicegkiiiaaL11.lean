/- BarrelCovered holds; no condition. -/
import Derived.Test.YtooddicegkiiiaaP11
namespace Go.Proofs.Ytooddicegkiiiaa
open Go.RowKit Go.Shelf

theorem at_len (x : Value) (V : List (Int × Int)) (t : Int) (w : World) (hx0 : RdP w x V) (hV : OkV V) (hl : V.length ≤ 5) (t0 : 0 ≤ t) (t1 : t < 4611686018427387904) :
    Calls Try.prog 49 #[x, .int .i64 t] w fun e w' => ∃ a c, e = .returned (.slice a (sndK V t V.length).length c) ∧ Below w.heap.size w w' := by
  refine (rat_any x V t w hx0 hV hl t0 t1).mono ?_
  rintro e w' ⟨v, rfl, h, hB⟩
  obtain ⟨a, c, rfl⟩ := owns_form h
  exact ⟨a, c, rfl, hB⟩
theorem sounds_len (x : Value) (V : List (Int × Int)) (t : Int) (w : World) (hx0 : RdP w x V) (hc : checkP V = 0) (t0 : 0 ≤ t) (t1 : t ≤ 1000000000000) :
    Calls Try.prog 20 #[x, .int .i64 t] w fun e w' => ∃ a c, e = .returned (.tuple #[.slice a (sndK V t V.length).length c, .int .i64 0]) ∧ Below w.heap.size w w' := by
  refine (sounds_any x V t w hx0 (by have := (okPins_of hc).l5; omega)).mono ?_
  rintro e w' ⟨v, rfl, h, hB⟩
  rw [(open_time hc t0 t1).2] at h
  obtain ⟨a, c, rfl⟩ := h.ex _ rfl
  rw [(open_time hc t0 t1).1]
  exact ⟨a, c, rfl, hB⟩
theorem quiet_ok (x : Value) (V : List (Int × Int)) (t : Int) (w : World) (hx0 : RdP w x V) (hc : checkP V = 0) (t0 : 0 ≤ t) (t1 : t ≤ 1000000000000) :
    (quietO V t (2 ^ V.length) = none → Calls Try.prog 39 #[x, .int .i64 t] w fun e w' => e = .returned (.tuple #[.int .i64 0, .int .i64 21]) ∧ Below w.heap.size w w') ∧
    ∀ n, quietO V t (2 ^ V.length) = some n → Calls Try.prog 39 #[x, .int .i64 t] w fun e w' => e = .returned (.tuple #[.int .i64 (t + (n : Int)), .int .i64 0]) ∧ Below w.heap.size w w' := by
  have h := quiet_any x V t w hx0 (by have := (okPins_of hc).l5; omega)
  unfold quietN quietE at h
  rw [if_pos (open_time hc t0 t1).1, if_pos (open_time hc t0 t1).1] at h
  refine ⟨fun hq => ?_, fun n hq => ?_⟩
  · rw [hq] at h; exact h
  · rw [hq] at h; exact h
theorem shl_len {n : Nat} (h1 : 1 ≤ n) (h5 : n ≤ 5) : IntKind.i64.wrap ((2 : Int) ^ n) = ((2 ^ n : Nat) : Int) ∧ 2 ^ n ≤ 32 := by
  match n, h1, h5 with
  | 1, _, _ => decide
  | 2, _, _ => decide
  | 3, _, _ => decide
  | 4, _, _ => decide
  | 5, _, _ => decide

set_option maxRecDepth 100000 in
set_option maxHeartbeats 16000000 in
theorem barrelCovered_walk (x : Value) (V : List (Int × Int)) (n o : Int) (w : World) (hx : RdP w x V) (h0 : 0 ≤ n) (h1 : n < 18446744073709551616) (g0 : 0 ≤ o) (g1 : o < 18446744073709551616) :
    Calls Try.prog 11 #[x, .int .u64 n, .int .u64 o] w fun e w' => e = .returned (.bool true) ∧ Below w.heap.size w w' := by
  obtain ⟨a, c, rfl⟩ := hx.ex _ rfl
  have CW := Lib.hid (fun wz (hB : Below w.heap.size w wz) => works_any wz)
  have CF := Lib.hid (fun wz (hB : Below w.heap.size w wz) => fine_any _ V wz (hx.mono hB))
  by_cases hc : checkP V = 0
  · rw [hc] at CF
    have hV := okPins_of hc
    have h5 := hV.l5; have hl1 := hV.l1
    have HT := Lib.hid (fun w1 => timed_any n w1 h0 h1)
    have HT2 := Lib.hid (fun w1 => timed_any o w1 g0 g1)
    have t0 : 0 ≤ n % 1000000000001 := by omega
    have t1 : n % 1000000000001 ≤ 1000000000000 := by omega
    have s0 : 0 ≤ o % 1000000000001 := by omega
    have s1 : o % 1000000000001 ≤ 1000000000000 := by omega
    generalize n % 1000000000001 = T at *
    generalize o % 1000000000001 = S at *
    clear h0 h1 g0 g1
    obtain ⟨hsh, hm32⟩ := shl_len hl1 h5
    have CQ := Lib.hid (fun wz (hB : Below w.heap.size w wz) => quiet_ok _ V T wz (hx.mono hB) hc t0 t1)
    have CR := Lib.hid (fun wz (hB : Below w.heap.size w wz) => quiet_ok _ V S wz (hx.mono hB) hc s0 s1)
    have CS := Lib.hid (fun wz (hB : Below w.heap.size w wz) => sounds_len _ V S wz (hx.mono hB) hc s0 s1)
    have CA := Lib.hid (fun p (p0 : 0 ≤ p) (p1 : p < 4611686018427387904) wz (hB : Below w.heap.size w wz) => at_len _ V p wz (hx.mono hB) hV.v h5 p0 p1)
    have HNA := Lib.hid (fun h => quiet_none_all hV.v (t := T) h)
    have HNB := Lib.hid (fun h => quiet_none_all hV.v (t := S) h)
    have HSO := Lib.hid (fun k (h : quietO V T (2 ^ V.length) = some k) => quiet_some h)
    have HLN := Lib.hid (hush_len V)
    have HSB := Lib.hid (fun m (h : ∀ n : Nat, n < m → hushB V (S + (n : Int)) = false) => quietO_none h)
    generalize hM : 2 ^ V.length = M at *
    cases hq : quietO V T M with
    | none =>
      have hn := HNA.out hq
      have hq2 : quietO V S M = none := HSB.out M (fun n _ => hn _)
      have CQ1 := Lib.hid (fun wz hB => (CQ.out wz hB).1 hq)
      have CR1 := Lib.hid (fun wz hB => (CR.out wz hB).1 hq2)
      have HL := Lib.hid (fun p => (show 0 < (sndK V p V.length).length from Nat.pos_of_ne_zero (fun h => by rw [HLN.out] at h; rw [hn] at h; cases h)))
      have hls := HL.out S
      clear CQ CR HNA HNB HSO HLN HSB hn hq hq2 hM hc hV hx
      generalize (sndK V S V.length).length = LS at *
      have ls1 : decide ((0 : Int) < (LS : Int)) = true := decide_eq_true (by omega)
      have ls2 : decide (0 < LS) = true := decide_eq_true hls
      have KB0 := Lib.hid (bz w)
      go_enter Try.func11, Try.ntmps11
      go_wp2_with fail
      refine (CF.out _ KB0.out).mono ?_
      rintro e w1 ⟨rfl, hk⟩
      have KB1 := Lib.hid (btr KB0.out hk)
      clear KB0 hk
      go_wp2_with fail
      refine (HT.out _).mono ?_
      rintro e w' ⟨rfl, rfl⟩
      go_wp2_with fail
      refine (HT2.out _).mono ?_
      rintro e w' ⟨rfl, rfl⟩
      go_wp2_with fail
      refine (CQ1.out _ KB1.out).mono ?_
      rintro e w2 ⟨rfl, hk⟩
      have KB2 := Lib.hid (btr KB1.out hk)
      clear KB1 hk
      go_wp2_with fail
      refine (CR1.out _ KB2.out).mono ?_
      rintro e w3 ⟨rfl, hk⟩
      have KB3 := Lib.hid (btr KB2.out hk)
      clear KB2 hk
      go_wp2_with fail
      go_loopw [13, 14] (fun i _ wr => ∃ k : Nat, k ≤ M ∧ i = .int .i64 k ∧ Below w.heap.size w wr) (fun i _ _ => M - (intOf i).toNat)
      case atStart => exact ⟨0, Nat.zero_le _, rfl, KB3.out⟩
      case round =>
        obtain ⟨k, hk, rfl, hBr⟩ := hrel
        clear KB3
        have KBL := Lib.hid hBr
        clear hBr
        by_cases hlt : k < M
        · obtain ⟨p, hp⟩ : ∃ p : Int, T + (k : Int) = p := ⟨_, rfl⟩
          have wp : IntKind.i64.wrap (T + (k : Int)) = p := by rw [hp]; exact IntWalk.i64_in _ (by omega)
          have p0 : 0 ≤ p := by omega
          have p1 : p < 4611686018427387904 := by omega
          have CA1 := Lib.hid (CA.out p p0 p1)
          have hl := HL.out p
          clear hp p0 p1
          generalize (sndK V p V.length).length = L at *
          have l1 : ((L : Int) == 0) = false := by rw [beq_eq_false_iff_ne]; omega
          have l2 : (L == 0) = false := by rw [beq_eq_false_iff_ne]; omega
          go_wp2_with fail
          refine (CA1.out _ KBL.out).mono ?_
          rintro e w31 ⟨ax, cx, rfl, hk⟩
          have KB31 := Lib.hid (btr KBL.out hk)
          clear KBL hk
          go_wp2_with fail
          go_roundw
          case rel => exact ⟨k + 1, by omega, by go_num, KB31.out⟩
          case measure => simp [intOf]; omega
        · have hkM : M ≤ k := by omega
          go_wp2_with fail
          refine (CS.out _ KBL.out).mono ?_
          rintro e w31 ⟨ax, cx, rfl, hk⟩
          have KB31 := Lib.hid (btr KBL.out hk)
          clear KBL hk
          go_wp2_with fail
          refine (CW.out _ KB31.out).mono ?_
          rintro e w32 ⟨rfl, hk⟩
          have KB32 := Lib.hid (btr KB31.out hk)
          clear KB31 hk
          go_wp2_with fail
          go_ret
          exact ⟨rfl, KB32.out⟩
    | some m =>
      obtain ⟨hm, hm1, hm2⟩ := HSO.out m hq
      have HR : ∃ m', quietO V S M = some m' := by
        cases hq2 : quietO V S M with
        | none => have := HNB.out hq2 (T + (m : Int)); rw [hm1] at this; cases this
        | some m' => exact ⟨m', rfl⟩
      obtain ⟨m', hq2⟩ := HR
      have CQ1 := Lib.hid (fun wz hB => (CQ.out wz hB).2 m hq)
      have CR1 := Lib.hid (fun wz hB => (CR.out wz hB).2 m' hq2)
      have HL := Lib.hid (fun k (hk : k < m) => (show 0 < (sndK V (T + (k : Int)) V.length).length from Nat.pos_of_ne_zero (fun h => by rw [HLN.out] at h; rw [hm2 k hk] at h; cases h)))
      have HL0 : Hid ((sndK V (T + (m : Int)) V.length).length = 0) := Lib.hid (by rw [HLN.out]; exact hm1)
      obtain ⟨q, hQ⟩ : ∃ q : Int, T + (m : Int) = q := ⟨_, rfl⟩
      rw [hQ] at CQ1 HL0
      obtain ⟨FM, hFM⟩ : ∃ q : Int, T + (M : Int) = q := ⟨_, rfl⟩
      have wFM : IntKind.i64.wrap (T + (M : Int)) = FM := by rw [hFM]; exact IntWalk.i64_in _ (by omega)
      have dq1 : decide (q < T) = false := decide_eq_false (by omega)
      have dq2 : decide (FM ≤ q) = false := decide_eq_false (by omega)
      have HQ := Lib.hid hQ
      clear CQ CR HNA HNB HSO HLN HSB hm1 hm2 hq hq2 hM hc hV hx hQ hFM
      generalize S + (m' : Int) = q2 at *
      generalize (sndK V S V.length).length = LS at *
      have KB0 := Lib.hid (bz w)
      go_enter Try.func11, Try.ntmps11
      go_wp2_with fail
      refine (CF.out _ KB0.out).mono ?_
      rintro e w1 ⟨rfl, hk⟩
      have KB1 := Lib.hid (btr KB0.out hk)
      clear KB0 hk
      go_wp2_with fail
      refine (HT.out _).mono ?_
      rintro e w' ⟨rfl, rfl⟩
      go_wp2_with fail
      refine (HT2.out _).mono ?_
      rintro e w' ⟨rfl, rfl⟩
      go_wp2_with fail
      refine (CQ1.out _ KB1.out).mono ?_
      rintro e w2 ⟨rfl, hk⟩
      have KB2 := Lib.hid (btr KB1.out hk)
      clear KB1 hk
      go_wp2_with fail
      refine (CR1.out _ KB2.out).mono ?_
      rintro e w3 ⟨rfl, hk⟩
      have KB3 := Lib.hid (btr KB2.out hk)
      clear KB2 hk
      go_wp2_with fail
      go_loopw [13, 14] (fun i _ wr => ∃ k : Nat, k ≤ M ∧ k ≤ m + 1 ∧ i = .int .i64 k ∧ Below w.heap.size w wr) (fun i _ _ => M - (intOf i).toNat)
      case atStart => exact ⟨0, Nat.zero_le _, Nat.zero_le _, rfl, KB3.out⟩
      case round =>
        obtain ⟨k, hk, hkm, rfl, hBr⟩ := hrel
        clear KB3 dq1 dq2
        have KBL := Lib.hid hBr
        clear hBr
        by_cases hlt : k < M
        · obtain ⟨p, hp⟩ : ∃ p : Int, T + (k : Int) = p := ⟨_, rfl⟩
          have wp : IntKind.i64.wrap (T + (k : Int)) = p := by rw [hp]; exact IntWalk.i64_in _ (by omega)
          have p0 : 0 ≤ p := by omega
          have p1 : p < 4611686018427387904 := by omega
          have CA1 := Lib.hid (CA.out p p0 p1)
          have hQ := HQ.out
          rcases Nat.lt_trichotomy k m with hkm' | hkm' | hkm'
          · have hl := HL.out k hkm'
            rw [hp] at hl
            have e1 : (p == q) = false := by rw [beq_eq_false_iff_ne]; omega
            have e2 : decide (q < p) = false := decide_eq_false (by omega)
            have hk1 : k + 1 ≤ M := by omega
            have hk2 : k + 1 ≤ m + 1 := by omega
            clear hp hQ
            generalize (sndK V p V.length).length = L at *
            have l1 : ((L : Int) == 0) = false := by rw [beq_eq_false_iff_ne]; omega
            have l2 : (L == 0) = false := by rw [beq_eq_false_iff_ne]; omega
            go_wp2_with fail
            refine (CA1.out _ KBL.out).mono ?_
            rintro e w31 ⟨ax, cx, rfl, hk⟩
            have KB31 := Lib.hid (btr KBL.out hk)
            clear KBL hk
            go_wp2_with fail
            go_roundw
            case rel => exact ⟨k + 1, hk1, hk2, by go_num, KB31.out⟩
            case measure => simp [intOf]; omega
          · have e0 : q = p := by omega
            subst e0
            have hl := HL0.out
            rw [hl] at CA1
            have e2 : decide (q < q) = false := decide_eq_false (by omega)
            have hk1 : k + 1 ≤ M := by omega
            have hk2 : k + 1 ≤ m + 1 := by omega
            clear hp hl hQ hkm' HQ
            go_wp2_with fail
            refine (CA1.out _ KBL.out).mono ?_
            rintro e w31 ⟨ax, cx, rfl, hk⟩
            have KB31 := Lib.hid (btr KBL.out hk)
            clear KBL hk
            go_wp2_with fail
            go_roundw
            case rel => exact ⟨k + 1, hk1, hk2, by go_num, KB31.out⟩
            case measure => simp [intOf]; omega
          · have e2 : decide (q < p) = true := decide_eq_true (by omega)
            clear hp hQ
            generalize (sndK V p V.length).length = L at *
            go_wp2_with fail
            refine (CA1.out _ KBL.out).mono ?_
            rintro e w31 ⟨ax, cx, rfl, hk⟩
            have KB31 := Lib.hid (btr KBL.out hk)
            clear KBL hk
            go_wp2_with fail
            refine (CS.out _ KB31.out).mono ?_
            rintro e w32 ⟨ax2, cx2, rfl, hk⟩
            have KB32 := Lib.hid (btr KB31.out hk)
            clear KB31 hk
            go_wp2_with fail
            refine (CW.out _ KB32.out).mono ?_
            rintro e w33 ⟨rfl, hk⟩
            have KB33 := Lib.hid (btr KB32.out hk)
            clear KB32 hk
            go_wp2_with fail
            go_ret
            exact ⟨rfl, KB33.out⟩
        · have hkM : M ≤ k := by omega
          go_wp2_with fail
          refine (CS.out _ KBL.out).mono ?_
          rintro e w31 ⟨ax, cx, rfl, hk⟩
          have KB31 := Lib.hid (btr KBL.out hk)
          clear KBL hk
          go_wp2_with fail
          refine (CW.out _ KB31.out).mono ?_
          rintro e w32 ⟨rfl, hk⟩
          have KB32 := Lib.hid (btr KB31.out hk)
          clear KB31 hk
          go_wp2_with fail
          go_ret
          exact ⟨rfl, KB32.out⟩
  · have hcb : (checkP V == 0) = false := by simpa using hc
    rw [hcb] at CF
    have KB0 := Lib.hid (bz w)
    go_enter Try.func11, Try.ntmps11
    go_wp2_with fail
    refine (CF.out _ KB0.out).mono ?_
    rintro e w1 ⟨rfl, hk⟩
    have KB1 := Lib.hid (btr KB0.out hk)
    clear KB0 hk
    go_wp2_with fail
    refine (CW.out _ KB1.out).mono ?_
    rintro e w2 ⟨rfl, hk⟩
    have KB2 := Lib.hid (btr KB1.out hk)
    clear KB1 hk
    go_wp2_with fail
    go_ret
    exact ⟨rfl, KB2.out⟩
section
open Go.ChangeShapes Go.WideShapes Go.ChangeAt
set_option maxRecDepth 100000 in
theorem barrelCovered_lifted (os : Os) (started : os.Started) (H : Type) (enc : TypeId × Value → H) :
    ReturnsInHanded {} Try.checked os 11 .any (Rows.barrelCoveredSpec.pre6 enc Try.prog Try.f11 Rows.barrelCoveredRow.domain false) (Rows.barrelCoveredSpec.post enc Try.prog Try.f11 false true false false) := by
  refine returnsInHanded_of_change (C := Try.checked) Try.own started (by kernel_rfl) Try.func11
    (ChangeSpec.witness6 (enc := enc) (C := Try.checked) false ⟨#[], #[.slice none 0 0, .int .u64 0, .int .u64 0], []⟩ 8 (by kernel_rfl) (by kernel_rfl) (by kernel_rfl) (by kernel_rfl)) ?_
  intro W base args ds gs before hval0 hW _ _
  have hval : ∀ (j : Nat) t v, Try.f11.params[j]? = some t → args[j]? = some v → Value.okWide Try.prog W .any base t v := hval0
  have hW' := hW
  obtain ⟨p, q, hA0, hV, rfl, hfz, hnd⟩ := hW
  have hA : DataW.TrodAll enc Try.prog W 0 (fun _ => true) true Try.f11.params.toList args.toList ds p := hA0
  have hA2 := hA
  have hlt : ∀ x ∈ p, x.block < W.heap.size := fun x hx => hW'.lt x (List.mem_append_left _ hx)
  rw [Try.params11] at hA hval
  obtain ⟨v0, vs0, d0, ds0, p0, q0, hargs, rfl, rfl, h0, r0⟩ := trodAll_cons hA
  obtain ⟨v1, vs1, d1, ds1, p1, q1, rfl, rfl, rfl, h1, r1⟩ := trodAll_cons r0
  obtain ⟨v2, vs2, d2, ds2, p2, q2, rfl, rfl, rfl, h2, r2⟩ := trodAll_cons r1
  obtain ⟨rfl, rfl, rfl⟩ := trodAll_nil r2
  obtain rfl : args = #[v0, v1, v2] := by cases args; simp_all
  obtain ⟨rfl, rfl⟩ := trodVars_none hV
  obtain ⟨V0, hx0, hw0⟩ := open_pins (hval 0 22 v0 rfl rfl) h0 (fun x hx => hlt x (by simp [hx]))
  obtain ⟨a1, rfl, rfl, rfl, w1⟩ := open_int Try.underlying50 (hval 1 50 v1 rfl rfl) h1
  obtain ⟨a2, rfl, rfl, rfl, w2⟩ := open_int Try.underlying50 (hval 2 50 v2 rfl rfl) h2
  clear hA0 hval0
  simp only [List.append_nil] at hW' hA2
  refine (barrelCovered_walk v0 V0 a1 a2 W hx0 (wf64 w1).1 (wf64 w1).2 (wf64 w2).1 (wf64 w2).2).mono fun e W' ⟨he, hb⟩ => ?_
  subst he
  exact ⟨_, rfl, law_post Try.laidOut Try.underlying4 hW' hA2 rfl rfl rfl rfl rfl (by kernel_rfl) hb⟩
theorem barrelCovered_holds : Rows.BarrelCoveredSaid :=
  OpenClaim.holds_of_wide 11 Try.f11 rfl rfl rfl rfl rfl rfl rfl ⟨rfl, rfl, rfl, rfl, rfl⟩ rfl rfl rfl rfl rfl (by kernel_rfl) Try.func11 (by kernel_rfl)
    (of_decide_eq_true (by kernel_rfl)) (by unfold Func.isWrapper; first | (rw [if_pos (by decide +kernel)]; kernel_rfl) | (rw [if_neg (by decide +kernel)]; exact ⟨rfl, rfl⟩))
    (fun os started H enc _ => barrelCovered_lifted os started H enc)
end
end Go.Proofs.Ytooddicegkiiiaa
