/- BarrelEither holds; no condition. -/
import Derived.Test.YtooddicegkiiiaaP8
namespace Go.Proofs.Ytooddicegkiiiaa
open Go.RowKit Go.Shelf

theorem joined_mods {V : List (Int × Int)} (hV : OkV V) (h : jO V = true) {i : Nat} (hi : i < V.length) : (jB V).tmod (pin V i).1 = 0 ∧ (jA V).tmod (pin V i).1 = (pin V i).2 := by
  have hJ := j_true hV h
  obtain ⟨p1, _, p3, p4⟩ := hV.at hi
  have h1 := (hJ.per (jB V)).1 (Int.dvd_refl _) _ (pin_mem hi)
  have h2 := hJ.at_ _ (pin_mem hi)
  have := hJ.t0; have := hJ.tp
  rw [Int.tmod_eq_emod_of_nonneg (by omega), Int.tmod_eq_emod_of_nonneg (by omega)]
  exact ⟨Int.emod_eq_zero_of_dvd h1, (mod_iff p3 p4).2 h2⟩
theorem together_at {V : List (Int × Int)} (hV : OkV V) (h : jO V = true) : (sndK V (jA V) V.length).length = V.length := (snd_all V _).2 (j_true hV h).at_
theorem not_all {V : List (Int × Int)} (hV : OkV V) (h : jO V = false) (T : Int) : (sndK V T V.length).length ≠ V.length := fun e => (j_false hV h).1 ⟨T, (snd_all V T).1 e⟩

set_option maxRecDepth 100000 in
set_option maxHeartbeats 4000000 in
theorem barrelEither_walk (x : Value) (V : List (Int × Int)) (n : Int) (w : World) (hx : RdP w x V) (h0 : 0 ≤ n) (h1 : n < 18446744073709551616) :
    Calls Try.prog 8 #[x, .int .u64 n] w fun e w' => e = .returned (.bool true) ∧ Below w.heap.size w w' := by
  obtain ⟨a, c, rfl⟩ := hx.ex _ rfl
  obtain ⟨_, _, e, hca, _, hxf⟩ := hx.form
  cases e
  have CW := Lib.hid (fun wz (hB : Below w.heap.size w wz) => works_any wz)
  have CF := Lib.hid (fun wz (hB : Below w.heap.size w wz) => fine_any _ V wz (hx.mono hB))
  by_cases hc : checkP V = 0
  · rw [hc] at CF
    have hV := okPins_of hc
    have h5 := hV.l5
    have HT := Lib.hid (fun w1 => timed_any n w1 h0 h1)
    have t0 : 0 ≤ n % 1000000000001 := by omega
    have t1 : n % 1000000000001 ≤ 1000000000000 := by omega
    have CS := Lib.hid (fun wz (hB : Below w.heap.size w wz) => sounds_any _ V (n % 1000000000001) wz (hx.mono hB) (by omega))
    unfold SndOk at CS
    rw [(open_time hc t0 t1).1, (open_time hc t0 t1).2] at CS
    have CT := Lib.hid (fun wz (hB : Below w.heap.size w wz) => together_ok _ V wz (hx.mono hB) hc)
    have CC := Lib.hid (fun wz (hB : Below w.heap.size w wz) => clash_any _ V wz (hx.mono hB) (by omega))
    cases ho : jO V
    · rw [ho] at CT
      have hNA := not_all hV.v ho (n % 1000000000001)
      obtain ⟨_, jz1, jz2⟩ := j_false hV.v ho
      rw [jz1, jz2] at CT
      have hnf : ¬ Free V := fun h => by rw [(jO_free hV.v).2 h] at ho; cases ho
      obtain ⟨i, k, hf⟩ := first_ex hnf
      obtain ⟨e1, e2, e3⟩ := clash_at hc hf
      rw [e1, e2, e3] at CC
      have hik := hf.lt
      have hkl := hf.len
      have hil : i < V.length := by omega
      obtain ⟨e4, e5⟩ := cc_at hc hil hkl (by omega)
      rw [hf.cl] at e4 e5
      rw [if_pos rfl] at e4 e5
      have CK := Lib.hid (fun wz (hB : Below w.heap.size w wz) => checkclash_any _ V i k wz (hx.mono hB) (by omega))
      rw [e4, e5] at CK
      obtain ⟨p1, p2, p3, p4⟩ := hV.v.at hil
      obtain ⟨q1, q2, q3, q4⟩ := hV.v.at hkl
      have CL := Lib.hid (fun wz (hB : Below w.heap.size w wz) => clashes_any (pin V i) (pin V k) wz p1 p2 p3 p4 q1 q2 q3 q4)
      rw [hf.cl] at CL
      unfold kv at CL
      have CG := Lib.hid (fun wz (hB : Below w.heap.size w wz) => rcommon_i (pin V i).1 (pin V k).1 wz (by omega) (by omega) (by omega) (by omega))
      obtain ⟨bx, ox, rfl, hbx, hcx⟩ := hxf (by omega)
      have gi0 := Lib.hid (fun wz (hB : Below w.heap.size w wz) => (show wz.cell? ⟨bx, ox + i * 2, none⟩ = some (Value.int .i64 (pin V i).1) from (hB.cell hbx).trans (hcx i hil).1))
      have gi1 := Lib.hid (fun wz (hB : Below w.heap.size w wz) => (show wz.cell? ⟨bx, ox + i * 2 + 1, none⟩ = some (Value.int .i64 (pin V i).2) from (hB.cell hbx).trans (hcx i hil).2))
      have gk0 := Lib.hid (fun wz (hB : Below w.heap.size w wz) => (show wz.cell? ⟨bx, ox + k * 2, none⟩ = some (Value.int .i64 (pin V k).1) from (hB.cell hbx).trans (hcx k hkl).1))
      have gk1 := Lib.hid (fun wz (hB : Below w.heap.size w wz) => (show wz.cell? ⟨bx, ox + k * 2 + 1, none⟩ = some (Value.int .i64 (pin V k).2) from (hB.cell hbx).trans (hcx k hkl).2))
      have hbz := Lib.hid (fun wz (hB : Below w.heap.size w wz) => Nat.lt_of_lt_of_le hbx hB.size)
      generalize hX : sndK V (n % 1000000000001) V.length = X at *
      have hl2 : ((X.length : Int) == (V.length : Int)) = false := by rw [beq_eq_false_iff_ne]; omega
      have hl3 : (X.length == V.length) = false := by rw [beq_eq_false_iff_ne]; omega
      clear hNA hX hcx hxf hf hnf ho e1 e2 e3 e4 e5 jz1 jz2 p3 p4 q3 q4 hc hV
      generalize gcdI (pin V i).1 (pin V k).1 = gg at *
      generalize pin V i = p at *
      generalize pin V k = q at *
      obtain ⟨pa, pb⟩ := p
      obtain ⟨qa, qb⟩ := q
      simp only at *
      generalize n % 1000000000001 = T at *
      have d1 : decide ((i : Int) < 0) = false := decide_eq_false (by omega)
      have d2 : decide ((k : Int) ≤ (i : Int)) = false := decide_eq_false (by omega)
      have d3 : decide ((V.length : Int) ≤ (k : Int)) = false := decide_eq_false (by omega)
      have d4 : decide (k ≤ i) = false := decide_eq_false (by omega)
      have d5 : decide (V.length ≤ k) = false := decide_eq_false (by omega)
      have KB0 := Lib.hid (bz w)
      go_enter Try.func8, Try.ntmps8
      go_wp2_with fail
      refine (CF.out _ KB0.out).mono ?_
      rintro e w1 ⟨rfl, hk⟩
      have KB1 := Lib.hid (btr KB0.out hk)
      clear KB0 hk
      go_wp2_with fail
      refine (CT.out _ KB1.out).mono ?_
      rintro e w2 ⟨rfl, hk⟩
      have KB2 := Lib.hid (btr KB1.out hk)
      clear KB1 hk
      go_wp2_with fail
      refine (CC.out _ KB2.out).mono ?_
      rintro e w3 ⟨rfl, hk⟩
      have KB3 := Lib.hid (btr KB2.out hk)
      clear KB2 hk
      go_wp2_with fail
      refine (HT.out _).mono ?_
      rintro e w' ⟨rfl, rfl⟩
      go_wp2_with fail
      refine (CS.out _ KB3.out).mono ?_
      rintro e w4 ⟨v, rfl, fS, hk⟩
      obtain ⟨aS, cS, hv⟩ := fS.ex _ rfl
      subst hv
      have KB4 := Lib.hid (btr KB3.out hk)
      have HS4 := Lib.hid fS
      clear KB3 fS hk
      go_upto_region 18 with fail
      refine wp_region_flow [] [([0, 1, 2, 3, 4, 5, 6, 7, 8, 9, 10, 11, 12, 13, 14, 15, 16, 17, 18, 19, 20, 21], 22, true)] [23, 24, 25, 26, 27, 28, 29, 30, 31] (by kernel_rfl) (by kernel_rfl) ?_
      intro w5 hk hh
      clear hh
      have KB5 := Lib.hid (btr KB4.out hk)
      have HS5 := Lib.hid (HS4.out.mono hk)
      have c0 := gi0.out _ KB5.out
      have c1 := gi1.out _ KB5.out
      have c2 := gk0.out _ KB5.out
      have c3 := gk1.out _ KB5.out
      have zb := hbz.out _ KB5.out
      have hL := @Later.cell w5
      have HW := Lib.hid (bz w5)
      clear KB4 HS4 hk
      simp only [flowP, flow, pickL, List.getElem?_cons_succ, List.getElem?_cons_zero]
      refine wpQuiet_nil ?_
      repeat (go_big_quiet_step (fail))
      refine wpQuiet_nil ?_
      go_wp2_with fail
      refine (CL.out _ KB5.out).mono ?_
      rintro e w6 ⟨rfl, hk⟩
      have KB6 := Lib.hid (btr KB5.out hk)
      have HS6 := Lib.hid (HS5.out.mono hk)
      clear HS5
      have HW2 := Lib.hid (btr HW.out hk)
      clear HW KB5
      go_wp2
      refine seg_grow ⟨⟨_, HW2.out⟩, rfl⟩ ?_
      have HW := HW2
      clear HW2 hk
      repeat (go_big_quiet_step (fail))
      refine wpQuiet_nil ?_
      refine only_done ?_
      clear HW c0 c1 c2 c3 zb hL
      go_wp2_with fail
      refine (CK.out _ KB6.out).mono ?_
      rintro e w7 ⟨rfl, hk⟩
      have KB7 := Lib.hid (btr KB6.out hk)
      have HS7 := Lib.hid (HS6.out.mono hk)
      clear KB6 HS6 hk
      go_upto_region 21 with fail
      refine wp_region_flow [] [([0, 1, 2, 3, 4, 5, 6, 7, 8, 9, 10, 11, 12, 13], 14, true), ([15, 16, 17], 18, true)] [19, 20] (by kernel_rfl) (by kernel_rfl) ?_
      intro w8 hk hh
      clear hh
      have KB8 := Lib.hid (btr KB7.out hk)
      have HS8 := Lib.hid (HS7.out.mono hk)
      have c0 := gi0.out _ KB8.out
      have c1 := gi1.out _ KB8.out
      have c2 := gk0.out _ KB8.out
      have c3 := gk1.out _ KB8.out
      have zb := hbz.out _ KB8.out
      have hL := @Later.cell w8
      have HW := Lib.hid (bz w8)
      clear KB7 HS7 hk
      simp only [flowP, flow, pickL, List.getElem?_cons_succ, List.getElem?_cons_zero]
      refine wpQuiet_nil ?_
      repeat (go_big_quiet_step (fail))
      refine wpQuiet_nil ?_
      go_wp2_with fail
      refine (CG.out _ KB8.out).mono ?_
      rintro e w9 ⟨rfl, hk⟩
      have KB9 := Lib.hid (btr KB8.out hk)
      have HS9 := Lib.hid (HS8.out.mono hk)
      clear HS8
      have HW2 := Lib.hid (btr HW.out hk)
      clear HW KB8
      go_wp2
      refine seg_grow ⟨⟨_, HW2.out⟩, rfl⟩ ?_
      have HW := HW2
      clear HW2 hk
      repeat (go_big_quiet_step (fail))
      refine wpQuiet_nil ?_
      go_wp2_with fail
      refine (CW.out _ KB9.out).mono ?_
      rintro e w10 ⟨rfl, hk⟩
      have KB10 := Lib.hid (btr KB9.out hk)
      have HS10 := Lib.hid (HS9.out.mono hk)
      clear HS9
      have HW2 := Lib.hid (btr HW.out hk)
      clear HW KB9
      go_wp2
      refine seg_grow ⟨⟨_, HW2.out⟩, rfl⟩ ?_
      have HW := HW2
      clear HW2 hk
      repeat (go_big_quiet_step (fail))
      refine wpQuiet_nil ?_
      refine only_done ?_
      clear HW c0 c1 c2 c3 zb hL
      go_wp2_with fail
      go_ret
      exact ⟨rfl, KB10.out⟩
    · rw [ho] at CT
      obtain ⟨e1, e2, e3⟩ := clash_yes hc ((jO_free hV.v).1 ho)
      rw [e1, e2, e3] at CC
      obtain ⟨a0, a1, a2⟩ := (jbd hV.v hV.l5).1 ho
      have CA := Lib.hid (fun wz (hB : Below w.heap.size w wz) => sounds_any _ V (jA V) wz (hx.mono hB) (by omega))
      unfold SndOk at CA
      rw [(open_time hc a0 (by omega)).1, (open_time hc a0 (by omega)).2] at CA
      have hln := together_at hV.v ho
      have HM := Lib.hid (fun k (hk : k < V.length) => joined_mods hV.v ho hk)
      have HV := Lib.hid hV.v
      generalize sndK V (jA V) V.length = Y at *
      generalize jA V = A at *
      generalize jB V = Bp at *
      clear ho hc hV e1 e2 e3
      generalize n % 1000000000001 = T at *
      have KB0 := Lib.hid (bz w)
      go_enter Try.func8, Try.ntmps8
      go_wp2_with fail
      refine (CF.out _ KB0.out).mono ?_
      rintro e w1 ⟨rfl, hk⟩
      have KB1 := Lib.hid (btr KB0.out hk)
      clear KB0 hk
      go_wp2_with fail
      refine (CT.out _ KB1.out).mono ?_
      rintro e w2 ⟨rfl, hk⟩
      have KB2 := Lib.hid (btr KB1.out hk)
      clear KB1 hk
      go_wp2_with fail
      refine (CC.out _ KB2.out).mono ?_
      rintro e w3 ⟨rfl, hk⟩
      have KB3 := Lib.hid (btr KB2.out hk)
      clear KB2 hk
      go_wp2_with fail
      refine (HT.out _).mono ?_
      rintro e w' ⟨rfl, rfl⟩
      go_wp2_with fail
      refine (CS.out _ KB3.out).mono ?_
      rintro e w4 ⟨v, rfl, fS, hk⟩
      obtain ⟨aS, cS, hv⟩ := fS.ex _ rfl
      subst hv
      have KB4 := Lib.hid (btr KB3.out hk)
      have HS4 := Lib.hid fS
      clear KB3 fS hk
      go_wp2_with fail
      refine (CA.out _ KB4.out).mono ?_
      rintro e w5 ⟨u, rfl, fA, hk⟩
      obtain ⟨aA, cA, hv⟩ := fA.ex V.length hln
      subst hv
      have KB5 := Lib.hid (btr KB4.out hk)
      have HS5 := Lib.hid (HS4.out.mono hk)
      have HA5 := Lib.hid fA
      clear KB4 HS4 fA hk
      go_wp2_with fail
      go_loopw [16] (fun i wr => ∃ k : Nat, k ≤ V.length ∧ i = .int .i64 k ∧ Below w.heap.size w wr) (fun i _ => V.length - (intOf i).toNat)
      case atStart => exact ⟨0, Nat.zero_le _, rfl, KB5.out⟩
      case round =>
        obtain ⟨k, hk, rfl, hBr⟩ := hrel
        clear KB5
        have KBL := Lib.hid hBr
        clear hBr
        by_cases hlt : k < V.length
        · obtain ⟨bx, ox, rfl, hbx, hcx⟩ := hxf (by omega)
          have gi0 := Lib.hid (fun wz (hB : Below w.heap.size w wz) => (show wz.cell? ⟨bx, ox + k * 2, none⟩ = some (Value.int .i64 (pin V k).1) from (hB.cell hbx).trans (hcx k hlt).1))
          have gi1 := Lib.hid (fun wz (hB : Below w.heap.size w wz) => (show wz.cell? ⟨bx, ox + k * 2 + 1, none⟩ = some (Value.int .i64 (pin V k).2) from (hB.cell hbx).trans (hcx k hlt).2))
          have hbz := Lib.hid (fun wz (hB : Below w.heap.size w wz) => Nat.lt_of_lt_of_le hbx hB.size)
          obtain ⟨m1, m2⟩ := HM.out k hlt
          obtain ⟨p1, p2, p3, p4⟩ := HV.out.at hlt
          clear hcx hxf
          generalize pin V k = p at *
          obtain ⟨pa, pb⟩ := p
          simp only at *
          rw [Int.tmod_eq_emod_of_nonneg (by omega)] at m1 m2
          have e1 : (Bp % pa != 0) = false := by rw [m1]; rfl
          have e2 : (A % pa != pb) = false := by rw [m2]; simp
          have z1 : (pa == 0) = false := by rw [beq_eq_false_iff_ne]; omega
          clear m1 m2
          go_upto_region 15 with fail
          refine wp_region_flow [] [] [0, 1, 2, 3, 4, 5, 6, 7, 8, 9, 10, 11, 12, 13, 14, 15, 16, 17, 18, 19, 20, 21, 22] (by kernel_rfl) (by kernel_rfl) ?_
          intro w6 hk hh
          clear hh
          have KB6 := Lib.hid (btr KBL.out hk)
          have c0 := gi0.out _ KB6.out
          have c1 := gi1.out _ KB6.out
          have zb := hbz.out _ KB6.out
          have hL := @Later.cell w6
          have HW := Lib.hid (bz w6)
          clear KBL hk
          simp only [flowP, flow, pickL, List.getElem?_cons_succ, List.getElem?_cons_zero]
          refine wpQuiet_nil ?_
          repeat (go_big_quiet_step (fail))
          refine wpQuiet_nil ?_
          refine only_done ?_
          clear HW c0 c1 zb hL
          go_wp2_with fail
          go_roundw
          case rel => exact ⟨k + 1, by omega, by go_num, KB6.out⟩
          case measure => simp [intOf]; omega
        · go_wp2_with fail
          refine (CW.out _ KBL.out).mono ?_
          rintro e w6 ⟨rfl, hk⟩
          have KB6 := Lib.hid (btr KBL.out hk)
          clear KBL hk
          go_wp2_with fail
          go_ret
          exact ⟨rfl, KB6.out⟩
  · have hcb : (checkP V == 0) = false := by simpa using hc
    rw [hcb] at CF
    have KB0 := Lib.hid (bz w)
    go_enter Try.func8, Try.ntmps8
    go_wp2_with fail
    refine (CF.out _ KB0.out).mono ?_
    rintro e w1 ⟨rfl, hk⟩
    have KB1 := Lib.hid (btr KB0.out hk)
    clear KB0 hk
    go_wp2_with fail
    refine (CW.out _ KB1.out).mono ?_
    rintro e w2 ⟨rfl, hk⟩
    have KB2 := Lib.hid (btr KB1.out hk)
    clear KB1 hk
    go_wp2_with fail
    go_ret
    exact ⟨rfl, KB2.out⟩
theorem wf_u64 {n : Int} (h : (Lit.int .u64 n).wf = true) : 0 ≤ n ∧ n < 18446744073709551616 := by
  simp [Lit.wf, IntKind.min, IntKind.max, IntKind.signed, IntKind.bits] at h
  omega
section
open Go.ChangeShapes Go.WideShapes Go.ChangeAt
set_option maxRecDepth 100000 in
theorem barrelEither_lifted (os : Os) (started : os.Started) (H : Type) (enc : TypeId × Value → H) :
    ReturnsInHanded {} Try.checked os 8 .any (Rows.barrelEitherSpec.pre6 enc Try.prog Try.f8 Rows.barrelEitherRow.domain false) (Rows.barrelEitherSpec.post enc Try.prog Try.f8 false true false false) := by
  refine returnsInHanded_of_change (C := Try.checked) Try.own started (by kernel_rfl) Try.func8
    (ChangeSpec.witness6 (enc := enc) (C := Try.checked) false ⟨#[], #[.slice none 0 0, .int .u64 0], []⟩ 8 (by kernel_rfl) (by kernel_rfl) (by kernel_rfl) (by kernel_rfl)) ?_
  intro W base args ds gs before hval0 hW _ _
  have hval : ∀ (j : Nat) t v, Try.f8.params[j]? = some t → args[j]? = some v → Value.okWide Try.prog W .any base t v := hval0
  have hW' := hW
  obtain ⟨p, q, hA0, hV, rfl, hfz, hnd⟩ := hW
  have hA : DataW.TrodAll enc Try.prog W 0 (fun _ => true) true Try.f8.params.toList args.toList ds p := hA0
  have hA2 := hA
  have hlt : ∀ x ∈ p, x.block < W.heap.size := fun x hx => hW'.lt x (List.mem_append_left _ hx)
  rw [Try.params8] at hA hval
  obtain ⟨v0, vs0, d0, ds0, p0, q0, hargs, rfl, rfl, h0, r0⟩ := trodAll_cons hA
  obtain ⟨v1, vs1, d1, ds1, p1, q1, rfl, rfl, rfl, h1, r1⟩ := trodAll_cons r0
  obtain ⟨rfl, rfl, rfl⟩ := trodAll_nil r1
  obtain rfl : args = #[v0, v1] := by cases args; simp_all
  obtain ⟨rfl, rfl⟩ := trodVars_none hV
  obtain ⟨V0, hx0, hw0⟩ := open_pins (hval 0 22 v0 rfl rfl) h0 (fun x hx => hlt x (by simp [hx]))
  obtain ⟨a1, rfl, rfl, rfl, w1⟩ := open_int Try.underlying50 (hval 1 50 v1 rfl rfl) h1
  clear hA0 hval0
  simp only [List.append_nil] at hW' hA2
  refine (barrelEither_walk v0 V0 a1 W hx0 (wf_u64 w1).1 (wf_u64 w1).2).mono fun e W' ⟨he, hb⟩ => ?_
  subst he
  exact ⟨_, rfl, law_post Try.laidOut Try.underlying4 hW' hA2 rfl rfl rfl rfl rfl (by kernel_rfl) hb⟩
theorem barrelEither_holds : Rows.BarrelEitherSaid :=
  OpenClaim.holds_of_wide 8 Try.f8 rfl rfl rfl rfl rfl rfl rfl ⟨rfl, rfl, rfl, rfl, rfl⟩ rfl rfl rfl rfl rfl (by kernel_rfl) Try.func8 (by kernel_rfl)
    (of_decide_eq_true (by kernel_rfl)) (by unfold Func.isWrapper; first | (rw [if_pos (by decide +kernel)]; kernel_rfl) | (rw [if_neg (by decide +kernel)]; exact ⟨rfl, rfl⟩))
    (fun os started H enc _ => barrelEither_lifted os started H enc)
end
end Go.Proofs.Ytooddicegkiiiaa
