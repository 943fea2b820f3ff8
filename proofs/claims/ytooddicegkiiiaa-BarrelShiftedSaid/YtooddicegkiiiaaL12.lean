/- BarrelShifted holds; no condition. -/
import Derived.Test.YtooddicegkiiiaaP11
namespace Go.Proofs.Ytooddicegkiiiaa
open Go.RowKit Go.Shelf

set_option maxRecDepth 100000 in
set_option maxHeartbeats 16000000 in
theorem barrelShifted_walk (x : Value) (V : List (Int × Int)) (b n : Int) (w : World) (hx : RdP w x V) (b0 : 0 ≤ b) (b1 : b ≤ 65535) (h0 : 0 ≤ n) (h1 : n < 18446744073709551616) :
    Calls Try.prog 12 #[x, .int .u16 b, .int .u64 n] w fun e w' => e = .returned (.bool true) ∧ Below w.heap.size w w' := by
  obtain ⟨a, c, rfl⟩ := hx.ex _ rfl
  obtain ⟨_, _, e, hca, _, hxf⟩ := hx.form
  cases e
  have CW := Lib.hid (fun wz (hB : Below w.heap.size w wz) => works_any wz)
  have CF := Lib.hid (fun wz (hB : Below w.heap.size w wz) => fine_any _ V wz (hx.mono hB))
  by_cases hc : checkP V = 0
  · rw [hc] at CF
    have hV := okPins_of hc
    have h5 := hV.l5
    have hl1 := hV.l1
    have HV := Lib.hid hV.v
    have HC := Lib.hid hc
    have HT := Lib.hid (fun w1 => timed_any n w1 h0 h1)
    have t0 : 0 ≤ n % 1000000000001 := by omega
    have t1 : n % 1000000000001 ≤ 1000000000000 := by omega
    generalize n % 1000000000001 = T at *
    have hcu : checkP (V.map (turnP b)) = 0 := check_of_ok ⟨by rw [List.length_map]; exact hl1, by rw [List.length_map]; exact h5, turn_ok hV.v b⟩
    have HCU := Lib.hid hcu
    have CT := Lib.hid (fun wz (hB : Below w.heap.size w wz) => together_ok _ V wz (hx.mono hB) hc)
    have CC := Lib.hid (fun wz (hB : Below w.heap.size w wz) => clash_any _ V wz (hx.mono hB) (by omega))
    have CG := Lib.hid (fun wz (hB : Below w.heap.size w wz) => group_any _ V wz (hx.mono hB) (by omega))
    unfold GrpOk at CG
    rw [hc] at CG
    have CS := Lib.hid (fun wz (hB : Below w.heap.size w wz) => sounds_any _ V T wz (hx.mono hB) (by omega))
    unfold SndOk at CS
    rw [(open_time hc t0 t1).1, (open_time hc t0 t1).2] at CS
    have HJ := Lib.hid (turn_j hV.v b)
    have HAL := Lib.hid ((turn_alike b V).clash hc hcu)
    have HGR := Lib.hid ((turn_alike b V).group hc hcu)
    have HTS := Lib.hid (turn_snd b V T)
    have HBD := Lib.hid (jbd hV.v hV.l5)
    clear hc hcu hV
    have KB0 := Lib.hid (bz w)
    go_enter Try.func12, Try.ntmps12
    go_wp2_with fail
    refine (CF.out _ KB0.out).mono ?_
    rintro e w1 ⟨rfl, hk⟩
    have KB1 := Lib.hid (btr KB0.out hk)
    clear KB0 hk
    go_wp2_with fail
    refine (HT.out _).mono ?_
    rintro e w' ⟨rfl, rfl⟩
    go_wp2_with fail
    go_loopw [9, 10] (fun s9 i wr => ∃ (k : Nat) (v : Value), k ≤ V.length ∧ v = s9 ∧ i = .int .i64 k ∧ wr.ownsRow w.heap.size 55 2 v k (prs ((V.take k).map (turnP b))) ∧ Below w.heap.size w wr) (fun _ i _ => V.length - (intOf i).toNat)
    case atStart => exact ⟨0, _, Nat.zero_le _, rfl, rfl, World.ownsRow_nil _ _ _ _, KB1.out⟩
    case round =>
      obtain ⟨k, v, hk, rfl, rfl, hor, hBr⟩ := hrel
      obtain ⟨av, cv, rfl⟩ := owns_form hor
      clear KB1
      by_cases hlt : k < V.length
      · obtain ⟨bx, ox, rfl, hbx, hcx⟩ := hxf (by omega)
        have gx := (hBr.cell (p := ⟨bx, ox + k * 2, none⟩) hbx).trans (hcx k hlt).1
        have gy := (hBr.cell (p := ⟨bx, ox + k * 2 + 1, none⟩) hbx).trans (hcx k hlt).2
        change wr.cell? _ = some (Value.int .i64 (pin V k).1) at gx
        change wr.cell? _ = some (Value.int .i64 (pin V k).2) at gy
        obtain ⟨p1, p2, p3, p4⟩ := HV.out.at hlt
        have HS := Lib.hid (take_map_one (turnP b) V k hlt)
        have hlk : ((V.take k).map (turnP b)).length = k := by rw [List.length_map, List.length_take]; omega
        have HOR := Lib.hid hor; have HB := Lib.hid hBr
        clear hor hBr hxf hcx CT CC CG CS HJ HAL HGR HTS HBD HCU HC
        generalize (V.take k).map (turnP b) = U at *
        rw [show turnP b (pin V k) = ((pin V k).1, ((pin V k).2 + b) % (pin V k).1) from rfl] at HS
        generalize pin V k = q at *
        obtain ⟨q1, q2⟩ := q
        simp only at p1 p2 p3 p4 gx gy HS
        have r1 := Int.emod_nonneg (q2 + b) (b := q1) (by omega)
        have r2 := Int.emod_lt_of_pos (q2 + b) (b := q1) (by omega)
        have w2 : IntKind.i64.wrap (q2 + b) = q2 + b := IntWalk.i64_in _ (by omega)
        have w3 : IntKind.i64.wrap ((q2 + b) % q1) = (q2 + b) % q1 := IntWalk.i64_in _ (by omega)
        have z1 : (q1 == 0) = false := by rw [beq_eq_false_iff_ne]; omega
        go_wp2_with fail
        refine wp_region_flow [] [([0, 1, 2, 3, 4, 5, 6, 7, 8, 9, 10, 11, 12, 13, 14, 15, 16, 17, 18, 19], 20, true), ([], 21, false), ([], 22, false)] [] (by kernel_rfl) (by kernel_rfl) ?_
        intro wc hBc hh
        have d0 := (hBc.cell (World.block_lt_of_cell? wr _ gx)).trans gx
        have d1 := (hBc.cell (World.block_lt_of_cell? wr _ gy)).trans gy
        have z1' := World.block_lt_of_cell? wc _ d0
        simp only at z1'
        have hL := @Later.cell wc
        have HBC := Lib.hid (btr HB.out hBc)
        have HORC := Lib.hid (owns_kept HOR.out hBc)
        clear hh hBc gx gy
        simp only [flowP, flow, pickL, List.getElem?_cons_succ, List.getElem?_cons_zero]
        refine wpQuiet_nil ?_
        repeat (go_big_quiet_step (fail))
        refine wpQuiet_nil ?_
        go_wp2
        refine seg_grow ⟨⟨_, bal (bz _) _⟩, rfl⟩ ?_
        refine wpQuiet_nil ?_
        have hbz : w.heap.size ≤ wc.heap.size := HBC.out.size
        have hor2 : wc.ownsRow w.heap.size 55 2 (.slice av k cv) U.length (prs U) := by rw [hlk]; exact HORC.out
        have HLK := Lib.hid hlk
        refine wpList_append_pair rfl _ _ rfl Try.underlying22 info55 hor2 hbz q1 ((q2 + b) % q1) rfl rfl rfl (by omega) ?_
        intro v' w' hown hgrow
        have HBN := Lib.hid (append_below (bal HBC.out _) (hor2.alloc _) hgrow (Nat.le_refl _))
        rw [List.length_append, hlk] at hown
        have HOWN := Lib.hid hown
        clear hown hgrow d0 d1 hor2 hlk
        go_wp2
        refine seg_write ?_
        refine wpQuiet_nil ?_
        go_wp2
        refine seg_write ?_
        refine wpQuiet_nil ?_
        refine only_done ?_
        go_wp2_with fail
        go_roundw
        case rel => exact ⟨k + 1, v', by omega, rfl, by go_num, by rw [HS.out]; exact HOWN.out, HBN.out⟩
        case measure => simp [intOf]; omega
      · have hkl : k = V.length := by omega
        rw [hkl, List.take_length] at hor
        have hrd : RdP wr (.slice av k cv) (V.map (turnP b)) := by have h := RdP.of_owns hor; rwa [← hkl] at h
        have HRD := Lib.hid hrd; have KBL := Lib.hid hBr
        clear hor hrd hBr hxf hkl
        have h5' : (V.map (turnP b)).length ≤ 5 := by rw [List.length_map]; exact h5
        obtain ⟨u1, u2, u3⟩ := HJ.out; obtain ⟨l1, l2, l3⟩ := HAL.out; have lg := HGR.out; have ls := HTS.out
        have bd := HBD.out
        have hgl : (natL (grpN V)).length ≤ 1000 := by rw [natL_len]; have := grp_le V; omega
        have hsl : (sndK V T V.length).length ≤ 1000 := by have := sndK_le V T V.length; omega
        have HV0 := Lib.hid (fun ho : jO V = false => (j_false HV.out ho).2)
        have HVU := Lib.hid (fun ho => (j_false (turn_ok HV.out b) ho).2)
        clear HJ HAL HGR HTS HBD HC
        generalize V.map (turnP b) = U at *
        have CFU := Lib.hid (fun wz hx => fine_any (.slice av k cv) U wz hx)
        have CTU := Lib.hid (fun wz hx => together_ok (.slice av k cv) U wz hx HCU.out); rw [u1, u3] at CTU
        have CCU := Lib.hid (fun wz hx => clash_any (.slice av k cv) U wz hx (by omega)); rw [← l1, ← l2, ← l3] at CCU
        have CGU := Lib.hid (fun wz hx => group_any (.slice av k cv) U wz hx (by omega)); unfold GrpOk at CGU; rw [← lg, HCU.out] at CGU
        have CSU := Lib.hid (fun (hti : T + b ≤ 1000000000000) wz hx => sounds_any (.slice av k cv) U (T + b) wz hx (by omega)); unfold SndOk at CSU
        have HOT := Lib.hid (fun (hti : T + b ≤ 1000000000000) => open_time HCU.out (T := T + b) (by omega) hti)
        rw [ls] at HOT
        have wT : IntKind.i64.wrap (T + b) = T + b := IntWalk.i64_in _ (by omega)
        clear l1 l2 l3 lg ls u3 h5' HCU
        have HU1 := Lib.hid u1
        rw [u1] at HVU
        clear u1
        generalize clA V = qa at *; generalize clK V = qk at *; generalize clE' V = qe at *
        generalize natL (grpN V) = G at *; generalize sndK V T V.length = S at *
        cases ho : jO V
        · have HRD0 := HRD
          clear HRD
          obtain ⟨y1, y2⟩ := HV0.out ho; obtain ⟨y3, y4⟩ := HVU.out ho
          rw [ho, y1, y2] at CT; rw [ho, y2, y3] at CTU
          clear y1 y2 y3 y4 u2 bd HV0 HVU HU1 ho HV
          go_wp2_with fail
          refine (CT.out _ KBL.out).mono ?_
          rintro e w21 ⟨rfl, hk⟩
          have KB21 := Lib.hid (btr KBL.out hk)
          have HRD21 := Lib.hid (HRD0.out.mono hk)
          clear KBL HRD0 hk
          go_wp2_with fail
          refine (CTU.out _ HRD21.out).mono ?_
          rintro e w22 ⟨rfl, hk⟩
          have KB22 := Lib.hid (btr KB21.out hk)
          have HRD22 := Lib.hid (HRD21.out.mono hk)
          clear KB21 HRD21 hk
          go_wp2_with fail
          refine (CC.out _ KB22.out).mono ?_
          rintro e w23 ⟨rfl, hk⟩
          have KB23 := Lib.hid (btr KB22.out hk)
          have HRD23 := Lib.hid (HRD22.out.mono hk)
          clear KB22 HRD22 hk
          go_wp2_with fail
          refine (CCU.out _ HRD23.out).mono ?_
          rintro e w24 ⟨rfl, hk⟩
          have KB24 := Lib.hid (btr KB23.out hk)
          have HRD24 := Lib.hid (HRD23.out.mono hk)
          clear KB23 HRD23 hk
          go_wp2_with fail
          refine (CG.out _ KB24.out).mono ?_
          rintro e w25 ⟨v, rfl, fA, hk⟩
          obtain ⟨aA, cA, hv⟩ := fA.ex _ rfl
          subst hv
          have KB25 := Lib.hid (btr KB24.out hk)
          have HRD25 := Lib.hid (HRD24.out.mono hk)
          have HA25 := Lib.hid fA
          clear KB24 HRD24 fA hk
          go_wp2_with fail
          refine (CGU.out _ HRD25.out).mono ?_
          rintro e w26 ⟨u, rfl, fB, hk⟩
          have KB26 := Lib.hid (btr KB25.out hk)
          have HRD26 := Lib.hid (HRD25.out.mono hk)
          have HA26 := Lib.hid (HA25.out.mono hk)
          have HB26 := Lib.hid fB
          clear KB25 HRD25 HA25 fB hk
          obtain ⟨aB, cB, hv⟩ := HB26.out.ex _ rfl
          subst hv
          go_wp2_with fail
          refine (ints_eq _ _ G _ HA26.out HB26.out hgl).mono ?_
          rintro e w27 ⟨rfl, hk⟩
          have KB27 := Lib.hid (btr KB26.out hk)
          have HRD27 := Lib.hid (HRD26.out.mono hk)
          have HA27 := Lib.hid (HA26.out.mono hk)
          have HB27 := Lib.hid (HB26.out.mono hk)
          clear KB26 HRD26 HA26 HB26 hk
          by_cases hti : T + b ≤ 1000000000000
          · obtain ⟨o1, o2⟩ := HOT.out hti; have CSV := Lib.hid (CSU.out hti)
            rw [o1, o2] at CSV
            clear o1 o2 CSU HOT
            have h9 : ¬ (1000000000000 : Int) < T + b := by omega
            have h8 : decide ((1000000000000 : Int) < T + b) = false := decide_eq_false (by omega)
            go_wp2_with fail
            refine (CS.out _ KB27.out).mono ?_
            rintro e w28 ⟨v, rfl, fS, hk⟩
            obtain ⟨aS, cS, hv⟩ := fS.ex _ rfl
            subst hv
            have KB28 := Lib.hid (btr KB27.out hk)
            have HRD28 := Lib.hid (HRD27.out.mono hk)
            have HA28 := Lib.hid (HA27.out.mono hk)
            have HB28 := Lib.hid (HB27.out.mono hk)
            have HS28 := Lib.hid fS
            clear KB27 HRD27 HA27 HB27 fS hk
            go_wp2_with fail
            refine (CSV.out _ HRD28.out).mono ?_
            rintro e w29 ⟨u, rfl, fD, hk⟩
            have KB29 := Lib.hid (btr KB28.out hk)
            have HRD29 := Lib.hid (HRD28.out.mono hk)
            have HA29 := Lib.hid (HA28.out.mono hk)
            have HB29 := Lib.hid (HB28.out.mono hk)
            have HS29 := Lib.hid (HS28.out.mono hk)
            have HD29 := Lib.hid fD
            clear KB28 HRD28 HA28 HB28 HS28 fD hk
            obtain ⟨aD, cD, hv⟩ := HD29.out.ex _ rfl
            subst hv
            go_wp2_with fail
            refine (ints_eq _ _ S _ HS29.out HD29.out hsl).mono ?_
            rintro e w30 ⟨rfl, hk⟩
            have KB30 := Lib.hid (btr KB29.out hk)
            have HRD30 := Lib.hid (HRD29.out.mono hk)
            have HA30 := Lib.hid (HA29.out.mono hk)
            have HB30 := Lib.hid (HB29.out.mono hk)
            have HS30 := Lib.hid (HS29.out.mono hk)
            have HD30 := Lib.hid (HD29.out.mono hk)
            clear KB29 HRD29 HA29 HB29 HS29 HD29 hk
            go_wp2_with fail
            refine (CW.out _ KB30.out).mono ?_
            rintro e w31 ⟨rfl, hk⟩
            have KB31 := Lib.hid (btr KB30.out hk)
            have HRD31 := Lib.hid (HRD30.out.mono hk)
            have HA31 := Lib.hid (HA30.out.mono hk)
            have HB31 := Lib.hid (HB30.out.mono hk)
            have HS31 := Lib.hid (HS30.out.mono hk)
            have HD31 := Lib.hid (HD30.out.mono hk)
            clear KB30 HRD30 HA30 HB30 HS30 HD30 hk
            go_wp2_with fail
            go_ret
            exact ⟨rfl, KB31.out⟩
          · have hti2 : (1000000000000 : Int) < T + b := by omega
            go_wp2_with fail
            refine (CW.out _ KB27.out).mono ?_
            rintro e w28 ⟨rfl, hk⟩
            have KB28 := Lib.hid (btr KB27.out hk)
            have HRD28 := Lib.hid (HRD27.out.mono hk)
            have HA28 := Lib.hid (HA27.out.mono hk)
            have HB28 := Lib.hid (HB27.out.mono hk)
            clear KB27 HRD27 HA27 HB27 hk
            go_wp2_with fail
            go_ret
            exact ⟨rfl, KB28.out⟩
        · have HRD0 := HRD
          clear HRD
          have u2 := u2 ho; obtain ⟨x0, x1, x2⟩ := bd.1 ho; rw [ho] at CT; rw [ho, u2] at CTU
          clear u2 bd HV0 HVU HU1 ho HV
          generalize jA V = A at *; generalize jB V = Bp at *
          have wA : IntKind.i64.wrap (A + b) = A + b := IntWalk.i64_in _ (by omega)
          have zB : (Bp == 0) = false := by rw [beq_eq_false_iff_ne]; omega
          obtain ⟨G2, hG2⟩ : ∃ G2, (A + b) % Bp = G2 := ⟨_, rfl⟩
          have hg0 := Int.emod_nonneg (A + b) (b := Bp) (by omega); have hg1 := Int.emod_lt_of_pos (A + b) (b := Bp) (by omega)
          have wG : IntKind.i64.wrap ((A + b) % Bp) = (A + b) % Bp := IntWalk.i64_in _ (by omega)
          rw [hG2] at CTU hg0 hg1
          have hne : ((A + b) % Bp != G2) = false := by rw [hG2]; simp
          have HG2 := Lib.hid hG2; clear hG2 wG
          go_wp2_with fail
          refine (CT.out _ KBL.out).mono ?_
          rintro e w21 ⟨rfl, hk⟩
          have KB21 := Lib.hid (btr KBL.out hk)
          have HRD21 := Lib.hid (HRD0.out.mono hk)
          clear KBL HRD0 hk
          go_wp2_with fail
          refine (CTU.out _ HRD21.out).mono ?_
          rintro e w22 ⟨rfl, hk⟩
          have KB22 := Lib.hid (btr KB21.out hk)
          have HRD22 := Lib.hid (HRD21.out.mono hk)
          clear KB21 HRD21 hk
          go_wp2_with fail
          refine (CC.out _ KB22.out).mono ?_
          rintro e w23 ⟨rfl, hk⟩
          have KB23 := Lib.hid (btr KB22.out hk)
          have HRD23 := Lib.hid (HRD22.out.mono hk)
          clear KB22 HRD22 hk
          go_wp2_with fail
          refine (CCU.out _ HRD23.out).mono ?_
          rintro e w24 ⟨rfl, hk⟩
          have KB24 := Lib.hid (btr KB23.out hk)
          have HRD24 := Lib.hid (HRD23.out.mono hk)
          clear KB23 HRD23 hk
          go_wp2_with fail
          refine (CG.out _ KB24.out).mono ?_
          rintro e w25 ⟨v, rfl, fA, hk⟩
          obtain ⟨aA, cA, hv⟩ := fA.ex _ rfl
          subst hv
          have KB25 := Lib.hid (btr KB24.out hk)
          have HRD25 := Lib.hid (HRD24.out.mono hk)
          have HA25 := Lib.hid fA
          clear KB24 HRD24 fA hk
          go_wp2_with fail
          refine (CGU.out _ HRD25.out).mono ?_
          rintro e w26 ⟨u, rfl, fB, hk⟩
          have KB26 := Lib.hid (btr KB25.out hk)
          have HRD26 := Lib.hid (HRD25.out.mono hk)
          have HA26 := Lib.hid (HA25.out.mono hk)
          have HB26 := Lib.hid fB
          clear KB25 HRD25 HA25 fB hk
          obtain ⟨aB, cB, hv⟩ := HB26.out.ex _ rfl
          subst hv
          go_wp2_with fail
          refine (ints_eq _ _ G _ HA26.out HB26.out hgl).mono ?_
          rintro e w27 ⟨rfl, hk⟩
          have KB27 := Lib.hid (btr KB26.out hk)
          have HRD27 := Lib.hid (HRD26.out.mono hk)
          have HA27 := Lib.hid (HA26.out.mono hk)
          have HB27 := Lib.hid (HB26.out.mono hk)
          clear KB26 HRD26 HA26 HB26 hk
          by_cases hti : T + b ≤ 1000000000000
          · obtain ⟨o1, o2⟩ := HOT.out hti; have CSV := Lib.hid (CSU.out hti)
            rw [o1, o2] at CSV
            clear o1 o2 CSU HOT
            have h9 : ¬ (1000000000000 : Int) < T + b := by omega
            have h8 : decide ((1000000000000 : Int) < T + b) = false := decide_eq_false (by omega)
            go_wp2_with fail
            refine (CS.out _ KB27.out).mono ?_
            rintro e w28 ⟨v, rfl, fS, hk⟩
            obtain ⟨aS, cS, hv⟩ := fS.ex _ rfl
            subst hv
            have KB28 := Lib.hid (btr KB27.out hk)
            have HRD28 := Lib.hid (HRD27.out.mono hk)
            have HA28 := Lib.hid (HA27.out.mono hk)
            have HB28 := Lib.hid (HB27.out.mono hk)
            have HS28 := Lib.hid fS
            clear KB27 HRD27 HA27 HB27 fS hk
            go_wp2_with fail
            refine (CSV.out _ HRD28.out).mono ?_
            rintro e w29 ⟨u, rfl, fD, hk⟩
            have KB29 := Lib.hid (btr KB28.out hk)
            have HRD29 := Lib.hid (HRD28.out.mono hk)
            have HA29 := Lib.hid (HA28.out.mono hk)
            have HB29 := Lib.hid (HB28.out.mono hk)
            have HS29 := Lib.hid (HS28.out.mono hk)
            have HD29 := Lib.hid fD
            clear KB28 HRD28 HA28 HB28 HS28 fD hk
            obtain ⟨aD, cD, hv⟩ := HD29.out.ex _ rfl
            subst hv
            go_wp2_with fail
            refine (ints_eq _ _ S _ HS29.out HD29.out hsl).mono ?_
            rintro e w30 ⟨rfl, hk⟩
            have KB30 := Lib.hid (btr KB29.out hk)
            have HRD30 := Lib.hid (HRD29.out.mono hk)
            have HA30 := Lib.hid (HA29.out.mono hk)
            have HB30 := Lib.hid (HB29.out.mono hk)
            have HS30 := Lib.hid (HS29.out.mono hk)
            have HD30 := Lib.hid (HD29.out.mono hk)
            clear KB29 HRD29 HA29 HB29 HS29 HD29 hk
            go_wp2_with fail
            refine (CW.out _ KB30.out).mono ?_
            rintro e w31 ⟨rfl, hk⟩
            have KB31 := Lib.hid (btr KB30.out hk)
            have HRD31 := Lib.hid (HRD30.out.mono hk)
            have HA31 := Lib.hid (HA30.out.mono hk)
            have HB31 := Lib.hid (HB30.out.mono hk)
            have HS31 := Lib.hid (HS30.out.mono hk)
            have HD31 := Lib.hid (HD30.out.mono hk)
            clear KB30 HRD30 HA30 HB30 HS30 HD30 hk
            go_wp2_with fail
            go_ret
            exact ⟨rfl, KB31.out⟩
          · have hti2 : (1000000000000 : Int) < T + b := by omega
            go_wp2_with fail
            refine (CW.out _ KB27.out).mono ?_
            rintro e w28 ⟨rfl, hk⟩
            have KB28 := Lib.hid (btr KB27.out hk)
            have HRD28 := Lib.hid (HRD27.out.mono hk)
            have HA28 := Lib.hid (HA27.out.mono hk)
            have HB28 := Lib.hid (HB27.out.mono hk)
            clear KB27 HRD27 HA27 HB27 hk
            go_wp2_with fail
            go_ret
            exact ⟨rfl, KB28.out⟩
  · have hcb : (checkP V == 0) = false := by simpa using hc
    rw [hcb] at CF
    have KB0 := Lib.hid (bz w)
    go_enter Try.func12, Try.ntmps12
    go_wp2_with fail
    refine (CF.out _ KB0.out).mono ?_
    rintro e w1 ⟨rfl, hk⟩
    have KB1 := Lib.hid (btr KB0.out hk)
    clear KB0 hk
    go_wp2_with fail
    refine (CW.out _ KB1.out).mono ?_
    rintro e w2 ⟨rfl, hk⟩
    have KB2 := Lib.hid (btr KB1.out hk)
    clear KB1 hk
    go_wp2_with fail
    go_ret
    exact ⟨rfl, KB2.out⟩
section
open Go.ChangeShapes Go.WideShapes Go.ChangeAt
set_option maxRecDepth 100000 in
theorem barrelShifted_lifted (os : Os) (started : os.Started) (H : Type) (enc : TypeId × Value → H) :
    ReturnsInHanded {} Try.checked os 12 .any (Rows.barrelShiftedSpec.pre6 enc Try.prog Try.f12 Rows.barrelShiftedRow.domain false) (Rows.barrelShiftedSpec.post enc Try.prog Try.f12 false true false false) := by
  refine returnsInHanded_of_change (C := Try.checked) Try.own started (by kernel_rfl) Try.func12
    (ChangeSpec.witness6 (enc := enc) (C := Try.checked) false ⟨#[], #[.slice none 0 0, .int .u16 0, .int .u64 0], []⟩ 8 (by kernel_rfl) (by kernel_rfl) (by kernel_rfl) (by kernel_rfl)) ?_
  intro W base args ds gs before hval0 hW _ _
  have hval : ∀ (j : Nat) t v, Try.f12.params[j]? = some t → args[j]? = some v → Value.okWide Try.prog W .any base t v := hval0
  have hW' := hW
  obtain ⟨p, q, hA0, hV, rfl, hfz, hnd⟩ := hW
  have hA : DataW.TrodAll enc Try.prog W 0 (fun _ => true) true Try.f12.params.toList args.toList ds p := hA0
  have hA2 := hA
  have hlt : ∀ x ∈ p, x.block < W.heap.size := fun x hx => hW'.lt x (List.mem_append_left _ hx)
  rw [Try.params12] at hA hval
  obtain ⟨v0, vs0, d0, ds0, p0, q0, hargs, rfl, rfl, h0, r0⟩ := trodAll_cons hA
  obtain ⟨v1, vs1, d1, ds1, p1, q1, rfl, rfl, rfl, h1, r1⟩ := trodAll_cons r0
  obtain ⟨v2, vs2, d2, ds2, p2, q2, rfl, rfl, rfl, h2, r2⟩ := trodAll_cons r1
  obtain ⟨rfl, rfl, rfl⟩ := trodAll_nil r2
  obtain rfl : args = #[v0, v1, v2] := by cases args; simp_all
  obtain ⟨rfl, rfl⟩ := trodVars_none hV
  obtain ⟨V0, hx0, hw0⟩ := open_pins (hval 0 22 v0 rfl rfl) h0 (fun x hx => hlt x (by simp [hx]))
  obtain ⟨a1, rfl, rfl, rfl, w1⟩ := open_int Try.underlying63 (hval 1 63 v1 rfl rfl) h1
  obtain ⟨a2, rfl, rfl, rfl, w2⟩ := open_int Try.underlying50 (hval 2 50 v2 rfl rfl) h2
  clear hA0 hval0
  simp only [List.append_nil] at hW' hA2
  refine (barrelShifted_walk v0 V0 a1 a2 W hx0 (wf16 w1).1 (wf16 w1).2 (wf64 w2).1 (wf64 w2).2).mono fun e W' ⟨he, hb⟩ => ?_
  subst he
  exact ⟨_, rfl, law_post Try.laidOut Try.underlying4 hW' hA2 rfl rfl rfl rfl rfl (by kernel_rfl) hb⟩
theorem barrelShifted_holds : Rows.BarrelShiftedSaid :=
  OpenClaim.holds_of_wide 12 Try.f12 rfl rfl rfl rfl rfl rfl rfl ⟨rfl, rfl, rfl, rfl, rfl⟩ rfl rfl rfl rfl rfl (by kernel_rfl) Try.func12 (by kernel_rfl)
    (of_decide_eq_true (by kernel_rfl)) (by unfold Func.isWrapper; first | (rw [if_pos (by decide +kernel)]; kernel_rfl) | (rw [if_neg (by decide +kernel)]; exact ⟨rfl, rfl⟩))
    (fun os started H enc _ => barrelShifted_lifted os started H enc)
end
end Go.Proofs.Ytooddicegkiiiaa
