/- BarrelMore holds; no condition. -/
import Derived.Test.YtooddicegkiiiaaP12
import Derived.Test.YtooddicegkiiiaaL11
import Derived.Deep.CutRange
namespace Go.Proofs.Ytooddicegkiiiaa
open Go.RowKit Go.Shelf

set_option maxRecDepth 100000 in
set_option maxHeartbeats 16000000 in
theorem barrelMore_walk (x : Value) (V : List (Int × Int)) (z1 z2 n : Int) (w : World) (hx : RdP w x V) (y0 : 0 ≤ z1) (y1 : z1 ≤ 255) (y2 : 0 ≤ z2) (y3 : z2 ≤ 255) (h0 : 0 ≤ n) (h1 : n < 18446744073709551616) :
    Calls Try.prog 16 #[x, .int .u8 z1, .int .u8 z2, .int .u64 n] w fun e w' => e = .returned (.bool true) ∧ Below w.heap.size w w' := by
  obtain ⟨a, c, rfl⟩ := hx.ex _ rfl
  have CW := Lib.hid (fun wz (hB : Below w.heap.size w wz) => works_any wz)
  have CF := Lib.hid (fun wz (hB : Below w.heap.size w wz) => fine_any _ V wz (hx.mono hB))
  by_cases hc : checkP V = 0
  · rw [hc] at CF
    have hV := okPins_of hc
    have h5 := hV.l5; have hl1 := hV.l1
    by_cases hl4 : V.length < 5
    · have HT := Lib.hid (fun w1 => timed_any n w1 h0 h1)
      have t0 : 0 ≤ n % 1000000000001 := by omega
      have t1 : n % 1000000000001 ≤ 1000000000000 := by omega
      generalize n % 1000000000001 = T at *
      clear h0 h1
      have m0 : 0 ≤ z1 % 200 := by omega
      have m1 : z1 % 200 < 200 := by omega
      obtain ⟨p, hp⟩ : ∃ p, 1 + z1 % 200 = p := ⟨_, rfl⟩
      have wp : IntKind.i64.wrap (1 + z1 % 200) = p := by rw [hp]; exact IntWalk.i64_in _ (by omega)
      have p1 : 1 ≤ p := by omega
      have p2 : p ≤ 200 := by omega
      have zp : (p == 0) = false := by rw [beq_eq_false_iff_ne]; omega
      have q0 := Int.emod_nonneg z2 (b := p) (by omega)
      have q1 := Int.emod_lt_of_pos z2 (b := p) (by omega)
      clear hp m0 m1
      obtain ⟨U, hU⟩ : ∃ U, V ++ [(p, z2 % p)] = U := ⟨_, rfl⟩
      have hcu : checkP U = 0 := by
        rw [← hU]
        refine check_of_ok ⟨by simp, by simp; omega, fun y hy => ?_⟩
        rcases List.mem_append.1 hy with hy | hy
        · exact hV.v y hy
        · simp at hy; subst hy; simp only; omega
      have hW := okPins_of hcu
      have HG := Lib.hid (by have h := more_groups (x := (p, z2 % p)) hc (by rw [hU]; exact hcu); rwa [hU] at h)
      have HJ := Lib.hid (fun hj => by have h := more_join (x := (p, z2 % p)) hV.v (by rw [hU]; exact hW.v) (by rw [hU]; exact hj); rwa [hU] at h)
      have HQ := Lib.hid (fun k hk => by have h := more_quiet (V := V) (x := (p, z2 % p)) (t := T) (n := k) (by rw [hU]; exact hk); exact h)
      have HU := Lib.hid hU
      have hgl : (natL (grpN V)).length ≤ 1000 := by rw [natL_len]; have := grp_le V; omega
      have CT := Lib.hid (fun wz (hB : Below w.heap.size w wz) => together_ok _ V wz (hx.mono hB) hc)
      have CG := Lib.hid (fun wz (hB : Below w.heap.size w wz) => group_any _ V wz (hx.mono hB) (by omega))
      unfold GrpOk at CG
      rw [hc] at CG
      have CQ := Lib.hid (fun wz (hB : Below w.heap.size w wz) => quiet_ok _ V T wz (hx.mono hB) hc t0 t1)
      have HBD := Lib.hid (jbd hV.v hV.l5)
      have HBU := Lib.hid (jbd hW.v hW.l5)
      have CFU := Lib.hid (fun v wz (hx : RdP wz v U) => together_ok v U wz hx hcu)
      have CGU := Lib.hid (fun v wz (hx : RdP wz v U) => group_any v U wz hx (by have := hW.l5; omega)); unfold GrpOk at CGU; rw [hcu] at CGU
      have CQU := Lib.hid (fun v wz (hx : RdP wz v U) => quiet_ok v U T wz hx hcu t0 t1)
      obtain ⟨_, _, e, hca, _, hxf⟩ := hx.form
      cases e
      obtain ⟨bx, ox, rfl, hbx, hcx⟩ := hxf (by omega)
      have HCA := Lib.hid (CellsAt.of_rd hx)
      clear hcx hxf hx hU hca hW hV hcu hc
      have KB0 := Lib.hid (bz w)
      go_enter Try.func16, Try.ntmps16
      go_wp2_with fail
      refine (CF.out _ KB0.out).mono ?_
      rintro e w1 ⟨rfl, hk⟩
      have KB1 := Lib.hid (btr KB0.out hk)
      clear KB0 hk
      go_upto_region 4 with fail
      go_cut [10] from 41 (fun v wx => RdP wx v (V ++ [(p, z2 % p)]) ∧ Below w.heap.size w wx)
      case first =>
        refine wp_region_US (fun w2 => ∃ x : AnyW w, w2 = x.val) [1, 3, 4, 5, 6, 7, 8] [] (by kernel_rfl) (by kernel_rfl) ?_
        intro wc hBc hh
        clear hh
        have HB1 := Lib.hid (btr KB1.out hBc)
        have HC1 := Lib.hid (HCA.out.later HB1.out)
        have hbz := HB1.out.size
        clear hBc KB1
        refine U_heads [1, 3, 4, 5, 6, 7, 8] (by kernel_rfl) (anyW _ _) ?_
        simp only [pickL, List.getElem?_cons_succ, List.getElem?_cons_zero]
        repeat (go_big_quiet_step (rfl))
        refine wpQuiet_nil ?_
        refine U_two 0 9 (by kernel_rfl) ?_ ?_
        · simp only [pickL, List.getElem?_cons_succ, List.getElem?_cons_zero]
          go_wp2
          refine seg_grow (anyW _ _) ?_
          have O1 := own_new wc (base := w.heap.size) rfl hbz
          have C1 := HC1.out.later (bal (bz wc) (.cells #[] 55))
          have B1 := bal HB1.out (.cells #[] 55)
          refine U_two 2 9 (by kernel_rfl) ?_ ?_
          · simp only [pickL, List.getElem?_cons_succ, List.getElem?_cons_zero]
            refine wpList_append_pins rfl _ _ rfl O1 B1.size rfl rfl rfl C1 (by simp) (by omega) ?_
            intro v1 w1 O2 g2
            have B2 := append_below B1 O1 g2 (Nat.le_refl _)
            go_wp2
            refine seg_grow (anyW _ _) ?_
            refine U_one 9 (by kernel_rfl) ?_
            simp only [pickL, List.getElem?_cons_succ, List.getElem?_cons_zero]
            go_wp2
            refine seg_grow (anyW _ _) ?_
            have O3 := O2.alloc (.cells #[.int .i64 p, .int .i64 (z2 % p)] 55)
            have B3 := bal B2 (.cells #[.int .i64 p, .int .i64 (z2 % p)] 55)
            have C3 := CellsAt.new w1 p (z2 % p) rfl
            refine U_one 10 (by kernel_rfl) ?_
            simp only [pickL, List.getElem?_cons_succ, List.getElem?_cons_zero]
            refine wpList_append_pins rfl _ _ rfl O3 B3.size rfl rfl rfl C3 (by simp; omega) (by simp) ?_
            intro v2 w2 O4 g4
            go_wp2
            refine seg_grow (anyW _ _) ?_
            have B4 := append_below B3 O3 g4 (Nat.le_refl _)
            refine U_one 11 (by kernel_rfl) ?_
            simp only [pickL, List.getElem?_cons_succ, List.getElem?_cons_zero]
            go_wp2
            refine seg_grow (anyW _ _) ?_
            refine U_done (by kernel_rfl) ?_
            go_wp2
            go_meet
            case rel => exact ⟨RdP.of_owns O4, B4⟩
          · simp only [pickL, List.getElem?_cons_succ, List.getElem?_cons_zero]
            go_wp2
            refine seg_grow (anyW _ _) ?_
            have O3 := O1.alloc (.cells #[.int .i64 p, .int .i64 (z2 % p)] 55)
            have B3 := bal B1 (.cells #[.int .i64 p, .int .i64 (z2 % p)] 55)
            have C3 := CellsAt.new (wc.alloc (.cells #[] 55)) p (z2 % p) (nb := wc.heap.size + 1) (by simp)
            have C4 := C1.later (bal (bz _) (.cells #[.int .i64 p, .int .i64 (z2 % p)] 55))
            refine U_one 2 (by kernel_rfl) ?_
            simp only [pickL, List.getElem?_cons_succ, List.getElem?_cons_zero]
            refine wpList_append_pins rfl _ _ rfl O3 B3.size rfl rfl rfl C4 (by simp) (by omega) ?_
            intro v1 w1 O2 g2
            go_wp2
            refine seg_grow (anyW _ _) ?_
            have B2 := append_below B3 O3 g2 (Nat.le_refl _)
            have C5 := C3.grown g2 (by simp [Value.ownBlock])
            refine U_one 10 (by kernel_rfl) ?_
            simp only [pickL, List.getElem?_cons_succ, List.getElem?_cons_zero]
            refine wpList_append_pins rfl _ _ rfl O2 B2.size rfl rfl rfl C5 (by simp; omega) (by simp) ?_
            intro v2 w2 O4 g4
            go_wp2
            refine seg_grow (anyW _ _) ?_
            have B4 := append_below B2 O2 g4 (Nat.le_refl _)
            refine U_one 11 (by kernel_rfl) ?_
            simp only [pickL, List.getElem?_cons_succ, List.getElem?_cons_zero]
            go_wp2
            refine seg_grow (anyW _ _) ?_
            refine U_done (by kernel_rfl) ?_
            go_wp2
            go_meet
            case rel => exact ⟨RdP.of_owns O4, B4⟩
        · simp only [pickL, List.getElem?_cons_succ, List.getElem?_cons_zero]
          go_wp2
          refine seg_grow (anyW _ _) ?_
          have B1 := bal HB1.out (.cells #[.int .i64 p, .int .i64 (z2 % p)] 55)
          have C1 := HC1.out.later (bal (bz wc) (.cells #[.int .i64 p, .int .i64 (z2 % p)] 55))
          have C3 := CellsAt.new wc p (z2 % p) rfl
          refine U_one 0 (by kernel_rfl) ?_
          simp only [pickL, List.getElem?_cons_succ, List.getElem?_cons_zero]
          go_wp2
          refine seg_grow (anyW _ _) ?_
          have O1 := own_new (wc.alloc (.cells #[.int .i64 p, .int .i64 (z2 % p)] 55)) (base := w.heap.size) (nb := wc.heap.size + 1) (by simp) B1.size
          have B2 := bal B1 (.cells #[] 55)
          have C4 := C1.later (bal (bz _) (.cells #[] 55))
          have C5 := C3.later (bal (bz _) (.cells #[] 55))
          refine U_one 2 (by kernel_rfl) ?_
          simp only [pickL, List.getElem?_cons_succ, List.getElem?_cons_zero]
          refine wpList_append_pins rfl _ _ rfl O1 B2.size rfl rfl rfl C4 (by simp) (by omega) ?_
          intro v1 w1 O2 g2
          go_wp2
          refine seg_grow (anyW _ _) ?_
          have B3 := append_below B2 O1 g2 (Nat.le_refl _)
          have C6 := C5.grown g2 (by simp [Value.ownBlock])
          refine U_one 10 (by kernel_rfl) ?_
          simp only [pickL, List.getElem?_cons_succ, List.getElem?_cons_zero]
          refine wpList_append_pins rfl _ _ rfl O2 B3.size rfl rfl rfl C6 (by simp; omega) (by simp) ?_
          intro v2 w2 O4 g4
          go_wp2
          refine seg_grow (anyW _ _) ?_
          have B4 := append_below B3 O2 g4 (Nat.le_refl _)
          refine U_one 11 (by kernel_rfl) ?_
          simp only [pickL, List.getElem?_cons_succ, List.getElem?_cons_zero]
          go_wp2
          refine seg_grow (anyW _ _) ?_
          refine U_done (by kernel_rfl) ?_
          go_wp2
          go_meet
          case rel => exact ⟨RdP.of_owns O4, B4⟩
      case rest =>
        obtain ⟨hrd, hBr⟩ := hcut
        rw [HU.out] at hrd
        obtain ⟨aU, cU, hv⟩ := hrd.ex _ rfl
        subst hv
        have KBL := Lib.hid hBr; have HRD0 := Lib.hid hrd
        clear hrd hBr KB1 HCA
        obtain ⟨g1, g2⟩ := HG.out
        have CFV := Lib.hid (fun wz hx => CFU.out (.slice aU U.length cU) wz hx)
        have CGV := Lib.hid (fun wz hx => CGU.out (.slice aU U.length cU) wz hx)
        have CQV := Lib.hid (fun wz hx => CQU.out (.slice aU U.length cU) wz hx)
        rw [← natL_len, ← natL_len] at g1 g2
        generalize natL (grpN V) = G at *
        generalize natL (grpN U) = H at *
        have d1 : decide ((H.length : Int) < (G.length : Int)) = false := decide_eq_false (by omega)
        have d2 : decide ((G.length : Int) + 1 < (H.length : Int)) = false := decide_eq_false (by omega)
        have d3 : decide (H.length < G.length) = false := decide_eq_false (by omega)
        have d4 : decide (G.length + 1 < H.length) = false := decide_eq_false (by omega)
        clear CFU CGU CQU HG CF
        cases hjU : jO U
        · obtain ⟨e1, e2⟩ := HBU.out.2 hjU
          rw [hjU, e1, e2] at CFV
          clear e1 e2 hjU HBU HBD HJ
          generalize jO V = o at *
          generalize jA V = A at *
          generalize jB V = C at *
          rcases hq : quietO U T (2 ^ U.length) with _ | k
          · have CQW := Lib.hid (fun wz hx => (CQV.out wz hx).1 hq)
            clear hq CQV HQ
            rcases hv : quietO V T (2 ^ V.length) with _ | m
            · have CQ1 := Lib.hid (fun wz hB => (CQ.out wz hB).1 hv)
              clear hv CQ
              go_wp2_with fail
              refine (HT.out _).mono ?_
              rintro e w' ⟨rfl, rfl⟩
              go_wp2_with fail
              refine (CT.out _ KBL.out).mono ?_
              rintro e w21 ⟨rfl, hk⟩
              have KB21 := Lib.hid (btr KBL.out hk)
              have HRD21 := Lib.hid (HRD0.out.mono hk)
              clear KBL HRD0 hk
              go_wp2_with fail
              refine (CFV.out _ HRD21.out).mono ?_
              rintro e w22 ⟨rfl, hk⟩
              have KB22 := Lib.hid (btr KB21.out hk)
              have HRD22 := Lib.hid (HRD21.out.mono hk)
              clear KB21 HRD21 hk
              go_wp2_with fail
              refine (CG.out _ KB22.out).mono ?_
              rintro e w23 ⟨v, rfl, fA, hk⟩
              obtain ⟨aA, cA, hv⟩ := fA.ex _ rfl
              subst hv
              have KB23 := Lib.hid (btr KB22.out hk)
              have HRD23 := Lib.hid (HRD22.out.mono hk)
              have HA23 := Lib.hid fA
              clear KB22 HRD22 fA hk
              go_wp2_with fail
              refine (CGV.out _ HRD23.out).mono ?_
              rintro e w24 ⟨u, rfl, fB, hk⟩
              have KB24 := Lib.hid (btr KB23.out hk)
              have HRD24 := Lib.hid (HRD23.out.mono hk)
              have HA24 := Lib.hid (HA23.out.mono hk)
              have HB24 := Lib.hid fB
              clear KB23 HRD23 HA23 fB hk
              obtain ⟨aB, cB, hv⟩ := HB24.out.ex _ rfl
              subst hv
              go_wp2_with fail
              refine (CQ1.out _ KB24.out).mono ?_
              rintro e w25 ⟨rfl, hk⟩
              have KB25 := Lib.hid (btr KB24.out hk)
              have HRD25 := Lib.hid (HRD24.out.mono hk)
              have HA25 := Lib.hid (HA24.out.mono hk)
              have HB25 := Lib.hid (HB24.out.mono hk)
              clear KB24 HRD24 HA24 HB24 hk
              go_wp2_with fail
              refine (CQW.out _ HRD25.out).mono ?_
              rintro e w26 ⟨rfl, hk⟩
              have KB26 := Lib.hid (btr KB25.out hk)
              have HRD26 := Lib.hid (HRD25.out.mono hk)
              have HA26 := Lib.hid (HA25.out.mono hk)
              have HB26 := Lib.hid (HB25.out.mono hk)
              clear KB25 HRD25 HA25 HB25 hk
              go_wp2_with fail
              refine (CW.out _ KB26.out).mono ?_
              rintro e w27 ⟨rfl, hk⟩
              have KB27 := Lib.hid (btr KB26.out hk)
              have HRD27 := Lib.hid (HRD26.out.mono hk)
              have HA27 := Lib.hid (HA26.out.mono hk)
              have HB27 := Lib.hid (HB26.out.mono hk)
              clear KB26 HRD26 HA26 HB26 hk
              go_wp2_with fail
              go_ret
              exact ⟨rfl, KB27.out⟩
            · have CQ1 := Lib.hid (fun wz hB => (CQ.out wz hB).2 m hv)
              clear hv CQ
              generalize T + (m : Int) = M at *
              go_wp2_with fail
              refine (HT.out _).mono ?_
              rintro e w' ⟨rfl, rfl⟩
              go_wp2_with fail
              refine (CT.out _ KBL.out).mono ?_
              rintro e w21 ⟨rfl, hk⟩
              have KB21 := Lib.hid (btr KBL.out hk)
              have HRD21 := Lib.hid (HRD0.out.mono hk)
              clear KBL HRD0 hk
              go_wp2_with fail
              refine (CFV.out _ HRD21.out).mono ?_
              rintro e w22 ⟨rfl, hk⟩
              have KB22 := Lib.hid (btr KB21.out hk)
              have HRD22 := Lib.hid (HRD21.out.mono hk)
              clear KB21 HRD21 hk
              go_wp2_with fail
              refine (CG.out _ KB22.out).mono ?_
              rintro e w23 ⟨v, rfl, fA, hk⟩
              obtain ⟨aA, cA, hv⟩ := fA.ex _ rfl
              subst hv
              have KB23 := Lib.hid (btr KB22.out hk)
              have HRD23 := Lib.hid (HRD22.out.mono hk)
              have HA23 := Lib.hid fA
              clear KB22 HRD22 fA hk
              go_wp2_with fail
              refine (CGV.out _ HRD23.out).mono ?_
              rintro e w24 ⟨u, rfl, fB, hk⟩
              have KB24 := Lib.hid (btr KB23.out hk)
              have HRD24 := Lib.hid (HRD23.out.mono hk)
              have HA24 := Lib.hid (HA23.out.mono hk)
              have HB24 := Lib.hid fB
              clear KB23 HRD23 HA23 fB hk
              obtain ⟨aB, cB, hv⟩ := HB24.out.ex _ rfl
              subst hv
              go_wp2_with fail
              refine (CQ1.out _ KB24.out).mono ?_
              rintro e w25 ⟨rfl, hk⟩
              have KB25 := Lib.hid (btr KB24.out hk)
              have HRD25 := Lib.hid (HRD24.out.mono hk)
              have HA25 := Lib.hid (HA24.out.mono hk)
              have HB25 := Lib.hid (HB24.out.mono hk)
              clear KB24 HRD24 HA24 HB24 hk
              go_wp2_with fail
              refine (CQW.out _ HRD25.out).mono ?_
              rintro e w26 ⟨rfl, hk⟩
              have KB26 := Lib.hid (btr KB25.out hk)
              have HRD26 := Lib.hid (HRD25.out.mono hk)
              have HA26 := Lib.hid (HA25.out.mono hk)
              have HB26 := Lib.hid (HB25.out.mono hk)
              clear KB25 HRD25 HA25 HB25 hk
              go_wp2_with fail
              refine (CW.out _ KB26.out).mono ?_
              rintro e w27 ⟨rfl, hk⟩
              have KB27 := Lib.hid (btr KB26.out hk)
              have HRD27 := Lib.hid (HRD26.out.mono hk)
              have HA27 := Lib.hid (HA26.out.mono hk)
              have HB27 := Lib.hid (HB26.out.mono hk)
              clear KB26 HRD26 HA26 HB26 hk
              go_wp2_with fail
              go_ret
              exact ⟨rfl, KB27.out⟩
          · obtain ⟨m, hv, hmk⟩ := HQ.out k hq
            have CQW := Lib.hid (fun wz hx => (CQV.out wz hx).2 k hq)
            have CQ1 := Lib.hid (fun wz hB => (CQ.out wz hB).2 m hv)
            have hMN : T + (m : Int) ≤ T + (k : Int) := by omega
            clear hv hq CQ CQV HQ hmk
            generalize T + (m : Int) = M at *
            generalize T + (k : Int) = N at *
            have d5 : decide (M ≤ N) = true := decide_eq_true hMN
            go_wp2_with fail
            refine (HT.out _).mono ?_
            rintro e w' ⟨rfl, rfl⟩
            go_wp2_with fail
            refine (CT.out _ KBL.out).mono ?_
            rintro e w21 ⟨rfl, hk⟩
            have KB21 := Lib.hid (btr KBL.out hk)
            have HRD21 := Lib.hid (HRD0.out.mono hk)
            clear KBL HRD0 hk
            go_wp2_with fail
            refine (CFV.out _ HRD21.out).mono ?_
            rintro e w22 ⟨rfl, hk⟩
            have KB22 := Lib.hid (btr KB21.out hk)
            have HRD22 := Lib.hid (HRD21.out.mono hk)
            clear KB21 HRD21 hk
            go_wp2_with fail
            refine (CG.out _ KB22.out).mono ?_
            rintro e w23 ⟨v, rfl, fA, hk⟩
            obtain ⟨aA, cA, hv⟩ := fA.ex _ rfl
            subst hv
            have KB23 := Lib.hid (btr KB22.out hk)
            have HRD23 := Lib.hid (HRD22.out.mono hk)
            have HA23 := Lib.hid fA
            clear KB22 HRD22 fA hk
            go_wp2_with fail
            refine (CGV.out _ HRD23.out).mono ?_
            rintro e w24 ⟨u, rfl, fB, hk⟩
            have KB24 := Lib.hid (btr KB23.out hk)
            have HRD24 := Lib.hid (HRD23.out.mono hk)
            have HA24 := Lib.hid (HA23.out.mono hk)
            have HB24 := Lib.hid fB
            clear KB23 HRD23 HA23 fB hk
            obtain ⟨aB, cB, hv⟩ := HB24.out.ex _ rfl
            subst hv
            go_wp2_with fail
            refine (CQ1.out _ KB24.out).mono ?_
            rintro e w25 ⟨rfl, hk⟩
            have KB25 := Lib.hid (btr KB24.out hk)
            have HRD25 := Lib.hid (HRD24.out.mono hk)
            have HA25 := Lib.hid (HA24.out.mono hk)
            have HB25 := Lib.hid (HB24.out.mono hk)
            clear KB24 HRD24 HA24 HB24 hk
            go_wp2_with fail
            refine (CQW.out _ HRD25.out).mono ?_
            rintro e w26 ⟨rfl, hk⟩
            have KB26 := Lib.hid (btr KB25.out hk)
            have HRD26 := Lib.hid (HRD25.out.mono hk)
            have HA26 := Lib.hid (HA25.out.mono hk)
            have HB26 := Lib.hid (HB25.out.mono hk)
            clear KB25 HRD25 HA25 HB25 hk
            go_wp2_with fail
            refine (CW.out _ KB26.out).mono ?_
            rintro e w27 ⟨rfl, hk⟩
            have KB27 := Lib.hid (btr KB26.out hk)
            have HRD27 := Lib.hid (HRD26.out.mono hk)
            have HA27 := Lib.hid (HA26.out.mono hk)
            have HB27 := Lib.hid (HB26.out.mono hk)
            clear KB26 HRD26 HA26 HB26 hk
            go_wp2_with fail
            go_ret
            exact ⟨rfl, KB27.out⟩
        · obtain ⟨hjV, e1, e2, e3, e4⟩ := HJ.out hjU
          obtain ⟨a0, a1, a2⟩ := HBU.out.1 hjU
          obtain ⟨b0, b1, b2⟩ := HBD.out.1 hjV
          rw [hjU] at CFV
          rw [hjV] at CT
          clear hjU HBU HBD HJ hjV
          generalize jA V = A at *
          generalize jB V = C at *
          generalize jA U = D at *
          generalize jB U = E at *
          have r1 : (E % C != 0) = false := by rw [Int.emod_eq_zero_of_dvd e1]; rfl
          have r2 : (E % p != 0) = false := by rw [Int.emod_eq_zero_of_dvd e2]; rfl
          have r3 : decide (D < A) = false := decide_eq_false (by omega)
          have r4 : ((D - A) % C != 0) = false := by rw [Int.emod_eq_zero_of_dvd e4]; rfl
          have r5 : (C == 0) = false := by rw [beq_eq_false_iff_ne]; omega
          clear e1 e2 e4
          rcases hq : quietO U T (2 ^ U.length) with _ | k
          · have CQW := Lib.hid (fun wz hx => (CQV.out wz hx).1 hq)
            clear hq CQV HQ
            rcases hv : quietO V T (2 ^ V.length) with _ | m
            · have CQ1 := Lib.hid (fun wz hB => (CQ.out wz hB).1 hv)
              clear hv CQ
              go_wp2_with fail
              refine (HT.out _).mono ?_
              rintro e w' ⟨rfl, rfl⟩
              go_wp2_with fail
              refine (CT.out _ KBL.out).mono ?_
              rintro e w21 ⟨rfl, hk⟩
              have KB21 := Lib.hid (btr KBL.out hk)
              have HRD21 := Lib.hid (HRD0.out.mono hk)
              clear KBL HRD0 hk
              go_wp2_with fail
              refine (CFV.out _ HRD21.out).mono ?_
              rintro e w22 ⟨rfl, hk⟩
              have KB22 := Lib.hid (btr KB21.out hk)
              have HRD22 := Lib.hid (HRD21.out.mono hk)
              clear KB21 HRD21 hk
              go_wp2_with fail
              refine (CG.out _ KB22.out).mono ?_
              rintro e w23 ⟨v, rfl, fA, hk⟩
              obtain ⟨aA, cA, hv⟩ := fA.ex _ rfl
              subst hv
              have KB23 := Lib.hid (btr KB22.out hk)
              have HRD23 := Lib.hid (HRD22.out.mono hk)
              have HA23 := Lib.hid fA
              clear KB22 HRD22 fA hk
              go_wp2_with fail
              refine (CGV.out _ HRD23.out).mono ?_
              rintro e w24 ⟨u, rfl, fB, hk⟩
              have KB24 := Lib.hid (btr KB23.out hk)
              have HRD24 := Lib.hid (HRD23.out.mono hk)
              have HA24 := Lib.hid (HA23.out.mono hk)
              have HB24 := Lib.hid fB
              clear KB23 HRD23 HA23 fB hk
              obtain ⟨aB, cB, hv⟩ := HB24.out.ex _ rfl
              subst hv
              go_wp2_with fail
              refine (CQ1.out _ KB24.out).mono ?_
              rintro e w25 ⟨rfl, hk⟩
              have KB25 := Lib.hid (btr KB24.out hk)
              have HRD25 := Lib.hid (HRD24.out.mono hk)
              have HA25 := Lib.hid (HA24.out.mono hk)
              have HB25 := Lib.hid (HB24.out.mono hk)
              clear KB24 HRD24 HA24 HB24 hk
              go_wp2_with fail
              refine (CQW.out _ HRD25.out).mono ?_
              rintro e w26 ⟨rfl, hk⟩
              have KB26 := Lib.hid (btr KB25.out hk)
              have HRD26 := Lib.hid (HRD25.out.mono hk)
              have HA26 := Lib.hid (HA25.out.mono hk)
              have HB26 := Lib.hid (HB25.out.mono hk)
              clear KB25 HRD25 HA25 HB25 hk
              go_wp2_with fail
              refine (CW.out _ KB26.out).mono ?_
              rintro e w27 ⟨rfl, hk⟩
              have KB27 := Lib.hid (btr KB26.out hk)
              have HRD27 := Lib.hid (HRD26.out.mono hk)
              have HA27 := Lib.hid (HA26.out.mono hk)
              have HB27 := Lib.hid (HB26.out.mono hk)
              clear KB26 HRD26 HA26 HB26 hk
              go_wp2_with fail
              go_ret
              exact ⟨rfl, KB27.out⟩
            · have CQ1 := Lib.hid (fun wz hB => (CQ.out wz hB).2 m hv)
              clear hv CQ
              generalize T + (m : Int) = M at *
              go_wp2_with fail
              refine (HT.out _).mono ?_
              rintro e w' ⟨rfl, rfl⟩
              go_wp2_with fail
              refine (CT.out _ KBL.out).mono ?_
              rintro e w21 ⟨rfl, hk⟩
              have KB21 := Lib.hid (btr KBL.out hk)
              have HRD21 := Lib.hid (HRD0.out.mono hk)
              clear KBL HRD0 hk
              go_wp2_with fail
              refine (CFV.out _ HRD21.out).mono ?_
              rintro e w22 ⟨rfl, hk⟩
              have KB22 := Lib.hid (btr KB21.out hk)
              have HRD22 := Lib.hid (HRD21.out.mono hk)
              clear KB21 HRD21 hk
              go_wp2_with fail
              refine (CG.out _ KB22.out).mono ?_
              rintro e w23 ⟨v, rfl, fA, hk⟩
              obtain ⟨aA, cA, hv⟩ := fA.ex _ rfl
              subst hv
              have KB23 := Lib.hid (btr KB22.out hk)
              have HRD23 := Lib.hid (HRD22.out.mono hk)
              have HA23 := Lib.hid fA
              clear KB22 HRD22 fA hk
              go_wp2_with fail
              refine (CGV.out _ HRD23.out).mono ?_
              rintro e w24 ⟨u, rfl, fB, hk⟩
              have KB24 := Lib.hid (btr KB23.out hk)
              have HRD24 := Lib.hid (HRD23.out.mono hk)
              have HA24 := Lib.hid (HA23.out.mono hk)
              have HB24 := Lib.hid fB
              clear KB23 HRD23 HA23 fB hk
              obtain ⟨aB, cB, hv⟩ := HB24.out.ex _ rfl
              subst hv
              go_wp2_with fail
              refine (CQ1.out _ KB24.out).mono ?_
              rintro e w25 ⟨rfl, hk⟩
              have KB25 := Lib.hid (btr KB24.out hk)
              have HRD25 := Lib.hid (HRD24.out.mono hk)
              have HA25 := Lib.hid (HA24.out.mono hk)
              have HB25 := Lib.hid (HB24.out.mono hk)
              clear KB24 HRD24 HA24 HB24 hk
              go_wp2_with fail
              refine (CQW.out _ HRD25.out).mono ?_
              rintro e w26 ⟨rfl, hk⟩
              have KB26 := Lib.hid (btr KB25.out hk)
              have HRD26 := Lib.hid (HRD25.out.mono hk)
              have HA26 := Lib.hid (HA25.out.mono hk)
              have HB26 := Lib.hid (HB25.out.mono hk)
              clear KB25 HRD25 HA25 HB25 hk
              go_wp2_with fail
              refine (CW.out _ KB26.out).mono ?_
              rintro e w27 ⟨rfl, hk⟩
              have KB27 := Lib.hid (btr KB26.out hk)
              have HRD27 := Lib.hid (HRD26.out.mono hk)
              have HA27 := Lib.hid (HA26.out.mono hk)
              have HB27 := Lib.hid (HB26.out.mono hk)
              clear KB26 HRD26 HA26 HB26 hk
              go_wp2_with fail
              go_ret
              exact ⟨rfl, KB27.out⟩
          · obtain ⟨m, hv, hmk⟩ := HQ.out k hq
            have CQW := Lib.hid (fun wz hx => (CQV.out wz hx).2 k hq)
            have CQ1 := Lib.hid (fun wz hB => (CQ.out wz hB).2 m hv)
            have hMN : T + (m : Int) ≤ T + (k : Int) := by omega
            clear hv hq CQ CQV HQ hmk
            generalize T + (m : Int) = M at *
            generalize T + (k : Int) = N at *
            have d5 : decide (M ≤ N) = true := decide_eq_true hMN
            go_wp2_with fail
            refine (HT.out _).mono ?_
            rintro e w' ⟨rfl, rfl⟩
            go_wp2_with fail
            refine (CT.out _ KBL.out).mono ?_
            rintro e w21 ⟨rfl, hk⟩
            have KB21 := Lib.hid (btr KBL.out hk)
            have HRD21 := Lib.hid (HRD0.out.mono hk)
            clear KBL HRD0 hk
            go_wp2_with fail
            refine (CFV.out _ HRD21.out).mono ?_
            rintro e w22 ⟨rfl, hk⟩
            have KB22 := Lib.hid (btr KB21.out hk)
            have HRD22 := Lib.hid (HRD21.out.mono hk)
            clear KB21 HRD21 hk
            go_wp2_with fail
            refine (CG.out _ KB22.out).mono ?_
            rintro e w23 ⟨v, rfl, fA, hk⟩
            obtain ⟨aA, cA, hv⟩ := fA.ex _ rfl
            subst hv
            have KB23 := Lib.hid (btr KB22.out hk)
            have HRD23 := Lib.hid (HRD22.out.mono hk)
            have HA23 := Lib.hid fA
            clear KB22 HRD22 fA hk
            go_wp2_with fail
            refine (CGV.out _ HRD23.out).mono ?_
            rintro e w24 ⟨u, rfl, fB, hk⟩
            have KB24 := Lib.hid (btr KB23.out hk)
            have HRD24 := Lib.hid (HRD23.out.mono hk)
            have HA24 := Lib.hid (HA23.out.mono hk)
            have HB24 := Lib.hid fB
            clear KB23 HRD23 HA23 fB hk
            obtain ⟨aB, cB, hv⟩ := HB24.out.ex _ rfl
            subst hv
            go_wp2_with fail
            refine (CQ1.out _ KB24.out).mono ?_
            rintro e w25 ⟨rfl, hk⟩
            have KB25 := Lib.hid (btr KB24.out hk)
            have HRD25 := Lib.hid (HRD24.out.mono hk)
            have HA25 := Lib.hid (HA24.out.mono hk)
            have HB25 := Lib.hid (HB24.out.mono hk)
            clear KB24 HRD24 HA24 HB24 hk
            go_wp2_with fail
            refine (CQW.out _ HRD25.out).mono ?_
            rintro e w26 ⟨rfl, hk⟩
            have KB26 := Lib.hid (btr KB25.out hk)
            have HRD26 := Lib.hid (HRD25.out.mono hk)
            have HA26 := Lib.hid (HA25.out.mono hk)
            have HB26 := Lib.hid (HB25.out.mono hk)
            clear KB25 HRD25 HA25 HB25 hk
            go_wp2_with fail
            refine (CW.out _ KB26.out).mono ?_
            rintro e w27 ⟨rfl, hk⟩
            have KB27 := Lib.hid (btr KB26.out hk)
            have HRD27 := Lib.hid (HRD26.out.mono hk)
            have HA27 := Lib.hid (HA26.out.mono hk)
            have HB27 := Lib.hid (HB26.out.mono hk)
            clear KB26 HRD26 HA26 HB26 hk
            go_wp2_with fail
            go_ret
            exact ⟨rfl, KB27.out⟩
    · have hl5 : V.length = 5 := by omega
      have d1 : decide ((5 : Int) ≤ (V.length : Int)) = true := decide_eq_true (by omega)
      have HL5 := Lib.hid hl5; clear hl5
      have KB0 := Lib.hid (bz w)
      go_enter Try.func16, Try.ntmps16
      go_wp2_with fail
      refine (CF.out _ KB0.out).mono ?_
      rintro e w1 ⟨rfl, hk⟩
      have KB1 := Lib.hid (btr KB0.out hk)
      clear KB0 hk
      go_wp2_with fail
      refine (CW.out _ KB1.out).mono ?_
      rintro e w2 ⟨rfl, hk⟩
      have KB2 := Lib.hid (btr KB1.out hk)
      clear KB1 hk
      go_wp2_with fail
      go_ret
      exact ⟨rfl, KB2.out⟩
  · have hcb : (checkP V == 0) = false := by simpa using hc
    rw [hcb] at CF
    have KB0 := Lib.hid (bz w)
    go_enter Try.func16, Try.ntmps16
    go_wp2_with fail
    refine (CF.out _ KB0.out).mono ?_
    rintro e w1 ⟨rfl, hk⟩
    have KB1 := Lib.hid (btr KB0.out hk)
    clear KB0 hk
    go_wp2_with fail
    refine (CW.out _ KB1.out).mono ?_
    rintro e w2 ⟨rfl, hk⟩
    have KB2 := Lib.hid (btr KB1.out hk)
    clear KB1 hk
    go_wp2_with fail
    go_ret
    exact ⟨rfl, KB2.out⟩
section
open Go.ChangeShapes Go.WideShapes Go.ChangeAt
set_option maxRecDepth 100000 in
theorem barrelMore_lifted (os : Os) (started : os.Started) (H : Type) (enc : TypeId × Value → H) :
    ReturnsInHanded {} Try.checked os 16 .any (Rows.barrelMoreSpec.pre6 enc Try.prog Try.f16 Rows.barrelMoreRow.domain false) (Rows.barrelMoreSpec.post enc Try.prog Try.f16 false true false false) := by
  refine returnsInHanded_of_change (C := Try.checked) Try.own started (by kernel_rfl) Try.func16
    (ChangeSpec.witness6 (enc := enc) (C := Try.checked) false ⟨#[], #[.slice none 0 0, .int .u8 0, .int .u8 0, .int .u64 0], []⟩ 8 (by kernel_rfl) (by kernel_rfl) (by kernel_rfl) (by kernel_rfl)) ?_
  intro W base args ds gs before hval0 hW _ _
  have hval : ∀ (j : Nat) t v, Try.f16.params[j]? = some t → args[j]? = some v → Value.okWide Try.prog W .any base t v := hval0
  have hW' := hW
  obtain ⟨p, q, hA0, hV, rfl, hfz, hnd⟩ := hW
  have hA : DataW.TrodAll enc Try.prog W 0 (fun _ => true) true Try.f16.params.toList args.toList ds p := hA0
  have hA2 := hA
  have hlt : ∀ x ∈ p, x.block < W.heap.size := fun x hx => hW'.lt x (List.mem_append_left _ hx)
  rw [Try.params16] at hA hval
  obtain ⟨v0, vs0, d0, ds0, p0, q0, hargs, rfl, rfl, h0, r0⟩ := trodAll_cons hA
  obtain ⟨v1, vs1, d1, ds1, p1, q1, rfl, rfl, rfl, h1, r1⟩ := trodAll_cons r0
  obtain ⟨v2, vs2, d2, ds2, p2, q2, rfl, rfl, rfl, h2, r2⟩ := trodAll_cons r1
  obtain ⟨v3, vs3, d3, ds3, p3, q3, rfl, rfl, rfl, h3, r3⟩ := trodAll_cons r2
  obtain ⟨rfl, rfl, rfl⟩ := trodAll_nil r3
  obtain rfl : args = #[v0, v1, v2, v3] := by cases args; simp_all
  obtain ⟨rfl, rfl⟩ := trodVars_none hV
  obtain ⟨V0, hx0, hw0⟩ := open_pins (hval 0 22 v0 rfl rfl) h0 (fun x hx => hlt x (by simp [hx]))
  obtain ⟨a1, rfl, rfl, rfl, w1⟩ := open_int Try.underlying5 (hval 1 5 v1 rfl rfl) h1
  obtain ⟨a2, rfl, rfl, rfl, w2⟩ := open_int Try.underlying5 (hval 2 5 v2 rfl rfl) h2
  obtain ⟨a3, rfl, rfl, rfl, w3⟩ := open_int Try.underlying50 (hval 3 50 v3 rfl rfl) h3
  clear hA0 hval0
  simp only [List.append_nil] at hW' hA2
  refine (barrelMore_walk v0 V0 a1 a2 a3 W hx0 (wf8 w1).1 (wf8 w1).2 (wf8 w2).1 (wf8 w2).2 (wf64 w3).1 (wf64 w3).2).mono fun e W' ⟨he, hb⟩ => ?_
  subst he
  exact ⟨_, rfl, law_post Try.laidOut Try.underlying4 hW' hA2 rfl rfl rfl rfl rfl (by kernel_rfl) hb⟩
theorem barrelMore_holds : Rows.BarrelMoreSaid :=
  OpenClaim.holds_of_wide 16 Try.f16 rfl rfl rfl rfl rfl rfl rfl ⟨rfl, rfl, rfl, rfl, rfl⟩ rfl rfl rfl rfl rfl (by kernel_rfl) Try.func16 (by kernel_rfl)
    (of_decide_eq_true (by kernel_rfl)) (by unfold Func.isWrapper; first | (rw [if_pos (by decide +kernel)]; kernel_rfl) | (rw [if_neg (by decide +kernel)]; exact ⟨rfl, rfl⟩))
    (fun os started H enc _ => barrelMore_lifted os started H enc)
end
end Go.Proofs.Ytooddicegkiiiaa
