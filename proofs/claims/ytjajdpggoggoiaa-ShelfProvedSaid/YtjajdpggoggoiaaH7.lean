/- Planned: a right plan by numbers. -/
import Derived.Test.YtjajdpggoggoiaaH6
namespace Go.Proofs.Ytjajdpggoggoiaa
open Go.RowKit Go.Shelf

theorem planned_mem {l : List Int} (q : Int) : (l.any (eqB q)) = decide (q ∈ l) := any_eqB l q
set_option maxRecDepth 100000 in
set_option maxHeartbeats 16000000 in
theorem planned_any (R : Int) (x z : Value) (W Z : List Int) (w : World) (hx0 : RdI w .i64 x W) (hz0 : RdI w .u8 z Z) (hc : checkD R W = 0) (hzl : Z.length ≤ 1000) (hzb : ∀ b ∈ Z, 0 ≤ b ∧ b ≤ 255) :
    Calls Try.prog 37 #[.agg #[.int .i64 R, x], z] w fun e w' => ∃ u p n, e = .returned (.tuple #[u, .int .i64 n]) ∧ RdI w' .i64 u p ∧ p.length ≤ 16 ∧ planR R W p = (n, 0) ∧ aheadD R W W.length 0 ≤ n ∧ Below w.heap.size w w' := by
  obtain ⟨a, c, rfl⟩ := hx0.ex _ rfl
  obtain ⟨az, cz, rfl⟩ := hz0.ex _ rfl
  obtain ⟨_, _, e, hca, _, hxf⟩ := hx0.form
  cases e
  obtain ⟨_, _, e, hcz, _, hzf⟩ := hz0.form
  cases e
  have hd := okD_of hc
  have h16 := hd.l16; have hr1 := hd.r1; have hr6 := hd.r6
  have HXF := Lib.hid hxf; have HZF := Lib.hid hzf; have HD := Lib.hid hd; have HC := Lib.hid hc; have HZB := Lib.hid hzb
  clear hxf hzf hd hc hzb hz0
  obtain ⟨wA, hwA⟩ : ∃ wA, w.alloc (.cells #[.int .i64 R, .slice a W.length c] 24) = wA := ⟨_, rfl⟩
  have HBA := Lib.hid (show Below w.heap.size w wA by rw [← hwA]; exact bal (bz w) _)
  have hr0 : wA.cell? ⟨w.heap.size, 0, none⟩ = some (.int .i64 R) := by rw [← hwA]; exact cnew rfl rfl
  have hr1 : wA.cell? ⟨w.heap.size, 1, none⟩ = some (.slice a W.length c) := by rw [← hwA]; exact cnew rfl rfl
  have hrz : w.heap.size < wA.heap.size := by rw [← hwA]; simp
  have HR0 := Lib.hid (fun wz (hB : Below wA.heap.size wA wz) => (hB.cell (p := ⟨w.heap.size, 0, none⟩) hrz).trans hr0)
  have HR1 := Lib.hid (fun wz (hB : Below wA.heap.size wA wz) => (hB.cell (p := ⟨w.heap.size, 1, none⟩) hrz).trans hr1)
  have HRZ := Lib.hid (fun wz (hB : Below wA.heap.size wA wz) => Nat.lt_of_lt_of_le hrz hB.size)
  have HX := Lib.hid (hx0.mono HBA.out)
  clear hr0 hr1 hrz hx0
  have KB0 := Lib.hid (bz wA)
  go_enter Try.func37, Try.ntmps37
  go_upto_region 1 with fail
  try rw [hwA]
  clear hwA
  have r0 := HR0.out _ KB0.out; have r1 := HR1.out _ KB0.out; have rz := HRZ.out _ KB0.out
  go_wp2_with fail
  clear r0 r1 rz
  go_loopw [6, 7, 8, 9, 10, 11] (fun s6 s7 s8 s9 _ _ wr => ∃ (k : Nat) (l p : List Int) (n : Int), k ≤ W.length ∧ s9 = .int .i64 k ∧ s8 = .int .i64 n ∧ Own3 wr wA.heap.size s6 (.slice none 0 0) s7 p [] l ∧ Hid (PlanAt R W k l p n) ∧ Below wA.heap.size wA wr) (fun _ _ _ s9 _ _ _ => W.length - (intOf s9).toNat)
  case atStart => exact ⟨0, [], [], 0, by omega, rfl, rfl, Own3.nil _ _, Lib.hid (PlanAt.zero (by omega)), KB0.out⟩
  case round =>
    obtain ⟨k, l, p, n, hk, rfl, rfl, hO, HP, hBr⟩ := hrel
    have HBR := Lib.hid hBr
    have HO := Lib.hid hO
    clear hBr hO KB0
    obtain ⟨hok, hpl, hn0, hnk⟩ := HP.out.ok
    have hlR := hok.le
    clear hok
    by_cases hlt : k < W.length
    · obtain ⟨bx, ox, rfl, hbx, hcx⟩ := HXF.out (by omega)
      have HBW := Lib.hid (btr HBA.out HBR.out)
      have gx0 := hcx k hlt
      change w.cell? _ = some (Value.int .i64 (want W k)) at gx0
      have HGX := Lib.hid (fun wz (hB : Below wA.heap.size wA wz) => ((btr HBA.out hB).cell (p := ⟨bx, ox + k, none⟩) hbx).trans gx0)
      have HGZ := Lib.hid (fun wz (hB : Below wA.heap.size wA wz) => Nat.lt_of_lt_of_le hbx (btr HBA.out hB).size)
      clear hcx gx0
      obtain ⟨al, cl, hv⟩ := owns_form HO.out.c
      subst hv
      have HRL := Lib.hid (RdI.of_owns HO.out.c)
      have HHS := Lib.hid (rhas_any (.slice al l.length cl) l (want W k) wr HRL.out (by omega))
      rw [any_eqB] at HHS
      have gx := HGX.out _ HBR.out; have zx := HGZ.out _ HBR.out
      by_cases hm : want W k ∈ l
      · have r0 := HR0.out _ HBR.out; have r1 := HR1.out _ HBR.out; have rz := HRZ.out _ HBR.out
        have HP2 := Lib.hid (HP.out.keep hm)
        rw [decide_eq_true hm] at HHS
        clear hm
        generalize want W k = q at *
        go_wp2_with fail
        refine HHS.out.mono ?_
        rintro e w' ⟨rfl, rfl⟩
        go_wp2_with (at_builtin; refine Own3.push rfl _ _ rfl HO.out (0) rfl rfl (by omega) HBR.out.size ?_)
        intro u' wp hOp hBp
        have HOP := Lib.hid hOp; have HBP := Lib.hid (hBp wA HBR.out (Nat.le_refl _))
        clear hOp hBp
        go_wp2_with fail
        go_roundw
        case rel => exact ⟨k + 1, l, p ++ [0], n, by omega, rfl, rfl, HOP.out, HP2, HBP.out⟩
        case measure => simp [intOf]; omega
      · rw [decide_eq_false hm] at HHS
        by_cases hf : (l.length : Int) = R
        · have tf : ((l.length : Int) == R) = true := by simp [hf]
          obtain ⟨_, _, e, hcl, _, hlf⟩ := HRL.out.form
          cases e
          obtain ⟨bl, ol, rfl, hbl, hll⟩ := hlf (by omega)
          have HSW := Lib.hid (fun j (hj : j < l.length) => HP.out.swap HD.out hlt hm hf (j := j) hj)
          have HER := Lib.hid (fun j (hj : j < l.length) => show (l.take j ++ l.drop (j + 1)).length ≤ 5 by rw [List.length_append, List.length_take, List.length_drop]; omega)
          have hl1 : 1 ≤ l.length := by omega
          clear hm hf hlf
          generalize want W k = q at *
          by_cases hz : Z.length = 0
          · have tz : decide ((0 : Int) < (Z.length : Int)) = false := decide_eq_false (by omega)
            have tz2 : decide (0 < Z.length) = false := decide_eq_false (by omega)
            have tz3 : ¬ 0 < Z.length := by omega
            clear hz
            have gl := hll 0 (by omega)
            rw [Nat.add_zero] at gl
            have hs1 : ∀ w : World, (Instr.slice 22 (.slice (some ⟨bl, ol, none⟩) l.length cl) none (some (.int .i64 0)) none).run Try.prog w = .ok (.slice (some ⟨bl, ol, none⟩) 0 cl) w := fun w => run_cutToI bl ol l.length cl 0 (by omega) w
            obtain ⟨ad, hcut, had⟩ := run_cutFromI bl ol l.length cl (0 + 1) (by omega) hcl
            have hs2 : ∀ w : World, (Instr.slice 22 (.slice (some ⟨bl, ol, none⟩) l.length cl) (some (.int .i64 1)) none none).run Try.prog w = .ok (.slice (some ad) (l.length - (0 + 1)) (cl - (0 + 1))) w := by
              intro w
              have := hcut w
              rwa [show ((0 + 1 : Nat) : Int) = 1 by omega] at this
            have HRA := Lib.hid (rdI_pre HRL.out (k := 0) (by omega))
            have hrd := rdI_mid rfl HRL.out (show 0 + 1 ≤ l.length by omega) (Nat.le_refl _) had
            rw [List.take_of_length_le (by rw [List.length_drop]; omega)] at hrd
            have HRB := Lib.hid hrd
            have HSW2 := Lib.hid (HSW.out 0 (by omega))
            have hel := HER.out 0 (by omega)
            have HS1 := Lib.hid hs1; have HS2 := Lib.hid hs2
            clear hcut had hrd hll HSW HER hs1 hs2
            have r0 := HR0.out _ HBR.out; have r1 := HR1.out _ HBR.out; have rz := HRZ.out _ HBR.out
            generalize hlq : l[0]?.getD 0 = lq at *
            clear hlq
            go_wp2_with fail
            refine HHS.out.mono ?_
            rintro e w' ⟨rfl, rfl⟩
            go_upto_region 14 with fail
            have hs1 := HS1.out; have hs2 := HS2.out
            refine wp_region_flowS (fun w2 => ∃ x : BelW wr, w2 = x.val) [] [([1, 2, 3, 5, 6, 7, 8], 0, true), ([], 4, true), ([], 9, true)] [10] (by kernel_rfl) (by kernel_rfl) (fun _ h _ => belW h) ?_
            intro wc hBc hh
            clear hh
            have HB1 := Lib.hid hBc
            have hbz := hBc.size
            have HA1 := Lib.hid (HRA.out.mono hBc); have HA2 := Lib.hid (HRB.out.mono hBc)
            clear hBc
            simp only [flowP, flow, pickL, List.getElem?_cons_succ, List.getElem?_cons_zero]
            refine wpQuiet_nil ?_
            repeat (go_big_quiet_step (fail))
            refine wpQuiet_nil ?_
            have O1 := own_newI wc (base := wr.heap.size) rfl hbz
            have B2 := bal HB1.out (.cells #[] 3)
            have C2 := HA1.out.mono (bal (bz wc) (.cells #[] 3))
            go_wp2
            refine seg_grow (belW B2) ?_
            refine wpQuiet_nil ?_
            refine wpList_append_any (ys := l.take 0) (al := some ⟨bl, ol, none⟩) (c := cl) rfl _ _ rfl O1 B2.size rfl (by rw [List.length_take, Nat.min_eq_left (by omega)]; rfl) (by rw [List.length_take, Nat.min_eq_left (by omega)]; exact C2) (by simp) (by rw [List.length_take]; omega) ?_
            intro v1 w1 O2 g2
            have B3 := append_below B2 O1 g2 (Nat.le_refl _)
            have C3 := HRB.out.mono B3
            go_wp2
            refine seg_grow (belW B3) ?_
            refine wpQuiet_nil ?_
            refine wpList_append_any (ys := l.drop (0 + 1)) (al := some ad) (c := cl - (0 + 1)) rfl _ _ rfl O2 B3.size rfl (by rw [List.length_drop]; rfl) (by rw [List.length_drop]; exact C3) (by simp; try omega) (by rw [List.length_drop]; omega) ?_
            intro v2 w2 O4 g4
            have HB4 := Lib.hid (append_below B3 O2 g4 (Nat.le_refl _))
            have HO4 := Lib.hid (HO.out.third (l' := v2) (zs' := l.take 0 ++ l.drop (0 + 1)) HB4.out HBR.out.size O4)
            have HBV := Lib.hid (btr HBR.out HB4.out)
            clear O1 O2 O4 g2 g4 B2 B3 C2 C3
            go_wp2
            refine seg_grow (belW HB4.out) ?_
            repeat (go_big_quiet_step (fail))
            refine wpQuiet_nil ?_
            refine only_done ?_
            obtain ⟨av, cv, hv⟩ := owns_form HO4.out.c
            subst hv
            have HRL2 := Lib.hid (RdI.of_owns HO4.out.c)
            clear hs1 hs2 HS1 HS2 HA1 HA2 HRA HRB HB1 hbz
            generalize l.take 0 ++ l.drop (0 + 1) = l2 at *
            go_upto_region 15 with fail
            have HR1v := Lib.hid (fun wz (hB : Below w2.heap.size w2 wz) => HR1.out _ (btr HBV.out hB))
            have HRZv := Lib.hid (fun wz (hB : Below w2.heap.size w2 wz) => HRZ.out _ (btr HBV.out hB))
            have HGXv := Lib.hid (fun wz (hB : Below w2.heap.size w2 wz) => HGX.out _ (btr HBV.out hB))
            have HGZv := Lib.hid (fun wz (hB : Below w2.heap.size w2 wz) => HGZ.out _ (btr HBV.out hB))
            have hln : (l2).length ≤ 6 := by omega
            go_cut [7] from 62 to 75 (fun v wx => rowI wx w2.heap.size v (l2 ++ [q]) ∧ Below w2.heap.size w2 wx)
            case first =>
              refine wp_region_US (fun wq => ∃ x : BelW w2, wq = x.val) [1, 3, 4, 5, 6, 7] [] (by kernel_rfl) (by kernel_rfl) ?_
              intro wc hBc hh
              clear hh
              have HB1 := Lib.hid hBc
              have hbz := hBc.size
              have HC1 := Lib.hid (HRL2.out.mono hBc)
              clear hBc
              have hx1 := fun l : BelW w2 => HR1v.out _ l.b
              have hx2 := fun l : BelW w2 => HRZv.out _ l.b
              have hx3 := fun l : BelW w2 => HGXv.out _ l.b
              have hx4 := fun l : BelW w2 => HGZv.out _ l.b
              refine U_heads [1, 3, 4, 5, 6, 7] (by kernel_rfl) (belW HB1.out) ?_
              simp only [pickL, List.getElem?_cons_succ, List.getElem?_cons_zero]
              repeat (go_big_quiet_step (fail))
              refine wpQuiet_nil ?_
              clear hx1 hx2 hx3 hx4
              refine U_two 0 8 (by kernel_rfl) ?_ ?_
              · simp only [pickL, List.getElem?_cons_zero]
                have O1 := own_newI wc (base := w2.heap.size) rfl hbz
                have B1 := bal HB1.out (.cells #[] 3)
                have C1 := HC1.out.mono (bal (bz wc) (.cells #[] 3))
                go_wp2
                refine seg_grow (belW B1) ?_
                refine U_two 2 8 (by kernel_rfl) ?_ ?_
                · simp only [pickL, List.getElem?_cons_succ, List.getElem?_cons_zero]
                  refine wpList_append_any rfl _ _ rfl O1 B1.size rfl rfl C1 (by simp) (by omega) ?_
                  intro v1 w1 O2 g2
                  have B2 := append_below B1 O1 g2 (Nat.le_refl _)
                  have O3 := World.ownsRow.alloc O2 (.cells #[.int .i64 q] 3)
                  have B3 := bal B2 (.cells #[.int .i64 q] 3)
                  have C3 := rdI_one w1 q 3
                  go_wp2
                  refine seg_grow (belW B2) ?_
                  refine U_one 8 (by kernel_rfl) ?_
                  simp only [pickL, List.getElem?_cons_succ, List.getElem?_cons_zero]
                  go_wp2
                  refine seg_grow (belW B3) ?_
                  refine U_one 9 (by kernel_rfl) ?_
                  simp only [pickL, List.getElem?_cons_succ, List.getElem?_cons_zero]
                  refine wpList_append_any (ys := [q]) rfl _ _ rfl O3 B3.size rfl rfl C3 (by simp; omega) (by simp) ?_
                  intro v2 w2 O4 g4
                  have B4 := append_below B3 O3 g4 (Nat.le_refl _)
                  go_wp2
                  refine seg_grow (belW B4) ?_
                  refine U_one 10 (by kernel_rfl) ?_
                  simp only [pickL, List.getElem?_cons_succ, List.getElem?_cons_zero]
                  go_wp2
                  refine seg_grow (belW B4) ?_
                  refine U_done (by kernel_rfl) ?_
                  go_wp2
                  go_meet
                  case rel => exact ⟨O4, B4⟩
                · simp only [pickL, List.getElem?_cons_succ, List.getElem?_cons_zero]
                  have O3 := World.ownsRow.alloc O1 (.cells #[.int .i64 q] 3)
                  have B3 := bal B1 (.cells #[.int .i64 q] 3)
                  have C3 := rowI_one (wc.alloc (.cells #[] 3)) (base := w2.heap.size) (nb := wc.heap.size + 1) q (by simp) B1.size
                  have C4 := C1.mono (bal (bz _) (.cells #[.int .i64 q] 3))
                  go_wp2
                  refine seg_grow (belW B3) ?_
                  refine U_one 2 (by kernel_rfl) ?_
                  simp only [pickL, List.getElem?_cons_succ, List.getElem?_cons_zero]
                  refine wpList_append_any rfl _ _ rfl O3 B3.size rfl rfl C4 (by simp) (by omega) ?_
                  intro v1 w1 O2 g2
                  have B2 := append_below B3 O3 g2 (Nat.le_refl _)
                  have C5 := RdI.of_owns (World.ownsRow.kept C3 g2 (.inr (by simp [Value.ownBlock])))
                  go_wp2
                  refine seg_grow (belW B2) ?_
                  refine U_one 9 (by kernel_rfl) ?_
                  simp only [pickL, List.getElem?_cons_succ, List.getElem?_cons_zero]
                  refine wpList_append_any (ys := [q]) rfl _ _ rfl O2 B2.size rfl rfl C5 (by simp; omega) (by simp) ?_
                  intro v2 w2 O4 g4
                  have B4 := append_below B2 O2 g4 (Nat.le_refl _)
                  go_wp2
                  refine seg_grow (belW B4) ?_
                  refine U_one 10 (by kernel_rfl) ?_
                  simp only [pickL, List.getElem?_cons_succ, List.getElem?_cons_zero]
                  go_wp2
                  refine seg_grow (belW B4) ?_
                  refine U_done (by kernel_rfl) ?_
                  go_wp2
                  go_meet
                  case rel => exact ⟨O4, B4⟩
              · simp only [pickL, List.getElem?_cons_succ, List.getElem?_cons_zero]
                have B1 := bal HB1.out (.cells #[.int .i64 q] 3)
                have C1 := HC1.out.mono (bal (bz wc) (.cells #[.int .i64 q] 3))
                have C3 := rowI_one wc (base := w2.heap.size) (nb := wc.heap.size) q rfl hbz
                go_wp2
                refine seg_grow (belW B1) ?_
                refine U_one 0 (by kernel_rfl) ?_
                simp only [pickL, List.getElem?_cons_zero]
                have O1 := own_newI (wc.alloc (.cells #[.int .i64 q] 3)) (base := w2.heap.size) (nb := wc.heap.size + 1) (by simp) B1.size
                have B2 := bal B1 (.cells #[] 3)
                have C4 := C1.mono (bal (bz _) (.cells #[] 3))
                have C5 := World.ownsRow.alloc C3 (.cells #[] 3)
                go_wp2
                refine seg_grow (belW B2) ?_
                refine U_one 2 (by kernel_rfl) ?_
                simp only [pickL, List.getElem?_cons_succ, List.getElem?_cons_zero]
                refine wpList_append_any rfl _ _ rfl O1 B2.size rfl rfl C4 (by simp) (by omega) ?_
                intro v1 w1 O2 g2
                have B3 := append_below B2 O1 g2 (Nat.le_refl _)
                have C6 := RdI.of_owns (World.ownsRow.kept C5 g2 (.inr (by simp [Value.ownBlock])))
                go_wp2
                refine seg_grow (belW B3) ?_
                refine U_one 9 (by kernel_rfl) ?_
                simp only [pickL, List.getElem?_cons_succ, List.getElem?_cons_zero]
                refine wpList_append_any (ys := [q]) rfl _ _ rfl O2 B3.size rfl rfl C6 (by simp; omega) (by simp) ?_
                intro v2 w2 O4 g4
                have B4 := append_below B3 O2 g4 (Nat.le_refl _)
                go_wp2
                refine seg_grow (belW B4) ?_
                refine U_one 10 (by kernel_rfl) ?_
                simp only [pickL, List.getElem?_cons_succ, List.getElem?_cons_zero]
                go_wp2
                refine seg_grow (belW B4) ?_
                refine U_done (by kernel_rfl) ?_
                go_wp2
                go_meet
                case rel => exact ⟨O4, B4⟩
            case rest =>
              obtain ⟨hrow, hBv⟩ := hcut
              have HO7 := Lib.hid (HO4.out.third hBv HBV.out.size hrow)
              have HB7 := Lib.hid (btr HBV.out hBv)
              clear hrow hBv HR1v HRZv HGXv HGZv
              go_wp2_with (at_builtin; refine Own3.push rfl _ _ rfl HO7.out lq rfl rfl (by omega) HB7.out.size ?_)
              intro u' wp hOp hBp
              have HOP := Lib.hid hOp; have HBP := Lib.hid (hBp wA HB7.out (Nat.le_refl _))
              clear hOp hBp
              go_wp2_with fail
              go_roundw
              case rel => exact ⟨k + 1, l2 ++ [q], p ++ [lq], n + 1, by omega, rfl, rfl, HOP.out, HSW2, HBP.out⟩
              case measure => simp [intOf]; omega
          · have tz : decide ((0 : Int) < (Z.length : Int)) = true := decide_eq_true (by omega)
            obtain ⟨bz', oz, rfl, hbz', hzz⟩ := HZF.out (by omega)
            have i0 := Int.emod_nonneg (k : Int) (b := (Z.length : Int)) (by omega)
            have i1 := Int.emod_lt_of_pos (k : Int) (b := (Z.length : Int)) (by omega)
            obtain ⟨j, hjz⟩ := Int.eq_ofNat_of_zero_le i0
            have hj : j < Z.length := by omega
            have gz := (HBW.out.cell (p := ⟨bz', oz + j, none⟩) hbz').trans (hzz j hj)
            have zz := Nat.lt_of_lt_of_le hbz' HBW.out.size
            have hb := HZB.out (Z[j]?.getD 0) (by rw [List.getElem?_eq_getElem hj]; exact List.getElem_mem hj)
            generalize Z[j]?.getD 0 = bv at *
            have zl : ((Z.length : Int) == 0) = false := by rw [beq_eq_false_iff_ne]; omega
            have zl2 : ((l.length : Int) == 0) = false := by rw [beq_eq_false_iff_ne]; omega
            have m0 := Int.emod_nonneg bv (b := (l.length : Int)) (by omega)
            have m1 := Int.emod_lt_of_pos bv (b := (l.length : Int)) (by omega)
            obtain ⟨kk, hkz⟩ := Int.eq_ofNat_of_zero_le m0
            have hkl : kk < l.length := by omega
            clear i0 i1 m0 m1 hzz
            have gl := hll kk (by omega)
            have hs1 : ∀ w : World, (Instr.slice 22 (.slice (some ⟨bl, ol, none⟩) l.length cl) none (some (.int .i64 (kk : Int))) none).run Try.prog w = .ok (.slice (some ⟨bl, ol, none⟩) kk cl) w := fun w => run_cutToI bl ol l.length cl kk (by omega) w
            obtain ⟨ad, hcut, had⟩ := run_cutFromI bl ol l.length cl (kk + 1) (by omega) hcl
            have hs2 : ∀ w : World, (Instr.slice 22 (.slice (some ⟨bl, ol, none⟩) l.length cl) (some (.int .i64 ((kk : Int) + 1))) none none).run Try.prog w = .ok (.slice (some ad) (l.length - (kk + 1)) (cl - (kk + 1))) w := by
              intro w
              have := hcut w
              rwa [show ((kk + 1 : Nat) : Int) = ((kk : Int) + 1) by omega] at this
            have HRA := Lib.hid (rdI_pre HRL.out (k := kk) (by omega))
            have hrd := rdI_mid rfl HRL.out (show kk + 1 ≤ l.length by omega) (Nat.le_refl _) had
            rw [List.take_of_length_le (by rw [List.length_drop]; omega)] at hrd
            have HRB := Lib.hid hrd
            have HSW2 := Lib.hid (HSW.out kk (by omega))
            have hel := HER.out kk (by omega)
            have HS1 := Lib.hid hs1; have HS2 := Lib.hid hs2
            clear hcut had hrd hll HSW HER hs1 hs2
            have r0 := HR0.out _ HBR.out; have r1 := HR1.out _ HBR.out; have rz := HRZ.out _ HBR.out
            generalize hlq : l[kk]?.getD 0 = lq at *
            clear hlq
            go_wp2_with fail
            refine HHS.out.mono ?_
            rintro e w' ⟨rfl, rfl⟩
            go_upto_region 14 with fail
            have hs1 := HS1.out; have hs2 := HS2.out
            refine wp_region_flowS (fun w2 => ∃ x : BelW wr, w2 = x.val) [] [([1, 2, 3, 5, 6, 7, 8], 0, true), ([], 4, true), ([], 9, true)] [10] (by kernel_rfl) (by kernel_rfl) (fun _ h _ => belW h) ?_
            intro wc hBc hh
            clear hh
            have HB1 := Lib.hid hBc
            have hbz := hBc.size
            have HA1 := Lib.hid (HRA.out.mono hBc); have HA2 := Lib.hid (HRB.out.mono hBc)
            clear hBc
            simp only [flowP, flow, pickL, List.getElem?_cons_succ, List.getElem?_cons_zero]
            refine wpQuiet_nil ?_
            repeat (go_big_quiet_step (fail))
            refine wpQuiet_nil ?_
            have O1 := own_newI wc (base := wr.heap.size) rfl hbz
            have B2 := bal HB1.out (.cells #[] 3)
            have C2 := HA1.out.mono (bal (bz wc) (.cells #[] 3))
            go_wp2
            refine seg_grow (belW B2) ?_
            refine wpQuiet_nil ?_
            refine wpList_append_any (ys := l.take kk) (al := some ⟨bl, ol, none⟩) (c := cl) rfl _ _ rfl O1 B2.size rfl (by rw [List.length_take, Nat.min_eq_left (by omega)]; rfl) (by rw [List.length_take, Nat.min_eq_left (by omega)]; exact C2) (by simp) (by rw [List.length_take]; omega) ?_
            intro v1 w1 O2 g2
            have B3 := append_below B2 O1 g2 (Nat.le_refl _)
            have C3 := HRB.out.mono B3
            go_wp2
            refine seg_grow (belW B3) ?_
            refine wpQuiet_nil ?_
            refine wpList_append_any (ys := l.drop (kk + 1)) (al := some ad) (c := cl - (kk + 1)) rfl _ _ rfl O2 B3.size rfl (by rw [List.length_drop]; rfl) (by rw [List.length_drop]; exact C3) (by simp; try omega) (by rw [List.length_drop]; omega) ?_
            intro v2 w2 O4 g4
            have HB4 := Lib.hid (append_below B3 O2 g4 (Nat.le_refl _))
            have HO4 := Lib.hid (HO.out.third (l' := v2) (zs' := l.take kk ++ l.drop (kk + 1)) HB4.out HBR.out.size O4)
            have HBV := Lib.hid (btr HBR.out HB4.out)
            clear O1 O2 O4 g2 g4 B2 B3 C2 C3
            go_wp2
            refine seg_grow (belW HB4.out) ?_
            repeat (go_big_quiet_step (fail))
            refine wpQuiet_nil ?_
            refine only_done ?_
            obtain ⟨av, cv, hv⟩ := owns_form HO4.out.c
            subst hv
            have HRL2 := Lib.hid (RdI.of_owns HO4.out.c)
            clear hs1 hs2 HS1 HS2 HA1 HA2 HRA HRB HB1 hbz
            generalize l.take kk ++ l.drop (kk + 1) = l2 at *
            go_upto_region 15 with fail
            have HR1v := Lib.hid (fun wz (hB : Below w2.heap.size w2 wz) => HR1.out _ (btr HBV.out hB))
            have HRZv := Lib.hid (fun wz (hB : Below w2.heap.size w2 wz) => HRZ.out _ (btr HBV.out hB))
            have HGXv := Lib.hid (fun wz (hB : Below w2.heap.size w2 wz) => HGX.out _ (btr HBV.out hB))
            have HGZv := Lib.hid (fun wz (hB : Below w2.heap.size w2 wz) => HGZ.out _ (btr HBV.out hB))
            have hln : (l2).length ≤ 6 := by omega
            go_cut [7] from 62 to 75 (fun v wx => rowI wx w2.heap.size v (l2 ++ [q]) ∧ Below w2.heap.size w2 wx)
            case first =>
              refine wp_region_US (fun wq => ∃ x : BelW w2, wq = x.val) [1, 3, 4, 5, 6, 7] [] (by kernel_rfl) (by kernel_rfl) ?_
              intro wc hBc hh
              clear hh
              have HB1 := Lib.hid hBc
              have hbz := hBc.size
              have HC1 := Lib.hid (HRL2.out.mono hBc)
              clear hBc
              have hx1 := fun l : BelW w2 => HR1v.out _ l.b
              have hx2 := fun l : BelW w2 => HRZv.out _ l.b
              have hx3 := fun l : BelW w2 => HGXv.out _ l.b
              have hx4 := fun l : BelW w2 => HGZv.out _ l.b
              refine U_heads [1, 3, 4, 5, 6, 7] (by kernel_rfl) (belW HB1.out) ?_
              simp only [pickL, List.getElem?_cons_succ, List.getElem?_cons_zero]
              repeat (go_big_quiet_step (fail))
              refine wpQuiet_nil ?_
              clear hx1 hx2 hx3 hx4
              refine U_two 0 8 (by kernel_rfl) ?_ ?_
              · simp only [pickL, List.getElem?_cons_zero]
                have O1 := own_newI wc (base := w2.heap.size) rfl hbz
                have B1 := bal HB1.out (.cells #[] 3)
                have C1 := HC1.out.mono (bal (bz wc) (.cells #[] 3))
                go_wp2
                refine seg_grow (belW B1) ?_
                refine U_two 2 8 (by kernel_rfl) ?_ ?_
                · simp only [pickL, List.getElem?_cons_succ, List.getElem?_cons_zero]
                  refine wpList_append_any rfl _ _ rfl O1 B1.size rfl rfl C1 (by simp) (by omega) ?_
                  intro v1 w1 O2 g2
                  have B2 := append_below B1 O1 g2 (Nat.le_refl _)
                  have O3 := World.ownsRow.alloc O2 (.cells #[.int .i64 q] 3)
                  have B3 := bal B2 (.cells #[.int .i64 q] 3)
                  have C3 := rdI_one w1 q 3
                  go_wp2
                  refine seg_grow (belW B2) ?_
                  refine U_one 8 (by kernel_rfl) ?_
                  simp only [pickL, List.getElem?_cons_succ, List.getElem?_cons_zero]
                  go_wp2
                  refine seg_grow (belW B3) ?_
                  refine U_one 9 (by kernel_rfl) ?_
                  simp only [pickL, List.getElem?_cons_succ, List.getElem?_cons_zero]
                  refine wpList_append_any (ys := [q]) rfl _ _ rfl O3 B3.size rfl rfl C3 (by simp; omega) (by simp) ?_
                  intro v2 w2 O4 g4
                  have B4 := append_below B3 O3 g4 (Nat.le_refl _)
                  go_wp2
                  refine seg_grow (belW B4) ?_
                  refine U_one 10 (by kernel_rfl) ?_
                  simp only [pickL, List.getElem?_cons_succ, List.getElem?_cons_zero]
                  go_wp2
                  refine seg_grow (belW B4) ?_
                  refine U_done (by kernel_rfl) ?_
                  go_wp2
                  go_meet
                  case rel => exact ⟨O4, B4⟩
                · simp only [pickL, List.getElem?_cons_succ, List.getElem?_cons_zero]
                  have O3 := World.ownsRow.alloc O1 (.cells #[.int .i64 q] 3)
                  have B3 := bal B1 (.cells #[.int .i64 q] 3)
                  have C3 := rowI_one (wc.alloc (.cells #[] 3)) (base := w2.heap.size) (nb := wc.heap.size + 1) q (by simp) B1.size
                  have C4 := C1.mono (bal (bz _) (.cells #[.int .i64 q] 3))
                  go_wp2
                  refine seg_grow (belW B3) ?_
                  refine U_one 2 (by kernel_rfl) ?_
                  simp only [pickL, List.getElem?_cons_succ, List.getElem?_cons_zero]
                  refine wpList_append_any rfl _ _ rfl O3 B3.size rfl rfl C4 (by simp) (by omega) ?_
                  intro v1 w1 O2 g2
                  have B2 := append_below B3 O3 g2 (Nat.le_refl _)
                  have C5 := RdI.of_owns (World.ownsRow.kept C3 g2 (.inr (by simp [Value.ownBlock])))
                  go_wp2
                  refine seg_grow (belW B2) ?_
                  refine U_one 9 (by kernel_rfl) ?_
                  simp only [pickL, List.getElem?_cons_succ, List.getElem?_cons_zero]
                  refine wpList_append_any (ys := [q]) rfl _ _ rfl O2 B2.size rfl rfl C5 (by simp; omega) (by simp) ?_
                  intro v2 w2 O4 g4
                  have B4 := append_below B2 O2 g4 (Nat.le_refl _)
                  go_wp2
                  refine seg_grow (belW B4) ?_
                  refine U_one 10 (by kernel_rfl) ?_
                  simp only [pickL, List.getElem?_cons_succ, List.getElem?_cons_zero]
                  go_wp2
                  refine seg_grow (belW B4) ?_
                  refine U_done (by kernel_rfl) ?_
                  go_wp2
                  go_meet
                  case rel => exact ⟨O4, B4⟩
              · simp only [pickL, List.getElem?_cons_succ, List.getElem?_cons_zero]
                have B1 := bal HB1.out (.cells #[.int .i64 q] 3)
                have C1 := HC1.out.mono (bal (bz wc) (.cells #[.int .i64 q] 3))
                have C3 := rowI_one wc (base := w2.heap.size) (nb := wc.heap.size) q rfl hbz
                go_wp2
                refine seg_grow (belW B1) ?_
                refine U_one 0 (by kernel_rfl) ?_
                simp only [pickL, List.getElem?_cons_zero]
                have O1 := own_newI (wc.alloc (.cells #[.int .i64 q] 3)) (base := w2.heap.size) (nb := wc.heap.size + 1) (by simp) B1.size
                have B2 := bal B1 (.cells #[] 3)
                have C4 := C1.mono (bal (bz _) (.cells #[] 3))
                have C5 := World.ownsRow.alloc C3 (.cells #[] 3)
                go_wp2
                refine seg_grow (belW B2) ?_
                refine U_one 2 (by kernel_rfl) ?_
                simp only [pickL, List.getElem?_cons_succ, List.getElem?_cons_zero]
                refine wpList_append_any rfl _ _ rfl O1 B2.size rfl rfl C4 (by simp) (by omega) ?_
                intro v1 w1 O2 g2
                have B3 := append_below B2 O1 g2 (Nat.le_refl _)
                have C6 := RdI.of_owns (World.ownsRow.kept C5 g2 (.inr (by simp [Value.ownBlock])))
                go_wp2
                refine seg_grow (belW B3) ?_
                refine U_one 9 (by kernel_rfl) ?_
                simp only [pickL, List.getElem?_cons_succ, List.getElem?_cons_zero]
                refine wpList_append_any (ys := [q]) rfl _ _ rfl O2 B3.size rfl rfl C6 (by simp; omega) (by simp) ?_
                intro v2 w2 O4 g4
                have B4 := append_below B3 O2 g4 (Nat.le_refl _)
                go_wp2
                refine seg_grow (belW B4) ?_
                refine U_one 10 (by kernel_rfl) ?_
                simp only [pickL, List.getElem?_cons_succ, List.getElem?_cons_zero]
                go_wp2
                refine seg_grow (belW B4) ?_
                refine U_done (by kernel_rfl) ?_
                go_wp2
                go_meet
                case rel => exact ⟨O4, B4⟩
            case rest =>
              obtain ⟨hrow, hBv⟩ := hcut
              have HO7 := Lib.hid (HO4.out.third hBv HBV.out.size hrow)
              have HB7 := Lib.hid (btr HBV.out hBv)
              clear hrow hBv HR1v HRZv HGXv HGZv
              go_wp2_with (at_builtin; refine Own3.push rfl _ _ rfl HO7.out lq rfl rfl (by omega) HB7.out.size ?_)
              intro u' wp hOp hBp
              have HOP := Lib.hid hOp; have HBP := Lib.hid (hBp wA HB7.out (Nat.le_refl _))
              clear hOp hBp
              go_wp2_with fail
              go_roundw
              case rel => exact ⟨k + 1, l2 ++ [q], p ++ [lq], n + 1, by omega, rfl, rfl, HOP.out, HSW2, HBP.out⟩
              case measure => simp [intOf]; omega
        · have tf : ((l.length : Int) == R) = false := by simp [hf]
          have HP2 := Lib.hid (HP.out.put HD.out hlt hm hf)
          clear hm hf
          generalize want W k = q at *
          have r0 := HR0.out _ HBR.out; have r1 := HR1.out _ HBR.out; have rz := HRZ.out _ HBR.out
          go_wp2_with fail
          refine HHS.out.mono ?_
          rintro e w' ⟨rfl, rfl⟩
          go_upto_region 15 with fail
          clear r0 r1 rz gx zx
          have HR1v := Lib.hid (fun wz (hB : Below wr.heap.size wr wz) => HR1.out _ (btr HBR.out hB))
          have HRZv := Lib.hid (fun wz (hB : Below wr.heap.size wr wz) => HRZ.out _ (btr HBR.out hB))
          have HGXv := Lib.hid (fun wz (hB : Below wr.heap.size wr wz) => HGX.out _ (btr HBR.out hB))
          have HGZv := Lib.hid (fun wz (hB : Below wr.heap.size wr wz) => HGZ.out _ (btr HBR.out hB))
          have hln : (l).length ≤ 6 := by omega
          go_cut [7] from 62 to 75 (fun v wx => rowI wx wr.heap.size v (l ++ [q]) ∧ Below wr.heap.size wr wx)
          case first =>
            refine wp_region_US (fun wq => ∃ x : BelW wr, wq = x.val) [1, 3, 4, 5, 6, 7] [] (by kernel_rfl) (by kernel_rfl) ?_
            intro wc hBc hh
            clear hh
            have HB1 := Lib.hid hBc
            have hbz := hBc.size
            have HC1 := Lib.hid (HRL.out.mono hBc)
            clear hBc
            have hx1 := fun l : BelW wr => HR1v.out _ l.b
            have hx2 := fun l : BelW wr => HRZv.out _ l.b
            have hx3 := fun l : BelW wr => HGXv.out _ l.b
            have hx4 := fun l : BelW wr => HGZv.out _ l.b
            refine U_heads [1, 3, 4, 5, 6, 7] (by kernel_rfl) (belW HB1.out) ?_
            simp only [pickL, List.getElem?_cons_succ, List.getElem?_cons_zero]
            repeat (go_big_quiet_step (fail))
            refine wpQuiet_nil ?_
            clear hx1 hx2 hx3 hx4
            refine U_two 0 8 (by kernel_rfl) ?_ ?_
            · simp only [pickL, List.getElem?_cons_zero]
              have O1 := own_newI wc (base := wr.heap.size) rfl hbz
              have B1 := bal HB1.out (.cells #[] 3)
              have C1 := HC1.out.mono (bal (bz wc) (.cells #[] 3))
              go_wp2
              refine seg_grow (belW B1) ?_
              refine U_two 2 8 (by kernel_rfl) ?_ ?_
              · simp only [pickL, List.getElem?_cons_succ, List.getElem?_cons_zero]
                refine wpList_append_any rfl _ _ rfl O1 B1.size rfl rfl C1 (by simp) (by omega) ?_
                intro v1 w1 O2 g2
                have B2 := append_below B1 O1 g2 (Nat.le_refl _)
                have O3 := World.ownsRow.alloc O2 (.cells #[.int .i64 q] 3)
                have B3 := bal B2 (.cells #[.int .i64 q] 3)
                have C3 := rdI_one w1 q 3
                go_wp2
                refine seg_grow (belW B2) ?_
                refine U_one 8 (by kernel_rfl) ?_
                simp only [pickL, List.getElem?_cons_succ, List.getElem?_cons_zero]
                go_wp2
                refine seg_grow (belW B3) ?_
                refine U_one 9 (by kernel_rfl) ?_
                simp only [pickL, List.getElem?_cons_succ, List.getElem?_cons_zero]
                refine wpList_append_any (ys := [q]) rfl _ _ rfl O3 B3.size rfl rfl C3 (by simp; omega) (by simp) ?_
                intro v2 w2 O4 g4
                have B4 := append_below B3 O3 g4 (Nat.le_refl _)
                go_wp2
                refine seg_grow (belW B4) ?_
                refine U_one 10 (by kernel_rfl) ?_
                simp only [pickL, List.getElem?_cons_succ, List.getElem?_cons_zero]
                go_wp2
                refine seg_grow (belW B4) ?_
                refine U_done (by kernel_rfl) ?_
                go_wp2
                go_meet
                case rel => exact ⟨O4, B4⟩
              · simp only [pickL, List.getElem?_cons_succ, List.getElem?_cons_zero]
                have O3 := World.ownsRow.alloc O1 (.cells #[.int .i64 q] 3)
                have B3 := bal B1 (.cells #[.int .i64 q] 3)
                have C3 := rowI_one (wc.alloc (.cells #[] 3)) (base := wr.heap.size) (nb := wc.heap.size + 1) q (by simp) B1.size
                have C4 := C1.mono (bal (bz _) (.cells #[.int .i64 q] 3))
                go_wp2
                refine seg_grow (belW B3) ?_
                refine U_one 2 (by kernel_rfl) ?_
                simp only [pickL, List.getElem?_cons_succ, List.getElem?_cons_zero]
                refine wpList_append_any rfl _ _ rfl O3 B3.size rfl rfl C4 (by simp) (by omega) ?_
                intro v1 w1 O2 g2
                have B2 := append_below B3 O3 g2 (Nat.le_refl _)
                have C5 := RdI.of_owns (World.ownsRow.kept C3 g2 (.inr (by simp [Value.ownBlock])))
                go_wp2
                refine seg_grow (belW B2) ?_
                refine U_one 9 (by kernel_rfl) ?_
                simp only [pickL, List.getElem?_cons_succ, List.getElem?_cons_zero]
                refine wpList_append_any (ys := [q]) rfl _ _ rfl O2 B2.size rfl rfl C5 (by simp; omega) (by simp) ?_
                intro v2 w2 O4 g4
                have B4 := append_below B2 O2 g4 (Nat.le_refl _)
                go_wp2
                refine seg_grow (belW B4) ?_
                refine U_one 10 (by kernel_rfl) ?_
                simp only [pickL, List.getElem?_cons_succ, List.getElem?_cons_zero]
                go_wp2
                refine seg_grow (belW B4) ?_
                refine U_done (by kernel_rfl) ?_
                go_wp2
                go_meet
                case rel => exact ⟨O4, B4⟩
            · simp only [pickL, List.getElem?_cons_succ, List.getElem?_cons_zero]
              have B1 := bal HB1.out (.cells #[.int .i64 q] 3)
              have C1 := HC1.out.mono (bal (bz wc) (.cells #[.int .i64 q] 3))
              have C3 := rowI_one wc (base := wr.heap.size) (nb := wc.heap.size) q rfl hbz
              go_wp2
              refine seg_grow (belW B1) ?_
              refine U_one 0 (by kernel_rfl) ?_
              simp only [pickL, List.getElem?_cons_zero]
              have O1 := own_newI (wc.alloc (.cells #[.int .i64 q] 3)) (base := wr.heap.size) (nb := wc.heap.size + 1) (by simp) B1.size
              have B2 := bal B1 (.cells #[] 3)
              have C4 := C1.mono (bal (bz _) (.cells #[] 3))
              have C5 := World.ownsRow.alloc C3 (.cells #[] 3)
              go_wp2
              refine seg_grow (belW B2) ?_
              refine U_one 2 (by kernel_rfl) ?_
              simp only [pickL, List.getElem?_cons_succ, List.getElem?_cons_zero]
              refine wpList_append_any rfl _ _ rfl O1 B2.size rfl rfl C4 (by simp) (by omega) ?_
              intro v1 w1 O2 g2
              have B3 := append_below B2 O1 g2 (Nat.le_refl _)
              have C6 := RdI.of_owns (World.ownsRow.kept C5 g2 (.inr (by simp [Value.ownBlock])))
              go_wp2
              refine seg_grow (belW B3) ?_
              refine U_one 9 (by kernel_rfl) ?_
              simp only [pickL, List.getElem?_cons_succ, List.getElem?_cons_zero]
              refine wpList_append_any (ys := [q]) rfl _ _ rfl O2 B3.size rfl rfl C6 (by simp; omega) (by simp) ?_
              intro v2 w2 O4 g4
              have B4 := append_below B3 O2 g4 (Nat.le_refl _)
              go_wp2
              refine seg_grow (belW B4) ?_
              refine U_one 10 (by kernel_rfl) ?_
              simp only [pickL, List.getElem?_cons_succ, List.getElem?_cons_zero]
              go_wp2
              refine seg_grow (belW B4) ?_
              refine U_done (by kernel_rfl) ?_
              go_wp2
              go_meet
              case rel => exact ⟨O4, B4⟩
          case rest =>
            obtain ⟨hrow, hBv⟩ := hcut
            have HO7 := Lib.hid (HO.out.third hBv HBR.out.size hrow)
            have HB7 := Lib.hid (btr HBR.out hBv)
            clear hrow hBv HR1v HRZv HGXv HGZv
            go_wp2_with (at_builtin; refine Own3.push rfl _ _ rfl HO7.out 0 rfl rfl (by omega) HB7.out.size ?_)
            intro u' wp hOp hBp
            have HOP := Lib.hid hOp; have HBP := Lib.hid (hBp wA HB7.out (Nat.le_refl _))
            clear hOp hBp
            go_wp2_with fail
            go_roundw
            case rel => exact ⟨k + 1, l ++ [q], p ++ [0], n + 1, by omega, rfl, rfl, HOP.out, HP2, HBP.out⟩
            case measure => simp [intOf]; omega
    · have hke : k = W.length := by omega
      subst hke
      clear hlt hk
      have r0 := HR0.out _ HBR.out; have r1 := HR1.out _ HBR.out; have rz := HRZ.out _ HBR.out
      go_wp2_with fail
      clear r0 r1 rz
      go_ret2
      exact ⟨_, p, n, rfl, RdI.of_owns HO.out.a, by omega, (HP.out.done HC.out).1, (HP.out.done HC.out).2, btr HBA.out HBR.out⟩
end Go.Proofs.Ytjajdpggoggoiaa
