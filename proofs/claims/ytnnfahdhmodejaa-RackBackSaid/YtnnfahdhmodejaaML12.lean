/- RackExchanged: of three tapers two can be exchanged without a change of the rack. -/
import Derived.Test.YtnnfahdhmodejaaMLf
import Derived.Test.YtnnfahdhmodejaaMGD
import Derived.Test.YtnnfahdhmodejaaMGI
namespace Go.Proofs.Ytnnfahdhmodejaa
open Go.RowKit Go.Shelf

theorem seqC_perm {s t : List Int} (h : s.Perm t) : seqC t = seqC s := by
  unfold seqC
  have e1 := h.length_eq
  have e2 : t.any (outB 1 99) = s.any (outB 1 99) := by
    rw [Bool.eq_iff_iff, List.any_eq_true, List.any_eq_true]
    exact ⟨fun ⟨x, h1, h2⟩ => ⟨x, h.mem_iff.2 h1, h2⟩, fun ⟨x, h1, h2⟩ => ⟨x, h.mem_iff.1 h1, h2⟩⟩
  rw [e1, e2]
theorem three_split (s : List Int) (i : Nat) (h : i + 2 < s.length) : s = s.take i ++ [elt s i, elt s (i + 1), elt s (i + 2)] ++ s.drop (i + 3) := by
  conv => lhs; rw [← List.take_append_drop i s]
  rw [List.append_assoc]
  congr 1
  rw [List.drop_eq_getElem_cons (by omega), List.drop_eq_getElem_cons (by omega), List.drop_eq_getElem_cons (by omega), elt_lt (by omega), elt_lt (by omega), elt_lt (by omega)]
  rfl
/-- The first two change places. -/
def swA (s : List Int) (i : Nat) : List Int := (s.set i (elt s (i + 1))).set (i + 1) (elt s i)
def swB (s : List Int) (i : Nat) : List Int := (s.set (i + 1) (elt s (i + 2))).set (i + 2) (elt s (i + 1))
theorem swA_split (s : List Int) (i : Nat) (h : i + 2 < s.length) : swA s i = s.take i ++ [elt s (i + 1), elt s i, elt s (i + 2)] ++ s.drop (i + 3) := by
  apply list_ext
  · simp [swA]; omega
  · intro j hj
    simp only [swA, List.length_set] at hj
    have hs := congrArg (fun l => elt l j) (three_split s i h)
    unfold swA
    rw [elt_set (by simp; omega), elt_set (by omega)]
    unfold elt at hs ⊢
    rcases Nat.lt_or_ge j i with h1 | h1
    · rw [if_neg (by omega), if_neg (by omega)]
      rw [List.append_assoc, List.getElem?_append_left (by simp; omega)]
      rw [List.getElem?_take, if_pos h1]
    · rw [List.append_assoc, List.getElem?_append_right (by simp; omega)]
      simp only [List.length_take]
      rw [show j - min i s.length = j - i by omega]
      by_cases e0 : j = i
      · subst e0; simp
      · by_cases e1 : j = i + 1
        · subst e1; simp
        · rw [if_neg e1, if_neg e0]
          by_cases e2 : j = i + 2
          · subst e2; simp
          · rw [List.getElem?_append_right (by simp; omega)]
            simp only [List.length_cons, List.length_nil, List.getElem?_drop]
            rw [show i + 3 + (j - i - (0 + 1 + 1 + 1)) = j by omega]
theorem swB_split (s : List Int) (i : Nat) (h : i + 2 < s.length) : swB s i = s.take i ++ [elt s i, elt s (i + 2), elt s (i + 1)] ++ s.drop (i + 3) := by
  apply list_ext
  · simp [swB]; omega
  · intro j hj
    simp only [swB, List.length_set] at hj
    unfold swB
    rw [elt_set (by simp; omega), elt_set (by omega)]
    unfold elt
    rcases Nat.lt_or_ge j i with h1 | h1
    · rw [if_neg (by omega), if_neg (by omega)]
      rw [List.append_assoc, List.getElem?_append_left (by simp; omega)]
      rw [List.getElem?_take, if_pos h1]
    · rw [List.append_assoc, List.getElem?_append_right (by simp; omega)]
      simp only [List.length_take]
      rw [show j - min i s.length = j - i by omega]
      by_cases e0 : j = i
      · subst e0; simp
      · by_cases e1 : j = i + 1
        · subst e1; simp
        · by_cases e2 : j = i + 2
          · subst e2; simp
          · rw [if_neg e2, if_neg e1]
            rw [List.getElem?_append_right (by simp; omega)]
            simp only [List.length_cons, List.length_nil, List.getElem?_drop]
            rw [show i + 3 + (j - i - (0 + 1 + 1 + 1)) = j by omega]
theorem swA_move {s : List Int} {i : Nat} (h : i + 2 < s.length) (h1 : min (elt s i) (elt s (i + 1)) ≤ elt s (i + 2)) (h2 : elt s (i + 2) < max (elt s i) (elt s (i + 1))) : KE s (swA s i) := by
  rw [swA_split s i h]
  conv => lhs; rw [three_split s i h]
  rcases Int.lt_or_le (elt s i) (elt s (i + 1)) with h3 | h3
  · exact KE.step _ _ (Kn.a _ _ _ (by omega) (by omega))
  · exact (KE.step _ _ (Kn.a _ _ _ (by omega) (by omega))).symm
theorem swB_move {s : List Int} {i : Nat} (h : i + 2 < s.length) (h1 : min (elt s (i + 1)) (elt s (i + 2)) < elt s i) (h2 : elt s i ≤ max (elt s (i + 1)) (elt s (i + 2))) : KE s (swB s i) := by
  rw [swB_split s i h]
  conv => lhs; rw [three_split s i h]
  rcases Int.lt_or_le (elt s (i + 1)) (elt s (i + 2)) with h3 | h3
  · exact (KE.step _ _ (Kn.b _ _ _ (by omega) (by omega))).symm
  · exact KE.step _ _ (Kn.b _ _ _ (by omega) (by omega))
set_option maxRecDepth 100000 in
set_option maxHeartbeats 3200000 in
theorem exch_core (x : Value) (s : List Int) (p : Int) (w : World) (hx0 : RdI w .i64 x s) (hp : 0 ≤ p) (hp2 : p ≤ 255) (hs : seqC s = 0) (h3 : 3 ≤ s.length) :
    Calls Try.prog 12 #[x, .int .u8 p] w fun e w' => e = .returned (.bool true) ∧ Below w.heap.size w w' := by
  have HX := Lib.hid hx0
  obtain ⟨k, hk, hkl⟩ : ∃ k : Nat, p % ((s.length : Int) - 2) = (k : Int) ∧ k + 2 < s.length := by
    have h1 := Int.emod_nonneg p (show ((s.length : Int) - 2) ≠ 0 by omega)
    have h2 := Int.emod_lt_of_pos p (show 0 < ((s.length : Int) - 2) by omega)
    exact ⟨(p % ((s.length : Int) - 2)).toNat, by omega, by omega⟩
  have HF := Lib.hid (fine_any x s w hx0)
  rw [decide_eq_true hs] at HF
  obtain ⟨al, ca, rfl, _, _, hx⟩ := hx0.form
  obtain ⟨b, off, rfl, hbz, hcell⟩ := hx (by omega)
  have c0 := hcell k (by omega)
  have c1 := hcell (k + 1) (by omega)
  have c2 := hcell (k + 2) (by omega)
  have hl12 := (seqC_ok hs).1
  have HS := Lib.hid hs
  have HB := Lib.hid (bz w)
  obtain ⟨va, hva⟩ : ∃ v, v = elt s k := ⟨_, rfl⟩
  obtain ⟨vb, hvb⟩ : ∃ v, v = elt s (k + 1) := ⟨_, rfl⟩
  obtain ⟨vc, hvc⟩ : ∃ v, v = elt s (k + 2) := ⟨_, rfl⟩
  change w.cell? ⟨b, off + k, none⟩ = some (.int .i64 (elt s k)) at c0
  change w.cell? ⟨b, off + (k + 1), none⟩ = some (.int .i64 (elt s (k + 1))) at c1
  change w.cell? ⟨b, off + (k + 2), none⟩ = some (.int .i64 (elt s (k + 2))) at c2
  rw [← hva] at c0
  rw [← hvb] at c1
  rw [← hvc] at c2
  have HA := Lib.hid hva
  have HBB := Lib.hid hvb
  have HCC := Lib.hid hvc
  have HK := Lib.hid hkl
  have n2 : ((s.length : Int) - 2) ≠ 0 := by omega
  have n3 : ¬ (s.length : Int) < 3 := by omega
  have n4 : (0 : Int) < (s.length : Int) - 2 := by omega
  clear hs hx hcell hx0 hva hvb hvc h3
  go_enter Try.func12, Try.ntmps12
  go_wp2_with fail
  refine HF.out.mono ?_
  rintro e w' ⟨rfl, rfl⟩
  go_upto_region 4 with fail
  refine wp_region_flow [] [] [0, 1, 2, 3, 4, 5, 6, 7, 8, 9, 10, 11, 12, 13, 14, 15, 16] (by kernel_rfl) (by kernel_rfl) ?_
  intro wc hBc hh
  clear hh
  rw [hk]
  have d0 := (hBc.cell (p := ⟨b, off + k, none⟩) hbz).trans c0
  have d1 := (hBc.cell (p := ⟨b, off + (k + 1), none⟩) hbz).trans c1
  have d2 := (hBc.cell (p := ⟨b, off + (k + 2), none⟩) hbz).trans c2
  have z1 := Nat.lt_of_lt_of_le hbz hBc.size
  have HB2 := Lib.hid hBc
  have i1 : (0 : Int) ≤ (k : Int) + 1 ∧ (k : Int) + 1 < (s.length : Int) := by omega
  have i2 : (0 : Int) ≤ (k : Int) + 2 ∧ (k : Int) + 2 < (s.length : Int) := by omega
  have HOW := Lib.hid (own_newI wc (nb := wc.heap.size) rfl (Nat.le_refl _))
  have hL := @Later.cell wc
  clear hBc hk c0 c1 c2 hbz HB
  simp only [flowP, flow, pickL, List.getElem?_cons_succ, List.getElem?_cons_zero]
  refine wpQuiet_nil ?_
  repeat (go_big_quiet_step (fail))
  refine wpQuiet_nil ?_
  refine only_done ?_
  clear hL d0 d1 d2
  go_wp2_with (at_builtin; refine wpList_append_any rfl _ _ rfl HOW.out (by simp) rfl rfl ((HX.out.mono HB2.out).mono (bal (bz wc) _)) (by simp) (by omega) ?_)
  intro v' w' hO' hg
  have hB1 : Below w.heap.size w w' := btr HB2.out (append_below (bal (bz wc) _) HOW.out hg (Nat.le_refl _))
  have hO2 : rowI w' wc.heap.size v' s := hO'
  have hwz : w.heap.size ≤ wc.heap.size := HB2.out.size
  clear hO' hg HOW
  have HO := Lib.hid hO2
  obtain ⟨g, c, rfl, hgz, gc0, gf0⟩ := hO2.get k (by omega)
  obtain ⟨g1, c1, e1, _, gc1, gf1⟩ := hO2.get (k + 1) (by omega)
  obtain ⟨g2, c2, e2, _, gc2, gf2⟩ := hO2.get (k + 2) (by omega)
  simp only [Value.slice.injEq, Option.some.injEq, Addr.mk.injEq, and_true, true_and] at e1 e2
  obtain ⟨e1, e3⟩ := e1
  obtain ⟨e2, e4⟩ := e2
  subst e1 e2 e3 e4
  have hlo := (hO2.lt (k := g) rfl).1
  have HLO := Lib.hid (Nat.le_trans hwz hlo)
  have HBW := Lib.hid hB1
  clear hO2 hwz hB1 hlo HB2
  go_wp2_with fail
  -- five ends
  · have hT : RdI ((w'.setCell ⟨g, k, none⟩ (.int .i64 vb)).setCell ⟨g, k + 1, none⟩ (.int .i64 va)) .i64 (.slice (some ⟨g, 0, none⟩) s.length c) (swA s k) := by
      have h1 := RdI.of_owns ((HO.out.stored k vb).stored (k + 1) va)
      rw [HA.out, HBB.out] at h1
      rw [HA.out, HBB.out]
      unfold swA
      simpa using h1
    have hBz : Below w.heap.size w ((w'.setCell ⟨g, k, none⟩ (.int .i64 vb)).setCell ⟨g, k + 1, none⟩ (.int .i64 va)) := bset (bset HBW.out (p := ⟨g, k, none⟩) HLO.out (.int .i64 vb)) (p := ⟨g, k + 1, none⟩) HLO.out (.int .i64 va)
    have hK : KE s (swA s k) := by
      refine swA_move HK.out ?_ ?_
      · rw [← HA.out, ← HBB.out, ← HCC.out]; assumption
      · rw [← HA.out, ← HBB.out, ← HCC.out]; assumption
    generalize ((w'.setCell ⟨g, k, none⟩ (.int .i64 vb)).setCell ⟨g, k + 1, none⟩ (.int .i64 va)) = wz at *
    generalize swA s k = T at *
    have HTC := Lib.hid ((seqC_perm hK.perm).trans HS.out)
    have HTB := Lib.hid hK.bld.symm
    have HXZ := Lib.hid (HX.out.mono hBz)
    have HSM := Lib.hid (built_sml HS.out).1
    have HTT := Lib.hid hT
    have HZ := Lib.hid hBz
    clear hT hBz hK
    refine (built_any _ s _ HXZ.out HS.out).mono ?_
    rintro e w3 ⟨u1, u2, rfl, hu1, hu2, hB⟩
    obtain ⟨a1, c1, rfl⟩ := hu1.sl
    obtain ⟨a2, c2, rfl⟩ := hu2.sl
    have KU := Lib.hid (keepL hu1); have K3 := Lib.hid hB
    clear hu1 hu2 hB
    go_wp2_with fail
    refine (built_any _ T w3 (HTT.out.mono K3.out) HTC.out).mono ?_
    rintro e w4 ⟨v1, v2, rfl, hv1, hv2, hB⟩
    rw [HTB.out] at hv1
    obtain ⟨b1, d1, rfl⟩ := hv1.sl
    obtain ⟨b2, d2, rfl⟩ := hv2.sl
    have HV := Lib.hid hv1; have K4 := Lib.hid hB
    clear hv1 hv2 hB
    go_wp2_with fail
    refine (same_lit _ _ _ w4 (KU.out w4 K4.out) HV.out HSM.out).mono ?_
    rintro e w5 ⟨rfl, hB⟩
    have K5 := Lib.hid hB; clear hB
    go_wp2_with fail
    refine (works_any w5).mono ?_
    rintro e w6 ⟨rfl, hB⟩
    have K6 := Lib.hid hB; clear hB
    go_wp2_with fail
    go_ret
    exact ⟨rfl, btr (btr (btr (btr HZ.out K3.out) K4.out) K5.out) K6.out⟩
  · have hT : RdI ((w'.setCell ⟨g, k + 1, none⟩ (.int .i64 vc)).setCell ⟨g, k + 2, none⟩ (.int .i64 vb)) .i64 (.slice (some ⟨g, 0, none⟩) s.length c) (swB s k) := by
      have h1 := RdI.of_owns ((HO.out.stored (k + 1) vc).stored (k + 2) vb)
      rw [HBB.out, HCC.out] at h1
      rw [HBB.out, HCC.out]
      unfold swB
      simpa using h1
    have hBz : Below w.heap.size w ((w'.setCell ⟨g, k + 1, none⟩ (.int .i64 vc)).setCell ⟨g, k + 2, none⟩ (.int .i64 vb)) := bset (bset HBW.out (p := ⟨g, k + 1, none⟩) HLO.out (.int .i64 vc)) (p := ⟨g, k + 2, none⟩) HLO.out (.int .i64 vb)
    have hK : KE s (swB s k) := by
      refine swB_move HK.out ?_ ?_
      · rw [← HA.out, ← HBB.out, ← HCC.out]; assumption
      · rw [← HA.out, ← HBB.out, ← HCC.out]; assumption
    generalize ((w'.setCell ⟨g, k + 1, none⟩ (.int .i64 vc)).setCell ⟨g, k + 2, none⟩ (.int .i64 vb)) = wz at *
    generalize swB s k = T at *
    have HTC := Lib.hid ((seqC_perm hK.perm).trans HS.out)
    have HTB := Lib.hid hK.bld.symm
    have HXZ := Lib.hid (HX.out.mono hBz)
    have HSM := Lib.hid (built_sml HS.out).1
    have HTT := Lib.hid hT
    have HZ := Lib.hid hBz
    clear hT hBz hK
    refine (built_any _ s _ HXZ.out HS.out).mono ?_
    rintro e w3 ⟨u1, u2, rfl, hu1, hu2, hB⟩
    obtain ⟨a1, c1, rfl⟩ := hu1.sl
    obtain ⟨a2, c2, rfl⟩ := hu2.sl
    have KU := Lib.hid (keepL hu1); have K3 := Lib.hid hB
    clear hu1 hu2 hB
    go_wp2_with fail
    refine (built_any _ T w3 (HTT.out.mono K3.out) HTC.out).mono ?_
    rintro e w4 ⟨v1, v2, rfl, hv1, hv2, hB⟩
    rw [HTB.out] at hv1
    obtain ⟨b1, d1, rfl⟩ := hv1.sl
    obtain ⟨b2, d2, rfl⟩ := hv2.sl
    have HV := Lib.hid hv1; have K4 := Lib.hid hB
    clear hv1 hv2 hB
    go_wp2_with fail
    refine (same_lit _ _ _ w4 (KU.out w4 K4.out) HV.out HSM.out).mono ?_
    rintro e w5 ⟨rfl, hB⟩
    have K5 := Lib.hid hB; clear hB
    go_wp2_with fail
    refine (works_any w5).mono ?_
    rintro e w6 ⟨rfl, hB⟩
    have K6 := Lib.hid hB; clear hB
    go_wp2_with fail
    go_ret
    exact ⟨rfl, btr (btr (btr (btr HZ.out K3.out) K4.out) K5.out) K6.out⟩
  · have hT : RdI w' .i64 (.slice (some ⟨g, 0, none⟩) s.length c) (s) := by
      exact RdI.of_owns HO.out
    have hBz : Below w.heap.size w w' := HBW.out
    have hK : KE s (s) := by
      exact KE.refl s
    generalize w' = wz at *
    have HTC := Lib.hid ((seqC_perm hK.perm).trans HS.out)
    have HTB := Lib.hid hK.bld.symm
    have HXZ := Lib.hid (HX.out.mono hBz)
    have HSM := Lib.hid (built_sml HS.out).1
    have HTT := Lib.hid hT
    have HZ := Lib.hid hBz
    clear hT hBz hK
    refine (built_any _ s _ HXZ.out HS.out).mono ?_
    rintro e w3 ⟨u1, u2, rfl, hu1, hu2, hB⟩
    obtain ⟨a1, c1, rfl⟩ := hu1.sl
    obtain ⟨a2, c2, rfl⟩ := hu2.sl
    have KU := Lib.hid (keepL hu1); have K3 := Lib.hid hB
    clear hu1 hu2 hB
    go_wp2_with fail
    refine (built_any _ s w3 (HTT.out.mono K3.out) HTC.out).mono ?_
    rintro e w4 ⟨v1, v2, rfl, hv1, hv2, hB⟩
    obtain ⟨b1, d1, rfl⟩ := hv1.sl
    obtain ⟨b2, d2, rfl⟩ := hv2.sl
    have HV := Lib.hid hv1; have K4 := Lib.hid hB
    clear hv1 hv2 hB
    go_wp2_with fail
    refine (same_lit _ _ _ w4 (KU.out w4 K4.out) HV.out HSM.out).mono ?_
    rintro e w5 ⟨rfl, hB⟩
    have K5 := Lib.hid hB; clear hB
    go_wp2_with fail
    refine (works_any w5).mono ?_
    rintro e w6 ⟨rfl, hB⟩
    have K6 := Lib.hid hB; clear hB
    go_wp2_with fail
    go_ret
    exact ⟨rfl, btr (btr (btr (btr HZ.out K3.out) K4.out) K5.out) K6.out⟩
  · have hT : RdI ((w'.setCell ⟨g, k + 1, none⟩ (.int .i64 vc)).setCell ⟨g, k + 2, none⟩ (.int .i64 vb)) .i64 (.slice (some ⟨g, 0, none⟩) s.length c) (swB s k) := by
      have h1 := RdI.of_owns ((HO.out.stored (k + 1) vc).stored (k + 2) vb)
      rw [HBB.out, HCC.out] at h1
      rw [HBB.out, HCC.out]
      unfold swB
      simpa using h1
    have hBz : Below w.heap.size w ((w'.setCell ⟨g, k + 1, none⟩ (.int .i64 vc)).setCell ⟨g, k + 2, none⟩ (.int .i64 vb)) := bset (bset HBW.out (p := ⟨g, k + 1, none⟩) HLO.out (.int .i64 vc)) (p := ⟨g, k + 2, none⟩) HLO.out (.int .i64 vb)
    have hK : KE s (swB s k) := by
      refine swB_move HK.out ?_ ?_
      · rw [← HA.out, ← HBB.out, ← HCC.out]; assumption
      · rw [← HA.out, ← HBB.out, ← HCC.out]; assumption
    generalize ((w'.setCell ⟨g, k + 1, none⟩ (.int .i64 vc)).setCell ⟨g, k + 2, none⟩ (.int .i64 vb)) = wz at *
    generalize swB s k = T at *
    have HTC := Lib.hid ((seqC_perm hK.perm).trans HS.out)
    have HTB := Lib.hid hK.bld.symm
    have HXZ := Lib.hid (HX.out.mono hBz)
    have HSM := Lib.hid (built_sml HS.out).1
    have HTT := Lib.hid hT
    have HZ := Lib.hid hBz
    clear hT hBz hK
    refine (built_any _ s _ HXZ.out HS.out).mono ?_
    rintro e w3 ⟨u1, u2, rfl, hu1, hu2, hB⟩
    obtain ⟨a1, c1, rfl⟩ := hu1.sl
    obtain ⟨a2, c2, rfl⟩ := hu2.sl
    have KU := Lib.hid (keepL hu1); have K3 := Lib.hid hB
    clear hu1 hu2 hB
    go_wp2_with fail
    refine (built_any _ T w3 (HTT.out.mono K3.out) HTC.out).mono ?_
    rintro e w4 ⟨v1, v2, rfl, hv1, hv2, hB⟩
    rw [HTB.out] at hv1
    obtain ⟨b1, d1, rfl⟩ := hv1.sl
    obtain ⟨b2, d2, rfl⟩ := hv2.sl
    have HV := Lib.hid hv1; have K4 := Lib.hid hB
    clear hv1 hv2 hB
    go_wp2_with fail
    refine (same_lit _ _ _ w4 (KU.out w4 K4.out) HV.out HSM.out).mono ?_
    rintro e w5 ⟨rfl, hB⟩
    have K5 := Lib.hid hB; clear hB
    go_wp2_with fail
    refine (works_any w5).mono ?_
    rintro e w6 ⟨rfl, hB⟩
    have K6 := Lib.hid hB; clear hB
    go_wp2_with fail
    go_ret
    exact ⟨rfl, btr (btr (btr (btr HZ.out K3.out) K4.out) K5.out) K6.out⟩
  · have hT : RdI w' .i64 (.slice (some ⟨g, 0, none⟩) s.length c) (s) := by
      exact RdI.of_owns HO.out
    have hBz : Below w.heap.size w w' := HBW.out
    have hK : KE s (s) := by
      exact KE.refl s
    generalize w' = wz at *
    have HTC := Lib.hid ((seqC_perm hK.perm).trans HS.out)
    have HTB := Lib.hid hK.bld.symm
    have HXZ := Lib.hid (HX.out.mono hBz)
    have HSM := Lib.hid (built_sml HS.out).1
    have HTT := Lib.hid hT
    have HZ := Lib.hid hBz
    clear hT hBz hK
    refine (built_any _ s _ HXZ.out HS.out).mono ?_
    rintro e w3 ⟨u1, u2, rfl, hu1, hu2, hB⟩
    obtain ⟨a1, c1, rfl⟩ := hu1.sl
    obtain ⟨a2, c2, rfl⟩ := hu2.sl
    have KU := Lib.hid (keepL hu1); have K3 := Lib.hid hB
    clear hu1 hu2 hB
    go_wp2_with fail
    refine (built_any _ s w3 (HTT.out.mono K3.out) HTC.out).mono ?_
    rintro e w4 ⟨v1, v2, rfl, hv1, hv2, hB⟩
    obtain ⟨b1, d1, rfl⟩ := hv1.sl
    obtain ⟨b2, d2, rfl⟩ := hv2.sl
    have HV := Lib.hid hv1; have K4 := Lib.hid hB
    clear hv1 hv2 hB
    go_wp2_with fail
    refine (same_lit _ _ _ w4 (KU.out w4 K4.out) HV.out HSM.out).mono ?_
    rintro e w5 ⟨rfl, hB⟩
    have K5 := Lib.hid hB; clear hB
    go_wp2_with fail
    refine (works_any w5).mono ?_
    rintro e w6 ⟨rfl, hB⟩
    have K6 := Lib.hid hB; clear hB
    go_wp2_with fail
    go_ret
    exact ⟨rfl, btr (btr (btr (btr HZ.out K3.out) K4.out) K5.out) K6.out⟩
set_option maxRecDepth 100000 in
set_option maxHeartbeats 1600000 in
theorem rackExchanged_walk (x : Value) (s : List Int) (p : Int) (w : World) (hx0 : RdI w .i64 x s) (hp : 0 ≤ p) (hp2 : p ≤ 255) :
    Calls Try.prog 12 #[x, .int .u8 p] w fun e w' => e = .returned (.bool true) ∧ Below w.heap.size w w' := by
  by_cases hs : seqC s = 0
  · by_cases h3 : 3 ≤ s.length
    · exact exch_core x s p w hx0 hp hp2 hs h3
    · have HF := Lib.hid (fine_any x s w hx0)
      rw [decide_eq_true hs] at HF
      obtain ⟨al, ca, rfl, _, _, hx⟩ := hx0.form
      clear hx hs
      have n3 : (s.length : Int) < 3 := by omega
      go_enter Try.func12, Try.ntmps12
      go_wp2_with fail
      refine HF.out.mono ?_
      rintro e w' ⟨rfl, rfl⟩
      go_wp2_with fail
      refine (works_any w).mono ?_
      rintro e w6 ⟨rfl, hB⟩
      have K6 := Lib.hid hB; clear hB
      go_wp2_with fail
      go_ret
      exact ⟨rfl, K6.out⟩
  · have HF := Lib.hid (fine_any x s w hx0)
    rw [decide_eq_false hs] at HF
    obtain ⟨al, ca, rfl, _, _, hx⟩ := hx0.form
    clear hx hs
    go_enter Try.func12, Try.ntmps12
    go_wp2_with fail
    refine HF.out.mono ?_
    rintro e w' ⟨rfl, rfl⟩
    go_wp2_with fail
    refine (works_any w).mono ?_
    rintro e w6 ⟨rfl, hB⟩
    have K6 := Lib.hid hB; clear hB
    go_wp2_with fail
    go_ret
    exact ⟨rfl, K6.out⟩
section
open Go.ChangeShapes Go.WideShapes Go.ChangeAt
set_option maxRecDepth 100000 in
theorem rackExchanged_lifted (os : Os) (started : os.Started) (H : Type) (enc : TypeId × Value → H) :
    ReturnsInHanded {} Try.checked os 12 .any (Rows.rackExchangedSpec.pre6 enc Try.prog Try.f12 Rows.rackExchangedRow.domain false) (Rows.rackExchangedSpec.post enc Try.prog Try.f12 false true false false) := by
  refine returnsInHanded_of_change (C := Try.checked) Try.own started (by kernel_rfl) Try.func12
    (ChangeSpec.witness6 (enc := enc) (C := Try.checked) false ⟨#[], #[.slice none 0 0, .int .u8 0], []⟩ 8 (by kernel_rfl) (by kernel_rfl) (by kernel_rfl) (by kernel_rfl)) ?_
  intro W base args ds gs before hval0 hW _ _
  have hval : ∀ (j : Nat) t v, Try.f12.params[j]? = some t → args[j]? = some v → Value.okWide Try.prog W .any base t v := hval0
  have hW' := hW
  obtain ⟨p, q, hA0, hV, rfl, hfz, hnd⟩ := hW
  have hA : DataW.TrodAll enc Try.prog W 0 (fun _ => true) true Try.f12.params.toList args.toList ds p := hA0
  have hA2 := hA
  have hlt : ∀ x ∈ p, x.block < W.heap.size := fun x hx => hW'.lt x (List.mem_append_left _ hx)
  rw [Try.params12] at hA hval
  obtain ⟨v0, vs0, d0, ds0, p0, q0, hargs, rfl, rfl, h0, r0⟩ := trodAll_cons hA
  obtain ⟨v1, vs1, d1, ds1, p1, q1, rfl, rfl, rfl, h1, r1⟩ := trodAll_cons r0
  obtain ⟨rfl, rfl, rfl⟩ := trodAll_nil r1
  obtain rfl : args = #[v0, v1] := by cases args; simp_all
  obtain ⟨rfl, rfl⟩ := trodVars_none hV
  obtain ⟨X0, hx0, hw0⟩ := open_ints_rd Try.underlying31 Try.underlying3 (by kernel_rfl) (hval 0 31 v0 rfl rfl) h0 (fun x hx => hlt x (by simp [hx]))
  obtain ⟨a1, rfl, rfl, rfl, w1⟩ := open_int Try.underlying5 (hval 1 5 v1 rfl rfl) h1
  clear hA0 hval0
  simp only [List.append_nil] at hW' hA2
  refine (rackExchanged_walk v0 X0 a1 W hx0 (wf8 w1).1 (wf8 w1).2).mono fun e W' ⟨he, hb⟩ => ?_
  subst he
  exact ⟨_, rfl, law_post Try.laidOut Try.underlying4 hW' hA2 rfl rfl rfl rfl rfl (by kernel_rfl) hb⟩
theorem rackExchanged_holds : Rows.RackExchangedSaid :=
  OpenClaim.holds_of_wide 12 Try.f12 rfl rfl rfl rfl rfl rfl rfl ⟨rfl, rfl, rfl, rfl, rfl⟩ rfl rfl rfl rfl rfl (by kernel_rfl) Try.func12 (by kernel_rfl)
    (of_decide_eq_true (by kernel_rfl)) (by unfold Func.isWrapper; first | (rw [if_pos (by decide +kernel)]; kernel_rfl) | (rw [if_neg (by decide +kernel)]; exact ⟨rfl, rfl⟩))
    (fun os started H enc _ => rackExchanged_lifted os started H enc)
end
end Go.Proofs.Ytnnfahdhmodejaa
