/- RackCounted: the orders of a shape, counted by hooks, and by one place less; no condition. -/
import Derived.Test.YtnnfahdhmodejaaMLf
import Derived.Test.YtnnfahdhmodejaaMQu
import Derived.Test.YtnnfahdhmodejaaMGI
namespace Go.Proofs.Ytnnfahdhmodejaa
open Go.RowKit Go.Shelf

theorem exch_lit (x : Value) (l E : List Int) (w : World) (hx0 : RdI w .i64 x l) (hl : l.length ≤ 100) (h0 : elt l 0 ≤ 100) (h : exchL l = E) :
    Calls Try.prog 49 #[x] w fun e w' => ∃ u, e = .returned u ∧ RdI w' .i64 u E ∧ Below w.heap.size w w' := by
  subst h
  refine (exch_any x l w hx0 hl h0).mono ?_
  rintro e w' ⟨u, rfl, hu, hB⟩
  exact ⟨u, rfl, RdI.of_owns hu, hB⟩
theorem fac_lit (n : Nat) (w : World) (hn : n ≤ 12) : Calls Try.prog 51 #[.int .i64 n] w fun e w' => e = .returned (.int .i64 (facZ n)) ∧ Below w.heap.size w w' := by
  refine (fac_any n w hn).mono ?_
  rintro e w' ⟨rfl, rfl⟩
  exact ⟨rfl, bz w⟩
theorem shp_built {s : List Int} (hs : seqC s = 0) : Shp (shpI (bldR s s.length).1) ∧ sumZ (shpI (bldR s s.length).1) = (s.length : Int) := by
  obtain ⟨h1, _, _, h4⟩ := built_ok hs
  obtain ⟨a, b, c⟩ := rackC_zero h1
  have hl := (seqC_ok hs).1
  have hsum : sumZ (shpI (bldR s s.length).1) = (s.length : Int) := by
    have := sum_shp (bldR s s.length).1
    rw [h4] at this
    exact this
  generalize (bldR s s.length).1 = R at *
  have he : ∀ i, i < R.length → elt (shpI R) i = ((row R i).length : Int) := fun i hi => by
    unfold elt shpI; simp [hi, row]
  have hlo : ∀ x ∈ shpI R, 1 ≤ x := fun x hx => by
    unfold shpI at hx
    obtain ⟨m, hm, rfl⟩ := List.mem_map.1 hx
    have := List.length_pos_iff.2 (tab_ne c m hm)
    omega
  refine ⟨⟨hlo, fun x hx => ?_, fun i h0 hi => ?_, by omega⟩, hsum⟩
  · unfold shpI at hx
    obtain ⟨m, hm, rfl⟩ := List.mem_map.1 hx
    have := (List.sublist_flatten_of_mem hm).length_le
    omega
  · simp only [shpI, List.length_map] at hi
    rw [he i hi, he (i - 1) (by omega)]
    have := (tab_row c (i - 1)).2.1.1
    rw [show i - 1 + 1 = i by omega] at this
    omega
theorem countE_shp {l : List Int} (h : Shp l) : countE l = (pC l, 0) := by unfold countE; rw [shapeC_shp h, if_neg (by simp)]
theorem hooksE_shp {l : List Int} (h : Shp l) : hooksE l = (hooksL l, 0) := by unfold hooksE; rw [shapeC_shp h, if_neg (by simp)]
theorem prod_snoc (l : List Int) (y : Int) : prodZ (l ++ [y]) = prodZ l * y := by unfold prodZ; rw [List.foldl_append]; rfl
theorem prod_bd2 {l : List Int} (h : ∀ x ∈ l, 1 ≤ x ∧ x ≤ 12) (hl : l.length ≤ 12) : 1 ≤ prodZ l ∧ prodZ l ≤ 8916100448256 := by
  have h1 := prod_bd (l := l) (fun i hi => h _ (elt_mem hi)) l.length (Nat.le_refl _)
  rw [List.take_length] at h1
  exact ⟨h1.1, Int.le_trans h1.2 (pow_bd _ hl)⟩
/-- The numbers of the first i rows, and k of the next one. -/
def preF (H : List (List Int)) (i k : Nat) : List Int := (H.take i).flatten ++ (row H i).take k
theorem preF_sub {H : List (List Int)} {i : Nat} (hi : i < H.length) (k : Nat) : (preF H i k).Sublist H.flatten := by
  have h1 : ((H.take i).flatten ++ row H i) = (H.take (i + 1)).flatten := by rw [List.take_succ_eq_append_getElem hi, row_lt hi, List.flatten_append, List.flatten_cons, List.flatten_nil, List.append_nil]
  have h2 : ((H.take (i + 1)).flatten).Sublist H.flatten := by
    conv => rhs; rw [← List.take_append_drop (i + 1) H, List.flatten_append]
    exact List.sublist_append_left _ _
  refine List.Sublist.trans ?_ h2
  rw [← h1]
  exact List.Sublist.append (List.Sublist.refl _) (List.take_sublist _ _)
theorem preF_succ {H : List (List Int)} {i k : Nat} (hk : k < (row H i).length) : preF H i (k + 1) = preF H i k ++ [elt (row H i) k] := by
  unfold preF
  rw [List.take_succ_eq_append_getElem hk, elt_lt hk, List.append_assoc]
theorem preF_end {H : List (List Int)} {i : Nat} (hi : i < H.length) : preF H i (row H i).length = (H.take (i + 1)).flatten := by
  unfold preF
  rw [List.take_length, List.take_succ_eq_append_getElem hi, row_lt hi, List.flatten_append, List.flatten_cons, List.flatten_nil, List.append_nil]
theorem Shp.first {l : List Int} (h : Shp l) : elt l 0 ≤ 100 := by
  rcases Nat.eq_zero_or_pos l.length with h0 | h0
  · rw [List.eq_nil_of_length_eq_zero h0]; simp [elt]
  · have := h.hi _ (elt_mem h0); omega
set_option maxRecDepth 100000 in
set_option maxHeartbeats 3200000 in
theorem counted_core (x : Value) (s : List Int) (w : World) (hx0 : RdI w .i64 x s) (hs : seqC s = 0) :
    Calls Try.prog 13 #[x] w fun e w' => e = .returned (.bool true) ∧ Below w.heap.size w w' := by
  have hsh := shp_built hs
  have HSR := Lib.hid (built_sml hs).1
  have h12 := (seqC_ok hs).1
  have hall := hsh.1.all
  have HF := Lib.hid (fine_any x s w hx0)
  rw [decide_eq_true hs] at HF
  obtain ⟨al, ca, rfl, _, _, _⟩ := hx0.form
  have KP0 := Lib.hid ((keepB (bz w)).and (keepI hx0))
  have HBU := Lib.hid (fun wz h => buildof_any (.slice al s.length ca) s wz h (by omega))
  generalize (bldR s s.length).1 = R at *
  generalize (bldR s s.length).2 = O at *
  have HSI : Hid (shpI R = shpI R) := Lib.hid rfl
  generalize hl : shpI R = l at *
  have HL := Lib.hid hl
  have HSH := Lib.hid hsh.1; have HAL := Lib.hid hall
  have HC1 := Lib.hid (countE_shp hsh.1); have HC2 := Lib.hid (by have := countE_shp hall.okx; rwa [hall.exch] at this : countE (exchL l) = (pC l, 0))
  have HHK := Lib.hid (hooksE_shp hsh.1)
  have HSMH := Lib.hid (hooks_sml hsh.1)
  have HSHH := Lib.hid hall.shape
  have HLH := Lib.hid (show (hooksL l).flatten.length ≤ 12 by rw [hall.len]; have := hsh.1.sum; omega)
  have HHB := Lib.hid hall.hook
  have HPR := Lib.hid (show pC l * prodZ (hooksL l).flatten = facZ s.length by rw [hall.prod, hsh.2, Int.toNat_natCast])
  have HCO := Lib.hid hall.corn
  have HLE := Lib.hid hsh.1.len
  have HL0 := Lib.hid hsh.1.first
  have HEL := Lib.hid (show (exchL l).length ≤ 1000 by have := hall.okx.len; omega)
  have p1 := hall.one; have p2 := hall.most
  have HF12 := Lib.hid h12
  have HP0 := Lib.hid (show l.length = 0 → pC l = 1 from fun h0 => by rw [List.eq_nil_of_length_eq_zero h0]; exact pC_nil)
  have n1 : ¬ pC l < 1 := by omega
  have n2 : ¬ 7700 < pC l := by omega
  have n3 : (pC l != pC l) = false := by simp
  generalize hpl : pC l = pl at *
  generalize hooksL l = H at *
  generalize hE : exchL l = E at *
  have HEX := Lib.hid hE
  clear hE
  have HPL := Lib.hid hpl
  clear hx0 hs hsh hall hl h12 hpl HSI
  go_enter Try.func13, Try.ntmps13
  go_wp2_with fail
  refine HF.out.mono ?_
  rintro e w' ⟨rfl, rfl⟩
  go_wp2_with fail
  have gx := KP0.out.here.1
  refine (HBU.out _ gx).mono ?_
  rintro e w1 ⟨vr, vo, rfl, hRr, hRo, hB⟩
  obtain ⟨ptr, qtr, hv⟩ := exL hRr R.length rfl
  subst hv
  obtain ⟨pto, qto, hv⟩ := exL hRo O.length rfl
  subst hv
  have KP1 := Lib.hid (((KP0.out.up hB).and (keepL hRr)).and (keepL hRo))
  clear KP0
  clear hB hRr hRo
  clear gx
  go_wp2_with fail
  have gr := KP1.out.here.2.1
  refine (shape_lit _ R l _ gr HSR.out HL.out).mono ?_
  rintro e w2 ⟨vl, rfl, hRl, hB⟩
  obtain ⟨ptl, qtl, hv⟩ := exI hRl l.length rfl
  subst hv
  have KP2 := Lib.hid ((KP1.out.up hB).and (keepI hRl))
  clear KP1
  clear hB hRl
  clear gr
  go_wp2_with fail
  have gl := KP2.out.here.1
  refine (count_lit _ l pl 0 _ gl (by have := HLE.out; omega) HC1.out).mono ?_
  rintro e w3 ⟨rfl, hB⟩
  have KP3 := Lib.hid (KP2.out.up hB)
  clear KP2
  clear hB
  clear gl
  go_wp2_with fail
  have gl := KP3.out.here.1
  refine (hooks_lit _ l H 0 _ gl (by have := HLE.out; omega) HHK.out).mono ?_
  rintro e w4 ⟨vh, rfl, hRh, hB⟩
  obtain ⟨pth, qth, hv⟩ := exL hRh H.length rfl
  subst hv
  have KP4 := Lib.hid ((KP3.out.up hB).and (keepL hRh))
  clear KP3
  clear hB hRh
  clear gl
  go_wp2_with fail
  have gl := KP4.out.here.2.1
  refine (exch_lit _ l E _ gl (by have := HLE.out; omega) HL0.out HEX.out).mono ?_
  rintro e w5 ⟨ve, rfl, hRe, hB⟩
  obtain ⟨pte, qte, hv⟩ := exI hRe E.length rfl
  subst hv
  have KP5 := Lib.hid ((KP4.out.up hB).and (keepI hRe))
  clear KP4
  clear hB hRe
  clear gl
  go_wp2_with fail
  have ge := KP5.out.here.1
  refine (count_lit _ E pl 0 _ ge HEL.out HC2.out).mono ?_
  rintro e w6 ⟨rfl, hB⟩
  have KP6 := Lib.hid (KP5.out.up hB)
  clear KP5
  clear hB
  clear ge
  go_wp2_with fail
  have gh := KP6.out.here.2.1
  refine (shape_lit _ H l _ gh HSMH.out HSHH.out).mono ?_
  rintro e w7 ⟨vm, rfl, hRm, hB⟩
  obtain ⟨ptm, qtm, hv⟩ := exI hRm l.length rfl
  subst hv
  have KP7 := Lib.hid ((KP6.out.up hB).and (keepI hRm))
  clear KP6
  clear hB hRm
  clear gh
  go_wp2_with fail
  have gm := KP7.out.here.1
  have gl := KP7.out.here.2.2.2.1
  refine (ints_lit _ _ l _ gm gl (by have := HLE.out; omega)).mono ?_
  rintro e w8 ⟨rfl, hB⟩
  have KP8 := Lib.hid (KP7.out.up hB)
  clear KP7
  clear hB
  clear gm gl
  go_wp2_with fail
  have HHR := Lib.hid (KP8.out.here.2.2.1)
  have HLR := Lib.hid (KP8.out.here.2.2.2.1)
  have HBE := Lib.hid (KP8.out.here.2.2.2.2.2.2.2)
  have HXS := Lib.hid (KP8.out.here.2.2.2.2.2.2.1)
  clear KP8 n3
  go_loop [12, 13, 14] (fun s12 s13 _ => ∃ i : Nat, i ≤ H.length ∧ s13 = .int .i64 i ∧ s12 = .int .i64 (prodZ (H.take i).flatten)) (fun _ s13 _ => H.length - (intOf s13).toNat)
  case atStart => exact ⟨0, Nat.zero_le _, rfl, rfl⟩
  case round =>
    obtain ⟨i, hi, rfl, rfl⟩ := hrel
    by_cases hlt : i < H.length
    · obtain ⟨b, off, a', c', rfl, hb, hc, hr⟩ := HHR.out.get i hlt
      have n4 := HSMH.out.2 i
      have n6 := HSMH.out.1
      have HPE := Lib.hid (preF_end hlt)
      have HPB := Lib.hid (fun k => prod_bd2 (l := preF H i k) (fun x hx => HHB.out x ((preF_sub hlt k).subset hx)) (Nat.le_trans (preF_sub hlt k).length_le HLH.out))
      have HPS := Lib.hid (fun k (hk : k < (row H i).length) => preF_succ hk)
      have HYB := Lib.hid (fun k (hk : k < (row H i).length) => HHB.out (elt (row H i) k) (flat_mem (elt_mem hk)))
      have HP1 : Hid ((H.take i).flatten = preF H i 0) := Lib.hid (by unfold preF; simp)
      have hcl : ((i : Int) < (H.length : Int)) := by omega
      rw [HP1.out]
      go_wp2_with fail
      go_loop [12, 14] (fun s12 s14 => ∃ k : Nat, k ≤ (row H i).length ∧ s14 = .int .i64 k ∧ s12 = .int .i64 (prodZ (preF H i k))) (fun _ s14 => (row H i).length - (intOf s14).toNat)
      case atStart => exact ⟨0, Nat.zero_le _, rfl, rfl⟩
      case round =>
        obtain ⟨k, hk, rfl, rfl⟩ := hrel
        by_cases hkl : k < (row H i).length
        · obtain ⟨bi, oi, e1, hbi, hci⟩ := hr.get (by omega)
          subst e1
          have gk := hci k hkl
          have hy := HYB.out k hkl
          have hp := HPB.out k
          have hp2 := HPB.out (k + 1)
          rw [HPS.out k hkl, prod_snoc] at hp2
          have HNX : Hid (prodZ (preF H i (k + 1)) = prodZ (preF H i k) * elt (row H i) k) := Lib.hid (by rw [HPS.out k hkl, prod_snoc])
          clear hci
          generalize elt (row H i) k = y at *
          generalize prodZ (preF H i k) = pr at *
          have hm2 : IntKind.i64.wrap (pr * y) = pr * y := IntWalk.i64_in _ (by omega)
          have y1 : ¬ y < 1 := by omega
          have y2 : ¬ 12 < y := by omega
          clear hp hp2 hy
          go_wp2_with fail
          go_round
          case rel => exact ⟨k + 1, by omega, by go_num, by rw [HNX.out]⟩
          case measure => simp [intOf]; omega
        · have hke : k = (row H i).length := by omega
          subst hke
          rw [HPE.out]
          go_wp2_with fail
          go_round
          case rel => exact ⟨i + 1, by omega, by go_num, rfl⟩
          case measure => simp [intOf]; omega
    · have hie : i = H.length := by omega
      subst hie
      rw [List.take_length]
      have hpb := prod_bd2 (l := H.flatten) HHB.out HLH.out
      have hfb := fac_bd s.length HF12.out
      have hpr := HPR.out
      have hw : IntKind.i64.wrap (pl * prodZ H.flatten) = facZ s.length := by rw [hpr]; exact IntWalk.i64_in _ (by omega)
      generalize prodZ H.flatten = pr at *
      have HFA := Lib.hid (fun wz => fac_lit s.length wz HF12.out)
      generalize facZ s.length = fz at *
      have n5 : (fz != fz) = false := by simp
      clear hpb hpr HPR hfb
      go_wp2_with fail
      refine (HFA.out _).mono ?_
      rintro e w20 ⟨rfl, hB⟩
      have HB20 := Lib.hid hB; clear hB
      by_cases hl0 : l.length = 0
      · have hp1 : pl = 1 := HP0.out hl0
        have t1 : ((l.length : Int) == 0) = true := by rw [beq_iff_eq]; omega
        subst hp1
        clear hl0
        go_wp2_with fail
        refine (works_any _).mono ?_
        rintro e w21 ⟨rfl, hB⟩
        have HB21 := Lib.hid hB; clear hB
        go_wp2_with fail
        go_ret
        exact ⟨rfl, btr (btr HBE.out HB20.out) HB21.out⟩
      · have t1 : ((l.length : Int) == 0) = false := by rw [beq_eq_false_iff_ne]; omega
        have HCF := Lib.hid (HCO.out (fun e => hl0 (by rw [e]; rfl)))
        have HL2 := Lib.hid (HLR.out.mono HB20.out)
        have hl0' : 0 < l.length := by omega
        clear hl0
        go_wp2_with fail
        go_loopw [15, 16, 17, 18] (fun s15 s16 _ _ wr => ∃ k : Nat, k ≤ l.length ∧ s16 = .int .i64 k ∧ s15 = .int .i64 (cornSum pC l k) ∧ Below w20.heap.size w20 wr) (fun _ s16 _ _ _ => l.length - (intOf s16).toNat)
        case atStart => exact ⟨0, Nat.zero_le _, rfl, rfl, bz w20⟩
        case round =>
          obtain ⟨k, hk, rfl, rfl, hB⟩ := hrel
          have HB := Lib.hid hB; clear hB
          have hlen := HLE.out
          obtain ⟨b1, b2⟩ := cornSum_bd HSH.out k hk
          by_cases hlt : k < l.length
          · obtain ⟨bx, ox, e1, hbx, hcx⟩ := HL2.out.get (by omega)
            cases e1
            have gk := (HB.out.cell (p := ⟨bx, ox + k, none⟩) hbx).trans (hcx k hlt)
            have zk := Nat.lt_of_lt_of_le hbx HB.out.size
            have HC := Lib.hid hcx
            clear hcx
            obtain ⟨q1, q2⟩ := HSH.out.at hlt
            have HSC := Lib.hid (cornSum_succ pC l k)
            have HLSS := Lib.hid (fun hc => HAL.out.less k hlt hc)
            have HLS := Lib.hid (fun (xv : Value) wz h => less_any xv l k wz h (by omega) hlt q1 (by omega))
            have HCB : Hid (cornB l k = (decide (k + 1 = l.length) || decide (elt l (k + 1) < elt l k))) := Lib.hid rfl
            have HR8 := Lib.hid (fun (hc : cornB l k = true) (u : Value) (wz : World) (h : RdI wz .i64 u (lessL l k)) => count_lit u (lessL l k) (pC (lessL l k)) 0 wz h (by have := (HLSS.out hc).1.len; omega) (countE_shp (HLSS.out hc).1))
            have HBD := Lib.hid (fun (hc : cornB l k = true) => And.intro (HLSS.out hc).1.all.one (HLSS.out hc).1.all.most)
            by_cases e1 : k + 1 = l.length
            · have d1 : decide ((k : Int) + 1 < (l.length : Int)) = false := by rw [decide_eq_false_iff_not]; omega
              have d2 : ¬ ((k : Int) + 1 < (l.length : Int)) := by omega
              have hc : cornB l k = true := by rw [HCB.out, decide_eq_true e1]; rfl
              have HR9 := Lib.hid (HR8.out hc)
              obtain ⟨m1, m2⟩ := HBD.out hc
              rw [hc, if_pos rfl] at HSC
              have hk1 : k + 1 ≤ l.length := by omega
              clear hc HR8 HBD HCB HLSS e1
              generalize cornSum pC l k = cs at *
              generalize pC (lessL l k) = pk at *
              generalize lessL l k = ll at *
              generalize elt l k = q at *
              go_upto_region 28 with fail
              go_quiet (fail)
              go_wp2_with fail
              refine (HLS.out _ _ (HL2.out.mono (Below.drewN' _ HB.out))).mono ?_
              rintro e w4 ⟨u4, rfl, hu4, hB4⟩
              have HU4 := Lib.hid hu4
              have HB4 := Lib.hid (btr (Below.drewN' _ HB.out) hB4)
              clear hu4 hB4
              go_wp2_with fail
              refine (HR9.out _ _ HU4.out).mono ?_
              rintro e w5 ⟨rfl, hB5⟩
              have HB5 := Lib.hid (btr HB4.out hB5)
              clear hB5
              go_wp2_with fail
              go_roundw
              case rel => exact ⟨k + 1, hk1, by go_num, by rw [HSC.out], HB5.out⟩
              case measure => simp [intOf]; omega
            · have d1 : decide ((k : Int) + 1 < (l.length : Int)) = true := by rw [decide_eq_true_eq]; omega
              have d3 : ((k : Int) + 1 < (l.length : Int)) := by omega
              have gk2 := (HB.out.cell (p := ⟨bx, ox + (k + 1), none⟩) hbx).trans (HC.out (k + 1) (by omega))
              have tst : (0:Int) ≤ (k:Int) + 1 ∧ (k:Int) + 1 < (l.length : Int) := by omega
              have hk1 : k + 1 ≤ l.length := by omega
              have hdec := HSH.out.dec (k + 1) (by omega) (by omega)
              rw [Nat.add_sub_cancel] at hdec
              by_cases e2 : elt l (k + 1) < elt l k
              · have d2 : (elt l k == elt l (k + 1)) = false := by rw [beq_eq_false_iff_ne]; omega
                have hc : cornB l k = true := by rw [HCB.out, decide_eq_true e2, Bool.or_true]
                have HR9 := Lib.hid (HR8.out hc)
                obtain ⟨m1, m2⟩ := HBD.out hc
                rw [hc, if_pos rfl] at HSC
                clear hc HR8 HBD HCB HLSS e1 HC hdec
                generalize cornSum pC l k = cs at *
                generalize pC (lessL l k) = pk at *
                generalize lessL l k = ll at *
                generalize elt l k = q at *
                generalize elt l (k + 1) = q' at *
                go_upto_region 28 with fail
                go_quiet (fail)
                go_wp2_with fail
                refine (HLS.out _ _ (HL2.out.mono (Below.drewN' _ HB.out))).mono ?_
                rintro e w4 ⟨u4, rfl, hu4, hB4⟩
                have HU4 := Lib.hid hu4
                have HB4 := Lib.hid (btr (Below.drewN' _ HB.out) hB4)
                clear hu4 hB4
                go_wp2_with fail
                refine (HR9.out _ _ HU4.out).mono ?_
                rintro e w5 ⟨rfl, hB5⟩
                have HB5 := Lib.hid (btr HB4.out hB5)
                clear hB5
                go_wp2_with fail
                go_roundw
                case rel => exact ⟨k + 1, hk1, by go_num, by rw [HSC.out], HB5.out⟩
                case measure => simp [intOf]; omega
              · have d2 : (elt l k == elt l (k + 1)) = true := by rw [beq_iff_eq]; omega
                have hc : cornB l k = false := by rw [HCB.out, decide_eq_false e2, decide_eq_false e1]; rfl
                rw [hc, if_neg (by simp), Int.add_zero] at HSC
                clear hc HR8 HBD HCB HLSS e1 HC hdec e2
                generalize cornSum pC l k = cs at *
                generalize elt l k = q at *
                generalize elt l (k + 1) = q' at *
                go_upto_region 28 with fail
                go_quiet (fail)
                go_wp2_with fail
                go_roundw
                case rel => exact ⟨k + 1, hk1, by go_num, by rw [HSC.out], Below.drewN' _ HB.out⟩
                case measure => simp [intOf]; omega
          · have hke : k = l.length := by omega
            subst hke
            have hcf := HCF.out
            rw [hcf]
            have t4 : (pl == pl) = true := by simp
            go_wp2_with fail
            refine (works_any _).mono ?_
            rintro e w21 ⟨rfl, hB⟩
            have HB21 := Lib.hid hB; clear hB
            go_wp2_with fail
            go_ret
            exact ⟨rfl, btr (btr (btr HBE.out HB20.out) HB.out) HB21.out⟩
set_option maxRecDepth 100000 in
set_option maxHeartbeats 3200000 in
theorem rackCounted_walk (x : Value) (s : List Int) (w : World) (hx0 : RdI w .i64 x s) :
    Calls Try.prog 13 #[x] w fun e w' => e = .returned (.bool true) ∧ Below w.heap.size w w' := by
  by_cases hs : seqC s = 0
  · exact counted_core x s w hx0 hs
  · have HF := Lib.hid (fine_any x s w hx0)
    rw [decide_eq_false hs] at HF
    obtain ⟨al, ca, rfl, _, _, _⟩ := hx0.form
    clear hx0 hs
    have KP0 := Lib.hid (keepB (bz w))
    go_enter Try.func13, Try.ntmps13
    go_wp2_with fail
    refine HF.out.mono ?_
    rintro e w' ⟨rfl, rfl⟩
    go_wp2_with fail
    refine (works_any _).mono ?_
    rintro e w1 ⟨rfl, hB⟩
    have KP1 := Lib.hid (KP0.out.up hB)
    clear KP0
    clear hB
    go_wp2_with fail
    have gBelow := KP1.out.here
    go_ret
    exact ⟨rfl, gBelow⟩
section
open Go.ChangeShapes Go.WideShapes Go.ChangeAt
set_option maxRecDepth 100000 in
theorem rackCounted_lifted (os : Os) (started : os.Started) (H : Type) (enc : TypeId × Value → H) :
    ReturnsInHanded {} Try.checked os 13 .any (Rows.rackCountedSpec.pre6 enc Try.prog Try.f13 Rows.rackCountedRow.domain false) (Rows.rackCountedSpec.post enc Try.prog Try.f13 false true false false) := by
  refine returnsInHanded_of_change (C := Try.checked) Try.own started (by kernel_rfl) Try.func13
    (ChangeSpec.witness6 (enc := enc) (C := Try.checked) false ⟨#[], #[.slice none 0 0], []⟩ 8 (by kernel_rfl) (by kernel_rfl) (by kernel_rfl) (by kernel_rfl)) ?_
  intro W base args ds gs before hval0 hW _ _
  have hval : ∀ (j : Nat) t v, Try.f13.params[j]? = some t → args[j]? = some v → Value.okWide Try.prog W .any base t v := hval0
  have hW' := hW
  obtain ⟨p, q, hA0, hV, rfl, hfz, hnd⟩ := hW
  have hA : DataW.TrodAll enc Try.prog W 0 (fun _ => true) true Try.f13.params.toList args.toList ds p := hA0
  have hA2 := hA
  have hlt : ∀ x ∈ p, x.block < W.heap.size := fun x hx => hW'.lt x (List.mem_append_left _ hx)
  rw [Try.params13] at hA hval
  obtain ⟨v0, vs0, d0, ds0, p0, q0, hargs, rfl, rfl, h0, r0⟩ := trodAll_cons hA
  obtain ⟨rfl, rfl, rfl⟩ := trodAll_nil r0
  obtain rfl : args = #[v0] := by cases args; simp_all
  obtain ⟨rfl, rfl⟩ := trodVars_none hV
  obtain ⟨X0, hx0, hw0⟩ := open_ints_rd Try.underlying31 Try.underlying3 (by kernel_rfl) (hval 0 31 v0 rfl rfl) h0 (fun x hx => hlt x (by simp [hx]))
  clear hA0 hval0
  simp only [List.append_nil] at hW' hA2
  refine (rackCounted_walk v0 X0 W hx0).mono fun e W' ⟨he, hb⟩ => ?_
  subst he
  exact ⟨_, rfl, law_post Try.laidOut Try.underlying4 hW' hA2 rfl rfl rfl rfl rfl (by kernel_rfl) hb⟩
theorem rackCounted_holds : Rows.RackCountedSaid :=
  OpenClaim.holds_of_wide 13 Try.f13 rfl rfl rfl rfl rfl rfl rfl ⟨rfl, rfl, rfl, rfl, rfl⟩ rfl rfl rfl rfl rfl (by kernel_rfl) Try.func13 (by kernel_rfl)
    (of_decide_eq_true (by kernel_rfl)) (by unfold Func.isWrapper; first | (rw [if_pos (by decide +kernel)]; kernel_rfl) | (rw [if_neg (by decide +kernel)]; exact ⟨rfl, rfl⟩))
    (fun os started H enc _ => rackCounted_lifted os started H enc)
end
end Go.Proofs.Ytnnfahdhmodejaa
