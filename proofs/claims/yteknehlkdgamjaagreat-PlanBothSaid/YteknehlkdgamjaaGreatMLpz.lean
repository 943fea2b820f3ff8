/- PlanBoth, in terms of Works: two works side by side, and one behind the other; no condition. -/
import Derived.Test.YteknehlkdgamjaaGreatMHpz
import Derived.Test.YteknehlkdgamjaaGreatMHyz
import Derived.Test.YteknehlkdgamjaaGreatMU4
import Derived.Test.YteknehlkdgamjaaGreatMU5
import Derived.Test.YteknehlkdgamjaaGreatMGK
namespace Go.Proofs.YteknehlkdgamjaaGreat
open Go.RowKit Go.Shelf

theorem owns_empty (w : World) {base : Nat} (hb : base ≤ w.heap.size) (t : TypeId) : (w.alloc (.cells #[] t)).ownsRow base t 3 (.slice (some ⟨w.heap.size, 0, none⟩) 0 0) 0 [] :=
  ⟨rfl, .inr ⟨w.heap.size, 0, #[], rfl, hb, heap_alloc_new w _, Nat.le_refl _, by unfold maxLen; omega, rfl, rfl⟩⟩
theorem turn_ws {J : List Job} {k : Nat} (hk : k < J.length) : (job (turnJ J) k).ws.length = (nxt J k).length := by
  rw [turn_at hk]; exact ints_len _
theorem FreQ.le {J : List Job} {l : List Nat} (h : FreQ J l) : l.length ≤ J.length := by
  obtain ⟨nx, bf, F, G, _, _, rfl⟩ := h
  have := (frTo_sub F G J.length).length_le
  rwa [List.length_range] at this
theorem take_bds {J : List Job} (h0 : errC J = 0) : (0 ≤ takes J (loD J) ∧ takes J (loD J) ≤ 13000) ∧ (0 ≤ takes J (hiD J) ∧ takes J (hiD J) ≤ 13000) ∧ True ∧ True := by
  obtain ⟨hJ, _⟩ := fine_err h0
  exact ⟨⟨takes_nn _ _, takes_bd hJ fun i hi => (dayD_bd hJ false hi).2⟩, ⟨takes_nn _ _, takes_bd hJ fun i hi => (dayD_bd hJ true hi).2⟩, trivial, trivial⟩
set_option maxRecDepth 100000 in
set_option maxHeartbeats 51200000 in
theorem planboth_core (hwk : WorksSaid) (v u : Value) (J1 J2 : List Job) (w : World) (hx0 : RdJ w v J1) (hy0 : RdJ w u J2) :
    Calls Tryz.prog 12 #[.agg #[v], .agg #[u]] w fun e w' => e = .returned (.bool true) ∧ Below w.heap.size w w' := by
  have HWK := Lib.hid hwk
  unfold WorksSaid at HWK
  have HX1 := Lib.hid hx0
  have HX2 := Lib.hid hy0
  have HF1 := Lib.hid (fun wz (h : Below w.heap.size w wz) => fine_any v J1 wz (hx0.mono h))
  have HF2 := Lib.hid (fun wz (h : Below w.heap.size w wz) => fine_any u J2 wz (hy0.mono h))
  have HT1 := Lib.hid (fun h => fineJ_true (J := J1) h)
  have HT2 := Lib.hid (fun h => fineJ_true (J := J2) h)
  have HTU := Lib.hid (fun wz (h : Below w.heap.size w wz) (hJ : FineJ J1) => rturned_own v J1 wz (hx0.mono h) hJ)
  have HL1 := Lib.hid (fun wz (h : Below w.heap.size w wz) (hs : SmJ J1) => plength_any v J1 wz (hx0.mono h) hs)
  have HL2 := Lib.hid (fun wz (h : Below w.heap.size w wz) (hs : SmJ J2) => plength_any u J2 wz (hy0.mono h) hs)
  have HP1 := Lib.hid (fun wz (h : Below w.heap.size w wz) (hs : SmJ J1) => pfree_any v J1 wz (hx0.mono h) hs)
  have HP2 := Lib.hid (fun wz (h : Below w.heap.size w wz) (hs : SmJ J2) => pfree_any u J2 wz (hy0.mono h) hs)
  have HR1 := Lib.hid (fun wz (h : Below w.heap.size w wz) (h0 : errC J1 = 0) => rlengthof_any v J1 wz (hx0.mono h) (fine_err h0).1 (fine_err h0).2)
  have HR2 := Lib.hid (fun wz (h : Below w.heap.size w wz) (h0 : errC J2 = 0) => rlengthof_any u J2 wz (hy0.mono h) (fine_err h0).1 (fine_err h0).2)
  obtain ⟨a, c, rfl⟩ := hx0.sl
  obtain ⟨a2, c2, rfl⟩ := hy0.sl
  clear hx0 hy0 hwk
  obtain ⟨n, hn⟩ : ∃ n, n = J1.length := ⟨_, rfl⟩
  obtain ⟨m, hm⟩ : ∃ m, m = J2.length := ⟨_, rfl⟩
  have HN := Lib.hid hn; have HM := Lib.hid hm
  have HN1 : Hid (errC J1 = 0 → 0 < n ∧ n ≤ 12) := Lib.hid (fun h0 => by have := (fine_err h0).1.n1; have := (fine_err h0).1.n12; omega)
  have HN2 : Hid (errC J2 = 0 → 0 < m ∧ m ≤ 12) := Lib.hid (fun h0 => by have := (fine_err h0).1.n1; have := (fine_err h0).1.n12; omega)
  rw [← hn] at HF1 HTU HL1 HP1 HR1 ⊢
  rw [← hm] at HF2 HL2 HP2 HR2 ⊢
  clear hn hm
  have HB0 := Lib.hid (bal (bal (bz w) (.cells #[.slice a n c] 24)) (.cells #[.slice a2 m c2] 24))
  have gq : ((w.alloc (.cells #[.slice a n c] 24)).alloc (.cells #[.slice a2 m c2] 24)).cell? ⟨w.heap.size, 0, none⟩ = some (.slice a n c) := cal _ (cnew rfl rfl)
  have gr : ((w.alloc (.cells #[.slice a n c] 24)).alloc (.cells #[.slice a2 m c2] 24)).cell? ⟨w.heap.size + 1, 0, none⟩ = some (.slice a2 m c2) := cnew (by simp) rfl
  have zq : w.heap.size + 1 < ((w.alloc (.cells #[.slice a n c] 24)).alloc (.cells #[.slice a2 m c2] 24)).heap.size := by simp
  generalize hgr1 : fineJ J1 = gr1 at *
  generalize hgr2 : fineJ J2 = gr2 at *
  clear hgr1 hgr2
  go_enter Tryz.func12, Tryz.ntmps12
  go_wp2_with fail
  generalize (w.alloc (.cells #[.slice a n c] 24)).alloc (.cells #[.slice a2 m c2] 24) = w1 at *
  obtain ⟨q1, hq1⟩ : ∃ q, q = w.heap.size := ⟨_, rfl⟩
  obtain ⟨q2, hq2⟩ : ∃ q, q = w.heap.size + 1 := ⟨_, rfl⟩
  rw [← hq2] at gr zq
  rw [← hq1] at gq
  have hq12 : q1 < q2 := by omega
  rw [← hq2, ← hq1]
  have HGQ := Lib.hid (fun (wz : World) (h : Below w1.heap.size w1 wz) => (⟨(h.cell (p := ⟨q1, 0, none⟩) (Nat.lt_trans hq12 zq)).trans gq, (h.cell (p := ⟨q2, 0, none⟩) zq).trans gr, Nat.lt_of_lt_of_le (Nat.lt_trans hq12 zq) h.size, Nat.lt_of_lt_of_le zq h.size⟩ : wz.cell? ⟨q1, 0, none⟩ = some (.slice a n c) ∧ wz.cell? ⟨q2, 0, none⟩ = some (.slice a2 m c2) ∧ q1 < wz.heap.size ∧ q2 < wz.heap.size))
  have HQ2 := Lib.hid zq
  clear gq gr zq hq1 hq2 hq12
  refine (HF1.out _ HB0.out).mono ?_
  rintro e w2 ⟨rfl, hB⟩
  have HBw2 := Lib.hid hB
  clear hB
  cases gr1 with
  | false =>
    go_wp2_with fail
    refine (HWK.out _).mono ?_
    rintro e w3 ⟨rfl, hB⟩
    have HBE := Lib.hid (btr HB0.out (btr HBw2.out hB))
    clear hB
    go_wp2_with fail
    go_ret
    exact ⟨rfl, HBE.out⟩
  | true =>
    obtain ⟨ga, gb, za, zb⟩ := HGQ.out _ HBw2.out
    go_wp2_with fail
    refine (HF2.out _ (btr HB0.out HBw2.out)).mono ?_
    rintro e w3 ⟨rfl, hB⟩
    clear ga gb za zb
    have HBw3 := Lib.hid (btr HBw2.out hB)
    clear HBw2
    clear hB
    cases gr2 with
    | false =>
      go_wp2_with fail
      refine (HWK.out _).mono ?_
      rintro e w3 ⟨rfl, hB⟩
      have HBE := Lib.hid (btr HB0.out (btr HBw3.out hB))
      clear hB
      go_wp2_with fail
      go_ret
      exact ⟨rfl, HBE.out⟩
    | true =>
      obtain ⟨hsm1, h01⟩ := HT1.out (by first | trivial | rfl)
      obtain ⟨hsm2, h02⟩ := HT2.out (by first | trivial | rfl)
      obtain ⟨n1, n12⟩ := HN1.out h01
      obtain ⟨m1, m12⟩ := HN2.out h02
      by_cases h12 : 12 < n + m
      · have t1 : decide ((12 : Int) < (n : Int) + (m : Int)) = true := decide_eq_true (by omega)
        obtain ⟨ga, gb, za, zb⟩ := HGQ.out _ HBw3.out
        go_wp2_with fail
        refine (HWK.out _).mono ?_
        rintro e w4 ⟨rfl, hB⟩
        have HBE := Lib.hid (btr HB0.out (btr HBw3.out hB))
        clear hB
        go_wp2_with fail
        go_ret
        exact ⟨rfl, HBE.out⟩
      · have t1 : decide ((12 : Int) < (n : Int) + (m : Int)) = false := decide_eq_false (by omega)
        have HE1 := Lib.hid h01; have HE2 := Lib.hid h02
        have h12' : J1.length + J2.length ≤ 12 := by have := HN.out; have := HM.out; omega
        have HBX := Lib.hid (both_x h01 h02 h12'); have HBY := Lib.hid (both_y h01 h02 h12')
        have HTU2 := Lib.hid (fun wz h => HTU.out wz h (fine_err h01).1)
        have HL1b := Lib.hid (fun wz h => HL1.out wz h hsm1); have HL2b := Lib.hid (fun wz h => HL2.out wz h hsm2)
        have HP1b := Lib.hid (fun wz h => HP1.out wz h hsm1); have HP2b := Lib.hid (fun wz h => HP2.out wz h hsm2)
        have HR1b := Lib.hid (fun wz h => HR1.out wz h h01); have HR2b := Lib.hid (fun wz h => HR2.out wz h h02)
        have HFJ := Lib.hid (fine_err h02).1
        obtain ⟨b, o, _, _, rfl, _⟩ := HX1.out.get 0 (by have := HN.out; omega)
        obtain ⟨bw, ow, _, _, rfl, _⟩ := HX2.out.get 0 (by have := HM.out; omega)
        clear hsm1 hsm2 h01 h02 h12' HTU HL1 HL2 HP1 HP2 HR1 HR2 HN1 HN2 HT1 HT2 HF1 HF2
        have HX3 := Lib.hid (HX1.out.mono (btr HB0.out HBw3.out))
        have HW3 := Lib.hid HBw3.out.size
        have HSW3w3 := Lib.hid (bz w3)
        obtain ⟨ga, gb, za, zb⟩ := HGQ.out _ HBw3.out
        go_upto_region 4 with fail
        have HBW := Lib.hid (btr HSW3w3.out (bal (bz w3) (.cells #[] 62)))
        go_wp2_with (at_builtin; refine wpList_append_jobs (owns_empty w3 (Nat.le_refl _) _) HX3.out HBW.out (by have := HN.out; omega) rfl _ _ rfl rfl (by rw [← HN.out]; rfl) (bal (bz w3) _).size ?_)
        intro v' wA es1 e1 e2 how hgr
        have hFA : Fr w3 wA (fun j => w3.heap.size ≤ j) := (Fr.of_below (bal (bz w3) (.cells #[] 62))).trans (Fr.grown hgr (fun j e => by cases e; exact Nat.le_refl _))
        have hBA := hFA.below (bz w3) (fun j hj => hj)
        obtain ⟨g1, cap1, cur1, rfl, hg0, hg1, _⟩ := how.2.resolve_left (fun h => by have := h.2; have := HN.out; omega)
        have HOW1 := Lib.hid how
        have HES1 := Lib.hid e1; have HEV1 := Lib.hid (fun i e he => e2 i e he)
        have HG1 := Lib.hid (⟨(Array.getElem?_eq_some_iff.1 hg1).1, hg0⟩ : g1 < wA.heap.size ∧ w3.heap.size ≤ g1)
        rw [← HN.out]
        clear hFA hg0 hg1 how hgr e1 e2 ga gb za zb HBW
        have HBwA := Lib.hid (btr HBw3.out hBA)
        have HSW3wA := Lib.hid (btr HSW3w3.out hBA)
        clear HBw3 HSW3w3
        clear hBA
        have HSO1wA := Lib.hid (bz wA)
        obtain ⟨ga, gb, za, zb⟩ := HGQ.out _ HBwA.out
        go_upto_region 5 with fail
        clear ga gb za zb
        have hX := heap_alloc_new wA (.cells #[.slice (some ⟨g1, 0, none⟩) n cap1] 24)
        have hB := bal (bz wA) (.cells #[.slice (some ⟨g1, 0, none⟩) n cap1] 24)
        have hz : (wA.alloc (.cells #[.slice (some ⟨g1, 0, none⟩) n cap1] 24)).heap.size = wA.heap.size + 1 := by simp
        generalize wA.alloc (.cells #[.slice (some ⟨g1, 0, none⟩) n cap1] 24) = wX at hX hB hz ⊢
        obtain ⟨b1, hb⟩ : ∃ b, b = wA.heap.size := ⟨_, rfl⟩
        rw [← hb] at hX hz ⊢
        have HV1 := Lib.hid hX; have HZ1 := Lib.hid (⟨hb, hz⟩ : b1 = wA.heap.size ∧ wX.heap.size = b1 + 1)
        have HOB1 := Lib.hid hB
        have HBwX := Lib.hid (btr HBwA.out hB)
        have HSW3wX := Lib.hid (btr HSW3wA.out hB)
        have HSO1wX := Lib.hid (btr HSO1wA.out hB)
        clear HBwA HSW3wA HSO1wA
        clear hX hB hz hb
        have HSV1wX := Lib.hid (bz wX)
        obtain ⟨ga, gb, za, zb⟩ := HGQ.out _ HBwX.out
        have HBW := Lib.hid (btr HSW3wX.out (bal (bz wX) (.cells #[] 62)))
        go_wp2_with (at_builtin; refine wpList_append_jobs (owns_empty wX (Nat.le_refl _) _) HX3.out HBW.out (by have := HN.out; omega) rfl _ _ rfl rfl (by rw [← HN.out]; rfl) (bal (bz wX) _).size ?_)
        intro v' wC es2 e1 e2 how hgr
        have hFA : Fr wX wC (fun j => wX.heap.size ≤ j) := (Fr.of_below (bal (bz wX) (.cells #[] 62))).trans (Fr.grown hgr (fun j e => by cases e; exact Nat.le_refl _))
        have hBA := hFA.below (bz wX) (fun j hj => hj)
        obtain ⟨g2, cap2, cur2, rfl, hg0, hg1, _⟩ := how.2.resolve_left (fun h => by have := h.2; have := HN.out; omega)
        have HOW2 := Lib.hid how
        have HES2 := Lib.hid e1; have HEV2 := Lib.hid (fun i e he => e2 i e he)
        have HG2 := Lib.hid (⟨(Array.getElem?_eq_some_iff.1 hg1).1, hg0⟩ : g2 < wC.heap.size ∧ wX.heap.size ≤ g2)
        rw [← HN.out]
        clear hFA hg0 hg1 how hgr e1 e2 ga gb za zb HBW
        have HBwC := Lib.hid (btr HBwX.out hBA)
        have HSW3wC := Lib.hid (btr HSW3wX.out hBA)
        have HSO1wC := Lib.hid (btr HSO1wX.out hBA)
        have HSV1wC := Lib.hid (btr HSV1wX.out hBA)
        clear HBwX HSW3wX HSO1wX HSV1wX
        clear hBA
        have HSO2wC := Lib.hid (bz wC)
        obtain ⟨ga, gb, za, zb⟩ := HGQ.out _ HBwC.out
        go_upto_region 6 with fail
        clear ga gb za zb
        have hX := heap_alloc_new wC (.cells #[.slice (some ⟨g2, 0, none⟩) n cap2] 24)
        have hB := bal (bz wC) (.cells #[.slice (some ⟨g2, 0, none⟩) n cap2] 24)
        have hz : (wC.alloc (.cells #[.slice (some ⟨g2, 0, none⟩) n cap2] 24)).heap.size = wC.heap.size + 1 := by simp
        generalize wC.alloc (.cells #[.slice (some ⟨g2, 0, none⟩) n cap2] 24) = wY at hX hB hz ⊢
        obtain ⟨b2, hb⟩ : ∃ b, b = wC.heap.size := ⟨_, rfl⟩
        rw [← hb] at hX hz ⊢
        have HV2 := Lib.hid hX; have HZ2 := Lib.hid (⟨hb, hz⟩ : b2 = wC.heap.size ∧ wY.heap.size = b2 + 1)
        have HOB2 := Lib.hid hB
        have HBwY := Lib.hid (btr HBwC.out hB)
        have HSW3wY := Lib.hid (btr HSW3wC.out hB)
        have HSO1wY := Lib.hid (btr HSO1wC.out hB)
        have HSV1wY := Lib.hid (btr HSV1wC.out hB)
        have HSO2wY := Lib.hid (btr HSO2wC.out hB)
        clear HBwC HSW3wC HSO1wC HSV1wC HSO2wC
        clear hX hB hz hb
        have HSV2wY := Lib.hid (bz wY)
        obtain ⟨ga, gb, za, zb⟩ := HGQ.out _ HBwY.out
        go_wp2_with fail
        refine (HTU2.out _ (btr HB0.out HBwY.out)).mono ?_
        rintro e wS ⟨ut, rfl, hr, hown, hB⟩
        clear ga gb za zb
        obtain ⟨at', ct, hu⟩ := hr.sl
        subst hu
        rw [turn_len, ← HN.out] at hr hown ⊢
        have HKwS := Lib.hid hr
        have HOT := Lib.hid hown
        have HBYS := Lib.hid hB
        clear hr hown
        have HBwS := Lib.hid (btr HBwY.out hB)
        have HSW3wS := Lib.hid (btr HSW3wY.out hB)
        have HSO1wS := Lib.hid (btr HSO1wY.out hB)
        have HSV1wS := Lib.hid (btr HSV1wY.out hB)
        have HSO2wS := Lib.hid (btr HSO2wY.out hB)
        have HSV2wS := Lib.hid (btr HSV2wY.out hB)
        clear HBwY HSW3wY HSO1wY HSV1wY HSO2wY HSV2wY
        clear hB
        obtain ⟨ga, gb, za, zb⟩ := HGQ.out _ HBwS.out
        go_wp2_with fail
        clear ga gb za zb
        have hX := heap_alloc_new wS (.cells #[.slice at' n ct] 24)
        have hB := bal (bz wS) (.cells #[.slice at' n ct] 24)
        have hz : (wS.alloc (.cells #[.slice at' n ct] 24)).heap.size = wS.heap.size + 1 := by simp
        generalize wS.alloc (.cells #[.slice at' n ct] 24) = wT at hX hB hz ⊢
        obtain ⟨bt, hb⟩ : ∃ b, b = wS.heap.size := ⟨_, rfl⟩
        rw [← hb] at hX hz ⊢
        obtain ⟨bT, oT, _, _, hat, _⟩ := HKwS.out.get 0 (by rw [turn_len]; have := HN.out; omega)
        subst hat
        have HTL := Lib.hid (show bT < wS.heap.size from by
          obtain ⟨b', o', _, _, e, hb', _⟩ := HKwS.out.get 0 (by rw [turn_len]; have := HN.out; omega)
          cases e; exact hb')
        have HTX := Lib.hid hX
        have HBwT := Lib.hid (btr HBwS.out hB)
        have HSW3wT := Lib.hid (btr HSW3wS.out hB)
        have HSO1wT := Lib.hid (btr HSO1wS.out hB)
        have HSV1wT := Lib.hid (btr HSV1wS.out hB)
        have HSO2wT := Lib.hid (btr HSO2wS.out hB)
        have HSV2wT := Lib.hid (btr HSV2wS.out hB)
        have HKwT := Lib.hid (HKwS.out.mono hB)
        clear HBwS HSW3wS HSO1wS HSV1wS HSO2wS HSV2wS HKwS
        have o1 := HG1.out; have o2 := HG2.out; have z1 := HZ1.out; have z2 := HZ2.out
        have o3 := HOT.out bT rfl
        have o4 := HBYS.out.size
        have o6 : w1.heap.size ≤ g1 := Nat.le_trans HW3.out o1.2
        have o7 := HTL.out
        have HORD := Lib.hid (show b1 < wT.heap.size ∧ b2 < wT.heap.size ∧ b1 ≠ b2 ∧ g1 ≠ b1 ∧ g1 ≠ b2 ∧ g2 ≠ b1 ∧ g2 ≠ b2 ∧ g1 < wT.heap.size ∧ g2 < wT.heap.size ∧ wT.heap.size ≤ wT.heap.size by omega)
        have HORT := Lib.hid (show ¬ Mut g1 b1 g2 b2 wT.heap.size bt ∧ ¬ Mut g1 b1 g2 b2 wT.heap.size bT ∧ bt < wT.heap.size ∧ bT < wT.heap.size by unfold Mut; omega)
        have HORQ := Lib.hid (show ∀ k, Mut g1 b1 g2 b2 wT.heap.size k → w1.heap.size ≤ k by intro k hk; unfold Mut at hk; omega)
        have HTW := Lib.hid (show Two wT g1 b1 g2 b2 wT.heap.size (.slice (some ⟨g1, 0, none⟩) n cap1) (.slice (some ⟨g2, 0, none⟩) n cap2) (catTo J1 (xA J1 J2) 0) (catTo J1 (yA J1 J2) 0) es1 es2 from by
          rw [catTo_zero, catTo_zero]
          refine ⟨(HSV1wT.out.block b1 (by omega)).trans HV1.out, (HSV2wT.out.block b2 (by omega)).trans HV2.out, ⟨HES1.out, ?_, fun i e he => ⟨(HEV1.out i e he).mono HSW3wT.out, ap_old (HEV1.out i e he) fun k hk => ?_⟩⟩, ⟨HES2.out, ?_, fun i e he => ⟨(HEV2.out i e he).mono HSW3wT.out, ap_old (HEV2.out i e he) fun k hk => ?_⟩⟩, fun k hk => ?_, fun k hk => ?_, HORD.out⟩
          · rw [HN.out]; exact own_mono (owns_kept HOW1.out HSO1wT.out) (Nat.zero_le _)
          · rcases hk with (hk | hk | hk) | hk
            · omega
            · omega
            · have := Option.some.inj (show some g2 = some k from hk); omega
            · have := Option.some.inj (show some g1 = some k from hk); omega
          · rw [HN.out]; exact own_mono (owns_kept HOW2.out HSO2wT.out) (Nat.zero_le _)
          · rcases hk with (hk | hk | hk) | hk
            · omega
            · omega
            · have := Option.some.inj (show some g1 = some k from hk); omega
            · have := Option.some.inj (show some g2 = some k from hk); omega
          · have := Option.some.inj (show some g1 = some k from hk); exact ⟨.inl this.symm, fun e => by have := Option.some.inj (show some g2 = some k from e); omega⟩
          · have := Option.some.inj (show some g2 = some k from hk); exact ⟨.inl this.symm, fun e => by have := Option.some.inj (show some g1 = some k from e); omega⟩)
        clear o1 o2 o3 o4 o6 o7 z1 z2
        have HTC := Lib.hid (fun (wz : World) (hF : Fr wT wz (Mut g1 b1 g2 b2 wT.heap.size)) => (show (wz.cell? ⟨bt, 0, none⟩ = some (.slice (some ⟨bT, oT, none⟩) n ct) ∧ bt < wz.heap.size) ∧ ∀ k, k < n → ∃ a' c', wz.cell? ⟨bT, oT + k * 3 + 2, none⟩ = some (.slice a' (nxt J1 k).length c') ∧ bT < wz.heap.size from by
          obtain ⟨r1, r2, r3, r4⟩ := HORT.out
          have ht1 := one_cell HTX.out
          refine ⟨⟨(World.cell?_of_block (a := ⟨bt, 0, none⟩) (hF.block bt r3 r1)).trans ht1.1, Nat.lt_of_lt_of_le r3 hF.size⟩, fun k hk => ?_⟩
          obtain ⟨b', o', a', c', e, hb', _, _, g3, _⟩ := HKwT.out.get k (by rw [turn_len]; have := HN.out; omega)
          cases e
          rw [turn_ws (by have := HN.out; omega)] at g3
          exact ⟨a', c', (World.cell?_of_block (a := ⟨bT, oT + k * 3 + 2, none⟩) (hF.block bT r4 r2)).trans g3, Nat.lt_of_lt_of_le r4 hF.size⟩))
        have HFB := Lib.hid (fun (wz : World) (hF : Fr wT wz (Mut g1 b1 g2 b2 wT.heap.size)) => hF.below HBwT.out HORQ.out)
        have HX2w := Lib.hid (fun (wz : World) (h : Below w.heap.size w wz) i (hi : i < m) => (show ∃ a' c', wz.cell? ⟨bw, ow + i * 3, none⟩ = some (.int .i64 (job J2 i).lo) ∧ wz.cell? ⟨bw, ow + i * 3 + 1, none⟩ = some (.int .i64 (job J2 i).hi) ∧ wz.cell? ⟨bw, ow + i * 3 + 2, none⟩ = some (.slice a' (job J2 i).ws.length c') ∧ bw < wz.heap.size ∧ RdI wz .i64 (.slice a' (job J2 i).ws.length c') (job J2 i).ws from by
          obtain ⟨b', o', a', c', e, hb', g1, g2, g3, hr⟩ := (HX2.out.mono h).get i (by have := HM.out; omega)
          cases e
          exact ⟨a', c', g1, g2, g3, hb', hr⟩))
        have HLP := Lib.hid (fun k => show lastP J1 k = ((nxt J1 k).length == 0) from rfl)
        have HYL := Lib.hid (fun c => show yL J1 J2 c = if (job J2 c).ws.length = 0 then ints (fltN (lastP J1) n) else [] by rw [HN.out]; rfl)
        have HXS := Lib.hid (fun c => show catTo J1 (xA J1 J2) (c + 1) = catTo J1 (xA J1 J2) c ++ [⟨(job J2 c).lo, (job J2 c).hi, shI n (job J2 c).ws⟩] by rw [catTo_succ, HN.out]; rfl)
        have HYS := Lib.hid (fun c => show catTo J1 (yA J1 J2) (c + 1) = catTo J1 (yA J1 J2) c ++ [⟨(job J2 c).lo, (job J2 c).hi, yL J1 J2 c ++ shI n (job J2 c).ws⟩] by rw [catTo_succ, HN.out]; rfl)
        have HXL := Lib.hid (fun c => show (catTo J1 (xA J1 J2) c).length = n + c by rw [catTo_len, HN.out])
        have HYLn := Lib.hid (fun c => show (catTo J1 (yA J1 J2) c).length = n + c by rw [catTo_len, HN.out])
        have HXE := Lib.hid (show catTo J1 (xA J1 J2) m = catTo J1 (xA J1 J2) J2.length by rw [HM.out])
        have HYE := Lib.hid (show catTo J1 (yA J1 J2) m = catTo J1 (yA J1 J2) J2.length by rw [HM.out])
        have HD := Lib.hid (fun c (hc : c < m) => (show 0 ≤ (job J2 c).lo ∧ (job J2 c).lo ≤ (job J2 c).hi ∧ (job J2 c).hi ≤ 1000 ∧ (job J2 c).ws.length ≤ 12 ∧ ∀ q, q < (job J2 c).ws.length → 0 ≤ elt (job J2 c).ws q ∧ elt (job J2 c).ws q < 100 from by
          have hcm : c < J2.length := by have := HM.out; omega
          have h1 := HFJ.out.days c hcm
          refine ⟨h1.1, h1.2.1, h1.2.2, HFJ.out.ws_le hcm, fun q hq => ?_⟩
          have h2 := HFJ.out.lst c hcm q hq
          have := HFJ.out.n12
          omega))
        clear HV1 HV2 HOW1 HOW2 HES1 HES2 HEV1 HEV2 HG1 HG2 HZ1 HZ2 HOB1 HOB2 HX3 HOT HBYS HTX HTL HW3 HORT HORQ HORD hX hz hb hB HKwT HSO1wT HSO2wT HSV1wT HSV2wT HSW3wT
        go_loopw [9] (fun s9 wr => ∃ (i : Nat) (vx vy : Value) (es fs : List Value), i ≤ m ∧ s9 = .int .i64 i ∧ Two wr g1 b1 g2 b2 wT.heap.size vx vy (catTo J1 (xA J1 J2) i) (catTo J1 (yA J1 J2) i) es fs ∧ Fr wT wr (Mut g1 b1 g2 b2 wT.heap.size)) (fun s9 _ => m - (intOf s9).toNat)
        case atStart => exact ⟨0, _, _, _, _, Nat.zero_le _, rfl, HTW.out, Fr.refl _ _⟩
        case round =>
          clear HTW
          obtain ⟨i, vx, vy, es, fs, hi, rfl, htw, hF⟩ := hrel
          have HTW := Lib.hid htw
          have HF := Lib.hid hF
          have HBO := Lib.hid (HFB.out _ hF)
          rename World => wO
          clear htw hF
          obtain ⟨ga, gb, za, zb⟩ := HGQ.out _ HBO.out
          by_cases hlt : i < m
          · obtain ⟨d1, d2, d3, d4, d5⟩ := HD.out i hlt
            have HWE := Lib.hid d5
            obtain ⟨⟨gt, zt⟩, gT0⟩ := HTC.out _ HF.out
            have HXW := Lib.hid (fun (wz : World) (h : Below wO.heap.size wO wz) => HX2w.out wz (btr HB0.out (btr HBO.out h)) i hlt)
            have HXV := Lib.hid (fun (wz : World) (h : Below w1.heap.size w1 wz) => HX2w.out wz (btr HB0.out h) i hlt)
            have HGO := Lib.hid (fun (wz : World) (h : Below wO.heap.size wO wz) => HGQ.out wz (btr HBO.out h))
            have HTO := Lib.hid (fun (wz : World) (h : Below wO.heap.size wO wz) => (show (wz.cell? ⟨bt, 0, none⟩ = some (.slice (some ⟨bT, oT, none⟩) n ct) ∧ bt < wz.heap.size) ∧ ∀ k, k < n → ∃ a' c', wz.cell? ⟨bT, oT + k * 3 + 2, none⟩ = some (.slice a' (nxt J1 k).length c') ∧ bT < wz.heap.size from
              ⟨⟨(h.cell (p := ⟨bt, 0, none⟩) zt).trans gt, Nat.lt_of_lt_of_le zt h.size⟩, fun k hk => by
                obtain ⟨a', c', g3, z3⟩ := gT0 k hk
                exact ⟨a', c', (h.cell (p := ⟨bT, oT + k * 3 + 2, none⟩) z3).trans g3, Nat.lt_of_lt_of_le z3 h.size⟩⟩))
            have HXSi := Lib.hid (HXS.out i); have HYSi := Lib.hid (HYS.out i); have HYLi := Lib.hid (HYL.out i)
            have HXLi := Lib.hid (HXL.out i); have HYLj := Lib.hid (HYLn.out i)
            clear d5 gt zt gT0
            go_wp2_with fail
            clear ga gb za zb
            generalize (job J2 i).lo = lo at *
            generalize (job J2 i).hi = hh at *
            generalize (job J2 i).ws = ws at *
            generalize catTo J1 (xA J1 J2) i = KX at *
            generalize catTo J1 (yA J1 J2) i = KY at *
            generalize yL J1 J2 i = yl at *
            generalize hlp : lastP J1 = lp at *
            have HLPk := Lib.hid (fun k => show lp k = ((nxt J1 k).length == 0) by rw [← hlp]; rfl)
            clear hlp
            obtain ⟨wl, hwl⟩ : ∃ wl, wl = ws.length := ⟨_, rfl⟩
            have HWLn := Lib.hid hwl
            rw [← hwl] at HXW HXV HWE HYLi d4
            clear hwl
            by_cases hws : wl = 0
            · have HYE0 := Lib.hid (show yl = ints (fltN lp n) by rw [HYLi.out, if_pos hws])
              subst hws
              clear HYLi
              go_loopw [11, 12] (fun s11 s12 wr => ∃ k : Nat, k ≤ n ∧ rowI wr wO.heap.size s11 (ints (fltN lp k)) ∧ s12 = .int .i64 k ∧ Below wO.heap.size wO wr) (fun _ s12 _ => n - (intOf s12).toNat)
              case atStart => exact ⟨0, Nat.zero_le _, World.ownsRow_nil _ _ _ _, rfl, bz wO⟩
              case round =>
                obtain ⟨k, hk, hrow, rfl, hB⟩ := hrel
                have HBR := Lib.hid hB
                have HR := Lib.hid hrow
                rename World => wP
                clear hB hrow
                obtain ⟨ga, gb, za, zb⟩ := HGO.out _ HBR.out
                obtain ⟨aw, cw, gw1, gw2, gw3, zw, hrw⟩ := HXW.out _ HBR.out
                have HRW := Lib.hid hrw
                clear hrw gw1 gw2
                by_cases hkn : k < n
                · obtain ⟨⟨gt, zt⟩, gT0⟩ := HTO.out _ HBR.out
                  obtain ⟨a', c', gT, zT⟩ := gT0 k hkn
                  have hlp := HLPk.out k
                  have hfl := fltN_le lp k
                  clear gT0
                  generalize (nxt J1 k).length = nl at *
                  cases hl : lp k with
                  | false =>
                    rw [hl] at hlp
                    have t3 : ((nl : Int) == 0) = false := by
                      cases hq : ((nl : Int) == 0) with
                      | false => rfl
                      | true => have : nl = 0 := by simpa using hq
                                rw [this] at hlp; cases hlp
                    have HSN := Lib.hid (show fltN lp (k + 1) = fltN lp k by rw [fltN_succ, if_neg (by rw [hl]; simp)])
                    clear hlp hl
                    go_wp2_with fail
                    go_roundw
                    case rel => exact ⟨k + 1, by omega, by rw [HSN.out]; exact HR.out, by go_num, HBR.out⟩
                    case measure => simp [intOf]; omega
                  | true =>
                    rw [hl] at hlp
                    have t3 : ((nl : Int) == 0) = true := by
                      have : nl = 0 := by simpa using hlp.symm
                      rw [this]; rfl
                    have HSN := Lib.hid (show ints (fltN lp (k + 1)) = ints (fltN lp k) ++ [(k : Int)] by rw [fltN_succ, if_pos hl, ints_snoc])
                    clear hlp hl
                    obtain ⟨al, cl, hvl⟩ := owns_form HR.out
                    subst hvl
                    go_wp2_with (at_builtin; refine wpList_append_num rfl _ _ rfl Tryz.underlying41 num3 HR.out (k : Int) rfl rfl rfl (by rw [ints_len]; omega) HBR.out.size ?_)
                    intro v' w' hO' hg'
                    have HR6 := Lib.hid (show rowI w' wO.heap.size v' (ints (fltN lp (k + 1))) from by unfold rowI; rw [HSN.out, List.length_append, List.length_singleton, List.map_append]; exact hO')
                    have hfr : Fr wP w' (fun j => wO.heap.size ≤ j) := (Fr.of_below (bal (bz wP) (.cells #[.int .i64 (k : Int)] 3))).trans (Fr.grown hg' (fun j e => (rowI.lt HR.out (k := j) e).1))
                    have HB6 := Lib.hid (hfr.below HBR.out (fun j hj => hj))
                    clear hO' hg' hfr
                    go_wp2_with fail
                    go_roundw
                    case rel => exact ⟨k + 1, by omega, HR6.out, by go_num, HB6.out⟩
                    case measure => simp [intOf]; omega
                · have hkn2 : n = k := by omega
                  subst hkn2
                  have HRL := Lib.hid (show rowI wP wO.heap.size _ yl from by rw [HYE0.out]; exact HR.out)
                  have hyl : yl.length ≤ 12 := by rw [HYE0.out, ints_len]; have := fltN_le lp n; omega
                  clear HR HYE0
                  obtain ⟨al, cl, hvl⟩ := owns_form HRL.out
                  subst hvl
                  go_wp2_with fail
                  clear ga gb za zb gw3 zw HRW
                  have hzO := HTW.out.ne.2.2.2.2.2.2.2.2.2
                  have hzP : wO.heap.size ≤ wP.heap.size := HBR.out.size
                  go_loopw [10, 13] (fun s10 s13 wr => ∃ q : Nat, q ≤ 0 ∧ rowI wr wP.heap.size s10 (shI n (ws.take q)) ∧ s13 = .int .i64 q ∧ Below wP.heap.size wP wr) (fun _ s13 _ => 0 - (intOf s13).toNat)
                  case atStart => exact ⟨0, Nat.zero_le _, by rw [List.take_zero]; exact World.ownsRow_nil _ _ _ _, rfl, bz wP⟩
                  case round =>
                    obtain ⟨q, hq, hrow, rfl, hB⟩ := hrel
                    have HBQ := Lib.hid hB
                    have HR := Lib.hid hrow
                    have HBP := Lib.hid (btr HBR.out hB)
                    rename World => wQ
                    clear hB hrow
                    obtain ⟨ga, gb, za, zb⟩ := HGO.out _ HBP.out
                    obtain ⟨aw2, cw2, gw1, gw2, gw3, zw, hrw⟩ := HXW.out _ HBP.out
                    clear gw1 gw2
                    by_cases hql : q < 0
                    · omega
                    · have HSE := Lib.hid (show shI n (ws.take q) = shI n ws by rw [List.take_of_length_le (by have := HWLn.out; omega)])
                      have HRX := Lib.hid (show rowI wQ wP.heap.size _ (shI n ws) from by rw [← HSE.out]; exact HR.out)
                      have hxl : (shI n ws).length ≤ 12 := by rw [shI_len]; have := HWLn.out; omega
                      clear HSE HR hrw
                      generalize shI n ws = xs at *
                      obtain ⟨ax, cx, hvl⟩ := owns_form HRX.out
                      subst hvl
                      have HRLq := Lib.hid (owns_kept HRL.out HBQ.out)
                      have HTWq := Lib.hid (HTW.out.later HBP.out)
                      have HOLD := Lib.hid HTW.out
                      obtain ⟨avx, cvx, hvx⟩ := HTW.out.r1.form
                      subst hvx
                      go_upto_region 20 with fail
                      clear ga gb za zb gw3 zw hql
                      refine wp_region_flow [] [([0, 1, 2, 3, 4, 5, 6, 7, 8, 9], 10, true), ([], 11, false), ([], 12, false), ([], 13, false)] [] (by kernel_rfl) (by kernel_rfl) ?_
                      intro wc hBc hh'
                      clear hh'
                      have hL := @Later.cell wc
                      have HBc := Lib.hid (btr HBP.out hBc)
                      have HZ0 := Lib.hid hBc.size
                      have HTWc := Lib.hid (HTWq.out.later hBc)
                      have HRLc := Lib.hid (owns_kept HRLq.out hBc)
                      have HRXc := Lib.hid (owns_kept HRX.out hBc)
                      clear hBc HTWq HRLq HRX
                      obtain ⟨ga, gb, za, zb⟩ := HGO.out _ HBc.out
                      obtain ⟨aw3, cw3, gw1, gw2, gw3, zw, _⟩ := HXW.out _ HBc.out
                      obtain ⟨v1, f1, y1⟩ := one_cell HTWc.out.c1
                      simp only [flowP, flow, pickL, List.getElem?_cons_succ, List.getElem?_cons_zero]
                      refine wpQuiet_nil ?_
                      repeat (go_big_quiet_step (fail))
                      refine wpQuiet_nil ?_
                      go_wp2
                      refine seg_grow ⟨⟨_, bal (bz wc) _⟩, rfl⟩ ?_
                      refine wpQuiet_nil ?_
                      clear hL ga gb za zb gw1 gw2 gw3 zw v1 f1 y1
                      go_wp2_with (at_builtin; refine BJ.push (j := ⟨lo, hh, xs⟩) HTWc.out.r1 (RdI.of_owns HRXc.out) (HTWc.out.ap HRXc.out (Nat.le_trans hzO hzP)) rfl _ _ rfl rfl rfl rfl (by rw [HXLi.out]; omega) ?_)
                      intro vx' wD hJ hF hv
                      obtain ⟨av, cv, hv'⟩ := hJ.form
                      rw [List.length_append, List.length_singleton] at hv'
                      subst hv'
                      have HG := Lib.hid (HTWc.out.grown hJ hF hv)
                      have HZC := Lib.hid (Nat.le_trans HZ0.out HG.out.2.size)
                      have HRL' := Lib.hid (HTWc.out.keep HRLc.out hzO hF (.slice av (KX.length + 1) cv))
                      have HRX' := Lib.hid (HTWc.out.keep HRXc.out (Nat.le_trans hzO hzP) hF (.slice av (KX.length + 1) cv))
                      obtain ⟨k1, k2, k3⟩ := one_cell (HTWc.out.cell1 hF)
                      clear hJ hF hv HTWc HRLc HRXc
                      go_wp2
                      refine seg_write ?_
                      refine wpQuiet_nil ?_
                      go_wp2
                      refine seg_write ?_
                      refine wpQuiet_nil ?_
                      go_wp2_with fail
                      refine seg_write ?_
                      refine wpQuiet_nil ?_
                      refine only_done ?_
                      clear k1 k2 k3
                      go_upto_region 21 with fail
                      generalize wD.setCell ⟨b1, 0, none⟩ (.slice av (KX.length + 1) cv) = wE at HG HZC HRL' HRX' ⊢
                      have HTE := Lib.hid HG.out.1
                      have HFE := Lib.hid ((HF.out.trans (Fr.of_below HBc.out)).trans HG.out.2)
                      have HBE := Lib.hid (HFB.out _ HFE.out)
                      clear HG HBc
                      obtain ⟨w0, hw0, hw1, hwc⟩ := trunc wE wO.heap.size (Nat.le_trans hzP (Nat.le_trans HBQ.out.size HZC.out))
                      obtain ⟨ga0, gb0, za0, zb0⟩ := HGQ.out _ HBE.out
                      obtain ⟨aw4, cw4, gw10, gw20, gw30, zw0, _⟩ := HXV.out _ HBE.out
                      obtain ⟨_, _, za1, zb1⟩ := HGQ.out _ HBO.out
                      obtain ⟨_, _, _, _, _, zw1, _⟩ := HXV.out _ HBO.out
                      obtain ⟨avy, cvy, hvy⟩ := HTE.out.r2.form
                      subst hvy
                      have hne0 := HTW.out.ne
                      have v1 := (hwc ⟨b2, 0, none⟩ (by show b2 < wO.heap.size; omega)).trans (one_cell HTE.out.c2).1
                      have gb := (hwc ⟨q2, 0, none⟩ zb1).trans gb0
                      have gw1 := (hwc ⟨bw, ow + i * 3, none⟩ zw1).trans gw10
                      have gw2 := (hwc ⟨bw, ow + i * 3 + 1, none⟩ zw1).trans gw20
                      have zb : q2 < w0.heap.size := by rw [hw0]; exact zb1
                      have zw : bw < w0.heap.size := by rw [hw0]; exact zw1
                      have y1 : b2 < w0.heap.size := by rw [hw0]; omega
                      have HW0 := Lib.hid hw1
                      have HWZ := Lib.hid hw0
                      clear ga0 gb0 za0 zb0 gw10 gw20 gw30 zw0 za1 zb1 zw1 hwc hne0 hw0
                      refine wp_region_flow_at w0 hw1 [] [([0, 1, 2, 3, 4, 5, 6, 7, 8, 9], 10, true), ([], 11, true), ([], 12, true), ([], 13, false), ([], 14, false), ([], 15, false)] [] (by kernel_rfl) (by kernel_rfl) ?_
                      intro wc hBc hh'
                      clear hh' hw1
                      have hL := @Later.cell w0
                      have HBc := Lib.hid (btr HBE.out hBc)
                      have HW1 := Lib.hid (btr HW0.out hBc)
                      have HZQ := Lib.hid (Nat.le_trans HZC.out hBc.size)
                      have HFc := Lib.hid (HFE.out.trans (Fr.of_below hBc))
                      have HTWc := Lib.hid (HTE.out.later hBc)
                      have HRLc := Lib.hid (owns_kept HRL'.out hBc)
                      have HRXc := Lib.hid (owns_kept HRX'.out hBc)
                      clear hBc HTE HRL' HRX' HFE HBE HW0
                      simp only [flowP, flow, pickL, List.getElem?_cons_succ, List.getElem?_cons_zero]
                      refine wpQuiet_nil ?_
                      repeat (go_big_quiet_step (fail))
                      refine wpQuiet_nil ?_
                      clear hL
                      have hzc : wO.heap.size ≤ wc.heap.size := Nat.le_trans hzP (Nat.le_trans HBQ.out.size HZQ.out)
                      go_wp2_with (at_builtin; refine wpList_append_any rfl _ _ rfl HRLc.out hzc rfl rfl (RdI.of_owns HRXc.out) (by omega) (by omega) ?_)
                      intro v3 w3 hr3 hg3
                      have hF3 : Fr wc w3 (fun k => (.slice al yl.length cl : Value).ownBlock = some k) := Fr.grown hg3 (fun j e => e)
                      have hxp : ∀ k, (.slice al yl.length cl : Value).ownBlock = some k → wO.heap.size ≤ k ∧ k < wP.heap.size := fun k hk => World.ownsRow.lt HRL.out k hk
                      have hT3 := HTWc.out.fr hF3 (fun e => by have := (hxp _ e).1; have := HTW.out.ne; omega) (fun e => by have := (hxp _ e).1; have := HTW.out.ne; omega) (fun k hk e => HTWc.out.row HRLc.out k hk e) (fun k hk e => HTWc.out.swap.row HRLc.out k hk e)
                        (fun q f hf => by
                          rcases Nat.lt_or_ge q es.length with h | h
                          · rw [List.getElem?_append_left h] at hf
                            exact ap_old (HOLD.out.r1.el q f hf).1 (fun k hk => (hxp k hk).1)
                          · have hq : q = es.length := by have := (List.getElem?_eq_some_iff.1 hf).1; simp at this; omega
                            subst hq
                            simp at hf
                            subst hf
                            exact ap_own HRXc.out (fun k hk e => by have := (World.ownsRow.lt HRXc.out k e).1; have := (hxp k hk).2; omega))
                        (fun q f hf => ap_old (HOLD.out.r2.el q f hf).1 (fun k hk => (hxp k hk).1))
                      have HFM := Lib.hid (HFc.out.trans (hF3.mono (C := Mut g1 b1 g2 b2 wT.heap.size) (fun k _ hk => .inr (.inr (.inr (.inr (Nat.le_trans hzO (hxp k hk).1)))))))
                      have HW3 := Lib.hid (hF3.below HW1.out (fun k hk => by rw [HWZ.out]; exact (hxp k hk).1))
                      generalize hys : yl ++ xs = ys at *
                      obtain ⟨a3, c3, hv3⟩ := owns_form hr3
                      subst hv3
                      have HR3 := Lib.hid hr3; have HT3 := Lib.hid hT3
                      clear gb zb gw1 gw2 zw v1 y1 hr3 hg3 hF3 hxp hT3 HTWc HRLc HRXc hys HFc HZQ
                      go_wp2
                      refine seg_grow ⟨⟨_, HW3.out⟩, rfl⟩ ?_
                      refine wpQuiet_nil ?_
                      go_wp2
                      refine seg_grow ⟨⟨_, HW3.out⟩, rfl⟩ ?_
                      refine wpQuiet_nil ?_
                      go_wp2
                      refine seg_grow ⟨⟨_, bal HW3.out _⟩, rfl⟩ ?_
                      refine wpQuiet_nil ?_
                      go_wp2_with (at_builtin; refine BJ.push (j := ⟨lo, hh, ys⟩) HT3.out.swap.r1 (RdI.of_owns HR3.out) (HT3.out.swap.ap HR3.out hzO) rfl _ _ rfl rfl rfl rfl (by rw [HYLj.out]; omega) ?_)
                      intro vy' wD hJ hF hv
                      obtain ⟨av2, cv2, hv'⟩ := hJ.form
                      rw [List.length_append, List.length_singleton] at hv'
                      subst hv'
                      have HG := Lib.hid (HT3.out.swap.grown hJ hF hv)
                      obtain ⟨k1, k2, k3⟩ := one_cell (HT3.out.swap.cell1 hF)
                      clear hJ hF hv
                      go_wp2
                      refine seg_write ?_
                      refine wpQuiet_nil ?_
                      go_wp2
                      refine seg_write ?_
                      refine wpQuiet_nil ?_
                      go_wp2_with fail
                      refine seg_write ?_
                      refine wpQuiet_nil ?_
                      refine only_done ?_
                      clear k1 k2 k3
                      go_wp2_with fail
                      go_roundw
                      case rel => exact ⟨i + 1, _, _, _, _, by omega, by go_num, by rw [HXSi.out, HYSi.out]; exact HG.out.1.swap, HFM.out.trans (HG.out.2.mono fun k _ hk => hk.swap)⟩
                      case measure => simp [intOf]; omega

            · have HYE0 := Lib.hid (show yl = [] by rw [HYLi.out, if_neg hws])
              have t0 : ((wl : Int) == 0) = false := by simpa using hws
              clear HYLi
              go_loopw [11, 12] (fun s11 s12 wr => s11 = .slice none 0 0 ∧ s12 = .int .i64 0 ∧ Below wO.heap.size wO wr) (fun _ _ _ => 0)
              case atStart => exact ⟨rfl, rfl, bz wO⟩
              case round =>
                obtain ⟨rfl, rfl, hB⟩ := hrel
                have HBR := Lib.hid hB
                rename World => wP
                obtain ⟨ga, gb, za, zb⟩ := HGO.out _ HBR.out
                obtain ⟨aw, cw, gw1, gw2, gw3, zw, hrw⟩ := HXW.out _ HBR.out
                have HRW := Lib.hid hrw
                clear hrw gw1 gw2
                have hn0 : (0 : Nat) < n := n1
                have HRL := Lib.hid (show rowI wP wO.heap.size (.slice none 0 0) yl from by rw [HYE0.out]; exact World.ownsRow_nil _ _ _ _)
                have hyl : yl.length ≤ 12 := by rw [HYE0.out]; simp
                clear HYE0 hB
                go_wp2_with fail
                clear ga gb za zb gw3 zw HRW
                have hzO := HTW.out.ne.2.2.2.2.2.2.2.2.2
                have hzP : wO.heap.size ≤ wP.heap.size := HBR.out.size
                go_loopw [10, 13] (fun s10 s13 wr => ∃ q : Nat, q ≤ wl ∧ rowI wr wP.heap.size s10 (shI n (ws.take q)) ∧ s13 = .int .i64 q ∧ Below wP.heap.size wP wr) (fun _ s13 _ => wl - (intOf s13).toNat)
                case atStart => exact ⟨0, Nat.zero_le _, by rw [List.take_zero]; exact World.ownsRow_nil _ _ _ _, rfl, bz wP⟩
                case round =>
                  obtain ⟨q, hq, hrow, rfl, hB⟩ := hrel
                  have HBQ := Lib.hid hB
                  have HR := Lib.hid hrow
                  have HBP := Lib.hid (btr HBR.out hB)
                  rename World => wQ
                  clear hB hrow
                  obtain ⟨ga, gb, za, zb⟩ := HGO.out _ HBP.out
                  obtain ⟨aw2, cw2, gw1, gw2, gw3, zw, hrw⟩ := HXW.out _ HBP.out
                  clear gw1 gw2
                  by_cases hql : q < wl
                  · obtain ⟨bW, oW, rfl, hbW, hcW⟩ := hrw.get (by have := HWLn.out; omega)
                    have gW := hcW q (by have := HWLn.out; omega)
                    obtain ⟨e1, e2⟩ := HWE.out q hql
                    have HSN := Lib.hid (show shI n (ws.take (q + 1)) = shI n (ws.take q) ++ [(n : Int) + elt ws q] from shI_snoc (by have := HWLn.out; omega))
                    have hln : (shI n (ws.take q)).length ≤ 12 := by rw [shI_len, List.length_take]; omega
                    generalize elt ws q = ez at *
                    generalize shI n (ws.take q) = LQ at *
                    obtain ⟨ax, cx, hvl⟩ := owns_form HR.out
                    subst hvl
                    clear hrw hcW
                    go_wp2_with (at_builtin; refine wpList_append_num rfl _ _ rfl Tryz.underlying41 num3 HR.out ((n : Int) + ez) rfl rfl rfl (by omega) HBQ.out.size ?_)
                    intro v' w' hO' hg'
                    have HR6 := Lib.hid (show rowI w' wP.heap.size v' (shI n (ws.take (q + 1))) from by unfold rowI; rw [HSN.out, List.length_append, List.length_singleton, List.map_append]; exact hO')
                    have hfr : Fr wQ w' (fun j => wP.heap.size ≤ j) := (Fr.of_below (bal (bz wQ) (.cells #[.int .i64 ((n : Int) + ez)] 3))).trans (Fr.grown hg' (fun j e => (rowI.lt HR.out (k := j) e).1))
                    have HB6 := Lib.hid (hfr.below HBQ.out (fun j hj => hj))
                    clear hO' hg' hfr HSN
                    go_wp2_with fail
                    go_roundw
                    case rel => exact ⟨q + 1, by omega, HR6.out, by go_num, HB6.out⟩
                    case measure => simp [intOf]; omega
                  · have HSE := Lib.hid (show shI n (ws.take q) = shI n ws by rw [List.take_of_length_le (by have := HWLn.out; omega)])
                    have HRX := Lib.hid (show rowI wQ wP.heap.size _ (shI n ws) from by rw [← HSE.out]; exact HR.out)
                    have hxl : (shI n ws).length ≤ 12 := by rw [shI_len]; have := HWLn.out; omega
                    clear HSE HR hrw
                    generalize shI n ws = xs at *
                    obtain ⟨ax, cx, hvl⟩ := owns_form HRX.out
                    subst hvl
                    have HRLq := Lib.hid (owns_kept HRL.out HBQ.out)
                    have HTWq := Lib.hid (HTW.out.later HBP.out)
                    have HOLD := Lib.hid HTW.out
                    obtain ⟨avx, cvx, hvx⟩ := HTW.out.r1.form
                    subst hvx
                    go_upto_region 20 with fail
                    clear ga gb za zb gw3 zw hql
                    refine wp_region_flow [] [([0, 1, 2, 3, 4, 5, 6, 7, 8, 9], 10, true), ([], 11, false), ([], 12, false), ([], 13, false)] [] (by kernel_rfl) (by kernel_rfl) ?_
                    intro wc hBc hh'
                    clear hh'
                    have hL := @Later.cell wc
                    have HBc := Lib.hid (btr HBP.out hBc)
                    have HZ0 := Lib.hid hBc.size
                    have HTWc := Lib.hid (HTWq.out.later hBc)
                    have HRLc := Lib.hid (owns_kept HRLq.out hBc)
                    have HRXc := Lib.hid (owns_kept HRX.out hBc)
                    clear hBc HTWq HRLq HRX
                    obtain ⟨ga, gb, za, zb⟩ := HGO.out _ HBc.out
                    obtain ⟨aw3, cw3, gw1, gw2, gw3, zw, _⟩ := HXW.out _ HBc.out
                    obtain ⟨v1, f1, y1⟩ := one_cell HTWc.out.c1
                    simp only [flowP, flow, pickL, List.getElem?_cons_succ, List.getElem?_cons_zero]
                    refine wpQuiet_nil ?_
                    repeat (go_big_quiet_step (fail))
                    refine wpQuiet_nil ?_
                    go_wp2
                    refine seg_grow ⟨⟨_, bal (bz wc) _⟩, rfl⟩ ?_
                    refine wpQuiet_nil ?_
                    clear hL ga gb za zb gw1 gw2 gw3 zw v1 f1 y1
                    go_wp2_with (at_builtin; refine BJ.push (j := ⟨lo, hh, xs⟩) HTWc.out.r1 (RdI.of_owns HRXc.out) (HTWc.out.ap HRXc.out (Nat.le_trans hzO hzP)) rfl _ _ rfl rfl rfl rfl (by rw [HXLi.out]; omega) ?_)
                    intro vx' wD hJ hF hv
                    obtain ⟨av, cv, hv'⟩ := hJ.form
                    rw [List.length_append, List.length_singleton] at hv'
                    subst hv'
                    have HG := Lib.hid (HTWc.out.grown hJ hF hv)
                    have HZC := Lib.hid (Nat.le_trans HZ0.out HG.out.2.size)
                    have HRL' := Lib.hid (HTWc.out.keep HRLc.out hzO hF (.slice av (KX.length + 1) cv))
                    have HRX' := Lib.hid (HTWc.out.keep HRXc.out (Nat.le_trans hzO hzP) hF (.slice av (KX.length + 1) cv))
                    obtain ⟨k1, k2, k3⟩ := one_cell (HTWc.out.cell1 hF)
                    clear hJ hF hv HTWc HRLc HRXc
                    go_wp2
                    refine seg_write ?_
                    refine wpQuiet_nil ?_
                    go_wp2
                    refine seg_write ?_
                    refine wpQuiet_nil ?_
                    go_wp2_with fail
                    refine seg_write ?_
                    refine wpQuiet_nil ?_
                    refine only_done ?_
                    clear k1 k2 k3
                    go_upto_region 21 with fail
                    generalize wD.setCell ⟨b1, 0, none⟩ (.slice av (KX.length + 1) cv) = wE at HG HZC HRL' HRX' ⊢
                    have HTE := Lib.hid HG.out.1
                    have HFE := Lib.hid ((HF.out.trans (Fr.of_below HBc.out)).trans HG.out.2)
                    have HBE := Lib.hid (HFB.out _ HFE.out)
                    clear HG HBc
                    obtain ⟨w0, hw0, hw1, hwc⟩ := trunc wE wO.heap.size (Nat.le_trans hzP (Nat.le_trans HBQ.out.size HZC.out))
                    obtain ⟨ga0, gb0, za0, zb0⟩ := HGQ.out _ HBE.out
                    obtain ⟨aw4, cw4, gw10, gw20, gw30, zw0, _⟩ := HXV.out _ HBE.out
                    obtain ⟨_, _, za1, zb1⟩ := HGQ.out _ HBO.out
                    obtain ⟨_, _, _, _, _, zw1, _⟩ := HXV.out _ HBO.out
                    obtain ⟨avy, cvy, hvy⟩ := HTE.out.r2.form
                    subst hvy
                    have hne0 := HTW.out.ne
                    have v1 := (hwc ⟨b2, 0, none⟩ (by show b2 < wO.heap.size; omega)).trans (one_cell HTE.out.c2).1
                    have gb := (hwc ⟨q2, 0, none⟩ zb1).trans gb0
                    have gw1 := (hwc ⟨bw, ow + i * 3, none⟩ zw1).trans gw10
                    have gw2 := (hwc ⟨bw, ow + i * 3 + 1, none⟩ zw1).trans gw20
                    have zb : q2 < w0.heap.size := by rw [hw0]; exact zb1
                    have zw : bw < w0.heap.size := by rw [hw0]; exact zw1
                    have y1 : b2 < w0.heap.size := by rw [hw0]; omega
                    have HW0 := Lib.hid hw1
                    have HWZ := Lib.hid hw0
                    clear ga0 gb0 za0 zb0 gw10 gw20 gw30 zw0 za1 zb1 zw1 hwc hne0 hw0
                    refine wp_region_flow_at w0 hw1 [] [([0, 1, 2, 3, 4, 5, 6, 7, 8, 9], 10, true), ([], 11, true), ([], 12, true), ([], 13, false), ([], 14, false), ([], 15, false)] [] (by kernel_rfl) (by kernel_rfl) ?_
                    intro wc hBc hh'
                    clear hh' hw1
                    have hL := @Later.cell w0
                    have HBc := Lib.hid (btr HBE.out hBc)
                    have HW1 := Lib.hid (btr HW0.out hBc)
                    have HZQ := Lib.hid (Nat.le_trans HZC.out hBc.size)
                    have HFc := Lib.hid (HFE.out.trans (Fr.of_below hBc))
                    have HTWc := Lib.hid (HTE.out.later hBc)
                    have HRLc := Lib.hid (owns_kept HRL'.out hBc)
                    have HRXc := Lib.hid (owns_kept HRX'.out hBc)
                    clear hBc HTE HRL' HRX' HFE HBE HW0
                    simp only [flowP, flow, pickL, List.getElem?_cons_succ, List.getElem?_cons_zero]
                    refine wpQuiet_nil ?_
                    repeat (go_big_quiet_step (fail))
                    refine wpQuiet_nil ?_
                    clear hL
                    have hzc : wO.heap.size ≤ wc.heap.size := Nat.le_trans hzP (Nat.le_trans HBQ.out.size HZQ.out)
                    go_wp2_with (at_builtin; refine wpList_append_any rfl _ _ rfl HRLc.out hzc rfl rfl (RdI.of_owns HRXc.out) (by omega) (by omega) ?_)
                    intro v3 w3 hr3 hg3
                    have hF3 : Fr wc w3 (fun k => (.slice none 0 0 : Value).ownBlock = some k) := Fr.grown hg3 (fun j e => e)
                    have hxp : ∀ k, (.slice none 0 0 : Value).ownBlock = some k → wO.heap.size ≤ k ∧ k < wP.heap.size := fun k hk => World.ownsRow.lt HRL.out k hk
                    have hT3 := HTWc.out.fr hF3 (fun e => by have := (hxp _ e).1; have := HTW.out.ne; omega) (fun e => by have := (hxp _ e).1; have := HTW.out.ne; omega) (fun k hk e => HTWc.out.row HRLc.out k hk e) (fun k hk e => HTWc.out.swap.row HRLc.out k hk e)
                      (fun q f hf => by
                        rcases Nat.lt_or_ge q es.length with h | h
                        · rw [List.getElem?_append_left h] at hf
                          exact ap_old (HOLD.out.r1.el q f hf).1 (fun k hk => (hxp k hk).1)
                        · have hq : q = es.length := by have := (List.getElem?_eq_some_iff.1 hf).1; simp at this; omega
                          subst hq
                          simp at hf
                          subst hf
                          exact ap_own HRXc.out (fun k hk e => by have := (World.ownsRow.lt HRXc.out k e).1; have := (hxp k hk).2; omega))
                      (fun q f hf => ap_old (HOLD.out.r2.el q f hf).1 (fun k hk => (hxp k hk).1))
                    have HFM := Lib.hid (HFc.out.trans (hF3.mono (C := Mut g1 b1 g2 b2 wT.heap.size) (fun k _ hk => .inr (.inr (.inr (.inr (Nat.le_trans hzO (hxp k hk).1)))))))
                    have HW3 := Lib.hid (hF3.below HW1.out (fun k hk => by rw [HWZ.out]; exact (hxp k hk).1))
                    generalize hys : yl ++ xs = ys at *
                    obtain ⟨a3, c3, hv3⟩ := owns_form hr3
                    subst hv3
                    have HR3 := Lib.hid hr3; have HT3 := Lib.hid hT3
                    clear gb zb gw1 gw2 zw v1 y1 hr3 hg3 hF3 hxp hT3 HTWc HRLc HRXc hys HFc HZQ
                    go_wp2
                    refine seg_grow ⟨⟨_, HW3.out⟩, rfl⟩ ?_
                    refine wpQuiet_nil ?_
                    go_wp2
                    refine seg_grow ⟨⟨_, HW3.out⟩, rfl⟩ ?_
                    refine wpQuiet_nil ?_
                    go_wp2
                    refine seg_grow ⟨⟨_, bal HW3.out _⟩, rfl⟩ ?_
                    refine wpQuiet_nil ?_
                    go_wp2_with (at_builtin; refine BJ.push (j := ⟨lo, hh, ys⟩) HT3.out.swap.r1 (RdI.of_owns HR3.out) (HT3.out.swap.ap HR3.out hzO) rfl _ _ rfl rfl rfl rfl (by rw [HYLj.out]; omega) ?_)
                    intro vy' wD hJ hF hv
                    obtain ⟨av2, cv2, hv'⟩ := hJ.form
                    rw [List.length_append, List.length_singleton] at hv'
                    subst hv'
                    have HG := Lib.hid (HT3.out.swap.grown hJ hF hv)
                    obtain ⟨k1, k2, k3⟩ := one_cell (HT3.out.swap.cell1 hF)
                    clear hJ hF hv
                    go_wp2
                    refine seg_write ?_
                    refine wpQuiet_nil ?_
                    go_wp2
                    refine seg_write ?_
                    refine wpQuiet_nil ?_
                    go_wp2_with fail
                    refine seg_write ?_
                    refine wpQuiet_nil ?_
                    refine only_done ?_
                    clear k1 k2 k3
                    go_wp2_with fail
                    go_roundw
                    case rel => exact ⟨i + 1, _, _, _, _, by omega, by go_num, by rw [HXSi.out, HYSi.out]; exact HG.out.1.swap, HFM.out.trans (HG.out.2.mono fun k _ hk => hk.swap)⟩
                    case measure => simp [intOf]; omega

          · obtain rfl : i = m := by omega
            have hbx := HBX.out; have hby := HBY.out
            rw [← HXE.out] at hbx
            rw [← HYE.out] at hby
            obtain ⟨x1, x2, x3, x4⟩ := hbx
            obtain ⟨y1, y2, y3⟩ := hby
            have HSX := Lib.hid x1; have HSY := Lib.hid y1; have HEX := Lib.hid x2; have HFX := Lib.hid x4
            obtain ⟨⟨p1, p2⟩, ⟨p3, p4⟩, _⟩ := take_bds HE1.out
            obtain ⟨⟨p5, p6⟩, ⟨p7, p8⟩, _⟩ := take_bds HE2.out
            have hkx := HTW.out.r1.rd; have hky := HTW.out.r2.rd
            obtain ⟨avx, cvx, hvx⟩ := HTW.out.r1.form
            obtain ⟨avy, cvy, hvy⟩ := HTW.out.r2.form
            rw [HXL.out] at hvx
            rw [HYLn.out] at hvy
            subst hvx hvy
            have c1 := one_cell HTW.out.c1; have c2 := one_cell HTW.out.c2
            have HXC := Lib.hid (fun (wz : World) (h : Below wO.heap.size wO wz) => (⟨(h.cell (p := ⟨b1, 0, none⟩) c1.2.2).trans c1.1, Nat.lt_of_lt_of_le c1.2.2 h.size⟩ : wz.cell? ⟨b1, 0, none⟩ = some (.slice avx (n + i) cvx) ∧ b1 < wz.heap.size))
            have HYC := Lib.hid (fun (wz : World) (h : Below wO.heap.size wO wz) => (⟨(h.cell (p := ⟨b2, 0, none⟩) c2.2.2).trans c2.1, Nat.lt_of_lt_of_le c2.2.2 h.size⟩ : wz.cell? ⟨b2, 0, none⟩ = some (.slice avy (n + i) cvy) ∧ b2 < wz.heap.size))
            have HLE1 := Lib.hid (show lenR J1 = (takes J1 (loD J1), takes J1 (hiD J1)) from by unfold lenR; rw [if_pos HE1.out])
            have HLE2 := Lib.hid (show lenR J2 = (takes J2 (loD J2), takes J2 (hiD J2)) from by unfold lenR; rw [if_pos HE2.out])
            have l1 := HL1b.out; have l2 := HL2b.out
            rw [HLE1.out, HE1.out] at l1
            rw [HLE2.out, HE2.out] at l2
            dsimp only at l1 l2
            have l3 := fun wz h => plength_any (.slice avx (n + i) cvx) (catTo J1 (xA J1 J2) i) wz h x1
            have l4 := fun wz h => plength_any (.slice avy (n + i) cvy) (catTo J1 (yA J1 J2) i) wz h y1
            rw [x3, x2] at l3
            rw [y3, y2] at l4
            dsimp only at l3 l4
            have HPX := Lib.hid (fun wz h => pfree_any (.slice avx (n + i) cvx) (catTo J1 (xA J1 J2) i) wz h x1)
            have HKXwO := Lib.hid hkx; have HKYwO := Lib.hid hky
            have HL1c := Lib.hid l1; have HL2c := Lib.hid l2; have HL3 := Lib.hid l3; have HL4 := Lib.hid l4
            have HBwO := Lib.hid HBO.out
            have HSXYwO := Lib.hid (bz wO)
            clear x1 x2 x3 x4 y1 y2 y3 hkx hky c1 c2 l1 l2 l3 l4 HTW HF HBX HBY HXE HYE HL1b HL2b HXS HYS HXL HYLn HYL HLP HD HX2w HTC HFB HSX HSY HBO HLE1 HLE2
            generalize takes J1 (loD J1) = A1 at *
            generalize takes J1 (hiD J1) = A2 at *
            generalize takes J2 (loD J2) = B1 at *
            generalize takes J2 (hiD J2) = B2 at *
            generalize catTo J1 (xA J1 J2) i = KX at *
            generalize catTo J1 (yA J1 J2) i = KY at *
            go_wp2_with fail
            clear ga gb za zb
            refine (HL1c.out _ (btr HB0.out HBwO.out)).mono ?_
            rintro e x1 ⟨rfl, hB⟩
            have HBx1 := Lib.hid (btr HBwO.out hB)
            have HKXx1 := Lib.hid (HKXwO.out.mono hB)
            have HKYx1 := Lib.hid (HKYwO.out.mono hB)
            have HSXYx1 := Lib.hid (btr HSXYwO.out hB)
            clear HBwO HKXwO HKYwO HSXYwO
            clear hB
            obtain ⟨ga, gb, za, zb⟩ := HGQ.out _ HBx1.out
            go_wp2_with fail
            have hq0 : (x1.alloc (.cells #[.int .i64 A1, .int .i64 A2] 32)).cell? ⟨x1.heap.size, 0, none⟩ = some (.int .i64 A1) := cnew rfl rfl
            have hq1 : (x1.alloc (.cells #[.int .i64 A1, .int .i64 A2] 32)).cell? ⟨x1.heap.size, 0 + 1, none⟩ = some (.int .i64 A2) := cnew rfl rfl
            have zq : x1.heap.size < (x1.alloc (.cells #[.int .i64 A1, .int .i64 A2] 32)).heap.size := by simp
            have hB := bal (bz x1) (.cells #[.int .i64 A1, .int .i64 A2] 32)
            generalize x1.alloc (.cells #[.int .i64 A1, .int .i64 A2] 32) = x2 at hq0 hq1 zq hB ⊢
            have HBx2 := Lib.hid (btr HBx1.out hB)
            have HKXx2 := Lib.hid (HKXx1.out.mono hB)
            have HKYx2 := Lib.hid (HKYx1.out.mono hB)
            have HSXYx2 := Lib.hid (btr HSXYx1.out hB)
            clear HBx1 HKXx1 HKYx1 HSXYx1
            generalize x1.heap.size = d1 at hq0 hq1 zq ⊢
            have HP := Lib.hid (fun (wz : World) (h : Below x2.heap.size x2 wz) => (⟨(h.cell (p := ⟨d1, 0, none⟩) zq).trans hq0, (h.cell (p := ⟨d1, 0 + 1, none⟩) zq).trans hq1, Nat.lt_of_lt_of_le zq h.size⟩ : wz.cell? ⟨d1, 0, none⟩ = some (.int .i64 A1) ∧ wz.cell? ⟨d1, 0 + 1, none⟩ = some (.int .i64 A2) ∧ d1 < wz.heap.size))
            clear hq0 hq1 zq hB
            have HSPx2 := Lib.hid (bz x2)
            refine (HL2c.out _ (btr HB0.out HBx2.out)).mono ?_
            rintro e x3 ⟨rfl, hB⟩
            clear ga gb za zb
            have HBx3 := Lib.hid (btr HBx2.out hB)
            have HKXx3 := Lib.hid (HKXx2.out.mono hB)
            have HKYx3 := Lib.hid (HKYx2.out.mono hB)
            have HSXYx3 := Lib.hid (btr HSXYx2.out hB)
            have HSPx3 := Lib.hid (btr HSPx2.out hB)
            clear HBx2 HKXx2 HKYx2 HSXYx2 HSPx2
            clear hB
            obtain ⟨gx, zx⟩ := HXC.out _ HSXYx3.out
            go_wp2_with fail
            have hq0 : (x3.alloc (.cells #[.int .i64 B1, .int .i64 B2] 32)).cell? ⟨x3.heap.size, 0, none⟩ = some (.int .i64 B1) := cnew rfl rfl
            have hq1 : (x3.alloc (.cells #[.int .i64 B1, .int .i64 B2] 32)).cell? ⟨x3.heap.size, 0 + 1, none⟩ = some (.int .i64 B2) := cnew rfl rfl
            have zq : x3.heap.size < (x3.alloc (.cells #[.int .i64 B1, .int .i64 B2] 32)).heap.size := by simp
            have hB := bal (bz x3) (.cells #[.int .i64 B1, .int .i64 B2] 32)
            generalize x3.alloc (.cells #[.int .i64 B1, .int .i64 B2] 32) = x4 at hq0 hq1 zq hB ⊢
            have HBx4 := Lib.hid (btr HBx3.out hB)
            have HKXx4 := Lib.hid (HKXx3.out.mono hB)
            have HKYx4 := Lib.hid (HKYx3.out.mono hB)
            have HSXYx4 := Lib.hid (btr HSXYx3.out hB)
            have HSPx4 := Lib.hid (btr HSPx3.out hB)
            clear HBx3 HKXx3 HKYx3 HSXYx3 HSPx3
            generalize x3.heap.size = d2 at hq0 hq1 zq ⊢
            have HQ := Lib.hid (fun (wz : World) (h : Below x4.heap.size x4 wz) => (⟨(h.cell (p := ⟨d2, 0, none⟩) zq).trans hq0, (h.cell (p := ⟨d2, 0 + 1, none⟩) zq).trans hq1, Nat.lt_of_lt_of_le zq h.size⟩ : wz.cell? ⟨d2, 0, none⟩ = some (.int .i64 B1) ∧ wz.cell? ⟨d2, 0 + 1, none⟩ = some (.int .i64 B2) ∧ d2 < wz.heap.size))
            clear hq0 hq1 zq hB
            have HSQx4 := Lib.hid (bz x4)
            refine (HL3.out _ HKXx4.out).mono ?_
            rintro e x5 ⟨rfl, hB⟩
            clear gx zx
            have HBx5 := Lib.hid (btr HBx4.out hB)
            have HKXx5 := Lib.hid (HKXx4.out.mono hB)
            have HKYx5 := Lib.hid (HKYx4.out.mono hB)
            have HSXYx5 := Lib.hid (btr HSXYx4.out hB)
            have HSPx5 := Lib.hid (btr HSPx4.out hB)
            have HSQx5 := Lib.hid (btr HSQx4.out hB)
            clear HBx4 HKXx4 HKYx4 HSXYx4 HSPx4 HSQx4
            clear hB
            obtain ⟨gy, zy⟩ := HYC.out _ HSXYx5.out
            go_wp2_with fail
            have hq0 : (x5.alloc (.cells #[.int .i64 (max A1 B1), .int .i64 (max A2 B2)] 32)).cell? ⟨x5.heap.size, 0, none⟩ = some (.int .i64 (max A1 B1)) := cnew rfl rfl
            have hq1 : (x5.alloc (.cells #[.int .i64 (max A1 B1), .int .i64 (max A2 B2)] 32)).cell? ⟨x5.heap.size, 0 + 1, none⟩ = some (.int .i64 (max A2 B2)) := cnew rfl rfl
            have zq : x5.heap.size < (x5.alloc (.cells #[.int .i64 (max A1 B1), .int .i64 (max A2 B2)] 32)).heap.size := by simp
            have hB := bal (bz x5) (.cells #[.int .i64 (max A1 B1), .int .i64 (max A2 B2)] 32)
            generalize x5.alloc (.cells #[.int .i64 (max A1 B1), .int .i64 (max A2 B2)] 32) = x6 at hq0 hq1 zq hB ⊢
            have HBx6 := Lib.hid (btr HBx5.out hB)
            have HKXx6 := Lib.hid (HKXx5.out.mono hB)
            have HKYx6 := Lib.hid (HKYx5.out.mono hB)
            have HSXYx6 := Lib.hid (btr HSXYx5.out hB)
            have HSPx6 := Lib.hid (btr HSPx5.out hB)
            have HSQx6 := Lib.hid (btr HSQx5.out hB)
            clear HBx5 HKXx5 HKYx5 HSXYx5 HSPx5 HSQx5
            generalize x5.heap.size = d3 at hq0 hq1 zq ⊢
            have HR := Lib.hid (fun (wz : World) (h : Below x6.heap.size x6 wz) => (⟨(h.cell (p := ⟨d3, 0, none⟩) zq).trans hq0, (h.cell (p := ⟨d3, 0 + 1, none⟩) zq).trans hq1, Nat.lt_of_lt_of_le zq h.size⟩ : wz.cell? ⟨d3, 0, none⟩ = some (.int .i64 (max A1 B1)) ∧ wz.cell? ⟨d3, 0 + 1, none⟩ = some (.int .i64 (max A2 B2)) ∧ d3 < wz.heap.size))
            clear hq0 hq1 zq hB
            have HSRx6 := Lib.hid (bz x6)
            refine (HL4.out _ HKYx6.out).mono ?_
            rintro e x7 ⟨rfl, hB⟩
            clear gy zy
            have HBx7 := Lib.hid (btr HBx6.out hB)
            have HKXx7 := Lib.hid (HKXx6.out.mono hB)
            have HKYx7 := Lib.hid (HKYx6.out.mono hB)
            have HSXYx7 := Lib.hid (btr HSXYx6.out hB)
            have HSPx7 := Lib.hid (btr HSPx6.out hB)
            have HSQx7 := Lib.hid (btr HSQx6.out hB)
            have HSRx7 := Lib.hid (btr HSRx6.out hB)
            clear HBx6 HKXx6 HKYx6 HSXYx6 HSPx6 HSQx6 HSRx6
            clear hB
            obtain ⟨ga, gb, za, zb⟩ := HGQ.out _ HBx7.out
            go_wp2_with fail
            have hq0 : (x7.alloc (.cells #[.int .i64 (A1 + B1), .int .i64 (A2 + B2)] 32)).cell? ⟨x7.heap.size, 0, none⟩ = some (.int .i64 (A1 + B1)) := cnew rfl rfl
            have hq1 : (x7.alloc (.cells #[.int .i64 (A1 + B1), .int .i64 (A2 + B2)] 32)).cell? ⟨x7.heap.size, 0 + 1, none⟩ = some (.int .i64 (A2 + B2)) := cnew rfl rfl
            have zq : x7.heap.size < (x7.alloc (.cells #[.int .i64 (A1 + B1), .int .i64 (A2 + B2)] 32)).heap.size := by simp
            have hB := bal (bz x7) (.cells #[.int .i64 (A1 + B1), .int .i64 (A2 + B2)] 32)
            generalize x7.alloc (.cells #[.int .i64 (A1 + B1), .int .i64 (A2 + B2)] 32) = x8 at hq0 hq1 zq hB ⊢
            have HBx8 := Lib.hid (btr HBx7.out hB)
            have HKXx8 := Lib.hid (HKXx7.out.mono hB)
            have HKYx8 := Lib.hid (HKYx7.out.mono hB)
            have HSXYx8 := Lib.hid (btr HSXYx7.out hB)
            have HSPx8 := Lib.hid (btr HSPx7.out hB)
            have HSQx8 := Lib.hid (btr HSQx7.out hB)
            have HSRx8 := Lib.hid (btr HSRx7.out hB)
            clear HBx7 HKXx7 HKYx7 HSXYx7 HSPx7 HSQx7 HSRx7
            generalize x7.heap.size = d4 at hq0 hq1 zq ⊢
            have HS := Lib.hid (fun (wz : World) (h : Below x8.heap.size x8 wz) => (⟨(h.cell (p := ⟨d4, 0, none⟩) zq).trans hq0, (h.cell (p := ⟨d4, 0 + 1, none⟩) zq).trans hq1, Nat.lt_of_lt_of_le zq h.size⟩ : wz.cell? ⟨d4, 0, none⟩ = some (.int .i64 (A1 + B1)) ∧ wz.cell? ⟨d4, 0 + 1, none⟩ = some (.int .i64 (A2 + B2)) ∧ d4 < wz.heap.size))
            clear hq0 hq1 zq hB
            have HSSx8 := Lib.hid (bz x8)
            refine (HP1b.out _ (btr HB0.out HBx8.out)).mono ?_
            intro e x9 hO
            obtain ⟨ui, li, rfl, hr, hfi, hB⟩ := free_outQ HE1.out hO
            obtain ⟨ni, hni⟩ : ∃ ni, ni = li.length := ⟨_, rfl⟩
            obtain ⟨ai, ci, hu⟩ := exI hr ni (by rw [ints_len, hni])
            subst hu
            have HFi := Lib.hid hfi; have HNi := Lib.hid hni
            clear hO hr hfi hni ga gb za zb
            have HBx9 := Lib.hid (btr HBx8.out hB)
            have HKXx9 := Lib.hid (HKXx8.out.mono hB)
            have HKYx9 := Lib.hid (HKYx8.out.mono hB)
            have HSXYx9 := Lib.hid (btr HSXYx8.out hB)
            have HSPx9 := Lib.hid (btr HSPx8.out hB)
            have HSQx9 := Lib.hid (btr HSQx8.out hB)
            have HSRx9 := Lib.hid (btr HSRx8.out hB)
            have HSSx9 := Lib.hid (btr HSSx8.out hB)
            clear HBx8 HKXx8 HKYx8 HSXYx8 HSPx8 HSQx8 HSRx8 HSSx8
            clear hB
            obtain ⟨ga, gb, za, zb⟩ := HGQ.out _ HBx9.out
            go_wp2_with fail
            refine (HP2b.out _ (btr HB0.out HBx9.out)).mono ?_
            intro e x10 hO
            obtain ⟨uj, lj, rfl, hr, hfj, hB⟩ := free_outQ HE2.out hO
            obtain ⟨nj, hnj⟩ : ∃ nj, nj = lj.length := ⟨_, rfl⟩
            obtain ⟨aj, cj, hu⟩ := exI hr nj (by rw [ints_len, hnj])
            subst hu
            have HFj := Lib.hid hfj; have HNj := Lib.hid hnj
            clear hO hr hfj hnj ga gb za zb
            have HBx10 := Lib.hid (btr HBx9.out hB)
            have HKXx10 := Lib.hid (HKXx9.out.mono hB)
            have HKYx10 := Lib.hid (HKYx9.out.mono hB)
            have HSXYx10 := Lib.hid (btr HSXYx9.out hB)
            have HSPx10 := Lib.hid (btr HSPx9.out hB)
            have HSQx10 := Lib.hid (btr HSQx9.out hB)
            have HSRx10 := Lib.hid (btr HSRx9.out hB)
            have HSSx10 := Lib.hid (btr HSSx9.out hB)
            clear HBx9 HKXx9 HKYx9 HSXYx9 HSPx9 HSQx9 HSRx9 HSSx9
            clear hB
            obtain ⟨gx, zx⟩ := HXC.out _ HSXYx10.out
            go_wp2_with fail
            refine (HPX.out _ HKXx10.out).mono ?_
            intro e x11 hO
            obtain ⟨uk, lk, rfl, hr, hfk, hB⟩ := free_outQ HEX.out hO
            obtain ⟨nk, hnk⟩ : ∃ nk, nk = lk.length := ⟨_, rfl⟩
            obtain ⟨ak, ck, hu⟩ := exI hr nk (by rw [ints_len, hnk])
            subst hu
            have HFk := Lib.hid hfk; have HNk := Lib.hid hnk
            clear hO hr hfk hnk gx zx
            have HBx11 := Lib.hid (btr HBx10.out hB)
            have HKXx11 := Lib.hid (HKXx10.out.mono hB)
            have HKYx11 := Lib.hid (HKYx10.out.mono hB)
            have HSXYx11 := Lib.hid (btr HSXYx10.out hB)
            have HSPx11 := Lib.hid (btr HSPx10.out hB)
            have HSQx11 := Lib.hid (btr HSQx10.out hB)
            have HSRx11 := Lib.hid (btr HSRx10.out hB)
            have HSSx11 := Lib.hid (btr HSSx10.out hB)
            clear HBx10 HKXx10 HKYx10 HSXYx10 HSPx10 HSQx10 HSRx10 HSSx10
            clear hB
            have hlen : nk = ni + nj := by rw [HNk.out, HNi.out, HNj.out]; exact HFX.out _ _ _ HFi.out HFj.out HFk.out
            subst hlen
            have hni := HFi.out.le
            have hnj := HFj.out.le
            rw [← HNi.out, ← HN.out] at hni
            rw [← HNj.out, ← HM.out] at hnj
            clear HFi HFj HFk HNi HNj HNk HFX
            have t9 : (((ni + nj : Nat) : Int) != (ni : Int) + (nj : Int)) = false := by simp
            go_upto_region 31 with fail
            clear t9
            refine wp_region_flow [] [([0, 1], 2, true), ([3, 4, 5, 6], 7, true)] [8, 9] (by kernel_rfl) (by kernel_rfl) ?_
            intro wc hBc hh'
            clear hh'
            have hL := @Later.cell wc
            have HBwc := Lib.hid (btr HBx11.out hBc)
            have HKXwc := Lib.hid (HKXx11.out.mono hBc)
            have HKYwc := Lib.hid (HKYx11.out.mono hBc)
            have HSXYwc := Lib.hid (btr HSXYx11.out hBc)
            have HSPwc := Lib.hid (btr HSPx11.out hBc)
            have HSQwc := Lib.hid (btr HSQx11.out hBc)
            have HSRwc := Lib.hid (btr HSRx11.out hBc)
            have HSSwc := Lib.hid (btr HSSx11.out hBc)
            clear HBx11 HKXx11 HKYx11 HSXYx11 HSPx11 HSQx11 HSRx11 HSSx11
            clear hBc
            obtain ⟨ga, gb, za, zb⟩ := HGQ.out _ HBwc.out
            obtain ⟨g1, g2, g3⟩ := HP.out _ HSPwc.out
            obtain ⟨g4, g5, g6⟩ := HQ.out _ HSQwc.out
            simp only [flowP, flow, pickL, List.getElem?_cons_succ, List.getElem?_cons_zero]
            refine wpQuiet_nil ?_
            repeat (go_big_quiet_step (fail))
            refine wpQuiet_nil ?_
            go_wp2_with fail
            refine (HR1b.out _ (btr HB0.out HBwc.out)).mono ?_
            rintro e x12 ⟨rfl, hB⟩
            have HS12 := Lib.hid hB
            clear hB
            go_wp2
            refine seg_grow ⟨⟨_, HS12.out⟩, rfl⟩ ?_
            repeat (go_big_quiet_step (fail))
            refine wpQuiet_nil ?_
            go_wp2_with fail
            refine (HR2b.out _ (btr HB0.out (btr HBwc.out HS12.out))).mono ?_
            rintro e x13 ⟨rfl, hB⟩
            have HS13 := Lib.hid (btr HS12.out hB)
            clear hB
            go_wp2
            refine seg_grow ⟨⟨_, HS13.out⟩, rfl⟩ ?_
            repeat (go_big_quiet_step (fail))
            refine wpQuiet_nil ?_
            refine only_done ?_
            clear hL ga gb za zb g1 g2 g3 g4 g5 g6
            have HBx13 := Lib.hid (btr HBwc.out HS13.out)
            have HKXx13 := Lib.hid (HKXwc.out.mono HS13.out)
            have HKYx13 := Lib.hid (HKYwc.out.mono HS13.out)
            have HSXYx13 := Lib.hid (btr HSXYwc.out HS13.out)
            have HSPx13 := Lib.hid (btr HSPwc.out HS13.out)
            have HSQx13 := Lib.hid (btr HSQwc.out HS13.out)
            have HSRx13 := Lib.hid (btr HSRwc.out HS13.out)
            have HSSx13 := Lib.hid (btr HSSwc.out HS13.out)
            clear HBwc HKXwc HKYwc HSXYwc HSPwc HSQwc HSRwc HSSwc
            go_upto_region 33 with fail
            refine wp_region_flow [] [([0, 1, 2, 3, 4, 5, 6, 7, 8, 9, 10], 11, true), ([12, 13, 14, 15, 16, 17, 18, 19, 20, 21, 22, 23, 24], 25, true), ([26, 27, 28], 29, true)] [30, 31] (by kernel_rfl) (by kernel_rfl) ?_
            intro wd hBc hh'
            clear hh'
            have hL := @Later.cell wd
            have HBwd := Lib.hid (btr HBx13.out hBc)
            have HKXwd := Lib.hid (HKXx13.out.mono hBc)
            have HKYwd := Lib.hid (HKYx13.out.mono hBc)
            have HSXYwd := Lib.hid (btr HSXYx13.out hBc)
            have HSPwd := Lib.hid (btr HSPx13.out hBc)
            have HSQwd := Lib.hid (btr HSQx13.out hBc)
            have HSRwd := Lib.hid (btr HSRx13.out hBc)
            have HSSwd := Lib.hid (btr HSSx13.out hBc)
            clear HBx13 HKXx13 HKYx13 HSXYx13 HSPx13 HSQx13 HSRx13 HSSx13
            clear hBc
            obtain ⟨p0, p1, pz⟩ := HP.out _ HSPwd.out
            obtain ⟨q0, q1, qz⟩ := HQ.out _ HSQwd.out
            obtain ⟨r0, r1, rz⟩ := HR.out _ HSRwd.out
            obtain ⟨s0, s1, sz⟩ := HS.out _ HSSwd.out
            simp only [flowP, flow, pickL, List.getElem?_cons_succ, List.getElem?_cons_zero]
            refine wpQuiet_nil ?_
            repeat (go_big_quiet_step (fail))
            refine wpQuiet_nil ?_
            go_wp2_with fail
            refine (days_any _ _ wd).mono ?_
            rintro e x14 ⟨rfl, hB⟩
            have HS14 := Lib.hid hB
            clear hB
            go_wp2
            refine seg_grow ⟨⟨_, HS14.out⟩, rfl⟩ ?_
            repeat (go_big_quiet_step (fail))
            refine wpQuiet_nil ?_
            go_wp2_with fail
            refine (days_any _ _ x14).mono ?_
            rintro e x15 ⟨rfl, hB⟩
            have HS15 := Lib.hid (btr HS14.out hB)
            clear hB
            go_wp2
            refine seg_grow ⟨⟨_, HS15.out⟩, rfl⟩ ?_
            repeat (go_big_quiet_step (fail))
            refine wpQuiet_nil ?_
            go_wp2_with fail
            refine (HWK.out x15).mono ?_
            rintro e x16 ⟨rfl, hB⟩
            have HS16 := Lib.hid (btr HS15.out hB)
            clear hB
            go_wp2
            refine seg_grow ⟨⟨_, HS16.out⟩, rfl⟩ ?_
            repeat (go_big_quiet_step (fail))
            refine wpQuiet_nil ?_
            refine only_done ?_
            clear hL p0 p1 pz q0 q1 qz r0 r1 rz s0 s1 sz
            go_wp2_with fail
            go_ret
            exact ⟨rfl, btr HB0.out (btr HBwd.out HS16.out)⟩
end Go.Proofs.YteknehlkdgamjaaGreat
