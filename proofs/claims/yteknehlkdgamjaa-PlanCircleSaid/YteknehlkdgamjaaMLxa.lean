/- PlanCircle, in terms of Works: either there is a circle, or all jobs have a plan; no condition. -/
import Derived.Test.YteknehlkdgamjaaMGK
import Derived.Test.YteknehlkdgamjaaMEn
namespace Go.Proofs.Yteknehlkdgamjaa
open Go.RowKit Go.Shelf

theorem rdP_len {w : World} {v : Value} {V : List (Int × Int)} (h : RdP w v V) : ∃ a c, v = .slice a V.length c := by
  obtain ⟨a, c, e, _⟩ := h
  exact ⟨a, c, e⟩
theorem cir_codes {J : List Job} (h : workC J = 0) : (cir J = true ∧ cirC J = 0 ∧ errC J = 13 ∧ staL J = []) ∨ (cir J = false ∧ cirC J = 5 ∧ errC J = 0 ∧ (staL J).length = J.length) := by
  cases hc : cir J with
  | true =>
    have h1 : errC J = 13 := by unfold errC; rw [if_pos h, hc]; rfl
    refine .inl ⟨rfl, by unfold cirC; rw [if_pos h, hc]; rfl, h1, ?_⟩
    unfold staL
    rw [if_neg (by rw [h1]; decide)]
  | false =>
    have h1 : errC J = 0 := by unfold errC; rw [if_pos h, hc]; rfl
    refine .inr ⟨rfl, by unfold cirC; rw [if_pos h, hc]; rfl, h1, ?_⟩
    unfold staL
    rw [if_pos h1, staP_len]
theorem no_circle {J : List Job} {l : List Int} (h : workC J = 0) (hc : cir J = false) : circE J l ≠ 0 := by
  intro h0
  unfold circE at h0
  rw [if_pos h] at h0
  split at h0
  · rename_i h1
    split at h0
    · omega
    · rename_i h2
      split at h0
      · rename_i h3
        have := cir_of_isCir (fine_of h) (show IsCir J l from ⟨h1, by omega, h3⟩)
        rw [hc] at this; cases this
      · omega
  · omega
set_option maxRecDepth 100000 in
set_option maxHeartbeats 3200000 in
theorem plancircle_core (hwk : WorksSaid) (v x : Value) (J : List Job) (l : List Int) (w : World) (hx0 : RdJ w v J) (hy0 : RdI w .i64 x l) :
    Calls Try.prog 4 #[.agg #[v], x] w fun e w' => e = .returned (.bool true) ∧ Below w.heap.size w w' := by
  have HWK := Lib.hid hwk
  unfold WorksSaid at HWK
  have HGR := Lib.hid (fun wz (h : Below w.heap.size w wz) => great_any v J wz (hx0.mono h))
  have HGS := Lib.hid (fun h => great_sm (J := J) h)
  have HCI := Lib.hid (fun wz (h : Below w.heap.size w wz) (hs : SmJ J) => pcircles_any v J wz (hx0.mono h) hs)
  have HRW := Lib.hid (fun wz (h : Below w.heap.size w wz) (hs : SmJ J) => rwork_any v J wz (hx0.mono h) hs)
  have HST := Lib.hid (fun wz (h : Below w.heap.size w wz) (hs : SmJ J) => pstarts_any v J wz (hx0.mono h) hs)
  have HPC := Lib.hid (fun y m wz (h : Below w.heap.size w wz) (hs : SmJ J) (hy : RdI wz .i64 y m) (hl : m.length ≤ 1000) => pcircle_any v y J m wz (hx0.mono h) hy hl hs)
  have HRC := Lib.hid (fun y m wz (h : Below w.heap.size w wz) (hs : SmJ J) (hy : RdI wz .i64 y m) (hl : m.length ≤ 1000) => rcircle_any v y J m wz (hx0.mono h) hy hl hs)
  have HY := Lib.hid hy0
  have HCK := Lib.hid (fun m (h : IsCir J m) (h0 : workC J = 0) => cirC_of h h0)
  have HFI := Lib.hid (fun (h : workC J = 0) => fine_of h)
  have HCD := Lib.hid (fun (h : workC J = 0) => cir_codes h)
  have HNO := Lib.hid (fun (h : workC J = 0) (hc : cir J = false) => no_circle (l := l) h hc)
  obtain ⟨a, c, rfl⟩ := hx0.sl
  obtain ⟨ax, cx, rfl, _⟩ := hy0.form
  clear hx0 hy0 hwk
  obtain ⟨n, hn⟩ : ∃ n, n = J.length := ⟨_, rfl⟩
  rw [← hn] at HGR HCI HRW HST HPC HRC HCD ⊢
  clear hn
  unfold CirRet at HCI
  unfold RetR at HST
  have HB0 := Lib.hid (bal (bz w) (.cells #[.slice a n c] 24))
  have gq : (w.alloc (.cells #[.slice a n c] 24)).cell? ⟨w.heap.size, 0, none⟩ = some (.slice a n c) := cnew rfl rfl
  have zq : w.heap.size < (w.alloc (.cells #[.slice a n c] 24)).heap.size := by simp
  generalize hgr : greatJ J = gr at *
  have HGRE := Lib.hid hgr
  clear hgr
  go_enter Try.func4, Try.ntmps4
  go_wp2_with fail
  generalize w.alloc (.cells #[.slice a n c] 24) = w1 at *
  have HGQ := Lib.hid (fun (wz : World) (h : Below w1.heap.size w1 wz) => (⟨(h.cell (p := ⟨w.heap.size, 0, none⟩) zq).trans gq, Nat.lt_of_lt_of_le zq h.size⟩ : wz.cell? ⟨w.heap.size, 0, none⟩ = some (.slice a n c) ∧ w.heap.size < wz.heap.size))
  refine (HGR.out _ HB0.out).mono ?_
  rintro e w2 ⟨rfl, hB⟩
  have HB2 := Lib.hid hB
  clear hB gq zq
  cases gr with
  | true =>
    go_wp2_with fail
    refine (HWK.out _).mono ?_
    rintro e w3 ⟨rfl, hB⟩
    have HB3 := Lib.hid (btr HB0.out (btr HB2.out hB))
    clear hB
    go_wp2_with fail
    go_ret
    exact ⟨rfl, HB3.out⟩
  | false =>
    have HSM := Lib.hid (HGS.out (by first | trivial | rfl))
    obtain ⟨g2, z2⟩ := HGQ.out _ HB2.out
    go_wp2_with fail
    refine (HRW.out _ (btr HB0.out HB2.out) HSM.out).mono ?_
    rintro e w3 ⟨rfl, hB⟩
    have HB3 := Lib.hid (btr HB2.out hB)
    clear hB g2 z2
    obtain ⟨wq, hwq⟩ : ∃ x, x = workC J := ⟨_, rfl⟩
    have HWQ := Lib.hid hwq
    rw [← hwq]
    clear hwq
    by_cases hq : wq = 0
    · have t0 : (wq != 0) = false := by simp [hq]
      have HW0 := Lib.hid (show workC J = 0 by rw [← HWQ.out, hq])
      have HCD2 := Lib.hid (HCD.out HW0.out)
      clear hq
      by_cases hl : 20 < l.length
      · have t1 : decide ((20 : Int) < (l.length : Int)) = true := decide_eq_true (by omega)
        have t2 : decide (20 < l.length) = true := decide_eq_true hl
        clear hl
        go_wp2_with fail
        refine (HWK.out _).mono ?_
        rintro e w4 ⟨rfl, hB⟩
        have HB4 := Lib.hid (btr HB0.out (btr HB3.out hB))
        clear hB
        go_wp2_with fail
        go_ret
        exact ⟨rfl, HB4.out⟩
      · have t1 : decide ((20 : Int) < (l.length : Int)) = false := decide_eq_false (by omega)
        have t2 : decide (20 < l.length) = false := decide_eq_false hl
        have HL20 := Lib.hid (show l.length ≤ 1000 by omega)
        obtain ⟨g3, z3⟩ := HGQ.out _ HB3.out
        clear hl
        go_wp2_with fail
        refine (HCI.out _ (btr HB0.out HB3.out) HSM.out).mono ?_
        rintro e w4 ⟨hO, hB⟩
        have HB4 := Lib.hid (btr HB3.out hB)
        clear hB t0 t1 t2 g3 z3
        obtain ⟨g4, z4⟩ := HGQ.out _ HB4.out
        have hform : ∃ u m, e = .returned (.tuple #[u, .int .i64 (cirC J)]) ∧ RdI w4 .i64 u m ∧ (cirC J ≠ 0 → m = []) ∧ (cirC J = 0 → IsCir J m) := by
          rcases hO with ⟨h1, h2⟩ | ⟨h1, u, m, h2, h3, h4⟩
          · exact ⟨_, [], h2, rdI_nil _ _, fun _ => rfl, fun h => absurd h h1⟩
          · exact ⟨u, m, by rw [h2, h1], h3, fun h => absurd h1 h, fun _ => h4⟩
        obtain ⟨u, m, rfl, hm, hm1, hm2⟩ := hform
        obtain ⟨au, cu, hu⟩ := exI hm _ rfl
        subst hu
        have HM := Lib.hid hm; have HM1 := Lib.hid hm1; have HM2 := Lib.hid hm2
        clear hO hm hm1 hm2
        go_wp2_with fail
        refine (HST.out _ (btr HB0.out HB4.out) HSM.out).mono ?_
        rintro e w5 ⟨⟨s, rfl, hs⟩, hB⟩
        obtain ⟨as5, cs5, hse⟩ := rdP_len hs
        subst hse
        have HB5 := Lib.hid (btr HB4.out hB); have HM5 := Lib.hid (HM.out.mono hB)
        obtain ⟨g5, z5⟩ := HGQ.out _ HB5.out
        clear hB hs g4 z4 HM
        go_wp2_with fail
        refine (HPC.out _ l _ (btr HB0.out HB5.out) HSM.out (HY.out.mono (btr HB0.out HB5.out)) HL20.out).mono ?_
        rintro e w6 ⟨rfl, hB⟩
        have HB6 := Lib.hid (btr HB5.out hB); have HM6 := Lib.hid (HM5.out.mono hB)
        obtain ⟨g6, z6⟩ := HGQ.out _ HB6.out
        clear hB g5 z5 HM5
        rcases HCD2.out with ⟨hc1, hc2, hc3, hc4⟩ | ⟨hc1, hc2, hc3, hc4⟩
        · have HIC := Lib.hid (HM2.out hc2)
          have HLM := Lib.hid (show m.length ≤ 1000 by have := isCir_len (HFI.out HW0.out).n12 HIC.out; omega)
          have HC0 := Lib.hid (HCK.out m HIC.out HW0.out)
          rw [hc2, hc3, hc4]
          clear hc1 hc2 hc3 hc4 HCD2
          go_wp2_with fail
          refine (HPC.out _ m _ (btr HB0.out HB6.out) HSM.out HM6.out HLM.out).mono ?_
          rw [HC0.out]
          rintro e w7 ⟨rfl, hB⟩
          have HB7 := Lib.hid (btr HB6.out hB); have HM7 := Lib.hid (HM6.out.mono hB)
          obtain ⟨g7, z7⟩ := HGQ.out _ HB7.out
          clear hB g6 z6
          go_wp2_with fail
          refine (HRC.out _ m _ (btr HB0.out HB7.out) HSM.out HM7.out HLM.out).mono ?_
          rw [HC0.out]
          rintro e w8 ⟨rfl, hB⟩
          have HB8 := Lib.hid (btr HB7.out hB)
          clear hB g7 z7
          go_wp2_with fail
          refine (HWK.out _).mono ?_
          rintro e w10 ⟨rfl, hB⟩
          have HB10 := Lib.hid (btr HB0.out (btr HB8.out hB))
          clear hB
          go_wp2_with fail
          go_ret
          exact ⟨rfl, HB10.out⟩
        · have hm0 := HM1.out (by rw [hc2]; decide)
          have hno := HNO.out HW0.out hc1
          have t3 : (circE J l != 0) = true := by simp [hno]
          subst hm0
          rw [hc2, hc3, hc4]
          clear hc1 hc2 hc3 hc4 HCD2 hno
          generalize circE J l = cl at *
          have t4 : ((n : Int) == (n : Int)) = true := by simp
          go_wp2_with fail
          refine (HWK.out _).mono ?_
          rintro e w10 ⟨rfl, hB⟩
          have HB10 := Lib.hid (btr HB0.out (btr HB6.out hB))
          clear hB
          go_wp2_with fail
          go_ret
          exact ⟨rfl, HB10.out⟩
    · have t0 : (wq != 0) = true := by simp [hq]
      clear hq
      go_wp2_with fail
      refine (HWK.out _).mono ?_
      rintro e w4 ⟨rfl, hB⟩
      have HB4 := Lib.hid (btr HB0.out (btr HB3.out hB))
      clear hB
      go_wp2_with fail
      go_ret
      exact ⟨rfl, HB4.out⟩
end Go.Proofs.Yteknehlkdgamjaa
