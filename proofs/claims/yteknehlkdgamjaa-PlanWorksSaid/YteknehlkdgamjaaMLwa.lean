/- PlanWorks, in terms of Works: which works are valid, and which jobs are a circle, is what the document says; no condition. -/
import Derived.Test.YteknehlkdgamjaaMGK
import Derived.Test.YteknehlkdgamjaaMEn
import Derived.Test.YteknehlkdgamjaaMA2a
namespace Go.Proofs.Yteknehlkdgamjaa
open Go.RowKit Go.Shelf

set_option maxRecDepth 100000 in
set_option maxHeartbeats 3200000 in
theorem planworks_core (hwk : WorksSaid) (v x : Value) (J : List Job) (l : List Int) (w : World) (hx0 : RdJ w v J) (hy0 : RdI w .i64 x l) :
    Calls Try.prog 3 #[.agg #[v], x] w fun e w' => e = .returned (.bool true) ∧ Below w.heap.size w w' := by
  have HWK := Lib.hid hwk
  unfold WorksSaid at HWK
  have HGR := Lib.hid (fun wz (h : Below w.heap.size w wz) => great_any v J wz (hx0.mono h))
  have HGS := Lib.hid (fun h => great_sm (J := J) h)
  have HCI := Lib.hid (fun wz (h : Below w.heap.size w wz) (hs : SmJ J) => pcircles_any v J wz (hx0.mono h) hs)
  have HCE := Lib.hid (fun wz (h : Below w.heap.size w wz) (hs : SmJ J) => cerror_any v J wz (hx0.mono h) hs)
  have HPW := Lib.hid (fun wz (h : Below w.heap.size w wz) (hs : SmJ J) => pwork_any v J wz (hx0.mono h) hs)
  have HRW := Lib.hid (fun wz (h : Below w.heap.size w wz) (hs : SmJ J) => rwork_any v J wz (hx0.mono h) hs)
  have HPC := Lib.hid (fun wz (h : Below w.heap.size w wz) (hs : SmJ J) (hl : l.length ≤ 1000) => pcircle_any v x J l wz (hx0.mono h) (hy0.mono h) hl hs)
  have HRC := Lib.hid (fun y m wz (h : Below w.heap.size w wz) (hs : SmJ J) (hy : RdI wz .i64 y m) (hl : m.length ≤ 1000) => rcircle_any v y J m wz (hx0.mono h) hy hl hs)
  have HY := Lib.hid hy0
  have HCO := Lib.hid (fun (h : cirC J = 0) => show workC J = 0 from by unfold cirC at h; split at h <;> first | assumption | (rename_i h1; exact absurd h h1))
  have HCK := Lib.hid (fun m (h : IsCir J m) (h0 : workC J = 0) => cirC_of h h0)
  have HFI := Lib.hid (fun (h : workC J = 0) => fine_of h)
  obtain ⟨a, c, rfl⟩ := hx0.sl
  obtain ⟨ax, cx, rfl, _⟩ := hy0.form
  clear hx0 hy0 hwk
  obtain ⟨n, hn⟩ : ∃ n, n = J.length := ⟨_, rfl⟩
  rw [← hn] at HGR HCI HCE HPW HRW HPC HRC ⊢
  clear hn
  unfold CirRet at HCI
  have HB0 := Lib.hid (bal (bz w) (.cells #[.slice a n c] 24))
  have gq : (w.alloc (.cells #[.slice a n c] 24)).cell? ⟨w.heap.size, 0, none⟩ = some (.slice a n c) := cnew rfl rfl
  have zq : w.heap.size < (w.alloc (.cells #[.slice a n c] 24)).heap.size := by simp
  generalize hgr : greatJ J = gr at *
  have HGRE := Lib.hid hgr
  clear hgr
  go_enter Try.func3, Try.ntmps3
  go_wp2_with fail
  generalize w.alloc (.cells #[.slice a n c] 24) = w1 at *
  have HGQ := Lib.hid (fun (wz : World) (h : Below w1.heap.size w1 wz) => (⟨(h.cell (p := ⟨w.heap.size, 0, none⟩) zq).trans gq, Nat.lt_of_lt_of_le zq h.size⟩ : wz.cell? ⟨w.heap.size, 0, none⟩ = some (.slice a n c) ∧ w.heap.size < wz.heap.size))
  refine (HGR.out _ HB0.out).mono ?_
  rintro e w2 ⟨rfl, hB⟩
  have HB2 := Lib.hid hB
  clear hB gq zq
  cases gr with
  | true =>
    go_wp2_with fail
    refine (HWK.out _).mono ?_
    rintro e w3 ⟨rfl, hB⟩
    have HB3 := Lib.hid (btr HB0.out (btr HB2.out hB))
    clear hB
    go_wp2_with fail
    go_ret
    exact ⟨rfl, HB3.out⟩
  | false =>
    have HSM := Lib.hid (HGS.out (by first | trivial | rfl))
    by_cases hl : 20 < l.length
    · have t1 : decide ((20 : Int) < (l.length : Int)) = true := decide_eq_true (by omega)
      have t2 : decide (20 < l.length) = true := decide_eq_true hl
      clear hl
      go_wp2_with fail
      refine (HWK.out _).mono ?_
      rintro e w3 ⟨rfl, hB⟩
      have HB3 := Lib.hid (btr HB0.out (btr HB2.out hB))
      clear hB
      go_wp2_with fail
      go_ret
      exact ⟨rfl, HB3.out⟩
    · have t1 : decide ((20 : Int) < (l.length : Int)) = false := decide_eq_false (by omega)
      have t2 : decide (20 < l.length) = false := decide_eq_false hl
      have HL20 := Lib.hid (show l.length ≤ 1000 by omega)
      obtain ⟨g2, z2⟩ := HGQ.out _ HB2.out
      clear hl
      go_wp2_with fail
      refine (HCI.out _ (btr HB0.out HB2.out) HSM.out).mono ?_
      rintro e w3 ⟨hO, hB⟩
      have HB3 := Lib.hid (btr HB2.out hB)
      have hB3 := hB
      clear hB t1 t2 g2 z2
      obtain ⟨g3, z3⟩ := HGQ.out _ HB3.out
      have hform : ∃ u m, e = .returned (.tuple #[u, .int .i64 (cirC J)]) ∧ RdI w3 .i64 u m ∧ (cirC J ≠ 0 → m = []) ∧ (cirC J = 0 → IsCir J m) := by
        rcases hO with ⟨h1, h2⟩ | ⟨h1, u, m, h2, h3, h4⟩
        · exact ⟨_, [], h2, rdI_nil _ _, fun _ => rfl, fun h => absurd h h1⟩
        · exact ⟨u, m, by rw [h2, h1], h3, fun h => absurd h1 h, fun _ => h4⟩
      obtain ⟨u, m, rfl, hm, hm1, hm2⟩ := hform
      obtain ⟨au, cu, hu⟩ := exI hm _ rfl
      subst hu
      have HM := Lib.hid hm; have HM1 := Lib.hid hm1; have HM2 := Lib.hid hm2
      clear hO hB3 hm hm1 hm2
      generalize hcq : cirC J = cq at *
      clear hcq
      go_wp2_with fail
      refine (HCE.out _ (btr HB0.out HB3.out) HSM.out).mono ?_
      rintro e w4 ⟨rfl, hB⟩
      have HB4 := Lib.hid (btr HB3.out hB); have HM4 := Lib.hid (HM.out.mono hB)
      obtain ⟨g4, z4⟩ := HGQ.out _ HB4.out
      clear hB g3 z3 HM
      generalize hcl : circE J l = cl at *
      have HCLE := Lib.hid hcl
      clear hcl
      generalize hwq : workC J = wq at *
      clear hwq
      go_upto_region 5 with fail
      have d1 : (wq != wq) = false := by simp
      have d2 : (cl != cl) = false := by simp
      have d3 : (cq != cq) = false := by simp
      refine wp_region_flow [] [([0, 2], 1, true), ([], 3, true), ([4, 5, 6, 7, 9, 10], 8, true), ([], 11, true)] [12, 13, 14, 15, 16, 17, 18] (by kernel_rfl) (by kernel_rfl) ?_
      intro wc hBc hh
      clear hh
      have HBC := Lib.hid (btr HB4.out hBc)
      have hL := @Later.cell wc
      have k1 := (hBc.cell (p := ⟨w.heap.size, 0, none⟩) z4).trans g4
      have z1 := Nat.lt_of_lt_of_le z4 hBc.size
      have HMC := Lib.hid (HM4.out.mono hBc)
      clear hBc g4 z4 HM4
      simp only [flowP, flow, pickL, List.getElem?_cons_succ, List.getElem?_cons_zero]
      refine wpQuiet_nil ?_
      repeat (go_big_quiet_step (fail))
      refine wpQuiet_nil ?_
      go_wp2_with fail
      refine (HPW.out _ (btr HB0.out HBC.out) HSM.out).mono ?_
      rintro e w5 ⟨rfl, hB⟩
      have HS5 := Lib.hid hB
      clear hB
      go_wp2
      refine seg_grow ⟨⟨_, HS5.out⟩, rfl⟩ ?_
      refine wpQuiet_nil ?_
      go_wp2_with fail
      refine (HRW.out _ (btr HB0.out (btr HBC.out HS5.out)) HSM.out).mono ?_
      rintro e w6 ⟨rfl, hB⟩
      have HS6 := Lib.hid (btr HS5.out hB)
      clear hB
      go_wp2
      refine seg_grow ⟨⟨_, HS6.out⟩, rfl⟩ ?_
      repeat (go_big_quiet_step (fail))
      refine wpQuiet_nil ?_
      go_wp2_with fail
      refine (HPC.out _ (btr HB0.out (btr HBC.out HS6.out)) HSM.out HL20.out).mono ?_
      rintro e w7 ⟨rfl, hB⟩
      have HS7 := Lib.hid (btr HS6.out hB)
      clear hB
      go_wp2
      refine seg_grow ⟨⟨_, HS7.out⟩, rfl⟩ ?_
      refine wpQuiet_nil ?_
      go_wp2_with fail
      refine (HRC.out _ l _ (btr HB0.out (btr HBC.out HS7.out)) HSM.out (HY.out.mono (btr HB0.out (btr HBC.out HS7.out))) HL20.out).mono ?_
      rw [HCLE.out]
      rintro e w8 ⟨rfl, hB⟩
      have HS8 := Lib.hid (btr HS7.out hB)
      clear hB
      go_wp2
      refine seg_grow ⟨⟨_, HS8.out⟩, rfl⟩ ?_
      repeat (go_big_quiet_step (fail))
      refine wpQuiet_nil ?_
      refine only_done ?_
      clear hL k1 z1
      have HB8 := Lib.hid (btr HBC.out HS8.out)
      have HM8 := Lib.hid (HMC.out.mono HS8.out)
      obtain ⟨g8, z8⟩ := HGQ.out _ HB8.out
      by_cases hq : cq = 0
      · have HQ := Lib.hid hq
        have t3 : (cq != 0) = false := by simp [hq]
        have HIC := Lib.hid (HM2.out hq)
        have HW0 := Lib.hid (HCO.out hq)
        have HLM := Lib.hid (show m.length ≤ 1000 by have := isCir_len (HFI.out HW0.out).n12 HIC.out; omega)
        have HC0 := Lib.hid (HCK.out m HIC.out HW0.out)
        clear hq
        go_wp2_with fail
        refine (HRC.out _ m _ (btr HB0.out HB8.out) HSM.out HM8.out HLM.out).mono ?_
        rw [HC0.out]
        rintro e w9 ⟨rfl, hB⟩
        have HB9 := Lib.hid (btr HB8.out hB)
        clear hB g8 z8
        go_wp2_with fail
        refine (HWK.out _).mono ?_
        rintro e w10 ⟨rfl, hB⟩
        have HB10 := Lib.hid (btr HB0.out (btr HB9.out hB))
        clear hB
        go_wp2_with fail
        go_ret
        exact ⟨rfl, HB10.out⟩
      · have t3 : (cq != 0) = true := by simp [hq]
        have hm0 := HM1.out hq
        subst hm0
        clear hq
        go_wp2_with fail
        refine (HWK.out _).mono ?_
        rintro e w10 ⟨rfl, hB⟩
        have HB10 := Lib.hid (btr HB0.out (btr HB8.out hB))
        clear hB
        go_wp2_with fail
        go_ret
        exact ⟨rfl, HB10.out⟩
end Go.Proofs.Yteknehlkdgamjaa
