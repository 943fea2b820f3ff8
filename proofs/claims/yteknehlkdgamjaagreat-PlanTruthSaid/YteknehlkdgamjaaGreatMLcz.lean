/- PlanChains, in terms of Works: the days of a chain are what the document says, and the chain that is returned is a longest one; no condition. -/
import Derived.Test.YteknehlkdgamjaaGreatMGV
import Derived.Test.YteknehlkdgamjaaGreatMEn
import Derived.Test.YteknehlkdgamjaaGreatMGS
namespace Go.Proofs.YteknehlkdgamjaaGreat
open Go.RowKit Go.Shelf

theorem chain_out {J : List Job} {high : Bool} {w w' : World} {e : Ending} (h : ChainOut J high w e w') :
    ∃ u m, e = .returned (.tuple #[u, .int .i64 (errC J)]) ∧ RdI w' .i64 u m ∧ (errC J ≠ 0 → m = []) ∧
      (errC J = 0 → chainC J m = 0 ∧ m.length ≤ 1000 ∧ (∀ i, i < m.length → 0 ≤ elt m i ∧ elt m i < J.length) ∧ sumTo (dayD J high) m m.length = takes J (dayD J high)) ∧ Below w.heap.size w w' := by
  obtain ⟨h | h, hB⟩ := h
  · exact ⟨_, [], h.2, rdI_nil _ _, fun _ => rfl, fun h0 => absurd h0 h.1, hB⟩
  · obtain ⟨h0, v, l, rfl, hf, hs, hr⟩ := h
    have hJ := (fine_err h0).1
    refine ⟨v, ints l, by rw [h0], hr, fun h1 => absurd h0 h1, fun _ => ⟨chainC_full hJ h0 hf, ints_le hJ (fine_err h0).2 hf.2.1, fun i hi => ?_, ?_⟩, hB⟩
    · rw [ints_len] at hi
      rw [ints_at hi]
      have := hf.2.1.lt hJ l[i] (List.getElem_mem hi)
      omega
    · rw [sumTo_ints]; exact hs
set_option maxRecDepth 100000 in
set_option maxHeartbeats 3200000 in
theorem planchains_core (hwk : WorksSaid) (v x : Value) (J : List Job) (l : List Int) (high : Bool) (w : World) (hx0 : RdJ w v J) (hy0 : RdI w .i64 x l) :
    Calls Tryz.prog 4 #[.agg #[v], x, .bool high] w fun e w' => e = .returned (.bool true) ∧ Below w.heap.size w w' := by
  have HWK := Lib.hid hwk
  unfold WorksSaid at HWK
  have HGR := Lib.hid (fun wz (h : Below w.heap.size w wz) => great_any v J wz (hx0.mono h))
  have HGS := Lib.hid (fun h => great_sm (J := J) h)
  have HPC := Lib.hid (fun wz (h : Below w.heap.size w wz) (hs : SmJ J) (hl : l.length ≤ 1000) => pcheckchain_any v x J l wz (hx0.mono h) (hy0.mono h) hl hs)
  have HRC := Lib.hid (fun y m wz (h : Below w.heap.size w wz) (hs : SmJ J) (hy : RdI wz .i64 y m) (hl : m.length ≤ 1000) => rcheckchain_any v y J m wz (hx0.mono h) hy hl hs)
  have HCH := Lib.hid (fun wz (h : Below w.heap.size w wz) (hs : SmJ J) => pchain_any v J high wz (hx0.mono h) hs)
  have HCO := Lib.hid (fun wz w' e (h : ChainOut J high wz e w') => chain_out h)
  have HER := Lib.hid (fun wz (h : Below w.heap.size w wz) (hs : SmJ J) => error_any v J wz (hx0.mono h) hs)
  have HDY := Lib.hid (fun wz (h : Below w.heap.size w wz) (hs : SmJ J) => rdays_any v J high wz (hx0.mono h) (by have := hs.1; omega))
  have HTK := Lib.hid (fun y wz (h : Below w.heap.size w wz) (h0 : errC J = 0) (hy : RdI wz .i64 y (fnL (dayD J high) J.length)) => rtakes_any v y J (dayD J high) wz (hx0.mono h) (fine_err h0).1 (fine_err h0).2 hy (fun i hi => dayD_bd (fine_err h0).1 high hi))
  have HSU := Lib.hid (fun x y m wz (h0 : errC J = 0) (hx : RdI wz .i64 x m) (hl : m.length ≤ 1000) (hv : ∀ i, i < m.length → 0 ≤ elt m i ∧ elt m i < J.length) (hy : RdI wz .i64 y (fnL (dayD J high) J.length)) => rsum_any x y m J.length (dayD J high) wz hx hl hv hy (fun i hi => dayD_bd (fine_err h0).1 high hi))
  have HY := Lib.hid hy0
  obtain ⟨a, c, rfl⟩ := hx0.sl
  obtain ⟨ax, cx, rfl, _⟩ := hy0.form
  clear hx0 hy0 hwk
  obtain ⟨n, hn⟩ : ∃ n, n = J.length := ⟨_, rfl⟩
  rw [← hn] at HGR HPC HRC HCH HCO HER HDY HTK HSU ⊢
  clear hn
  unfold RetP at HPC HRC
  have HB0 := Lib.hid (bal (bz w) (.cells #[.slice a n c] 24))
  have gq : (w.alloc (.cells #[.slice a n c] 24)).cell? ⟨w.heap.size, 0, none⟩ = some (.slice a n c) := cnew rfl rfl
  have zq : w.heap.size < (w.alloc (.cells #[.slice a n c] 24)).heap.size := by simp
  generalize hgr : greatJ J = gr at *
  clear hgr
  go_enter Tryz.func4, Tryz.ntmps4
  go_wp2_with fail
  generalize w.alloc (.cells #[.slice a n c] 24) = w1 at *
  have HGQ := Lib.hid (fun (wz : World) (h : Below w1.heap.size w1 wz) => (⟨(h.cell (p := ⟨w.heap.size, 0, none⟩) zq).trans gq, Nat.lt_of_lt_of_le zq h.size⟩ : wz.cell? ⟨w.heap.size, 0, none⟩ = some (.slice a n c) ∧ w.heap.size < wz.heap.size))
  refine (HGR.out _ HB0.out).mono ?_
  rintro e w2 ⟨rfl, hB⟩
  have HB2 := Lib.hid hB
  clear hB gq zq
  cases gr with
  | true =>
    go_wp2_with fail
    refine (HWK.out _).mono ?_
    rintro e w3 ⟨rfl, hB⟩
    have HB3 := Lib.hid (btr HB0.out (btr HB2.out hB))
    clear hB
    go_wp2_with fail
    go_ret
    exact ⟨rfl, HB3.out⟩
  | false =>
    have HSM := Lib.hid (HGS.out (by first | trivial | rfl))
    by_cases hl : 20 < l.length
    · have t1 : decide ((20 : Int) < (l.length : Int)) = true := decide_eq_true (by omega)
      clear hl
      go_wp2_with fail
      refine (HWK.out _).mono ?_
      rintro e w3 ⟨rfl, hB⟩
      have HB3 := Lib.hid (btr HB0.out (btr HB2.out hB))
      clear hB
      go_wp2_with fail
      go_ret
      exact ⟨rfl, HB3.out⟩
    · have t1 : decide ((20 : Int) < (l.length : Int)) = false := decide_eq_false (by omega)
      have HL20 := Lib.hid (show l.length ≤ 1000 by omega)
      obtain ⟨g2, z2⟩ := HGQ.out _ HB2.out
      clear hl
      go_wp2_with fail
      refine (HPC.out _ (btr HB0.out HB2.out) HSM.out HL20.out).mono ?_
      rintro e w3 ⟨rfl, hB⟩
      have HB3 := Lib.hid (btr HB2.out hB)
      clear hB g2 z2
      obtain ⟨g3, z3⟩ := HGQ.out _ HB3.out
      generalize hcc : chainC J l = cc at *
      have HCC := Lib.hid hcc
      generalize hcv : chainV J l = cv at *
      have HCV := Lib.hid hcv
      clear hcc hcv
      obtain ⟨lo, hi⟩ := cv
      dsimp only
      go_wp2_with fail
      have hq0 : (w3.alloc (.cells #[.int .i64 lo, .int .i64 hi] 32)).cell? ⟨w3.heap.size, 0, none⟩ = some (.int .i64 lo) := cnew rfl rfl
      have hq1 : (w3.alloc (.cells #[.int .i64 lo, .int .i64 hi] 32)).cell? ⟨w3.heap.size, 0 + 1, none⟩ = some (.int .i64 hi) := cnew rfl rfl
      have zq : w3.heap.size < (w3.alloc (.cells #[.int .i64 lo, .int .i64 hi] 32)).heap.size := by simp
      have hB := bal (bz w3) (.cells #[.int .i64 lo, .int .i64 hi] 32)
      generalize w3.alloc (.cells #[.int .i64 lo, .int .i64 hi] 32) = w4 at hq0 hq1 zq hB ⊢
      have HB4 := Lib.hid (btr HB3.out hB)
      generalize w3.heap.size = b1 at hq0 hq1 zq ⊢
      have HL1 := Lib.hid (fun (wz : World) (h : Below w4.heap.size w4 wz) => (⟨(h.cell (p := ⟨b1, 0, none⟩) zq).trans hq0, (h.cell (p := ⟨b1, 0 + 1, none⟩) zq).trans hq1, Nat.lt_of_lt_of_le zq h.size⟩ : wz.cell? ⟨b1, 0, none⟩ = some (.int .i64 lo) ∧ wz.cell? ⟨b1, 0 + 1, none⟩ = some (.int .i64 hi) ∧ b1 < wz.heap.size))
      clear hB g3 z3 hq0 hq1 zq
      obtain ⟨g4, z4⟩ := HGQ.out _ HB4.out
      refine (HRC.out _ l _ (btr HB0.out HB4.out) HSM.out (HY.out.mono (btr HB0.out HB4.out)) HL20.out).mono ?_
      rw [HCC.out, HCV.out]
      dsimp only
      rintro e w5 ⟨rfl, hB⟩
      have HB5 := Lib.hid (btr HB4.out hB)
      have HS5 := Lib.hid hB
      clear hB g4 z4
      obtain ⟨g5, z5⟩ := HGQ.out _ HB5.out
      go_wp2_with fail
      have hq0 : (w5.alloc (.cells #[.int .i64 lo, .int .i64 hi] 32)).cell? ⟨w5.heap.size, 0, none⟩ = some (.int .i64 lo) := cnew rfl rfl
      have hq1 : (w5.alloc (.cells #[.int .i64 lo, .int .i64 hi] 32)).cell? ⟨w5.heap.size, 0 + 1, none⟩ = some (.int .i64 hi) := cnew rfl rfl
      have zq : w5.heap.size < (w5.alloc (.cells #[.int .i64 lo, .int .i64 hi] 32)).heap.size := by simp
      have hB := bal (bz w5) (.cells #[.int .i64 lo, .int .i64 hi] 32)
      generalize w5.alloc (.cells #[.int .i64 lo, .int .i64 hi] 32) = w6 at hq0 hq1 zq hB ⊢
      have HB6 := Lib.hid (btr HB5.out hB)
      have HS6 := Lib.hid (btr HS5.out hB)
      generalize w5.heap.size = b2 at hq0 hq1 zq ⊢
      have HL2 := Lib.hid (fun (wz : World) (h : Below w6.heap.size w6 wz) => (⟨(h.cell (p := ⟨b2, 0, none⟩) zq).trans hq0, (h.cell (p := ⟨b2, 0 + 1, none⟩) zq).trans hq1, Nat.lt_of_lt_of_le zq h.size⟩ : wz.cell? ⟨b2, 0, none⟩ = some (.int .i64 lo) ∧ wz.cell? ⟨b2, 0 + 1, none⟩ = some (.int .i64 hi) ∧ b2 < wz.heap.size))
      clear hB g5 z5 hq0 hq1 zq HS5
      obtain ⟨g6, z6⟩ := HGQ.out _ HB6.out
      refine (HCH.out _ (btr HB0.out HB6.out) HSM.out).mono ?_
      rintro e w7 hO
      obtain ⟨u, m, rfl, hm, hm1, hm2, hB⟩ := HCO.out _ _ _ hO
      obtain ⟨au, cu, hu⟩ := exI hm _ rfl
      subst hu
      have HM := Lib.hid hm; have HM1 := Lib.hid hm1; have HM2 := Lib.hid hm2
      have HB7 := Lib.hid (btr HB6.out hB)
      have HS7 := Lib.hid hB
      clear hO hB g6 z6 hm hm1 hm2
      obtain ⟨g7, z7⟩ := HGQ.out _ HB7.out
      go_wp2_with fail
      refine (HER.out _ (btr HB0.out HB7.out) HSM.out).mono ?_
      rintro e w8 ⟨rfl, hB⟩
      have HM8 := Lib.hid (HM.out.mono hB)
      have HB8 := Lib.hid (btr HB7.out hB)
      have HS8 := Lib.hid (btr HS7.out hB)
      clear hB g7 z7 HM HS7
      generalize hec : errC J = ec at *
      clear hec
      obtain ⟨c10, c11, zb1⟩ := HL1.out _ (btr HS6.out HS8.out)
      obtain ⟨c20, c21, zb2⟩ := HL2.out _ HS8.out
      by_cases hq : ec = 0
      · subst hq
        obtain ⟨hm1, hm2, hm3, hm4⟩ := HM2.out (by first | trivial | rfl)
        have HC0 := Lib.hid hm1; have HLM := Lib.hid hm2; have HVM := Lib.hid hm3; have HSE := Lib.hid hm4
        clear hm1 hm2 hm3 hm4
        obtain ⟨g8, z8⟩ := HGQ.out _ HB8.out
        go_wp2_with fail
        refine (HRC.out _ m _ (btr HB0.out HB8.out) HSM.out HM8.out HLM.out).mono ?_
        rw [HC0.out]
        rintro e w9 ⟨rfl, hB⟩
        have HM9 := Lib.hid (HM8.out.mono hB)
        have HB9 := Lib.hid (btr HB8.out hB)
        clear hB g8 z8 HM8
        generalize chainV J m = cv at *
        obtain ⟨lo2, hi2⟩ := cv
        dsimp only
        obtain ⟨g9, z9⟩ := HGQ.out _ HB9.out
        go_wp2_with fail
        have hB := bal (bz w9) (.cells #[.int .i64 lo2, .int .i64 hi2] 32)
        generalize w9.alloc (.cells #[.int .i64 lo2, .int .i64 hi2] 32) = w10 at hB ⊢
        have HM10 := Lib.hid (HM9.out.mono hB)
        have HB10 := Lib.hid (btr HB9.out hB)
        generalize w9.heap.size = b3
        clear hB g9 z9 HM9
        obtain ⟨g10, z10⟩ := HGQ.out _ HB10.out
        refine (HDY.out _ (btr HB0.out HB10.out) HSM.out).mono ?_
        rintro e w11 ⟨ud, rfl, hr, hB⟩
        obtain ⟨ad, cd, hu⟩ := exI hr.rd _ rfl
        subst hu
        have HD11 := Lib.hid hr.rd
        have HM11 := Lib.hid (HM10.out.mono hB)
        have HB11 := Lib.hid (btr HB10.out hB)
        clear hB hr g10 z10 HM10
        obtain ⟨g11, z11⟩ := HGQ.out _ HB11.out
        go_upto_region 13 with fail
        refine wp_region_flow [] [([0, 1, 2, 3, 4, 6, 7], 5, true), ([], 8, true), ([9, 10, 11], 12, true)] [13, 14] (by kernel_rfl) (by kernel_rfl) ?_
        intro wc hBc hh
        clear hh
        have HBC := Lib.hid (btr HB11.out hBc)
        have HMC := Lib.hid (HM11.out.mono hBc)
        have HDC := Lib.hid (HD11.out.mono hBc)
        have hL := @Later.cell wc
        have k1 := (hBc.cell (p := ⟨w.heap.size, 0, none⟩) z11).trans g11
        have z1 := Nat.lt_of_lt_of_le z11 hBc.size
        clear hBc g11 z11 HM11 HD11
        simp only [flowP, flow, pickL, List.getElem?_cons_succ, List.getElem?_cons_zero]
        refine wpQuiet_nil ?_
        repeat (go_big_quiet_step (fail))
        refine wpQuiet_nil ?_
        go_wp2_with fail
        refine (HSU.out _ _ m _ (by first | trivial | rfl) HMC.out HLM.out HVM.out HDC.out).mono ?_
        rw [HSE.out]
        rintro e w12 ⟨rfl, rfl⟩
        go_wp2
        refine seg_grow ⟨⟨_, Below.refl _ _⟩, rfl⟩ ?_
        refine wpQuiet_nil ?_
        go_wp2_with fail
        refine (HTK.out _ _ (btr HB0.out HBC.out) (by first | trivial | rfl) HDC.out).mono ?_
        rintro e w13 ⟨rfl, hB⟩
        have HS13 := Lib.hid hB
        clear hB
        go_wp2
        refine seg_grow ⟨⟨_, HS13.out⟩, rfl⟩ ?_
        repeat (go_big_quiet_step (fail))
        refine wpQuiet_nil ?_
        go_wp2_with fail
        refine (HWK.out _).mono ?_
        rintro e w14 ⟨rfl, hB⟩
        have HS14 := Lib.hid (btr HS13.out hB)
        clear hB
        go_wp2
        refine seg_grow ⟨⟨_, HS14.out⟩, rfl⟩ ?_
        repeat (go_big_quiet_step (fail))
        refine wpQuiet_nil ?_
        refine only_done ?_
        clear hL k1 z1
        go_wp2_with fail
        go_ret
        exact ⟨rfl, btr HB0.out (btr HBC.out HS14.out)⟩
      · have t3 : (ec != 0) = true := by simp [hq]
        have hm0 := HM1.out hq
        subst hm0
        clear hq
        go_wp2_with fail
        refine (HWK.out _).mono ?_
        rintro e w10 ⟨rfl, hB⟩
        have HB10 := Lib.hid (btr HB0.out (btr HB8.out hB))
        clear hB
        go_wp2_with fail
        go_ret
        exact ⟨rfl, HB10.out⟩
end Go.Proofs.YteknehlkdgamjaaGreat
