/- PlanEnds, in terms of Works: the chains that are returned prove both ends of the length; no condition. -/
import Derived.Test.YteknehlkdgamjaaGreatMHwz
import Derived.Test.YteknehlkdgamjaaGreatMEn
namespace Go.Proofs.YteknehlkdgamjaaGreat
open Go.RowKit Go.Shelf

theorem chainV_of {J : List Job} {l : List Nat} (h : chainC J (ints l) = 0) : chainV J (ints l) = (sumN (loD J) l, sumN (hiD J) l) := by
  unfold chainV; rw [if_pos h, sumTo_ints, sumTo_ints]
theorem ends_true {J : List Job} (h0 : errC J = 0) {w w' : World} {e : Ending} (h : ChainOut J true w e w') :
    ∃ u m q, e = .returned (.tuple #[u, .int .i64 0]) ∧ RdI w' .i64 u m ∧ chainC J m = 0 ∧ m.length ≤ 1000 ∧ chainV J m = (q, takes J (hiD J)) ∧ q ≤ takes J (loD J) ∧ Below w.heap.size w w' := by
  obtain ⟨h | h, hB⟩ := h
  · exact absurd h0 h.1
  · obtain ⟨_, v, l, rfl, hf, hs, hr⟩ := h
    have hJ := fine_err h0
    have hc := chainC_full hJ.1 h0 hf
    refine ⟨v, ints l, sumN (loD J) l, rfl, hr, hc, ints_le hJ.1 hJ.2 hf.2.1, ?_, ch_takes hJ.1 hJ.2 hf.2.1, hB⟩
    rw [chainV_of hc]; simp at hs; rw [hs]
theorem ends_false {J : List Job} (h0 : errC J = 0) {w w' : World} {e : Ending} (h : ChainOut J false w e w') :
    ∃ u m q, e = .returned (.tuple #[u, .int .i64 0]) ∧ RdI w' .i64 u m ∧ chainC J m = 0 ∧ m.length ≤ 1000 ∧ chainV J m = (takes J (loD J), q) ∧ q ≤ takes J (hiD J) ∧ Below w.heap.size w w' := by
  obtain ⟨h | h, hB⟩ := h
  · exact absurd h0 h.1
  · obtain ⟨_, v, l, rfl, hf, hs, hr⟩ := h
    have hJ := fine_err h0
    have hc := chainC_full hJ.1 h0 hf
    refine ⟨v, ints l, sumN (hiD J) l, rfl, hr, hc, ints_le hJ.1 hJ.2 hf.2.1, ?_, ch_takes hJ.1 hJ.2 hf.2.1, hB⟩
    rw [chainV_of hc]; simp at hs; rw [hs]
set_option maxRecDepth 100000 in
set_option maxHeartbeats 6400000 in
theorem planends_core (hwk : WorksSaid) (v : Value) (J : List Job) (w : World) (hx0 : RdJ w v J) :
    Calls Tryz.prog 7 #[.agg #[v]] w fun e w' => e = .returned (.bool true) ∧ Below w.heap.size w w' := by
  have HWK := Lib.hid hwk
  unfold WorksSaid at HWK
  have HFI := Lib.hid (fun wz (h : Below w.heap.size w wz) => fine_any v J wz (hx0.mono h))
  have HFT := Lib.hid (fun h => fineJ_true (J := J) h)
  have HPL0 := Lib.hid (fun wz (h : Below w.heap.size w wz) (hs : SmJ J) => plength_any v J wz (hx0.mono h) hs)
  have HPC := Lib.hid (fun y m wz (h : Below w.heap.size w wz) (hs : SmJ J) (hy : RdI wz .i64 y m) (hl : m.length ≤ 1000) => pcheckchain_any v y J m wz (hx0.mono h) hy hl hs)
  have HRC := Lib.hid (fun y m wz (h : Below w.heap.size w wz) (hs : SmJ J) (hy : RdI wz .i64 y m) (hl : m.length ≤ 1000) => rcheckchain_any v y J m wz (hx0.mono h) hy hl hs)
  have HCT := Lib.hid (fun wz (h : Below w.heap.size w wz) (hs : SmJ J) => pchain_any v J true wz (hx0.mono h) hs)
  have HCF := Lib.hid (fun wz (h : Below w.heap.size w wz) (hs : SmJ J) => pchain_any v J false wz (hx0.mono h) hs)
  have HOT0 := Lib.hid (fun (h0 : errC J = 0) wz w' e (h : ChainOut J true wz e w') => ends_true h0 h)
  have HOF0 := Lib.hid (fun (h0 : errC J = 0) wz w' e (h : ChainOut J false wz e w') => ends_false h0 h)
  have HLE := Lib.hid (fun (h0 : errC J = 0) => show lenR J = (takes J (loD J), takes J (hiD J)) from by unfold lenR; rw [if_pos h0])
  obtain ⟨a, c, rfl⟩ := hx0.sl
  clear hx0 hwk
  obtain ⟨n, hn⟩ : ∃ n, n = J.length := ⟨_, rfl⟩
  rw [← hn] at HFI HPL0 HPC HRC HCT HCF ⊢
  clear hn
  unfold RetP at HPC HRC
  have HB0 := Lib.hid (bal (bz w) (.cells #[.slice a n c] 24))
  have gq : (w.alloc (.cells #[.slice a n c] 24)).cell? ⟨w.heap.size, 0, none⟩ = some (.slice a n c) := cnew rfl rfl
  have zq : w.heap.size < (w.alloc (.cells #[.slice a n c] 24)).heap.size := by simp
  generalize hgr : fineJ J = gr at *
  clear hgr
  go_enter Tryz.func7, Tryz.ntmps7
  go_wp2_with fail
  generalize w.alloc (.cells #[.slice a n c] 24) = w1 at *
  have HGQ := Lib.hid (fun (wz : World) (h : Below w1.heap.size w1 wz) => (⟨(h.cell (p := ⟨w.heap.size, 0, none⟩) zq).trans gq, Nat.lt_of_lt_of_le zq h.size⟩ : wz.cell? ⟨w.heap.size, 0, none⟩ = some (.slice a n c) ∧ w.heap.size < wz.heap.size))
  refine (HFI.out _ HB0.out).mono ?_
  rintro e w2 ⟨rfl, hB⟩
  have HBw2 := Lib.hid hB
  clear hB gq zq
  cases gr with
  | false =>
    go_wp2_with fail
    refine (HWK.out _).mono ?_
    rintro e w3 ⟨rfl, hB⟩
    have HB3 := Lib.hid (btr HB0.out (btr HBw2.out hB))
    clear hB
    go_wp2_with fail
    go_ret
    exact ⟨rfl, HB3.out⟩
  | true =>
    obtain ⟨hsm, h0⟩ := HFT.out (by first | trivial | rfl)
    have HSM := Lib.hid hsm
    have HOT := Lib.hid (HOT0.out h0)
    have HOF := Lib.hid (HOF0.out h0)
    have HLE2 := HLE.out h0
    have HPL1 := HPL0.out
    rw [HLE2, h0] at HPL1
    dsimp only at HPL1
    have HPL := Lib.hid HPL1
    clear hsm h0 HLE2 HPL1 HPL0 HOT0 HOF0 HLE
    generalize takes J (loD J) = T1 at *
    generalize takes J (hiD J) = T2 at *
    obtain ⟨g, z⟩ := HGQ.out _ HBw2.out
    go_wp2_with fail
    refine (HPL.out _ (btr HB0.out HBw2.out) HSM.out).mono ?_
    rintro e w3 ⟨rfl, hB⟩
    clear g z
    have HBw3 := Lib.hid (btr HBw2.out hB)
    clear HBw2
    clear hB
    obtain ⟨g, z⟩ := HGQ.out _ HBw3.out
    go_wp2_with fail
    have hq0 : (w3.alloc (.cells #[.int .i64 T1, .int .i64 T2] 32)).cell? ⟨w3.heap.size, 0, none⟩ = some (.int .i64 T1) := cnew rfl rfl
    have hq1 : (w3.alloc (.cells #[.int .i64 T1, .int .i64 T2] 32)).cell? ⟨w3.heap.size, 0 + 1, none⟩ = some (.int .i64 T2) := cnew rfl rfl
    have zq : w3.heap.size < (w3.alloc (.cells #[.int .i64 T1, .int .i64 T2] 32)).heap.size := by simp
    have hB := bal (bz w3) (.cells #[.int .i64 T1, .int .i64 T2] 32)
    generalize w3.alloc (.cells #[.int .i64 T1, .int .i64 T2] 32) = w4 at hq0 hq1 zq hB ⊢
    have HBw4 := Lib.hid (btr HBw3.out hB)
    clear HBw3
    generalize w3.heap.size = b0 at hq0 hq1 zq ⊢
    have HN := Lib.hid (fun (wz : World) (h : Below w4.heap.size w4 wz) => (⟨(h.cell (p := ⟨b0, 0, none⟩) zq).trans hq0, (h.cell (p := ⟨b0, 0 + 1, none⟩) zq).trans hq1, Nat.lt_of_lt_of_le zq h.size⟩ : wz.cell? ⟨b0, 0, none⟩ = some (.int .i64 T1) ∧ wz.cell? ⟨b0, 0 + 1, none⟩ = some (.int .i64 T2) ∧ b0 < wz.heap.size))
    clear hq0 hq1 zq hB
    have HSNw4 := Lib.hid (bz w4)
    clear g z
    obtain ⟨g, z⟩ := HGQ.out _ HBw4.out
    refine (HCT.out _ (btr HB0.out HBw4.out) HSM.out).mono ?_
    intro e w5 hO
    obtain ⟨uA, mA, qA, rfl, hm, h1, h2, h3, h4, hB⟩ := HOT.out _ _ _ hO
    obtain ⟨aA, cA, hu⟩ := exI hm _ rfl
    subst hu
    have HAw5 := Lib.hid hm; have HA1 := Lib.hid h1; have HA2 := Lib.hid h2; have HA3 := Lib.hid h3; have HA4 := Lib.hid h4
    clear hO hm h1 h2 h3 h4 g z
    have HBw5 := Lib.hid (btr HBw4.out hB)
    have HSNw5 := Lib.hid (btr HSNw4.out hB)
    clear HBw4 HSNw4
    clear hB
    obtain ⟨g, z⟩ := HGQ.out _ HBw5.out
    go_wp2_with fail
    refine (HCF.out _ (btr HB0.out HBw5.out) HSM.out).mono ?_
    intro e w6 hO
    obtain ⟨uD, mD, qD, rfl, hm, h1, h2, h3, h4, hB⟩ := HOF.out _ _ _ hO
    obtain ⟨aD, cD, hu⟩ := exI hm _ rfl
    subst hu
    have HDw6 := Lib.hid hm; have HD1 := Lib.hid h1; have HD2 := Lib.hid h2; have HD3 := Lib.hid h3; have HD4 := Lib.hid h4
    clear hO hm h1 h2 h3 h4 g z
    have HBw6 := Lib.hid (btr HBw5.out hB)
    have HSNw6 := Lib.hid (btr HSNw5.out hB)
    have HAw6 := Lib.hid (HAw5.out.mono hB)
    clear HBw5 HSNw5 HAw5
    clear hB
    obtain ⟨g, z⟩ := HGQ.out _ HBw6.out
    go_wp2_with fail
    refine (HPC.out _ mA _ (btr HB0.out HBw6.out) HSM.out HAw6.out HA2.out).mono ?_
    rw [HA1.out, HA3.out]
    dsimp only
    rintro e w7 ⟨rfl, hB⟩
    clear g z
    have HBw7 := Lib.hid (btr HBw6.out hB)
    have HSNw7 := Lib.hid (btr HSNw6.out hB)
    have HAw7 := Lib.hid (HAw6.out.mono hB)
    have HDw7 := Lib.hid (HDw6.out.mono hB)
    clear HBw6 HSNw6 HAw6 HDw6
    clear hB
    obtain ⟨g, z⟩ := HGQ.out _ HBw7.out
    go_wp2_with fail
    have hq0 : (w7.alloc (.cells #[.int .i64 qA, .int .i64 T2] 32)).cell? ⟨w7.heap.size, 0, none⟩ = some (.int .i64 qA) := cnew rfl rfl
    have hq1 : (w7.alloc (.cells #[.int .i64 qA, .int .i64 T2] 32)).cell? ⟨w7.heap.size, 0 + 1, none⟩ = some (.int .i64 T2) := cnew rfl rfl
    have zq : w7.heap.size < (w7.alloc (.cells #[.int .i64 qA, .int .i64 T2] 32)).heap.size := by simp
    have hB := bal (bz w7) (.cells #[.int .i64 qA, .int .i64 T2] 32)
    generalize w7.alloc (.cells #[.int .i64 qA, .int .i64 T2] 32) = w8 at hq0 hq1 zq hB ⊢
    have HBw8 := Lib.hid (btr HBw7.out hB)
    have HSNw8 := Lib.hid (btr HSNw7.out hB)
    have HAw8 := Lib.hid (HAw7.out.mono hB)
    have HDw8 := Lib.hid (HDw7.out.mono hB)
    clear HBw7 HSNw7 HAw7 HDw7
    generalize w7.heap.size = b1 at hq0 hq1 zq ⊢
    have HX := Lib.hid (fun (wz : World) (h : Below w8.heap.size w8 wz) => (⟨(h.cell (p := ⟨b1, 0, none⟩) zq).trans hq0, (h.cell (p := ⟨b1, 0 + 1, none⟩) zq).trans hq1, Nat.lt_of_lt_of_le zq h.size⟩ : wz.cell? ⟨b1, 0, none⟩ = some (.int .i64 qA) ∧ wz.cell? ⟨b1, 0 + 1, none⟩ = some (.int .i64 T2) ∧ b1 < wz.heap.size))
    clear hq0 hq1 zq hB
    have HSXw8 := Lib.hid (bz w8)
    clear g z
    obtain ⟨g, z⟩ := HGQ.out _ HBw8.out
    refine (HPC.out _ mD _ (btr HB0.out HBw8.out) HSM.out HDw8.out HD2.out).mono ?_
    rw [HD1.out, HD3.out]
    dsimp only
    rintro e w9 ⟨rfl, hB⟩
    clear g z
    have HBw9 := Lib.hid (btr HBw8.out hB)
    have HSNw9 := Lib.hid (btr HSNw8.out hB)
    have HAw9 := Lib.hid (HAw8.out.mono hB)
    have HDw9 := Lib.hid (HDw8.out.mono hB)
    have HSXw9 := Lib.hid (btr HSXw8.out hB)
    clear HBw8 HSNw8 HAw8 HDw8 HSXw8
    clear hB
    obtain ⟨g, z⟩ := HGQ.out _ HBw9.out
    go_wp2_with fail
    have hq0 : (w9.alloc (.cells #[.int .i64 T1, .int .i64 qD] 32)).cell? ⟨w9.heap.size, 0, none⟩ = some (.int .i64 T1) := cnew rfl rfl
    have hq1 : (w9.alloc (.cells #[.int .i64 T1, .int .i64 qD] 32)).cell? ⟨w9.heap.size, 0 + 1, none⟩ = some (.int .i64 qD) := cnew rfl rfl
    have zq : w9.heap.size < (w9.alloc (.cells #[.int .i64 T1, .int .i64 qD] 32)).heap.size := by simp
    have hB := bal (bz w9) (.cells #[.int .i64 T1, .int .i64 qD] 32)
    generalize w9.alloc (.cells #[.int .i64 T1, .int .i64 qD] 32) = w10 at hq0 hq1 zq hB ⊢
    have HBw10 := Lib.hid (btr HBw9.out hB)
    have HSNw10 := Lib.hid (btr HSNw9.out hB)
    have HAw10 := Lib.hid (HAw9.out.mono hB)
    have HDw10 := Lib.hid (HDw9.out.mono hB)
    have HSXw10 := Lib.hid (btr HSXw9.out hB)
    clear HBw9 HSNw9 HAw9 HDw9 HSXw9
    generalize w9.heap.size = b2 at hq0 hq1 zq ⊢
    have HY := Lib.hid (fun (wz : World) (h : Below w10.heap.size w10 wz) => (⟨(h.cell (p := ⟨b2, 0, none⟩) zq).trans hq0, (h.cell (p := ⟨b2, 0 + 1, none⟩) zq).trans hq1, Nat.lt_of_lt_of_le zq h.size⟩ : wz.cell? ⟨b2, 0, none⟩ = some (.int .i64 T1) ∧ wz.cell? ⟨b2, 0 + 1, none⟩ = some (.int .i64 qD) ∧ b2 < wz.heap.size))
    clear hq0 hq1 zq hB
    have HSYw10 := Lib.hid (bz w10)
    clear g z
    obtain ⟨g, z⟩ := HGQ.out _ HBw10.out
    refine (HRC.out _ mA _ (btr HB0.out HBw10.out) HSM.out HAw10.out HA2.out).mono ?_
    rw [HA1.out, HA3.out]
    dsimp only
    rintro e w11 ⟨rfl, hB⟩
    clear g z
    have HBw11 := Lib.hid (btr HBw10.out hB)
    have HSNw11 := Lib.hid (btr HSNw10.out hB)
    have HAw11 := Lib.hid (HAw10.out.mono hB)
    have HDw11 := Lib.hid (HDw10.out.mono hB)
    have HSXw11 := Lib.hid (btr HSXw10.out hB)
    have HSYw11 := Lib.hid (btr HSYw10.out hB)
    clear HBw10 HSNw10 HAw10 HDw10 HSXw10 HSYw10
    clear hB
    obtain ⟨g, z⟩ := HGQ.out _ HBw11.out
    go_wp2_with fail
    have hq0 : (w11.alloc (.cells #[.int .i64 qA, .int .i64 T2] 32)).cell? ⟨w11.heap.size, 0, none⟩ = some (.int .i64 qA) := cnew rfl rfl
    have hq1 : (w11.alloc (.cells #[.int .i64 qA, .int .i64 T2] 32)).cell? ⟨w11.heap.size, 0 + 1, none⟩ = some (.int .i64 T2) := cnew rfl rfl
    have zq : w11.heap.size < (w11.alloc (.cells #[.int .i64 qA, .int .i64 T2] 32)).heap.size := by simp
    have hB := bal (bz w11) (.cells #[.int .i64 qA, .int .i64 T2] 32)
    generalize w11.alloc (.cells #[.int .i64 qA, .int .i64 T2] 32) = w12 at hq0 hq1 zq hB ⊢
    have HBw12 := Lib.hid (btr HBw11.out hB)
    have HSNw12 := Lib.hid (btr HSNw11.out hB)
    have HAw12 := Lib.hid (HAw11.out.mono hB)
    have HDw12 := Lib.hid (HDw11.out.mono hB)
    have HSXw12 := Lib.hid (btr HSXw11.out hB)
    have HSYw12 := Lib.hid (btr HSYw11.out hB)
    clear HBw11 HSNw11 HAw11 HDw11 HSXw11 HSYw11
    generalize w11.heap.size = b3 at hq0 hq1 zq ⊢
    have HU := Lib.hid (fun (wz : World) (h : Below w12.heap.size w12 wz) => (⟨(h.cell (p := ⟨b3, 0, none⟩) zq).trans hq0, (h.cell (p := ⟨b3, 0 + 1, none⟩) zq).trans hq1, Nat.lt_of_lt_of_le zq h.size⟩ : wz.cell? ⟨b3, 0, none⟩ = some (.int .i64 qA) ∧ wz.cell? ⟨b3, 0 + 1, none⟩ = some (.int .i64 T2) ∧ b3 < wz.heap.size))
    clear hq0 hq1 zq hB
    have HSUw12 := Lib.hid (bz w12)
    clear g z
    obtain ⟨g, z⟩ := HGQ.out _ HBw12.out
    refine (HRC.out _ mD _ (btr HB0.out HBw12.out) HSM.out HDw12.out HD2.out).mono ?_
    rw [HD1.out, HD3.out]
    dsimp only
    rintro e w13 ⟨rfl, hB⟩
    clear g z
    have HBw13 := Lib.hid (btr HBw12.out hB)
    have HSNw13 := Lib.hid (btr HSNw12.out hB)
    have HAw13 := Lib.hid (HAw12.out.mono hB)
    have HDw13 := Lib.hid (HDw12.out.mono hB)
    have HSXw13 := Lib.hid (btr HSXw12.out hB)
    have HSYw13 := Lib.hid (btr HSYw12.out hB)
    have HSUw13 := Lib.hid (btr HSUw12.out hB)
    clear HBw12 HSNw12 HAw12 HDw12 HSXw12 HSYw12 HSUw12
    clear hB
    obtain ⟨g, z⟩ := HGQ.out _ HBw13.out
    go_upto_region 12 with fail
    have hB := bal (bz w13) (.cells #[.int .i64 T1, .int .i64 qD] 32)
    have hq0 : (w13.alloc (.cells #[.int .i64 T1, .int .i64 qD] 32)).cell? ⟨w13.heap.size, 0, none⟩ = some (.int .i64 T1) := cnew rfl rfl
    have hq1 : (w13.alloc (.cells #[.int .i64 T1, .int .i64 qD] 32)).cell? ⟨w13.heap.size, 0 + 1, none⟩ = some (.int .i64 qD) := cnew rfl rfl
    have zq : w13.heap.size < (w13.alloc (.cells #[.int .i64 T1, .int .i64 qD] 32)).heap.size := by simp
    generalize w13.alloc (.cells #[.int .i64 T1, .int .i64 qD] 32) = w14 at hq0 hq1 zq hB ⊢
    have HBw14 := Lib.hid (btr HBw13.out hB)
    have HSNw14 := Lib.hid (btr HSNw13.out hB)
    have HAw14 := Lib.hid (HAw13.out.mono hB)
    have HDw14 := Lib.hid (HDw13.out.mono hB)
    have HSXw14 := Lib.hid (btr HSXw13.out hB)
    have HSYw14 := Lib.hid (btr HSYw13.out hB)
    have HSUw14 := Lib.hid (btr HSUw13.out hB)
    clear HBw13 HSNw13 HAw13 HDw13 HSXw13 HSYw13 HSUw13
    generalize w13.heap.size = b4 at hq0 hq1 zq ⊢
    clear hB g z
    obtain ⟨N0, N1, Nz⟩ := HN.out _ HSNw14.out
    obtain ⟨X0, X1, Xz⟩ := HX.out _ HSXw14.out
    obtain ⟨Y0, Y1, Yz⟩ := HY.out _ HSYw14.out
    obtain ⟨U0, U1, Uz⟩ := HU.out _ HSUw14.out
    have d1 : decide (qA ≤ T1) = true := decide_eq_true HA4.out
    have d2 : decide (qD ≤ T2) = true := decide_eq_true HD4.out
    go_wp2_with fail
    refine (HWK.out _).mono ?_
    rintro e w15 ⟨rfl, hB⟩
    have HB15 := Lib.hid (btr HB0.out (btr HBw14.out hB))
    clear hB
    go_wp2_with fail
    go_ret
    exact ⟨rfl, HB15.out⟩
end Go.Proofs.YteknehlkdgamjaaGreat
