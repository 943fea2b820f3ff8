/- PlanTurned, in terms of Works: jobs that wait the other way round; no condition. -/
import Derived.Test.YteknehlkdgamjaaGreatMGV
import Derived.Test.YteknehlkdgamjaaGreatMHwz
import Derived.Test.YteknehlkdgamjaaGreatMLmz
import Derived.Test.YteknehlkdgamjaaGreatMS3
import Derived.Test.YteknehlkdgamjaaGreatMGG
namespace Go.Proofs.YteknehlkdgamjaaGreat
open Go.RowKit Go.Shelf

theorem fine_sm {J : List Job} (hJ : FineJ J) : SmJ J := by
  refine ⟨by have := hJ.n12; omega, fun i => ?_⟩
  by_cases hi : i < J.length
  · have := hJ.ws_le hi; omega
  · unfold job; rw [List.getElem?_eq_none (by omega)]; simp
theorem turn_err {J : List Job} (h0 : errC J = 0) : errC (turnJ J) = 0 :=
  err_fine (turn_fine (fine_err h0).1) (turn_cir (fine_err h0).1 (fine_err h0).2)
theorem turn_lenR {J : List Job} (h0 : errC J = 0) : lenR (turnJ J) = (takes J (loD J), takes J (hiD J)) := by
  obtain ⟨hJ, hc⟩ := fine_err h0
  have hlo : ∀ i, i < J.length → 0 ≤ loD J i := fun i hi => (hJ.days i hi).1
  have hhi : ∀ i, i < J.length → 0 ≤ hiD J i := fun i hi => (dayD_bd hJ true hi).1
  unfold lenR
  rw [if_pos (turn_err h0), ← takes_turn hJ hc hlo, ← takes_turn hJ hc hhi]
  rw [takM_same (turn_fine hJ) (turn_cir hJ hc) (D := loD (turnJ J)) (E := loD J) (fun i hi => (turn_days (by rwa [turn_len] at hi)).1), takM_same (turn_fine hJ) (turn_cir hJ hc) (D := hiD (turnJ J)) (E := hiD J) (fun i hi => (turn_days (by rwa [turn_len] at hi)).2)]
theorem turn_sta {J : List Job} (h0 : errC J = 0) {i : Nat} (hi : i < J.length) : ((staL (turnJ J))[i]?.getD (0, 0)).2 = tl J (hiD J) i := by
  obtain ⟨hJ, hc⟩ := fine_err h0
  unfold staL
  rw [if_pos (turn_err h0), staP_elt (by rwa [turn_len])]
  exact begM_same (turn_fine hJ) (turn_cir hJ hc) (fun i hi => (turn_days (by rwa [turn_len] at hi)).2) (by rwa [turn_len])
theorem turn_sta_len {J : List Job} (h0 : errC J = 0) : (staL (turnJ J)).length = J.length := by
  unfold staL; rw [if_pos (turn_err h0), staP_len, turn_len]
/-- What Free returns. -/
def FreP (J : List Job) (l : List Nat) : Prop := ∃ nx bf F G, MatI J nx bf J.length ∧ FrI J nx bf F G [] J.length 0 ∧ l = frTo F G J.length
theorem free_outP {J : List Job} (h0 : errC J = 0) {w w' : World} {e : Ending} (h : FreeOut J w e w') :
    ∃ u l, e = .returned (.tuple #[u, .int .i64 0]) ∧ RdI w' .i64 u (ints l) ∧ FreP J l ∧ Below w.heap.size w w' := by
  obtain ⟨h | h, hB⟩ := h
  · exact absurd h0 h.1
  · obtain ⟨_, v, nx, bf, F, G, rfl, h1, h2, h3⟩ := h
    exact ⟨v, _, rfl, h3, ⟨nx, bf, F, G, h1, h2, rfl⟩, hB⟩
theorem FreP.turn {J : List Job} (h0 : errC J = 0) {l m : List Nat} (h : FreP J l) (h' : FreP (turnJ J) m) : m.length = l.length := by
  obtain ⟨nx, bf, F, G, h1, h2, rfl⟩ := h
  obtain ⟨nx', bf', F', G', h1', h2', rfl⟩ := h'
  rw [turn_len] at h1' h2' ⊢
  exact free_turn_len (fine_err h0).1 (fine_err h0).2 h1 h2 h1' h2'
theorem turn_kindV {J : List Job} (h0 : errC J = 0) {k : Nat} (hk : k < J.length) : kindV (turnJ J) (k : Int) = kindR J k ∧ kindC (turnJ J) (k : Int) = 0 := by
  obtain ⟨h1, h2⟩ := kind_val (turn_err h0) (k := k) (by rwa [turn_len])
  exact ⟨h1.trans (kind_turn (fine_err h0).1 (fine_err h0).2 hk), h2⟩
theorem late_turn {J : List Job} (h0 : errC J = 0) {i : Nat} (hi : i < J.length) :
    latF J (takes J (hiD J)) i = takes J (hiD J) - (job J i).hi - tl J (hiD J) i ∧ 0 ≤ (job J i).hi ∧ (job J i).hi ≤ 1000 ∧ 0 ≤ tl J (hiD J) i ∧ tl J (hiD J) i ≤ 12000 := by
  obtain ⟨hJ, hc⟩ := fine_err h0
  have h1 := dayD_bd hJ true hi
  have h2 := tl_nn J (hiD J) i
  have h3 := tl_bd hJ (D := hiD J) (fun i hi => (dayD_bd hJ true hi).2) hi
  have h7 : hiD J i = (job J i).hi := rfl
  have h8 : dayD J true i = (job J i).hi := rfl
  unfold latF
  omega
set_option maxRecDepth 100000 in
set_option maxHeartbeats 25600000 in
theorem planturned_core (hwk : WorksSaid) (v : Value) (J : List Job) (jb : Int) (w : World) (hx0 : RdJ w v J) (hjb : (Lit.int .u8 jb).wf = true) :
    Calls Tryz.prog 10 #[.agg #[v], .int .u8 jb] w fun e w' => e = .returned (.bool true) ∧ Below w.heap.size w w' := by
  have HWK := Lib.hid hwk
  unfold WorksSaid at HWK
  have HJB : 0 ≤ jb ∧ jb ≤ 255 := by simp [Lit.wf] at hjb; exact hjb
  have HXJ := Lib.hid hx0
  have HHV := Lib.hid (fun wz (h : Below w.heap.size w wz) => heavy_any v J wz (hx0.mono h))
  have HFI := Lib.hid (fun wz (h : Below w.heap.size w wz) => fine_any v J wz (hx0.mono h))
  have HFT := Lib.hid (fun h => fineJ_true (J := J) h)
  have HRT := Lib.hid (fun wz (h : Below w.heap.size w wz) (h0 : errC J = 0) => rturned_any v J wz (hx0.mono h) (fine_err h0).1)
  have HPL := Lib.hid (fun wz (h : Below w.heap.size w wz) (hs : SmJ J) => plength_any v J wz (hx0.mono h) hs)
  have HPF := Lib.hid (fun wz (h : Below w.heap.size w wz) (hs : SmJ J) => pfree_any v J wz (hx0.mono h) hs)
  have HRL := Lib.hid (fun wz (h : Below w.heap.size w wz) (h0 : errC J = 0) => rlengthof_any v J wz (hx0.mono h) (fine_err h0).1 (fine_err h0).2)
  have HPT := Lib.hid (fun day wz (h : Below w.heap.size w wz) (hs : SmJ J) (h1 : -(2 ^ 42) ≤ day) (h2 : day ≤ 2 ^ 42) => platest_any v J day wz (hx0.mono h) hs h1 h2)
  have HKD := Lib.hid (fun i wz (h : Below w.heap.size w wz) (hs : SmJ J) => pkind_any v J i wz (hx0.mono h) hs)
  have HTS : Hid (errC J = 0 → SmJ (turnJ J)) := Lib.hid (fun h0 => fine_sm (turn_fine (fine_err h0).1))
  have HXL := Lib.hid (fun u wz (h0 : errC J = 0) (h : RdJ wz u (turnJ J)) => plength_any u _ wz h (HTS.out h0))
  have HXF := Lib.hid (fun u wz (h0 : errC J = 0) (h : RdJ wz u (turnJ J)) => pfree_any u _ wz h (HTS.out h0))
  have HXS := Lib.hid (fun u wz (h0 : errC J = 0) (h : RdJ wz u (turnJ J)) => pstarts_any u _ wz h (HTS.out h0))
  have HXK := Lib.hid (fun u i wz (h0 : errC J = 0) (h : RdJ wz u (turnJ J)) => pkind_any u _ i wz h (HTS.out h0))
  have HLE := Lib.hid (fun (h0 : errC J = 0) => show lenR J = (takes J (loD J), takes J (hiD J)) from by unfold lenR; rw [if_pos h0])
  have HLX := Lib.hid (fun (h0 : errC J = 0) => turn_lenR h0)
  have HEX := Lib.hid (fun (h0 : errC J = 0) => turn_err h0)
  have HSX := Lib.hid (fun (h0 : errC J = 0) i (hi : i < J.length) => turn_sta h0 hi)
  have HSY := Lib.hid (fun (h0 : errC J = 0) => turn_sta_len h0)
  have HFO := Lib.hid (fun (h0 : errC J = 0) wz w' e (h : FreeOut J wz e w') => free_outP h0 h)
  have HFX := Lib.hid (fun (h0 : errC J = 0) wz w' e (h : FreeOut (turnJ J) wz e w') => free_outP (turn_err h0) h)
  have HFE := Lib.hid (fun (h0 : errC J = 0) l m (h : FreP J l) (h' : FreP (turnJ J) m) => h.turn h0 h')
  have HTB := Lib.hid (fun (h0 : errC J = 0) => (⟨takes_nn J (hiD J), takes_bd (fine_err h0).1 (fun i hi => (dayD_bd (fine_err h0).1 true hi).2)⟩ : 0 ≤ takes J (hiD J) ∧ takes J (hiD J) ≤ 13000))
  have HKV := Lib.hid (fun (h0 : errC J = 0) k hk => kind_val (k := k) h0 hk)
  have HKX := Lib.hid (fun (h0 : errC J = 0) k hk => turn_kindV (k := k) h0 hk)
  have HLT := Lib.hid (fun (h0 : errC J = 0) i (hi : i < J.length) => late_turn h0 hi)
  have HC1 := Lib.hid (fun (h0 : errC J = 0) day (hd : takes J (hiD J) ≤ day) => (⟨by unfold latL; rw [if_pos h0, if_neg (by omega)], by unfold latC; rw [if_pos h0, if_neg (by omega)]⟩ : latL J day = fnL (latF J day) J.length ∧ latC J day = 0))
  have HFN := Lib.hid (fun (F : Nat → Int) i (hi : i < J.length) => (show elt (fnL F J.length) i = F i from by simp [elt, fnL, hi]))
  have HKL := Lib.hid (turn_len J)
  obtain ⟨a, c, rfl⟩ := hx0.sl
  clear hx0 hwk hjb HTS
  obtain ⟨n, hn⟩ : ∃ n, n = J.length := ⟨_, rfl⟩
  have HN := Lib.hid hn
  have HN1' : Hid (errC J = 0 → 0 < n ∧ n ≤ 12) := Lib.hid (fun h0 => by have := (fine_err h0).1.n1; have := (fine_err h0).1.n12; omega)
  rw [← hn] at HHV HFI HRT HPL HPF HRL HPT HKD HSX HSY HKV HKX HLT HC1 HFN HKL ⊢
  clear hn
  unfold RetN at HKD HXK
  unfold RetR at HXS
  unfold RetL at HPT
  have HB0 := Lib.hid (bal (bz w) (.cells #[.slice a n c] 24))
  have gq : (w.alloc (.cells #[.slice a n c] 24)).cell? ⟨w.heap.size, 0, none⟩ = some (.slice a n c) := cnew rfl rfl
  have zq : w.heap.size < (w.alloc (.cells #[.slice a n c] 24)).heap.size := by simp
  generalize hgr : fineJ J = gr at *
  clear hgr
  generalize heavyJ J = hv at *
  obtain ⟨hj1, hj2⟩ := HJB
  go_enter Tryz.func10, Tryz.ntmps10
  go_wp2_with fail
  generalize w.alloc (.cells #[.slice a n c] 24) = w1 at *
  have HGQ := Lib.hid (fun (wz : World) (h : Below w1.heap.size w1 wz) => (⟨(h.cell (p := ⟨w.heap.size, 0, none⟩) zq).trans gq, Nat.lt_of_lt_of_le zq h.size⟩ : wz.cell? ⟨w.heap.size, 0, none⟩ = some (.slice a n c) ∧ w.heap.size < wz.heap.size))
  refine (HHV.out _ HB0.out).mono ?_
  rintro e wh ⟨rfl, hB⟩
  have HBwh := Lib.hid hB
  clear hB gq zq
  cases hv with
  | true =>
    go_wp2_with fail
    refine (HWK.out _).mono ?_
    rintro e w3 ⟨rfl, hB⟩
    have HBE := Lib.hid (btr HB0.out (btr HBwh.out hB))
    clear hB
    go_wp2_with fail
    go_ret
    exact ⟨rfl, HBE.out⟩
  | false =>
    obtain ⟨g, z⟩ := HGQ.out _ HBwh.out
    go_wp2_with fail
    refine (HFI.out _ (btr HB0.out HBwh.out)).mono ?_
    rintro e w2 ⟨rfl, hB⟩
    clear g z
    have HBw2 := Lib.hid (btr HBwh.out hB)
    clear HBwh
    clear hB
    cases gr with
    | false =>
      go_wp2_with fail
      refine (HWK.out _).mono ?_
      rintro e w3 ⟨rfl, hB⟩
      have HBE := Lib.hid (btr HB0.out (btr HBw2.out hB))
      clear hB
      go_wp2_with fail
      go_ret
      exact ⟨rfl, HBE.out⟩
    | true =>
      obtain ⟨hsm, h0⟩ := HFT.out (by first | trivial | rfl)
      have HSM := Lib.hid hsm
      have HPL1 := HPL.out
      rw [HLE.out h0, h0] at HPL1
      dsimp only at HPL1
      have HPL2 := Lib.hid (fun wz h => HPL1 wz h hsm)
      have HXL1 := HXL.out
      rw [HLX.out h0, HEX.out h0] at HXL1
      dsimp only at HXL1
      have HXL2 := Lib.hid (fun u wz h => HXL1 u wz h0 h)
      have HXS1 := HXS.out
      rw [HEX.out h0] at HXS1
      have HXS2 := Lib.hid (fun u wz h => HXS1 u wz h0 h)
      have HRT2 := Lib.hid (fun wz h => HRT.out wz h h0)
      have HRL2 := Lib.hid (fun wz h => HRL.out wz h h0)
      have HPF2 := Lib.hid (fun wz h => HPF.out wz h hsm)
      have HXF2 := Lib.hid (fun u wz h => HXF.out u wz h0 h)
      have HXK2 := Lib.hid (fun u i wz h => HXK.out u i wz h0 h)
      have HKD2 := Lib.hid (fun i wz h => HKD.out i wz h hsm)
      have HFO2 := Lib.hid (HFO.out h0); have HFX2 := Lib.hid (HFX.out h0); have HFE2 := Lib.hid (HFE.out h0)
      have HKV2 := Lib.hid (HKV.out h0); have HKX2 := Lib.hid (HKX.out h0); have HLT2 := Lib.hid (HLT.out h0)
      have HSX2 := Lib.hid (HSX.out h0); have HSY2 := Lib.hid (HSY.out h0)
      obtain ⟨hb1, hb2⟩ := HTB.out h0
      have HPT1 := HPT.out (takes J (hiD J))
      rw [(HC1.out h0 _ (Int.le_refl _)).1, (HC1.out h0 _ (Int.le_refl _)).2] at HPT1
      have HPT2 := Lib.hid (fun wz h => HPT1 wz h hsm (by omega) (by omega))
      obtain ⟨hn1, hn12⟩ := HN1'.out h0
      have HN1 := Lib.hid hn1
      clear hn1 hsm h0 HPL1 HPL HXL1 HXL HXS1 HXS HRT HRL HPF HXF HXK HKD HFO HFX HFE HKV HKX HLT HSX HSY HTB HPT1 HPT HC1 HN1' HFT HFI HHV HLE HLX HEX
      generalize takes J (loD J) = T1 at *
      generalize takes J (hiD J) = T2 at *
      generalize latF J T2 = LF at *
      generalize tl J (hiD J) = TL at *
      generalize turnJ J = K at *
      generalize staL K = SK at *
      obtain ⟨g, z⟩ := HGQ.out _ HBw2.out
      go_wp2_with fail
      refine (HRT2.out _ (btr HB0.out HBw2.out)).mono ?_
      rintro e w3 ⟨ux, rfl, hr, hB⟩
      clear g z
      obtain ⟨ax, cx, hu⟩ := hr.sl
      subst hu
      rw [HKL.out] at hr ⊢
      have HKw3 := Lib.hid hr
      clear hr
      have HBw3 := Lib.hid (btr HBw2.out hB)
      clear HBw2
      clear hB
      obtain ⟨g, z⟩ := HGQ.out _ HBw3.out
      go_wp2_with fail
      have hq0 : (w3.alloc (.cells #[.slice ax n cx] 24)).cell? ⟨w3.heap.size, 0, none⟩ = some (.slice ax n cx) := cnew rfl rfl
      have zq : w3.heap.size < (w3.alloc (.cells #[.slice ax n cx] 24)).heap.size := by simp
      have hB := bal (bz w3) (.cells #[.slice ax n cx] 24)
      generalize w3.alloc (.cells #[.slice ax n cx] 24) = w4 at hq0 zq hB ⊢
      have HBw4 := Lib.hid (btr HBw3.out hB)
      have HKw4 := Lib.hid (HKw3.out.mono hB)
      clear HBw3 HKw3
      generalize w3.heap.size = b1 at hq0 zq ⊢
      have HX := Lib.hid (fun (wz : World) (h : Below w4.heap.size w4 wz) => (⟨(h.cell (p := ⟨b1, 0, none⟩) zq).trans hq0, Nat.lt_of_lt_of_le zq h.size⟩ : wz.cell? ⟨b1, 0, none⟩ = some (.slice ax n cx) ∧ b1 < wz.heap.size))
      clear hq0 zq hB
      have HSXw4 := Lib.hid (bz w4)
      refine (HPL2.out _ (btr HB0.out HBw4.out)).mono ?_
      rintro e w5 ⟨rfl, hB⟩
      clear g z
      have HBw5 := Lib.hid (btr HBw4.out hB)
      have HKw5 := Lib.hid (HKw4.out.mono hB)
      have HSXw5 := Lib.hid (btr HSXw4.out hB)
      clear HBw4 HKw4 HSXw4
      clear hB
      obtain ⟨gx, zx⟩ := HX.out _ HSXw5.out
      go_wp2_with fail
      have hq0 : (w5.alloc (.cells #[.int .i64 T1, .int .i64 T2] 32)).cell? ⟨w5.heap.size, 0, none⟩ = some (.int .i64 T1) := cnew rfl rfl
      have hq1 : (w5.alloc (.cells #[.int .i64 T1, .int .i64 T2] 32)).cell? ⟨w5.heap.size, 0 + 1, none⟩ = some (.int .i64 T2) := cnew rfl rfl
      have zq : w5.heap.size < (w5.alloc (.cells #[.int .i64 T1, .int .i64 T2] 32)).heap.size := by simp
      have hB := bal (bz w5) (.cells #[.int .i64 T1, .int .i64 T2] 32)
      generalize w5.alloc (.cells #[.int .i64 T1, .int .i64 T2] 32) = w6 at hq0 hq1 zq hB ⊢
      have HBw6 := Lib.hid (btr HBw5.out hB)
      have HKw6 := Lib.hid (HKw5.out.mono hB)
      have HSXw6 := Lib.hid (btr HSXw5.out hB)
      clear HBw5 HKw5 HSXw5
      generalize w5.heap.size = b2 at hq0 hq1 zq ⊢
      have HM := Lib.hid (fun (wz : World) (h : Below w6.heap.size w6 wz) => (⟨(h.cell (p := ⟨b2, 0, none⟩) zq).trans hq0, (h.cell (p := ⟨b2, 0 + 1, none⟩) zq).trans hq1, Nat.lt_of_lt_of_le zq h.size⟩ : wz.cell? ⟨b2, 0, none⟩ = some (.int .i64 T1) ∧ wz.cell? ⟨b2, 0 + 1, none⟩ = some (.int .i64 T2) ∧ b2 < wz.heap.size))
      clear hq0 hq1 zq hB
      have HSMw6 := Lib.hid (bz w6)
      refine (HXL2.out _ _ HKw6.out).mono ?_
      rintro e w7 ⟨rfl, hB⟩
      clear gx zx
      have HBw7 := Lib.hid (btr HBw6.out hB)
      have HKw7 := Lib.hid (HKw6.out.mono hB)
      have HSXw7 := Lib.hid (btr HSXw6.out hB)
      have HSMw7 := Lib.hid (btr HSMw6.out hB)
      clear HBw6 HKw6 HSXw6 HSMw6
      clear hB
      obtain ⟨g, z⟩ := HGQ.out _ HBw7.out
      go_wp2_with fail
      have hq0 : (w7.alloc (.cells #[.int .i64 T1, .int .i64 T2] 32)).cell? ⟨w7.heap.size, 0, none⟩ = some (.int .i64 T1) := cnew rfl rfl
      have hq1 : (w7.alloc (.cells #[.int .i64 T1, .int .i64 T2] 32)).cell? ⟨w7.heap.size, 0 + 1, none⟩ = some (.int .i64 T2) := cnew rfl rfl
      have zq : w7.heap.size < (w7.alloc (.cells #[.int .i64 T1, .int .i64 T2] 32)).heap.size := by simp
      have hB := bal (bz w7) (.cells #[.int .i64 T1, .int .i64 T2] 32)
      generalize w7.alloc (.cells #[.int .i64 T1, .int .i64 T2] 32) = w8 at hq0 hq1 zq hB ⊢
      have HBw8 := Lib.hid (btr HBw7.out hB)
      have HKw8 := Lib.hid (HKw7.out.mono hB)
      have HSXw8 := Lib.hid (btr HSXw7.out hB)
      have HSMw8 := Lib.hid (btr HSMw7.out hB)
      clear HBw7 HKw7 HSXw7 HSMw7
      generalize w7.heap.size = b3 at hq0 hq1 zq ⊢
      have HO := Lib.hid (fun (wz : World) (h : Below w8.heap.size w8 wz) => (⟨(h.cell (p := ⟨b3, 0, none⟩) zq).trans hq0, (h.cell (p := ⟨b3, 0 + 1, none⟩) zq).trans hq1, Nat.lt_of_lt_of_le zq h.size⟩ : wz.cell? ⟨b3, 0, none⟩ = some (.int .i64 T1) ∧ wz.cell? ⟨b3, 0 + 1, none⟩ = some (.int .i64 T2) ∧ b3 < wz.heap.size))
      clear hq0 hq1 zq hB
      have HSOw8 := Lib.hid (bz w8)
      refine (HPF2.out _ (btr HB0.out HBw8.out)).mono ?_
      intro e w9 hO
      obtain ⟨uf, fl, rfl, hr, hfp, hB⟩ := HFO2.out _ _ _ hO
      obtain ⟨fn, hfn⟩ : ∃ fn, fn = fl.length := ⟨_, rfl⟩
      obtain ⟨af, cf, hu⟩ := exI hr fn (by rw [ints_len, hfn])
      subst hu
      have HFP := Lib.hid hfp; have HFN2 := Lib.hid hfn
      clear hO hr hfp hfn g z
      have HBw9 := Lib.hid (btr HBw8.out hB)
      have HKw9 := Lib.hid (HKw8.out.mono hB)
      have HSXw9 := Lib.hid (btr HSXw8.out hB)
      have HSMw9 := Lib.hid (btr HSMw8.out hB)
      have HSOw9 := Lib.hid (btr HSOw8.out hB)
      clear HBw8 HKw8 HSXw8 HSMw8 HSOw8
      clear hB
      obtain ⟨gx, zx⟩ := HX.out _ HSXw9.out
      go_wp2_with fail
      refine (HXF2.out _ _ HKw9.out).mono ?_
      intro e w10 hO
      obtain ⟨ug, gl, rfl, hr, hgp, hB⟩ := HFX2.out _ _ _ hO
      obtain ⟨ag, cg, hu⟩ := exI hr fn (by rw [ints_len, HFN2.out]; exact HFE2.out _ _ HFP.out hgp)
      subst hu
      clear hO hr hgp gx zx HFP HFN2 HFE2 HFX2 HFO2 HPF2 HXF2
      have HBw10 := Lib.hid (btr HBw9.out hB)
      have HKw10 := Lib.hid (HKw9.out.mono hB)
      have HSXw10 := Lib.hid (btr HSXw9.out hB)
      have HSMw10 := Lib.hid (btr HSMw9.out hB)
      have HSOw10 := Lib.hid (btr HSOw9.out hB)
      clear HBw9 HKw9 HSXw9 HSMw9 HSOw9
      clear hB
      obtain ⟨gx, zx⟩ := HX.out _ HSXw10.out
      go_wp2_with fail
      refine (HXS2.out _ _ HKw10.out).mono ?_
      rintro e w11 ⟨⟨us, rfl, hr⟩, hB⟩
      clear gx zx
      obtain ⟨as', cs, hu⟩ := rdP_lenZ hr
      subst hu
      rw [HSY2.out]
      have HPw11 := Lib.hid hr
      clear hr
      have HBw11 := Lib.hid (btr HBw10.out hB)
      have HKw11 := Lib.hid (HKw10.out.mono hB)
      have HSXw11 := Lib.hid (btr HSXw10.out hB)
      have HSMw11 := Lib.hid (btr HSMw10.out hB)
      have HSOw11 := Lib.hid (btr HSOw10.out hB)
      clear HBw10 HKw10 HSXw10 HSMw10 HSOw10
      clear hB
      go_upto_region 9 with fail
      refine wp_region_flow [] [([0, 1, 2, 3, 4, 5, 6, 7, 8, 9, 10, 11, 12, 13, 14, 15, 16, 17, 18, 19, 20, 21, 22, 23, 24, 25, 26, 27, 28, 29, 30, 31, 32, 33, 34, 35, 36, 37, 38, 39, 40], 41, true)] [42, 43] (by kernel_rfl) (by kernel_rfl) ?_
      intro wc hBc hh
      clear hh
      have hL := @Later.cell wc
      have HBwc := Lib.hid (btr HBw11.out hBc)
      have HKwc := Lib.hid (HKw11.out.mono hBc)
      have HSXwc := Lib.hid (btr HSXw11.out hBc)
      have HSMwc := Lib.hid (btr HSMw11.out hBc)
      have HSOwc := Lib.hid (btr HSOw11.out hBc)
      have HPwc := Lib.hid (HPw11.out.mono hBc)
      clear HBw11 HKw11 HSXw11 HSMw11 HSOw11 HPw11
      clear hBc
      obtain ⟨g, z⟩ := HGQ.out _ HBwc.out
      obtain ⟨m0, m1, mz⟩ := HM.out _ HSMwc.out
      obtain ⟨n0, n1, nz⟩ := HO.out _ HSOwc.out
      simp only [flowP, flow, pickL, List.getElem?_cons_succ, List.getElem?_cons_zero]
      refine wpQuiet_nil ?_
      repeat (go_big_quiet_step (fail))
      refine wpQuiet_nil ?_
      go_wp2_with fail
      refine (HRL2.out _ (btr HB0.out HBwc.out)).mono ?_
      rintro e w12 ⟨rfl, hB⟩
      have HS12 := Lib.hid hB
      clear hB
      go_wp2
      refine seg_grow ⟨⟨_, HS12.out⟩, rfl⟩ ?_
      repeat (go_big_quiet_step (fail))
      refine wpQuiet_nil ?_
      refine only_done ?_
      clear hL g z m0 m1 mz n0 n1 nz
      have HBw12 := Lib.hid (btr HBwc.out HS12.out)
      have HKw12 := Lib.hid (HKwc.out.mono HS12.out)
      have HSXw12 := Lib.hid (btr HSXwc.out HS12.out)
      have HSMw12 := Lib.hid (btr HSMwc.out HS12.out)
      have HSOw12 := Lib.hid (btr HSOwc.out HS12.out)
      have HPw12 := Lib.hid (HPwc.out.mono HS12.out)
      clear HBwc HKwc HSXwc HSMwc HSOwc HPwc
      obtain ⟨g, z⟩ := HGQ.out _ HBw12.out
      obtain ⟨m0, m1, mz⟩ := HM.out _ HSMw12.out
      go_wp2_with fail
      refine (HPT2.out _ (btr HB0.out HBw12.out)).mono ?_
      rintro e w13 ⟨⟨ul, rfl, hr⟩, hB⟩
      clear g z m0 m1 mz
      obtain ⟨al, cl, hu⟩ := exI hr n (fnL_len LF n)
      subst hu
      have HLw13 := Lib.hid hr
      clear hr
      have HBw13 := Lib.hid (btr HBw12.out hB)
      have HKw13 := Lib.hid (HKw12.out.mono hB)
      have HSXw13 := Lib.hid (btr HSXw12.out hB)
      have HSMw13 := Lib.hid (btr HSMw12.out hB)
      have HSOw13 := Lib.hid (btr HSOw12.out hB)
      have HPw13 := Lib.hid (HPw12.out.mono hB)
      clear HBw12 HKw12 HSXw12 HSMw12 HSOw12 HPw12
      clear hB
      have HX13 := Lib.hid (HXJ.out.mono (btr HB0.out HBw13.out))
      obtain ⟨bL, oL, rfl, hbL, hcL⟩ := HLw13.out.get (by rw [fnL_len]; exact HN1.out)
      obtain ⟨aS, cS, e, hcS0⟩ := HPw13.out.form'
      rw [HSY2.out] at e hcS0
      obtain ⟨bS, oS, rfl, hbS, hcS⟩ := hcS0 HN1.out
      cases e
      obtain ⟨bX, oX, _, _, rfl, _⟩ := HX13.out.get 0 (by have := HN1.out; have := HN.out; omega)
      have HLC := Lib.hid (fun (wz : World) (h : Below w13.heap.size w13 wz) i (hi : i < n) => (⟨(h.cell (p := ⟨bL, oL + i, none⟩) hbL).trans (by rw [← HFN.out LF i hi]; exact hcL i (by rw [fnL_len]; exact hi)), Nat.lt_of_lt_of_le hbL h.size⟩ : wz.cell? ⟨bL, oL + i, none⟩ = some (.int .i64 (LF i)) ∧ bL < wz.heap.size))
      have HSC := Lib.hid (fun (wz : World) (h : Below w13.heap.size w13 wz) i (hi : i < n) => (⟨(h.cell (p := ⟨bS, oS + i * 2 + 1, none⟩) hbS).trans (by have := (hcS i hi).2; rwa [HSX2.out i hi] at this), Nat.lt_of_lt_of_le hbS h.size⟩ : wz.cell? ⟨bS, oS + i * 2 + 1, none⟩ = some (.int .i64 (TL i)) ∧ bS < wz.heap.size))
      have HHC := Lib.hid (fun (wz : World) (h : Below w13.heap.size w13 wz) i (hi : i < n) => (show wz.cell? ⟨bX, oX + i * 3 + 1, none⟩ = some (.int .i64 (job J i).hi) ∧ bX < wz.heap.size from by
        obtain ⟨b', o', a', c', e, hb', _, g2, _⟩ := HX13.out.get i (by have := HN.out; omega)
        cases e
        exact ⟨(h.cell (p := ⟨bX, oX + i * 3 + 1, none⟩) hb').trans g2, Nat.lt_of_lt_of_le hb' h.size⟩))
      have HMC := Lib.hid (fun (wz : World) (h : Below w13.heap.size w13 wz) => HM.out _ (btr HSMw13.out h))
      clear hcL hcS0 hcS hbL hbS HX13
      clear HLw13
      clear HPw13
      clear HSOw13
      clear HSMw13
      have HBB := Lib.hid (btr HB0.out HBw13.out)
      obtain ⟨g, z⟩ := HGQ.out _ HBw13.out
      go_wp2_with fail
      clear g z
      go_loopw [18] (fun s18 wr => ∃ k : Nat, k ≤ n ∧ s18 = .int .i64 k ∧ Below w13.heap.size w13 wr) (fun s18 _ => n - (intOf s18).toNat)
      case atStart => exact ⟨0, Nat.zero_le _, rfl, bz w13⟩
      case round =>
        obtain ⟨k, hk, rfl, hB⟩ := hrel
        have HBR := Lib.hid hB
        rename World => wO
        clear hB
        by_cases hlt : k < n
        · obtain ⟨p1, p2, p3, p4, p5⟩ := HLT2.out k hlt
          have HHk := Lib.hid (fun wz h => HHC.out wz h k hlt)
          generalize (job J k).hi = hk' at *
          have d1 : (LF k != T2 - hk' - TL k) = false := by rw [p1]; simp
          clear p1
          go_upto_region 17 with fail
          refine wp_region_flow [] [] [0, 1, 2, 3, 4, 5, 6, 7, 8, 9, 10, 11, 12, 13, 14, 15, 16, 17, 18, 19, 20] (by kernel_rfl) (by kernel_rfl) ?_
          intro wc hBc hh
          clear hh
          have HBC := Lib.hid (btr HBR.out hBc)
          have hL := @Later.cell wc
          clear hBc
          obtain ⟨c1, y1⟩ := HLC.out _ HBC.out k hlt
          obtain ⟨c3, y3⟩ := HSC.out _ HBC.out k hlt
          obtain ⟨c4, y4⟩ := HHk.out _ HBC.out
          obtain ⟨c5, c6, y5⟩ := HMC.out _ HBC.out
          obtain ⟨g, z⟩ := HGQ.out _ (btr HBw13.out HBC.out)
          simp only [flowP, flow, pickL, List.getElem?_cons_succ, List.getElem?_cons_zero]
          refine wpQuiet_nil ?_
          repeat (go_big_quiet_step (fail))
          refine wpQuiet_nil ?_
          refine only_done ?_
          clear hL c1 y1 c3 y3 c4 y4 c5 c6 y5 g z d1 p2 p3 p4 p5
          go_wp2_with fail
          go_roundw
          case rel => exact ⟨k + 1, by omega, by go_num, HBC.out⟩
          case measure => simp [intOf]; omega
        · clear HLC HSC HHC HMC HLT2
          have HBwO := Lib.hid (btr HBw13.out HBR.out)
          have HKwO := Lib.hid (HKw13.out.mono HBR.out)
          have HSXwO := Lib.hid (btr HSXw13.out HBR.out)
          clear HBw13 HKw13 HSXw13
          obtain ⟨q, hq, hqn⟩ : ∃ q : Nat, jb % (n : Int) = (q : Int) ∧ q < n := ⟨(jb % (n : Int)).toNat, (Int.toNat_of_nonneg (Int.emod_nonneg _ (by have := HN1.out; omega))).symm, by have h1 := Int.emod_nonneg jb (show (n : Int) ≠ 0 by have := HN1.out; omega); have h2 := Int.emod_lt_of_pos jb (show (0 : Int) < n by have := HN1.out; omega); omega⟩
          obtain ⟨k1, k2⟩ := HKV2.out q hqn
          obtain ⟨k3, k4⟩ := HKX2.out q hqn
          have hnn := HN1.out
          obtain ⟨g, z⟩ := HGQ.out _ HBwO.out
          go_wp2_with fail
          refine (HKD2.out _ _ (btr HB0.out HBwO.out)).mono ?_
          rw [k1, k2]
          rintro e w14 ⟨rfl, hB⟩
          clear g z k1 k2
          have HBw14 := Lib.hid (btr HBwO.out hB)
          have HKw14 := Lib.hid (HKwO.out.mono hB)
          have HSXw14 := Lib.hid (btr HSXwO.out hB)
          clear HBwO HKwO HSXwO
          clear hB
          obtain ⟨gx, zx⟩ := HX.out _ HSXw14.out
          go_wp2_with fail
          refine (HXK2.out _ _ _ HKw14.out).mono ?_
          rw [k3, k4]
          rintro e w15 ⟨rfl, hB⟩
          clear gx zx k3 k4
          have HBw15 := Lib.hid (btr HBw14.out hB)
          have HKw15 := Lib.hid (HKw14.out.mono hB)
          have HSXw15 := Lib.hid (btr HSXw14.out hB)
          clear HBw14 HKw14 HSXw14
          clear hB
          generalize kindR J q = kk at *
          go_wp2_with fail
          refine (HWK.out _).mono ?_
          rintro e w16 ⟨rfl, hB⟩
          have HBE := Lib.hid (btr HB0.out (btr HBw15.out hB))
          clear hB
          go_wp2_with fail
          go_ret
          exact ⟨rfl, HBE.out⟩
end Go.Proofs.YteknehlkdgamjaaGreat
