/- PlanLate, in terms of Works: each job on its latest day, in a given truth; no condition. -/
import Derived.Test.YteknehlkdgamjaaGreatMHtz
import Derived.Test.YteknehlkdgamjaaGreatMEn
namespace Go.Proofs.YteknehlkdgamjaaGreat
open Go.RowKit Go.Shelf

theorem wait_edge {J : List Job} (hJ : FineJ J) {i q : Nat} (hi : i < J.length) (hq : q < (job J i).ws.length) :
    0 ≤ elt (job J i).ws q ∧ elt (job J i).ws q < J.length ∧ edg J (elt (job J i).ws q).toNat i = true := by
  obtain ⟨h1, h2⟩ : 0 ≤ elt (job J i).ws q ∧ elt (job J i).ws q < J.length := by
    have := hJ.lst i hi q hq
    omega
  refine ⟨h1, h2, ?_⟩
  unfold edg
  rw [decide_eq_true hi, Bool.true_and, List.contains_iff_mem, Int.toNat_of_nonneg h1]
  unfold elt
  rw [List.getElem?_eq_getElem hq]
  exact List.getElem_mem hq
theorem late_job {J : List Job} (h0 : errC J = 0) (B : List Int) {day : Int} (hd : takes J (hiD J) ≤ day) {i : Nat} (hi : i < J.length) :
    beg J (hiD J) i ≤ latF J day i ∧ latF J day i ≤ day ∧ latF J day i + truD J B i ≤ day ∧ 0 ≤ truD J B i ∧ truD J B i ≤ 1000 ∧ 0 ≤ latF J day i := by
  obtain ⟨hJ, hc⟩ := fine_err h0
  have hD : ∀ i, i < J.length → 0 ≤ hiD J i := fun i hi => (dayD_bd hJ true hi).1
  have h1 := through_le hJ hc hD hi
  have h2 := tl_nn J (hiD J) i
  have h3 := hD i hi
  have h4 := beg_nn J (hiD J) i
  have h5 := truD_bd hJ B hi
  have h6 := truD_01 hJ B hi
  have h7 : hiD J i = (job J i).hi := rfl
  unfold latF
  omega
theorem late_wait {J : List Job} (h0 : errC J = 0) (B : List Int) (day : Int) {i q : Nat} (hi : i < J.length) (hq : q < (job J i).ws.length) :
    latF J day (elt (job J i).ws q).toNat + truD J B (elt (job J i).ws q).toNat ≤ latF J day i := by
  obtain ⟨hJ, hc⟩ := fine_err h0
  obtain ⟨h1, h2, h3⟩ := wait_edge hJ hi hq
  have h4 := tl_ge hJ hc (hiD J) h3
  have h5 := truD_bd hJ B (i := (elt (job J i).ws q).toNat) (by omega)
  have h7 : hiD J (elt (job J i).ws q).toNat = (job J (elt (job J i).ws q).toNat).hi := rfl
  unfold latF
  omega
theorem staP_elt {J : List Job} {i : Nat} (hi : i < J.length) : (staP J)[i]?.getD (0, 0) = (beg J (loD J) i, beg J (hiD J) i) := by simp [staP, hi]
theorem rdP_lenZ {w : World} {v : Value} {V : List (Int × Int)} (h : RdP w v V) : ∃ a c, v = .slice a V.length c := by
  obtain ⟨a, c, e, _⟩ := h
  exact ⟨a, c, e⟩
set_option maxRecDepth 100000 in
set_option maxHeartbeats 12800000 in
theorem planlate_core (hwk : WorksSaid) (v y : Value) (J : List Job) (B : List Int) (la : Int) (w : World) (hx0 : RdJ w v J) (hy0 : RdI w .u16 y B) (hw : ∀ x ∈ B, (Lit.int .u16 x).wf = true) (hla : (Lit.int .u16 la).wf = true) :
    Calls Tryz.prog 8 #[.agg #[v], y, .int .u16 la] w fun e w' => e = .returned (.bool true) ∧ Below w.heap.size w w' := by
  have HWK := Lib.hid hwk
  unfold WorksSaid at HWK
  have HFI := Lib.hid (fun wz (h : Below w.heap.size w wz) => fine_any v J wz (hx0.mono h))
  have HFT := Lib.hid (fun h => fineJ_true (J := J) h)
  have HTR := Lib.hid (fun wz (h : Below w.heap.size w wz) (h0 : errC J = 0) (hl : B.length ≤ 30) => truth_any v y J B wz (hx0.mono h) (fine_err h0).1 (hy0.mono h) hw hl)
  have HPS := Lib.hid (fun wz (h : Below w.heap.size w wz) (hs : SmJ J) => pstarts_any v J wz (hx0.mono h) hs)
  have HPL := Lib.hid (fun wz (h : Below w.heap.size w wz) (hs : SmJ J) => plength_any v J wz (hx0.mono h) hs)
  have HRL := Lib.hid (fun wz (h : Below w.heap.size w wz) (h0 : errC J = 0) => rlengthof_any v J wz (hx0.mono h) (fine_err h0).1 (fine_err h0).2)
  have HPT := Lib.hid (fun day wz (h : Below w.heap.size w wz) (hs : SmJ J) (h1 : -(2 ^ 42) ≤ day) (h2 : day ≤ 2 ^ 42) => platest_any v J day wz (hx0.mono h) hs h1 h2)
  have HLE := Lib.hid (fun (h0 : errC J = 0) => show lenR J = (takes J (loD J), takes J (hiD J)) from by unfold lenR; rw [if_pos h0])
  have HSL := Lib.hid (fun (h0 : errC J = 0) => show staL J = staP J from by unfold staL; rw [if_pos h0])
  have HTB := Lib.hid (fun (h0 : errC J = 0) => (⟨takes_nn J (hiD J), takes_bd (fine_err h0).1 (fun i hi => (dayD_bd (fine_err h0).1 true hi).2)⟩ : 0 ≤ takes J (hiD J) ∧ takes J (hiD J) ≤ 13000))
  have HLA : 0 ≤ la ∧ la ≤ 65535 := by simp [Lit.wf] at hla; exact hla
  have HX := Lib.hid hx0
  obtain ⟨a, c, rfl⟩ := hx0.sl
  obtain ⟨ay, cy, hyy⟩ : ∃ ay cy, y = .slice ay B.length cy := by obtain ⟨ay, cy, h, _⟩ := hy0.form; exact ⟨ay, cy, h⟩
  subst hyy
  clear hx0 hwk hy0 hw hla
  have HJ1 := Lib.hid (fun (h0 : errC J = 0) day (hd : takes J (hiD J) ≤ day) i (hi : i < J.length) => late_job h0 B hd hi)
  have HJ2 := Lib.hid (fun (h0 : errC J = 0) day i q (hi : i < J.length) (hq : q < (job J i).ws.length) => late_wait h0 B day hi hq)
  have HJ3 := Lib.hid (fun (h0 : errC J = 0) i q (hi : i < J.length) (hq : q < (job J i).ws.length) => (fine_err h0).1.wait hi hq)
  have HJ4 := Lib.hid (fun i (hi : i < J.length) => staP_elt hi)
  have HSP := Lib.hid (staP_len J)
  have HC1 := Lib.hid (fun (h0 : errC J = 0) day (hd : takes J (hiD J) ≤ day) => (⟨by unfold latL; rw [if_pos h0, if_neg (by omega)], by unfold latC; rw [if_pos h0, if_neg (by omega)]⟩ : latL J day = fnL (latF J day) J.length ∧ latC J day = 0))
  have HC2 := Lib.hid (fun (h0 : errC J = 0) day (hd : day < takes J (hiD J)) => (by unfold latC; rw [if_pos h0, if_pos hd] : latC J day = 12))
  have HFE := Lib.hid (fun (F : Nat → Int) i (hi : i < J.length) => (show elt (fnL F J.length) i = F i from by simp [elt, fnL, hi]))
  obtain ⟨n, hn⟩ : ∃ n, n = J.length := ⟨_, rfl⟩
  have HN := Lib.hid hn
  have HN1 : Hid (errC J = 0 → 0 < n ∧ n ≤ 12) := Lib.hid (fun h0 => by have := (fine_err h0).1.n1; have := (fine_err h0).1.n12; omega)
  rw [← hn] at HFI HTR HPS HPL HRL HPT HSP HJ1 HJ2 HJ3 HJ4 HC1 HFE ⊢
  clear hn
  obtain ⟨bl, hbl⟩ : ∃ bl, bl = B.length := ⟨_, rfl⟩
  rw [← hbl] at HTR ⊢
  clear hbl
  unfold RetR at HPS
  unfold RetL at HPT
  have HB0 := Lib.hid (bal (bz w) (.cells #[.slice a n c] 24))
  have gq : (w.alloc (.cells #[.slice a n c] 24)).cell? ⟨w.heap.size, 0, none⟩ = some (.slice a n c) := cnew rfl rfl
  have zq : w.heap.size < (w.alloc (.cells #[.slice a n c] 24)).heap.size := by simp
  generalize hgr : fineJ J = gr at *
  clear hgr
  obtain ⟨hl1, hl2⟩ := HLA
  go_enter Tryz.func8, Tryz.ntmps8
  go_wp2_with fail
  generalize w.alloc (.cells #[.slice a n c] 24) = w1 at *
  have HGQ := Lib.hid (fun (wz : World) (h : Below w1.heap.size w1 wz) => (⟨(h.cell (p := ⟨w.heap.size, 0, none⟩) zq).trans gq, Nat.lt_of_lt_of_le zq h.size⟩ : wz.cell? ⟨w.heap.size, 0, none⟩ = some (.slice a n c) ∧ w.heap.size < wz.heap.size))
  refine (HFI.out _ HB0.out).mono ?_
  rintro e w2 ⟨rfl, hB⟩
  have HB2 := Lib.hid hB
  clear hB gq zq
  cases gr with
  | false =>
    go_wp2_with fail
    refine (HWK.out _).mono ?_
    rintro e w3 ⟨rfl, hB⟩
    have HB3 := Lib.hid (btr HB0.out (btr HB2.out hB))
    clear hB
    go_wp2_with fail
    go_ret
    exact ⟨rfl, HB3.out⟩
  | true =>
    by_cases hb3 : 30 < bl
    · have t1 : decide ((30 : Int) < (bl : Int)) = true := decide_eq_true (by omega)
      clear hb3
      go_wp2_with fail
      refine (HWK.out _).mono ?_
      rintro e w3 ⟨rfl, hB⟩
      have HB3 := Lib.hid (btr HB0.out (btr HB2.out hB))
      clear hB
      go_wp2_with fail
      go_ret
      exact ⟨rfl, HB3.out⟩
    · have t1 : decide ((30 : Int) < (bl : Int)) = false := decide_eq_false (by omega)
      have HBL := Lib.hid (show bl ≤ 30 by omega)
      clear hb3
      obtain ⟨hsm, h0⟩ := HFT.out (by first | trivial | rfl)
      have HSM := Lib.hid hsm
      have HE0 := Lib.hid h0
      have HPL1 := HPL.out; have HPS1 := HPS.out
      rw [HLE.out h0, h0] at HPL1
      rw [HSL.out h0, h0] at HPS1
      dsimp only at HPL1
      have HPL2 := Lib.hid HPL1; have HPS2 := Lib.hid HPS1
      have HK1 := Lib.hid (HJ1.out h0); have HK2 := Lib.hid (HJ2.out h0); have HK3 := Lib.hid (HJ3.out h0); have HK5 := Lib.hid (HC1.out h0); have HK6 := Lib.hid (HC2.out h0)
      have hn12 := (HN1.out h0).2
      have HN1 := Lib.hid (HN1.out h0).1
      have HTR2 := Lib.hid (fun wz h => HTR.out wz h h0 HBL.out)
      have HRL2 := Lib.hid (fun wz h => HRL.out wz h h0)
      obtain ⟨hb1, hb2⟩ := HTB.out h0
      clear hsm h0 HPL1 HPS1 HPL HPS HJ1 HJ2 HJ3 HC1 HC2 HTR HRL HLE HSL HTB HE0 HBL
      generalize truD J B = TD at *
      generalize takes J (loD J) = T1 at *
      generalize takes J (hiD J) = T2 at *
      generalize staP J = ST at *
      obtain ⟨g, z⟩ := HGQ.out _ HB2.out
      go_wp2_with fail
      refine (HTR2.out _ (btr HB0.out HB2.out)).mono ?_
      rintro e w3 ⟨ut, rfl, hr, hB⟩
      obtain ⟨at', ct, hu⟩ := exI hr.rd _ rfl
      subst hu
      have HT3 := Lib.hid hr.rd
      have HB3 := Lib.hid (btr HB2.out hB)
      clear hr hB g z HB2
      have hfl : (fnL TD n).length = n := fnL_len TD n
      rw [hfl]
      clear hfl
      obtain ⟨g, z⟩ := HGQ.out _ HB3.out
      go_wp2_with fail
      refine (HPS2.out _ (btr HB0.out HB3.out) HSM.out).mono ?_
      rintro e w4 ⟨⟨us, rfl, hr⟩, hB⟩
      obtain ⟨as', cs, hu⟩ := rdP_lenZ hr
      subst hu
      rw [HSP.out]
      have HS4 := Lib.hid hr
      have HT4 := Lib.hid (HT3.out.mono hB)
      have HB4 := Lib.hid (btr HB3.out hB)
      clear hr hB g z HB3 HT3
      obtain ⟨g, z⟩ := HGQ.out _ HB4.out
      go_wp2_with fail
      refine (HPL2.out _ (btr HB0.out HB4.out) HSM.out).mono ?_
      rintro e w5 ⟨rfl, hB⟩
      have HS5 := Lib.hid (HS4.out.mono hB)
      have HT5 := Lib.hid (HT4.out.mono hB)
      have HB5 := Lib.hid (btr HB4.out hB)
      clear hB g z HB4 HT4 HS4
      obtain ⟨g, z⟩ := HGQ.out _ HB5.out
      go_upto_region 6 with fail
      have hq0 : (w5.alloc (.cells #[.int .i64 T1, .int .i64 T2] 32)).cell? ⟨w5.heap.size, 0, none⟩ = some (.int .i64 T1) := cnew rfl rfl
      have hq1 : (w5.alloc (.cells #[.int .i64 T1, .int .i64 T2] 32)).cell? ⟨w5.heap.size, 0 + 1, none⟩ = some (.int .i64 T2) := cnew rfl rfl
      have zq : w5.heap.size < (w5.alloc (.cells #[.int .i64 T1, .int .i64 T2] 32)).heap.size := by simp
      have hB := bal (bz w5) (.cells #[.int .i64 T1, .int .i64 T2] 32)
      generalize w5.alloc (.cells #[.int .i64 T1, .int .i64 T2] 32) = w6 at hq0 hq1 zq hB ⊢
      have HB6 := Lib.hid (btr HB5.out hB)
      have HS6 := Lib.hid (HS5.out.mono hB)
      have HT6 := Lib.hid (HT5.out.mono hB)
      generalize w5.heap.size = b1 at hq0 hq1 zq ⊢
      have HL1 := Lib.hid (fun (wz : World) (h : Below w6.heap.size w6 wz) => (⟨(h.cell (p := ⟨b1, 0, none⟩) zq).trans hq0, (h.cell (p := ⟨b1, 0 + 1, none⟩) zq).trans hq1, Nat.lt_of_lt_of_le zq h.size⟩ : wz.cell? ⟨b1, 0, none⟩ = some (.int .i64 T1) ∧ wz.cell? ⟨b1, 0 + 1, none⟩ = some (.int .i64 T2) ∧ b1 < wz.heap.size))
      clear hB g z hq0 hq1 zq HB5 HS5 HT5
      refine wp_region_flow [] [([0, 1, 2, 3, 4, 5, 6, 7, 8, 9, 10, 11, 12, 13, 14, 15], 16, true)] [17, 18] (by kernel_rfl) (by kernel_rfl) ?_
      intro wc hBc hh
      clear hh
      have HBC := Lib.hid (btr HB6.out hBc)
      have HSC := Lib.hid (HS6.out.mono hBc)
      have HTC := Lib.hid (HT6.out.mono hBc)
      have HWC := Lib.hid hBc
      have hL := @Later.cell wc
      obtain ⟨k1, z1⟩ := HGQ.out _ HBC.out
      obtain ⟨k2, k3, z2⟩ := HL1.out _ hBc
      clear hBc HB6 HS6 HT6
      simp only [flowP, flow, pickL, List.getElem?_cons_succ, List.getElem?_cons_zero]
      refine wpQuiet_nil ?_
      repeat (go_big_quiet_step (fail))
      refine wpQuiet_nil ?_
      go_wp2_with fail
      refine (HRL2.out _ (btr HB0.out HBC.out)).mono ?_
      rintro e w7 ⟨rfl, hB⟩
      have HS7 := Lib.hid hB
      clear hB
      go_wp2
      refine seg_grow ⟨⟨_, HS7.out⟩, rfl⟩ ?_
      repeat (go_big_quiet_step (fail))
      refine wpQuiet_nil ?_
      refine only_done ?_
      clear hL k1 z1 k2 k3 z2
      have HB7 := Lib.hid (btr HBC.out HS7.out)
      have HW7 := Lib.hid (btr HWC.out HS7.out)
      have HT7 := Lib.hid (HTC.out.mono HS7.out)
      have HQ7 := Lib.hid (HSC.out.mono HS7.out)
      clear HBC HWC HSC HTC HS7
      obtain ⟨k1, z1⟩ := HGQ.out _ HB7.out
      obtain ⟨k2, k3, z2⟩ := HL1.out _ HW7.out
      go_wp2_with fail
      have hdd := HK5.out (T2 + la) (by omega)
      refine (HPT.out (T2 + la) _ (btr HB0.out HB7.out) HSM.out (by omega) (by omega)).mono ?_
      rw [hdd.1, hdd.2]
      clear hdd
      rintro e w8 ⟨⟨ul, rfl, hr⟩, hB⟩
      obtain ⟨al, cl, hu⟩ := exI hr _ rfl
      subst hu
      have hfl : (fnL (latF J (T2 + la)) n).length = n := fnL_len _ n
      rw [hfl]
      clear hfl
      have HV8 := Lib.hid hr
      have HB8 := Lib.hid (btr HB7.out hB)
      have HW8 := Lib.hid (btr HW7.out hB)
      have HT8 := Lib.hid (HT7.out.mono hB)
      have HQ8 := Lib.hid (HQ7.out.mono hB)
      clear hr hB k1 z1 k2 k3 z2 HB7 HW7 HT7 HQ7
      obtain ⟨k1, z1⟩ := HGQ.out _ HB8.out
      obtain ⟨k2, k3, z2⟩ := HL1.out _ HW8.out
      go_wp2_with fail
      refine (HPT.out (T2 - 1) _ (btr HB0.out HB8.out) HSM.out (by omega) (by omega)).mono ?_
      rw [HK6.out (T2 - 1) (by omega)]
      rintro e w9 ⟨⟨ux, rfl, _⟩, hB⟩
      have HV9 := Lib.hid (HV8.out.mono hB)
      have HB9 := Lib.hid (btr HB8.out hB)
      have HT9 := Lib.hid (HT8.out.mono hB)
      have HQ9 := Lib.hid (HQ8.out.mono hB)
      have HX9 := Lib.hid (HX.out.mono (btr HB0.out HB9.out))
      clear hB k1 z1 k2 k3 z2 HB8 HW8 HT8 HQ8 HV8 HL1 HPT HK5 HK6 HRL2 HPS2 HPL2 HTR2 HX
      have HD1 := Lib.hid (HK1.out (T2 + la) (by omega))
      have HD2 := Lib.hid (HK2.out (T2 + la))
      have hday : T2 ≤ T2 + la ∧ T2 + la ≤ 100000 := by omega
      clear HK1 HK2
      generalize T2 + la = day at *
      obtain ⟨hday1, hday2⟩ := hday
      clear hl1 hl2 hb1 hb2
      generalize latF J day = LF at *
      generalize beg J (hiD J) = BG at *
      obtain ⟨bL, oL, rfl, hbL, hcL⟩ := HV9.out.get (by rw [fnL_len]; exact HN1.out)
      obtain ⟨bT, oT, rfl, hbT, hcT⟩ := HT9.out.get (by rw [fnL_len]; exact HN1.out)
      obtain ⟨aS, cS, e, hcS0⟩ := HQ9.out.form'
      rw [HSP.out] at e hcS0
      obtain ⟨bS, oS, rfl, hbS, hcS⟩ := hcS0 HN1.out
      cases e
      obtain ⟨bX, oX, _, _, rfl, _⟩ := HX9.out.get 0 (by have := HN1.out; have := HN.out; omega)
      have HLC := Lib.hid (fun (wz : World) (h : Below w9.heap.size w9 wz) i (hi : i < n) => (⟨(h.cell (p := ⟨bL, oL + i, none⟩) hbL).trans (by rw [← HFE.out LF i hi]; exact hcL i (by rw [fnL_len]; exact hi)), Nat.lt_of_lt_of_le hbL h.size⟩ : wz.cell? ⟨bL, oL + i, none⟩ = some (.int .i64 (LF i)) ∧ bL < wz.heap.size))
      have HTC := Lib.hid (fun (wz : World) (h : Below w9.heap.size w9 wz) i (hi : i < n) => (⟨(h.cell (p := ⟨bT, oT + i, none⟩) hbT).trans (by rw [← HFE.out TD i hi]; exact hcT i (by rw [fnL_len]; exact hi)), Nat.lt_of_lt_of_le hbT h.size⟩ : wz.cell? ⟨bT, oT + i, none⟩ = some (.int .i64 (TD i)) ∧ bT < wz.heap.size))
      have HSC := Lib.hid (fun (wz : World) (h : Below w9.heap.size w9 wz) i (hi : i < n) => (⟨(h.cell (p := ⟨bS, oS + i * 2 + 1, none⟩) hbS).trans (by have := (hcS i hi).2; rwa [HJ4.out i hi] at this), Nat.lt_of_lt_of_le hbS h.size⟩ : wz.cell? ⟨bS, oS + i * 2 + 1, none⟩ = some (.int .i64 (BG i)) ∧ bS < wz.heap.size))
      clear hcL hcT hcS hcS0 hbL hbT hbS HV9 HT9 HQ9 HJ4 HSP HFE
      go_wp2_with fail
      go_loopw [14] (fun s14 wr => ∃ k : Nat, k ≤ n ∧ s14 = .int .i64 k ∧ Below w9.heap.size w9 wr) (fun s14 _ => n - (intOf s14).toNat)
      case atStart => exact ⟨0, Nat.zero_le _, rfl, bz w9⟩
      case round =>
        obtain ⟨k, hk, rfl, hB⟩ := hrel
        have HBR := Lib.hid hB
        rename World => wO
        clear hB
        by_cases hlt : k < n
        · obtain ⟨c1, y1⟩ := HLC.out _ HBR.out k hlt
          obtain ⟨c2, y2⟩ := HTC.out _ HBR.out k hlt
          obtain ⟨c3, y3⟩ := HSC.out _ HBR.out k hlt
          obtain ⟨p1, p2, p3, p4, p5, p6⟩ := HD1.out k hlt
          obtain ⟨b', o', a', c', e, hb', _, _, g3, hr⟩ := HX9.out.get k (by have := HN.out; omega)
          cases e
          have HJC := Lib.hid (fun (wz : World) (h : Below w9.heap.size w9 wz) => (⟨(h.cell (p := ⟨bX, oX + k * 3 + 2, none⟩) hb').trans g3, Nat.lt_of_lt_of_le hb' h.size, hr.mono h⟩ : wz.cell? ⟨bX, oX + k * 3 + 2, none⟩ = some (.slice a' (job J k).ws.length c') ∧ bX < wz.heap.size ∧ RdI wz .i64 (.slice a' (job J k).ws.length c') (job J k).ws))
          have HWV := Lib.hid (fun q (hq : q < (job J k).ws.length) => (show ∃ p : Nat, elt (job J k).ws q = (p : Int) ∧ p < n ∧ LF p + TD p ≤ LF k from by
            obtain ⟨p, h1, h2, _⟩ := HK3.out k q hlt hq
            have h3 := HD2.out k q hlt hq
            rw [h1, Int.toNat_natCast] at h3
            exact ⟨p, h1, by have := HN.out; omega, h3⟩))
          have hWl : (job J k).ws.length ≤ 100 := HSM.out.2 k
          clear g3 hr hb'
          generalize (job J k).ws = W at *
          have d1 : decide (LF k < BG k) = false := decide_eq_false (by omega)
          have d2 : decide (day < LF k) = false := decide_eq_false (by omega)
          have d3 : decide (day < LF k + TD k) = false := decide_eq_false (by omega)
          go_upto_region 16 with fail
          refine wp_region_flow [] [] [0, 1, 2, 3, 4, 5, 6, 7, 8, 9, 10, 11, 12, 13, 14, 15, 16, 17, 18, 19, 20, 21, 22, 23, 24, 25, 26, 27, 28, 29, 30] (by kernel_rfl) (by kernel_rfl) ?_
          intro wc hBc hh
          clear hh
          have HBC := Lib.hid (btr HBR.out hBc)
          have hL := @Later.cell wc
          clear c1 y1 c2 y2 c3 y3 hBc
          obtain ⟨c1, y1⟩ := HLC.out _ HBC.out k hlt
          obtain ⟨c2, y2⟩ := HTC.out _ HBC.out k hlt
          obtain ⟨c3, y3⟩ := HSC.out _ HBC.out k hlt
          simp only [flowP, flow, pickL, List.getElem?_cons_succ, List.getElem?_cons_zero]
          refine wpQuiet_nil ?_
          repeat (go_big_quiet_step (fail))
          refine wpQuiet_nil ?_
          refine only_done ?_
          clear hL c1 y1 c2 y2 c3 y3 d1 d2 d3
          go_wp2_with fail
          go_loopw [15] (fun s15 wr => ∃ q : Nat, q ≤ W.length ∧ s15 = .int .i64 q ∧ Below w9.heap.size w9 wr) (fun s15 _ => W.length - (intOf s15).toNat)
          case atStart => exact ⟨0, Nat.zero_le _, rfl, HBC.out⟩
          case round =>
            clear HBR HBC
            obtain ⟨q, hq, rfl, hB⟩ := hrel
            have HBQ := Lib.hid hB
            rename World => wI
            obtain ⟨g, z⟩ := HGQ.out _ (btr HB9.out hB)
            obtain ⟨gj, zj, hr⟩ := HJC.out _ hB
            clear hB
            by_cases hql : q < W.length
            · obtain ⟨p, hp, hpn, hpl⟩ := HWV.out q hql
              obtain ⟨bw, ow, rfl, hbw, hcw⟩ := hr.get (by omega)
              have gw := hcw q hql
              rw [hp] at gw
              obtain ⟨r1, r2, r3, r4, r5, r6⟩ := HD1.out p hpn
              have d4 : decide (LF k < LF p + TD p) = false := decide_eq_false (by omega)
              clear hp hcw hr
              go_upto_region 22 with fail
              clear g z gj zj gw hbw
              refine wp_region_flow [] [] [0, 1, 2, 3, 4, 5, 6, 7, 8, 9, 10, 11, 12, 13] (by kernel_rfl) (by kernel_rfl) ?_
              intro wc hBc hh
              clear hh
              have HBC := Lib.hid (btr HBQ.out hBc)
              have hL := @Later.cell wc
              clear hBc
              obtain ⟨c1, y1⟩ := HLC.out _ HBC.out p hpn
              obtain ⟨c2, y2⟩ := HTC.out _ HBC.out p hpn
              obtain ⟨c3, y3⟩ := HLC.out _ HBC.out k hlt
              simp only [flowP, flow, pickL, List.getElem?_cons_succ, List.getElem?_cons_zero]
              refine wpQuiet_nil ?_
              repeat (go_big_quiet_step (fail))
              refine wpQuiet_nil ?_
              refine only_done ?_
              clear hL c1 y1 c2 y2 c3 y3 d4
              go_wp2_with fail
              go_roundw
              case rel => exact ⟨q + 1, by omega, by go_num, HBC.out⟩
              case measure => simp [intOf]; omega
            · clear hr
              go_wp2_with fail
              go_roundw
              case rel => exact ⟨k + 1, by omega, by go_num, HBQ.out⟩
              case measure => simp [intOf]; omega
        · go_wp2_with fail
          refine (HWK.out _).mono ?_
          rintro e w10 ⟨rfl, hB⟩
          have HB10 := Lib.hid (btr HB0.out (btr HB9.out (btr HBR.out hB)))
          clear hB
          go_wp2_with fail
          go_ret
          exact ⟨rfl, HB10.out⟩
end Go.Proofs.YteknehlkdgamjaaGreat
