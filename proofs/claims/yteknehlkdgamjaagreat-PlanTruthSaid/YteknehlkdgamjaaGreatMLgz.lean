/- PlanTruth, in terms of Works: a truth lies within what is told; no condition. -/
import Derived.Test.YteknehlkdgamjaaGreatMHxz
import Derived.Test.YteknehlkdgamjaaGreatMLfz
import Derived.Test.YteknehlkdgamjaaGreatMLcz
import Derived.Test.YteknehlkdgamjaaGreatMS8
namespace Go.Proofs.YteknehlkdgamjaaGreat
open Go.RowKit Go.Shelf

theorem ex_out {J : List Job} (h0 : errC J = 0) {D : Nat → Int} (hD : ∀ i, i < J.length → 0 ≤ D i ∧ D i ≤ 1000) {high : Bool} {w w' : World} {e : Ending} (h : ChainOut (exJ J D) high w e w') :
    ∃ u m, e = .returned (.tuple #[u, .int .i64 0]) ∧ RdI w' .i64 u m ∧ chainC (exJ J D) m = 0 ∧ m.length ≤ 1000 ∧ chainV (exJ J D) m = (takes J D, takes J D) ∧ Below w.heap.size w w' := by
  have he := ex_err h0 hD
  obtain ⟨h | h, hB⟩ := h
  · exact absurd he h.1
  · obtain ⟨_, v, l, rfl, hf, hs, hr⟩ := h
    have hJ := fine_err he
    have hc := chainC_full hJ.1 he hf
    have hl : ∀ x ∈ l, x < J.length := fun x hx => by have := hf.2.1.lt hJ.1 x hx; rwa [ex_len] at this
    have h1 : sumN (loD (exJ J D)) l = sumN D l := by
      unfold sumN; congr 1; exact List.map_congr_left fun x hx => (ex_lo D (hl x hx)).1.symm
    have h2 : sumN (hiD (exJ J D)) l = sumN D l := by
      unfold sumN; congr 1; exact List.map_congr_left fun x hx => (ex_lo D (hl x hx)).2.symm
    have h3 := ex_takes h0 hD
    refine ⟨v, ints l, rfl, hr, hc, ints_le hJ.1 hJ.2 hf.2.1, ?_, hB⟩
    unfold chainV
    rw [if_pos hc, sumTo_ints, sumTo_ints, h1, h2]
    cases high
    · simp only [Bool.false_eq_true, if_false] at hs; rw [h1, h3.1] at hs; rw [hs]
    · simp only [if_true] at hs; rw [h2, h3.2] at hs; rw [hs]
set_option maxRecDepth 100000 in
set_option maxHeartbeats 25600000 in
theorem plantruth_core (hwk : WorksSaid) (v y x : Value) (J : List Job) (B ch : List Int) (w : World) (hx0 : RdJ w v J) (hy0 : RdI w .u16 y B) (hw : ∀ x ∈ B, (Lit.int .u16 x).wf = true) (hc0 : RdI w .i64 x ch) :
    Calls Tryz.prog 6 #[.agg #[v], y, x] w fun e w' => e = .returned (.bool true) ∧ Below w.heap.size w w' := by
  have HWK := Lib.hid hwk
  unfold WorksSaid at HWK
  have HY := Lib.hid hc0
  have HFI := Lib.hid (fun wz (h : Below w.heap.size w wz) => fine_any v J wz (hx0.mono h))
  have HFT := Lib.hid (fun h => fineJ_true (J := J) h)
  have HTR := Lib.hid (fun wz (h : Below w.heap.size w wz) (h0 : errC J = 0) (hl : B.length ≤ 30) => truth_any v y J B wz (hx0.mono h) (fine_err h0).1 (hy0.mono h) hw hl)
  have HPS := Lib.hid (fun wz (h : Below w.heap.size w wz) (hs : SmJ J) => pstarts_any v J wz (hx0.mono h) hs)
  have HPL := Lib.hid (fun wz (h : Below w.heap.size w wz) (hs : SmJ J) => plength_any v J wz (hx0.mono h) hs)
  have HTD := Lib.hid (fun (h0 : errC J = 0) => (fun i hi => truD_01 (fine_err h0).1 B hi : ∀ i, i < J.length → 0 ≤ truD J B i ∧ truD J B i ≤ 1000))
  have HEX := Lib.hid (fun y wz (h : Below w.heap.size w wz) (h0 : errC J = 0) (hy : RdI wz .i64 y (fnL (truD J B) J.length)) => exact_any v y J (truD J B) wz (hx0.mono h) (by have := (fine_err h0).1.n12; omega) (fine_err h0).1.n1 hy)
  have HBG := Lib.hid (fun y wz (h : Below w.heap.size w wz) (h0 : errC J = 0) (hy : RdI wz .i64 y (fnL (truD J B) J.length)) => rbegins_any v y J (truD J B) wz (hx0.mono h) (fine_err h0).1 (fine_err h0).2 hy (HTD.out h0))
  have HTK := Lib.hid (fun y wz (h : Below w.heap.size w wz) (h0 : errC J = 0) (hy : RdI wz .i64 y (fnL (truD J B) J.length)) => rtakes_any v y J (truD J B) wz (hx0.mono h) (fine_err h0).1 (fine_err h0).2 hy (HTD.out h0))
  have HLE := Lib.hid (fun (h0 : errC J = 0) => show lenR J = (takes J (loD J), takes J (hiD J)) from by unfold lenR; rw [if_pos h0])
  have HSL := Lib.hid (fun (h0 : errC J = 0) => show staL J = staP J from by unfold staL; rw [if_pos h0])
  have HTB0 := Lib.hid (fun (h0 : errC J = 0) i (hi : i < J.length) => tru_beg h0 B hi)
  have HTT := Lib.hid (fun (h0 : errC J = 0) => tru_takes h0 B)
  have HKS := Lib.hid (fun u wz (hs : SmJ J) (h : RdJ wz u (exJ J (truD J B))) => pstarts_any u _ wz h (ex_sm hs _))
  have HKL := Lib.hid (fun u wz (hs : SmJ J) (h : RdJ wz u (exJ J (truD J B))) => plength_any u _ wz h (ex_sm hs _))
  have HKC := Lib.hid (fun high u wz (hs : SmJ J) (h : RdJ wz u (exJ J (truD J B))) => pchain_any u _ high wz h (ex_sm hs _))
  have HCC0 := Lib.hid (fun u y m wz (hs : SmJ J) (h : RdJ wz u (exJ J (truD J B))) (hy : RdI wz .i64 y m) (hl : m.length ≤ 1000) => pcheckchain_any u y _ m wz h hy hl (ex_sm hs _))
  have HRC0 := Lib.hid (fun u y m wz (hs : SmJ J) (h : RdJ wz u (exJ J (truD J B))) (hy : RdI wz .i64 y m) (hl : m.length ≤ 1000) => rcheckchain_any u y _ m wz h hy hl (ex_sm hs _))
  have HKO0 := Lib.hid (fun (h0 : errC J = 0) high wz w' e (h : ChainOut (exJ J (truD J B)) high wz e w') => ex_out h0 (HTD.out h0) h)
  have HKE := Lib.hid (fun (h0 : errC J = 0) => (⟨ex_err h0 (HTD.out h0), ex_sta h0 (HTD.out h0), by unfold lenR; rw [if_pos (ex_err h0 (HTD.out h0)), (ex_takes h0 (HTD.out h0)).1, (ex_takes h0 (HTD.out h0)).2]⟩ : errC (exJ J (truD J B)) = 0 ∧ staL (exJ J (truD J B)) = ((List.range J.length).map fun i => (beg J (truD J B) i, beg J (truD J B) i)) ∧ lenR (exJ J (truD J B)) = (takes J (truD J B), takes J (truD J B))))
  have HCH0 := Lib.hid (fun (h0 : errC J = 0) (h : chainC (exJ J (truD J B)) ch = 0) => ex_chain h0 (HTD.out h0) h)
  have HKN := Lib.hid (ex_len J (truD J B))
  have HSKL := Lib.hid (show ((List.range J.length).map fun i => (beg J (truD J B) i, beg J (truD J B) i)).length = J.length by simp)
  have HJ5 := Lib.hid (fun i (hi : i < J.length) => show ((List.range J.length).map fun i => (beg J (truD J B) i, beg J (truD J B) i))[i]?.getD (0, 0) = (beg J (truD J B) i, beg J (truD J B) i) by simp [hi])
  obtain ⟨a, c, rfl⟩ := hx0.sl
  obtain ⟨ay, cy, hyy⟩ : ∃ ay cy, y = .slice ay B.length cy := by obtain ⟨ay, cy, h, _⟩ := hy0.form; exact ⟨ay, cy, h⟩
  subst hyy
  obtain ⟨ac, cc', hcc⟩ := exI hc0 _ rfl
  subst hcc
  clear hx0 hwk hy0 hw hc0 HTD
  have HJ4 := Lib.hid (fun i (hi : i < J.length) => staP_elt hi)
  have HSP := Lib.hid (staP_len J)
  have HFE := Lib.hid (fun (F : Nat → Int) i (hi : i < J.length) => (show elt (fnL F J.length) i = F i from by simp [elt, fnL, hi]))
  obtain ⟨n, hn⟩ : ∃ n, n = J.length := ⟨_, rfl⟩
  have HN1' : Hid (errC J = 0 → 0 < n ∧ n ≤ 12) := Lib.hid (fun h0 => by have := (fine_err h0).1.n1; have := (fine_err h0).1.n12; omega)
  rw [← hn] at HFI HTR HPS HPL HSP HJ4 HFE HEX HBG HTK HTB0 HKE HKN HSKL HJ5 ⊢
  clear hn
  obtain ⟨bl, hbl⟩ : ∃ bl, bl = B.length := ⟨_, rfl⟩
  rw [← hbl] at HTR ⊢
  clear hbl
  unfold RetR at HPS HKS
  unfold RetP at HCC0 HRC0
  have HB0 := Lib.hid (bal (bz w) (.cells #[.slice a n c] 24))
  have gq : (w.alloc (.cells #[.slice a n c] 24)).cell? ⟨w.heap.size, 0, none⟩ = some (.slice a n c) := cnew rfl rfl
  have zq : w.heap.size < (w.alloc (.cells #[.slice a n c] 24)).heap.size := by simp
  generalize hgr : fineJ J = gr at *
  clear hgr
  go_enter Tryz.func6, Tryz.ntmps6
  go_wp2_with fail
  generalize w.alloc (.cells #[.slice a n c] 24) = w1 at *
  have HGQ := Lib.hid (fun (wz : World) (h : Below w1.heap.size w1 wz) => (⟨(h.cell (p := ⟨w.heap.size, 0, none⟩) zq).trans gq, Nat.lt_of_lt_of_le zq h.size⟩ : wz.cell? ⟨w.heap.size, 0, none⟩ = some (.slice a n c) ∧ w.heap.size < wz.heap.size))
  refine (HFI.out _ HB0.out).mono ?_
  rintro e w2 ⟨rfl, hB⟩
  have HBw2 := Lib.hid hB
  clear hB gq zq
  cases gr with
  | false =>
    go_wp2_with fail
    refine (HWK.out _).mono ?_
    rintro e w3 ⟨rfl, hB⟩
    have HB3 := Lib.hid (btr HB0.out (btr HBw2.out hB))
    clear hB
    go_wp2_with fail
    go_ret
    exact ⟨rfl, HB3.out⟩
  | true =>
    by_cases hb3 : 30 < bl ∨ 20 < ch.length
    · by_cases hb4 : 30 < bl
      · have t1 : decide ((30 : Int) < (bl : Int)) = true := decide_eq_true (by omega)
        clear hb3 hb4
        go_wp2_with fail
        refine (HWK.out _).mono ?_
        rintro e w3 ⟨rfl, hB⟩
        have HB3 := Lib.hid (btr HB0.out (btr HBw2.out hB))
        clear hB
        go_wp2_with fail
        go_ret
        exact ⟨rfl, HB3.out⟩
      · have t1 : decide ((30 : Int) < (bl : Int)) = false := decide_eq_false (by omega)
        have t2 : decide ((20 : Int) < (ch.length : Int)) = true := decide_eq_true (by omega)
        clear hb3 hb4
        go_wp2_with fail
        refine (HWK.out _).mono ?_
        rintro e w3 ⟨rfl, hB⟩
        have HB3 := Lib.hid (btr HB0.out (btr HBw2.out hB))
        clear hB
        go_wp2_with fail
        go_ret
        exact ⟨rfl, HB3.out⟩
    · have t1 : decide ((30 : Int) < (bl : Int)) = false := decide_eq_false (by omega)
      have t2 : decide ((20 : Int) < (ch.length : Int)) = false := decide_eq_false (by omega)
      have HBL := Lib.hid (show bl ≤ 30 by omega)
      have HCL := Lib.hid (show ch.length ≤ 1000 by omega)
      clear hb3
      obtain ⟨hsm, h0⟩ := HFT.out (by first | trivial | rfl)
      have HSM := Lib.hid hsm
      have HPL1 := HPL.out; have HPS1 := HPS.out
      rw [HLE.out h0, h0] at HPL1
      rw [HSL.out h0, h0] at HPS1
      dsimp only at HPL1
      have HPL2 := Lib.hid HPL1; have HPS2 := Lib.hid HPS1
      obtain ⟨hke1, hke2, hke3⟩ := HKE.out h0
      have HKS1 := HKS.out; have HKL1 := HKL.out
      rw [hke1, hke2] at HKS1
      rw [hke1, hke3] at HKL1
      dsimp only at HKL1
      have HKS2 := Lib.hid (fun u wz h => HKS1 u wz hsm h); have HKL2 := Lib.hid (fun u wz h => HKL1 u wz hsm h); have HKC2 := Lib.hid (fun u wz h => HKC.out ay.isSome u wz hsm h)
      have HKO := Lib.hid (HKO0.out h0 ay.isSome)
      have HCC := Lib.hid (fun u m y wz h => HCC0.out u y m wz hsm h); have HRC := Lib.hid (fun u m y wz h => HRC0.out u y m wz hsm h)
      have HTR2 := Lib.hid (fun wz h => HTR.out wz h h0 HBL.out)
      have HEX2 := Lib.hid (fun y wz h => HEX.out y wz h h0); have HBG2 := Lib.hid (fun y wz h => HBG.out y wz h h0); have HTK2 := Lib.hid (fun y wz h => HTK.out y wz h h0)
      have HTB := Lib.hid (HTB0.out h0)
      have HCH := Lib.hid (HCH0.out h0)
      obtain ⟨htt1, htt2⟩ := HTT.out h0
      have hn12 := (HN1'.out h0).2
      have HN1 := Lib.hid (HN1'.out h0).1
      clear hsm h0 HPL1 HPS1 HPL HPS HKS1 HKL1 HKS HKL HKC HKO0 HCC0 HRC0 HTR HEX HBG HTK HTB0 HCH0 HTT HN1' HLE HSL HKE hke1 hke2 hke3 HBL HFT
      generalize hK : exJ J (truD J B) = K at *
      clear hK
      generalize ((List.range n).map fun i => (beg J (truD J B) i, beg J (truD J B) i)) = SK at *
      generalize takes J (truD J B) = T at *
      generalize takes J (loD J) = T1 at *
      generalize takes J (hiD J) = T2 at *
      generalize beg J (truD J B) = BT at *
      generalize beg J (loD J) = BL at *
      generalize beg J (hiD J) = BH at *
      generalize truD J B = TD at *
      generalize staP J = ST at *
      obtain ⟨g, z⟩ := HGQ.out _ HBw2.out
      go_wp2_with fail
      refine (HTR2.out _ (btr HB0.out HBw2.out)).mono ?_
      rintro e w3 ⟨ut, rfl, hr, hB⟩
      clear g z
      obtain ⟨at', ct, hu⟩ := exI hr.rd n (fnL_len TD n)
      subst hu
      have HTw3 := Lib.hid hr.rd
      clear hr
      have HBw3 := Lib.hid (btr HBw2.out hB)
      clear HBw2
      clear hB
      obtain ⟨g, z⟩ := HGQ.out _ HBw3.out
      go_wp2_with fail
      refine (HPS2.out _ (btr HB0.out HBw3.out) HSM.out).mono ?_
      rintro e w4 ⟨⟨us, rfl, hr⟩, hB⟩
      clear g z
      obtain ⟨as', cs, hu⟩ := rdP_lenZ hr
      subst hu
      rw [HSP.out]
      have HPw4 := Lib.hid hr
      clear hr
      have HBw4 := Lib.hid (btr HBw3.out hB)
      have HTw4 := Lib.hid (HTw3.out.mono hB)
      clear HBw3 HTw3
      clear hB
      obtain ⟨g, z⟩ := HGQ.out _ HBw4.out
      go_wp2_with fail
      refine (HPL2.out _ (btr HB0.out HBw4.out) HSM.out).mono ?_
      rintro e w5 ⟨rfl, hB⟩
      clear g z
      have HBw5 := Lib.hid (btr HBw4.out hB)
      have HTw5 := Lib.hid (HTw4.out.mono hB)
      have HPw5 := Lib.hid (HPw4.out.mono hB)
      clear HBw4 HTw4 HPw4
      clear hB
      obtain ⟨g, z⟩ := HGQ.out _ HBw5.out
      go_wp2_with fail
      have hq0 : (w5.alloc (.cells #[.int .i64 T1, .int .i64 T2] 32)).cell? ⟨w5.heap.size, 0, none⟩ = some (.int .i64 T1) := cnew rfl rfl
      have hq1 : (w5.alloc (.cells #[.int .i64 T1, .int .i64 T2] 32)).cell? ⟨w5.heap.size, 0 + 1, none⟩ = some (.int .i64 T2) := cnew rfl rfl
      have zq : w5.heap.size < (w5.alloc (.cells #[.int .i64 T1, .int .i64 T2] 32)).heap.size := by simp
      have hB := bal (bz w5) (.cells #[.int .i64 T1, .int .i64 T2] 32)
      generalize w5.alloc (.cells #[.int .i64 T1, .int .i64 T2] 32) = w6 at hq0 hq1 zq hB ⊢
      have HBw6 := Lib.hid (btr HBw5.out hB)
      have HTw6 := Lib.hid (HTw5.out.mono hB)
      have HPw6 := Lib.hid (HPw5.out.mono hB)
      clear HBw5 HTw5 HPw5
      generalize w5.heap.size = b1 at hq0 hq1 zq ⊢
      have HN := Lib.hid (fun (wz : World) (h : Below w6.heap.size w6 wz) => (⟨(h.cell (p := ⟨b1, 0, none⟩) zq).trans hq0, (h.cell (p := ⟨b1, 0 + 1, none⟩) zq).trans hq1, Nat.lt_of_lt_of_le zq h.size⟩ : wz.cell? ⟨b1, 0, none⟩ = some (.int .i64 T1) ∧ wz.cell? ⟨b1, 0 + 1, none⟩ = some (.int .i64 T2) ∧ b1 < wz.heap.size))
      clear hq0 hq1 zq hB
      have HSNw6 := Lib.hid (bz w6)
      clear g z
      refine (HEX2.out _ _ (btr HB0.out HBw6.out) HTw6.out).mono ?_
      rintro e w7 ⟨ux, rfl, hr, hB⟩
      obtain ⟨ax, cx, hu⟩ := hr.sl
      subst hu
      rw [HKN.out] at hr ⊢
      have HKw7 := Lib.hid hr
      clear hr
      have HBw7 := Lib.hid (btr HBw6.out hB)
      have HTw7 := Lib.hid (HTw6.out.mono hB)
      have HPw7 := Lib.hid (HPw6.out.mono hB)
      have HSNw7 := Lib.hid (btr HSNw6.out hB)
      clear HBw6 HTw6 HPw6 HSNw6
      clear hB
      go_wp2_with fail
      have hq0 : (w7.alloc (.cells #[.slice ax n cx] 24)).cell? ⟨w7.heap.size, 0, none⟩ = some (.slice ax n cx) := cnew rfl rfl
      have zq : w7.heap.size < (w7.alloc (.cells #[.slice ax n cx] 24)).heap.size := by simp
      have hB := bal (bz w7) (.cells #[.slice ax n cx] 24)
      generalize w7.alloc (.cells #[.slice ax n cx] 24) = w8 at hq0 zq hB ⊢
      have HBw8 := Lib.hid (btr HBw7.out hB)
      have HTw8 := Lib.hid (HTw7.out.mono hB)
      have HPw8 := Lib.hid (HPw7.out.mono hB)
      have HSNw8 := Lib.hid (btr HSNw7.out hB)
      have HKw8 := Lib.hid (HKw7.out.mono hB)
      clear HBw7 HTw7 HPw7 HSNw7 HKw7
      generalize w7.heap.size = b2 at hq0 zq ⊢
      have HX := Lib.hid (fun (wz : World) (h : Below w8.heap.size w8 wz) => (⟨(h.cell (p := ⟨b2, 0, none⟩) zq).trans hq0, Nat.lt_of_lt_of_le zq h.size⟩ : wz.cell? ⟨b2, 0, none⟩ = some (.slice ax n cx) ∧ b2 < wz.heap.size))
      clear hq0 zq hB
      have HSXw8 := Lib.hid (bz w8)
      refine (HKS2.out _ _ HKw8.out).mono ?_
      rintro e w9 ⟨⟨uk, rfl, hr⟩, hB⟩
      obtain ⟨ak, ck, hu⟩ := rdP_lenZ hr
      subst hu
      rw [HSKL.out]
      have HVw9 := Lib.hid hr
      clear hr
      have HBw9 := Lib.hid (btr HBw8.out hB)
      have HTw9 := Lib.hid (HTw8.out.mono hB)
      have HPw9 := Lib.hid (HPw8.out.mono hB)
      have HSNw9 := Lib.hid (btr HSNw8.out hB)
      have HKw9 := Lib.hid (HKw8.out.mono hB)
      have HSXw9 := Lib.hid (btr HSXw8.out hB)
      clear HBw8 HTw8 HPw8 HSNw8 HKw8 HSXw8
      clear hB
      obtain ⟨gx, zx⟩ := HX.out _ HSXw9.out
      go_wp2_with fail
      refine (HKL2.out _ _ HKw9.out).mono ?_
      rintro e w10 ⟨rfl, hB⟩
      clear gx zx
      have HBw10 := Lib.hid (btr HBw9.out hB)
      have HTw10 := Lib.hid (HTw9.out.mono hB)
      have HPw10 := Lib.hid (HPw9.out.mono hB)
      have HSNw10 := Lib.hid (btr HSNw9.out hB)
      have HKw10 := Lib.hid (HKw9.out.mono hB)
      have HSXw10 := Lib.hid (btr HSXw9.out hB)
      have HVw10 := Lib.hid (HVw9.out.mono hB)
      clear HBw9 HTw9 HPw9 HSNw9 HKw9 HSXw9 HVw9
      clear hB
      obtain ⟨gx, zx⟩ := HX.out _ HSXw10.out
      go_wp2_with fail
      have hq0 : (w10.alloc (.cells #[.int .i64 T, .int .i64 T] 32)).cell? ⟨w10.heap.size, 0, none⟩ = some (.int .i64 T) := cnew rfl rfl
      have hq1 : (w10.alloc (.cells #[.int .i64 T, .int .i64 T] 32)).cell? ⟨w10.heap.size, 0 + 1, none⟩ = some (.int .i64 T) := cnew rfl rfl
      have zq : w10.heap.size < (w10.alloc (.cells #[.int .i64 T, .int .i64 T] 32)).heap.size := by simp
      have hB := bal (bz w10) (.cells #[.int .i64 T, .int .i64 T] 32)
      generalize w10.alloc (.cells #[.int .i64 T, .int .i64 T] 32) = w11 at hq0 hq1 zq hB ⊢
      have HBw11 := Lib.hid (btr HBw10.out hB)
      have HTw11 := Lib.hid (HTw10.out.mono hB)
      have HPw11 := Lib.hid (HPw10.out.mono hB)
      have HSNw11 := Lib.hid (btr HSNw10.out hB)
      have HKw11 := Lib.hid (HKw10.out.mono hB)
      have HSXw11 := Lib.hid (btr HSXw10.out hB)
      have HVw11 := Lib.hid (HVw10.out.mono hB)
      clear HBw10 HTw10 HPw10 HSNw10 HKw10 HSXw10 HVw10
      generalize w10.heap.size = b3 at hq0 hq1 zq ⊢
      have HM := Lib.hid (fun (wz : World) (h : Below w11.heap.size w11 wz) => (⟨(h.cell (p := ⟨b3, 0, none⟩) zq).trans hq0, (h.cell (p := ⟨b3, 0 + 1, none⟩) zq).trans hq1, Nat.lt_of_lt_of_le zq h.size⟩ : wz.cell? ⟨b3, 0, none⟩ = some (.int .i64 T) ∧ wz.cell? ⟨b3, 0 + 1, none⟩ = some (.int .i64 T) ∧ b3 < wz.heap.size))
      clear hq0 hq1 zq hB
      have HSMw11 := Lib.hid (bz w11)
      clear gx zx
      obtain ⟨gx, zx⟩ := HX.out _ HSXw11.out
      go_wp2_with fail
      refine (HKC2.out _ _ HKw11.out).mono ?_
      intro e w12 hO
      obtain ⟨ul, m, rfl, hm, h1, h2, h3, hB⟩ := HKO.out _ _ _ hO
      obtain ⟨al, cl, hu⟩ := exI hm _ rfl
      subst hu
      have HAw12 := Lib.hid hm; have HA1 := Lib.hid h1; have HA2 := Lib.hid h2; have HA3 := Lib.hid h3
      clear hO hm h1 h2 h3 gx zx
      have HBw12 := Lib.hid (btr HBw11.out hB)
      have HTw12 := Lib.hid (HTw11.out.mono hB)
      have HPw12 := Lib.hid (HPw11.out.mono hB)
      have HSNw12 := Lib.hid (btr HSNw11.out hB)
      have HKw12 := Lib.hid (HKw11.out.mono hB)
      have HSXw12 := Lib.hid (btr HSXw11.out hB)
      have HVw12 := Lib.hid (HVw11.out.mono hB)
      have HSMw12 := Lib.hid (btr HSMw11.out hB)
      clear HBw11 HTw11 HPw11 HSNw11 HKw11 HSXw11 HVw11 HSMw11
      clear hB
      obtain ⟨g, z⟩ := HGQ.out _ HBw12.out
      obtain ⟨n0, n1, nz⟩ := HN.out _ HSNw12.out
      obtain ⟨m0, m1, mz⟩ := HM.out _ HSMw12.out
      have d1 : decide (T < T1) = false := decide_eq_false (by omega)
      have d2 : decide (T2 < T) = false := decide_eq_false (by omega)
      go_wp2_with fail
      refine (HBG2.out _ _ (btr HB0.out HBw12.out) HTw12.out).mono ?_
      rintro e w13 ⟨ub, rfl, hr, hB⟩
      clear g z n0 n1 nz m0 m1 mz d1 d2
      obtain ⟨ab, cb, hu⟩ := exI hr.rd n (fnL_len BT n)
      subst hu
      have HGw13 := Lib.hid hr.rd
      clear hr
      have HBw13 := Lib.hid (btr HBw12.out hB)
      have HTw13 := Lib.hid (HTw12.out.mono hB)
      have HPw13 := Lib.hid (HPw12.out.mono hB)
      have HSNw13 := Lib.hid (btr HSNw12.out hB)
      have HKw13 := Lib.hid (HKw12.out.mono hB)
      have HSXw13 := Lib.hid (btr HSXw12.out hB)
      have HVw13 := Lib.hid (HVw12.out.mono hB)
      have HSMw13 := Lib.hid (btr HSMw12.out hB)
      have HAw13 := Lib.hid (HAw12.out.mono hB)
      clear HBw12 HTw12 HPw12 HSNw12 HKw12 HSXw12 HVw12 HSMw12 HAw12
      clear hB
      obtain ⟨bB, oB, rfl, hbB, hcB⟩ := HGw13.out.get (by rw [fnL_len]; exact HN1.out)
      obtain ⟨aS, cS, e, hcS0⟩ := HPw13.out.form'
      rw [HSP.out] at e hcS0
      obtain ⟨bS, oS, rfl, hbS, hcS⟩ := hcS0 HN1.out
      cases e
      obtain ⟨aV, cV, e, hcV0⟩ := HVw13.out.form'
      rw [HSKL.out] at e hcV0
      obtain ⟨bV, oV, rfl, hbV, hcV⟩ := hcV0 HN1.out
      cases e
      have HBC := Lib.hid (fun (wz : World) (h : Below w13.heap.size w13 wz) i (hi : i < n) => (⟨(h.cell (p := ⟨bB, oB + i, none⟩) hbB).trans (by rw [← HFE.out BT i hi]; exact hcB i (by rw [fnL_len]; exact hi)), Nat.lt_of_lt_of_le hbB h.size⟩ : wz.cell? ⟨bB, oB + i, none⟩ = some (.int .i64 (BT i)) ∧ bB < wz.heap.size))
      have HSC := Lib.hid (fun (wz : World) (h : Below w13.heap.size w13 wz) i (hi : i < n) => (⟨(h.cell (p := ⟨bS, oS + i * 2, none⟩) hbS).trans (by have := (hcS i hi).1; rwa [HJ4.out i hi] at this), (h.cell (p := ⟨bS, oS + i * 2 + 1, none⟩) hbS).trans (by have := (hcS i hi).2; rwa [HJ4.out i hi] at this), Nat.lt_of_lt_of_le hbS h.size⟩ : wz.cell? ⟨bS, oS + i * 2, none⟩ = some (.int .i64 (BL i)) ∧ wz.cell? ⟨bS, oS + i * 2 + 1, none⟩ = some (.int .i64 (BH i)) ∧ bS < wz.heap.size))
      have HVC := Lib.hid (fun (wz : World) (h : Below w13.heap.size w13 wz) i (hi : i < n) => (⟨(h.cell (p := ⟨bV, oV + i * 2, none⟩) hbV).trans (by have := (hcV i hi).1; rwa [HJ5.out i hi] at this), (h.cell (p := ⟨bV, oV + i * 2 + 1, none⟩) hbV).trans (by have := (hcV i hi).2; rwa [HJ5.out i hi] at this), Nat.lt_of_lt_of_le hbV h.size⟩ : wz.cell? ⟨bV, oV + i * 2, none⟩ = some (.int .i64 (BT i)) ∧ wz.cell? ⟨bV, oV + i * 2 + 1, none⟩ = some (.int .i64 (BT i)) ∧ bV < wz.heap.size))
      clear hcB hcS0 hcS hcV0 hcV hbB hbS hbV HGw13 HPw13 HVw13
      go_wp2_with fail
      go_loopw [20] (fun s20 wr => ∃ k : Nat, k ≤ n ∧ s20 = .int .i64 k ∧ Below w13.heap.size w13 wr) (fun s20 _ => n - (intOf s20).toNat)
      case atStart => exact ⟨0, Nat.zero_le _, rfl, bz w13⟩
      case round =>
        obtain ⟨k, hk, rfl, hB⟩ := hrel
        have HBR := Lib.hid hB
        rename World => wO
        clear hB
        by_cases hlt : k < n
        · obtain ⟨p1, p2⟩ := HTB.out k hlt
          have d1 : decide (BT k < BL k) = false := decide_eq_false (by omega)
          have d2 : decide (BH k < BT k) = false := decide_eq_false (by omega)
          go_upto_region 16 with fail
          refine wp_region_flow [] [([0, 1, 2, 3, 4, 5, 6, 7, 8, 9, 10, 11], 12, true)] [13, 14, 15, 16, 17, 18, 19, 20, 21, 22, 23, 24, 25, 26, 27, 28, 29, 30, 31, 32, 33, 34, 35, 36, 37] (by kernel_rfl) (by kernel_rfl) ?_
          intro wc hBc hh
          clear hh
          have HBC2 := Lib.hid (btr HBR.out hBc)
          have hL := @Later.cell wc
          clear hBc
          obtain ⟨c1, y1⟩ := HBC.out _ HBC2.out k hlt
          obtain ⟨c2, c3, y2⟩ := HSC.out _ HBC2.out k hlt
          obtain ⟨c4, c5, y3⟩ := HVC.out _ HBC2.out k hlt
          simp only [flowP, flow, pickL, List.getElem?_cons_succ, List.getElem?_cons_zero]
          refine wpQuiet_nil ?_
          repeat (go_big_quiet_step (fail))
          refine wpQuiet_nil ?_
          go_wp2_with fail
          refine (days_any _ _ wc).mono ?_
          rintro e w5 ⟨rfl, hB⟩
          have HS5 := Lib.hid hB
          clear hB
          go_wp2
          refine seg_grow ⟨⟨_, HS5.out⟩, rfl⟩ ?_
          repeat (go_big_quiet_step (fail))
          refine wpQuiet_nil ?_
          refine only_done ?_
          clear hL c1 y1 c2 c3 y2 c4 c5 y3 d1 d2
          go_wp2_with fail
          go_roundw
          case rel => exact ⟨k + 1, by omega, by go_num, btr HBC2.out HS5.out⟩
          case measure => simp [intOf]; omega
        · clear HBC HSC HVC HTB
          have HBwO := Lib.hid (btr HBw13.out HBR.out)
          have HTwO := Lib.hid (HTw13.out.mono HBR.out)
          have HSNwO := Lib.hid (btr HSNw13.out HBR.out)
          have HKwO := Lib.hid (HKw13.out.mono HBR.out)
          have HSXwO := Lib.hid (btr HSXw13.out HBR.out)
          have HSMwO := Lib.hid (btr HSMw13.out HBR.out)
          have HAwO := Lib.hid (HAw13.out.mono HBR.out)
          clear HBw13 HTw13 HSNw13 HKw13 HSXw13 HSMw13 HAw13
          obtain ⟨gx, zx⟩ := HX.out _ HSXwO.out
          go_wp2_with fail
          refine (HCC.out _ m _ _ HKwO.out HAwO.out HA2.out).mono ?_
          rw [HA1.out, HA3.out]
          dsimp only
          rintro e w14 ⟨rfl, hB⟩
          clear gx zx hlt
          have HBw14 := Lib.hid (btr HBwO.out hB)
          have HTw14 := Lib.hid (HTwO.out.mono hB)
          have HSNw14 := Lib.hid (btr HSNwO.out hB)
          have HKw14 := Lib.hid (HKwO.out.mono hB)
          have HSXw14 := Lib.hid (btr HSXwO.out hB)
          have HSMw14 := Lib.hid (btr HSMwO.out hB)
          have HAw14 := Lib.hid (HAwO.out.mono hB)
          clear HBwO HTwO HSNwO HKwO HSXwO HSMwO HAwO
          clear hB
          obtain ⟨gx, zx⟩ := HX.out _ HSXw14.out
          go_wp2_with fail
          have hq0 : (w14.alloc (.cells #[.int .i64 T, .int .i64 T] 32)).cell? ⟨w14.heap.size, 0, none⟩ = some (.int .i64 T) := cnew rfl rfl
          have hq1 : (w14.alloc (.cells #[.int .i64 T, .int .i64 T] 32)).cell? ⟨w14.heap.size, 0 + 1, none⟩ = some (.int .i64 T) := cnew rfl rfl
          have zq : w14.heap.size < (w14.alloc (.cells #[.int .i64 T, .int .i64 T] 32)).heap.size := by simp
          have hB := bal (bz w14) (.cells #[.int .i64 T, .int .i64 T] 32)
          generalize w14.alloc (.cells #[.int .i64 T, .int .i64 T] 32) = w15 at hq0 hq1 zq hB ⊢
          have HBw15 := Lib.hid (btr HBw14.out hB)
          have HTw15 := Lib.hid (HTw14.out.mono hB)
          have HSNw15 := Lib.hid (btr HSNw14.out hB)
          have HKw15 := Lib.hid (HKw14.out.mono hB)
          have HSXw15 := Lib.hid (btr HSXw14.out hB)
          have HSMw15 := Lib.hid (btr HSMw14.out hB)
          have HAw15 := Lib.hid (HAw14.out.mono hB)
          clear HBw14 HTw14 HSNw14 HKw14 HSXw14 HSMw14 HAw14
          generalize w14.heap.size = b4 at hq0 hq1 zq ⊢
          have HU := Lib.hid (fun (wz : World) (h : Below w15.heap.size w15 wz) => (⟨(h.cell (p := ⟨b4, 0, none⟩) zq).trans hq0, (h.cell (p := ⟨b4, 0 + 1, none⟩) zq).trans hq1, Nat.lt_of_lt_of_le zq h.size⟩ : wz.cell? ⟨b4, 0, none⟩ = some (.int .i64 T) ∧ wz.cell? ⟨b4, 0 + 1, none⟩ = some (.int .i64 T) ∧ b4 < wz.heap.size))
          clear hq0 hq1 zq hB
          have HSUw15 := Lib.hid (bz w15)
          clear gx zx
          refine (HRC.out _ m _ _ HKw15.out HAw15.out HA2.out).mono ?_
          rw [HA1.out, HA3.out]
          dsimp only
          rintro e w16 ⟨rfl, hB⟩
          have HBw16 := Lib.hid (btr HBw15.out hB)
          have HTw16 := Lib.hid (HTw15.out.mono hB)
          have HSNw16 := Lib.hid (btr HSNw15.out hB)
          have HKw16 := Lib.hid (HKw15.out.mono hB)
          have HSXw16 := Lib.hid (btr HSXw15.out hB)
          have HSMw16 := Lib.hid (btr HSMw15.out hB)
          have HAw16 := Lib.hid (HAw15.out.mono hB)
          have HSUw16 := Lib.hid (btr HSUw15.out hB)
          clear HBw15 HTw15 HSNw15 HKw15 HSXw15 HSMw15 HAw15 HSUw15
          clear hB
          go_upto_region 20 with fail
          have hq0 : (w16.alloc (.cells #[.int .i64 T, .int .i64 T] 32)).cell? ⟨w16.heap.size, 0, none⟩ = some (.int .i64 T) := cnew rfl rfl
          have hq1 : (w16.alloc (.cells #[.int .i64 T, .int .i64 T] 32)).cell? ⟨w16.heap.size, 0 + 1, none⟩ = some (.int .i64 T) := cnew rfl rfl
          have zq : w16.heap.size < (w16.alloc (.cells #[.int .i64 T, .int .i64 T] 32)).heap.size := by simp
          have hB := bal (bz w16) (.cells #[.int .i64 T, .int .i64 T] 32)
          generalize w16.alloc (.cells #[.int .i64 T, .int .i64 T] 32) = w17 at hq0 hq1 zq hB ⊢
          have HBw17 := Lib.hid (btr HBw16.out hB)
          have HTw17 := Lib.hid (HTw16.out.mono hB)
          have HSNw17 := Lib.hid (btr HSNw16.out hB)
          have HKw17 := Lib.hid (HKw16.out.mono hB)
          have HSXw17 := Lib.hid (btr HSXw16.out hB)
          have HSMw17 := Lib.hid (btr HSMw16.out hB)
          have HAw17 := Lib.hid (HAw16.out.mono hB)
          have HSUw17 := Lib.hid (btr HSUw16.out hB)
          clear HBw16 HTw16 HSNw16 HKw16 HSXw16 HSMw16 HAw16 HSUw16
          generalize w16.heap.size = b5 at hq0 hq1 zq ⊢
          have HW := Lib.hid (fun (wz : World) (h : Below w17.heap.size w17 wz) => (⟨(h.cell (p := ⟨b5, 0, none⟩) zq).trans hq0, (h.cell (p := ⟨b5, 0 + 1, none⟩) zq).trans hq1, Nat.lt_of_lt_of_le zq h.size⟩ : wz.cell? ⟨b5, 0, none⟩ = some (.int .i64 T) ∧ wz.cell? ⟨b5, 0 + 1, none⟩ = some (.int .i64 T) ∧ b5 < wz.heap.size))
          clear hq0 hq1 zq hB
          have HSWw17 := Lib.hid (bz w17)
          refine wp_region_flow [] [([0, 1, 2, 3, 4, 5, 6, 7, 8, 9, 10, 11, 12, 13, 14, 15, 16, 17, 18, 19, 20], 21, true)] [22, 23] (by kernel_rfl) (by kernel_rfl) ?_
          intro wc hBc hh
          clear hh
          have hL := @Later.cell wc
          have HBwc := Lib.hid (btr HBw17.out hBc)
          have HTwc := Lib.hid (HTw17.out.mono hBc)
          have HSNwc := Lib.hid (btr HSNw17.out hBc)
          have HKwc := Lib.hid (HKw17.out.mono hBc)
          have HSXwc := Lib.hid (btr HSXw17.out hBc)
          have HSMwc := Lib.hid (btr HSMw17.out hBc)
          have HAwc := Lib.hid (HAw17.out.mono hBc)
          have HSUwc := Lib.hid (btr HSUw17.out hBc)
          have HSWwc := Lib.hid (btr HSWw17.out hBc)
          clear HBw17 HTw17 HSNw17 HKw17 HSXw17 HSMw17 HAw17 HSUw17 HSWw17
          clear hBc
          obtain ⟨g, z⟩ := HGQ.out _ HBwc.out
          obtain ⟨M0, M1, Mz⟩ := HM.out _ HSMwc.out
          obtain ⟨U0, U1, Uz⟩ := HU.out _ HSUwc.out
          obtain ⟨W0, W1, Wz⟩ := HW.out _ HSWwc.out
          simp only [flowP, flow, pickL, List.getElem?_cons_succ, List.getElem?_cons_zero]
          refine wpQuiet_nil ?_
          repeat (go_big_quiet_step (fail))
          refine wpQuiet_nil ?_
          go_wp2_with fail
          refine (HTK2.out _ _ (btr HB0.out HBwc.out) HTwc.out).mono ?_
          rintro e w18 ⟨rfl, hB⟩
          have HS18 := Lib.hid hB
          clear hB
          go_wp2
          refine seg_grow ⟨⟨_, HS18.out⟩, rfl⟩ ?_
          repeat (go_big_quiet_step (fail))
          refine wpQuiet_nil ?_
          refine only_done ?_
          clear hL g z M0 M1 Mz U0 U1 Uz W0 W1 Wz
          have HBw18 := Lib.hid (btr HBwc.out HS18.out)
          have HTw18 := Lib.hid (HTwc.out.mono HS18.out)
          have HSNw18 := Lib.hid (btr HSNwc.out HS18.out)
          have HKw18 := Lib.hid (HKwc.out.mono HS18.out)
          have HSXw18 := Lib.hid (btr HSXwc.out HS18.out)
          have HSMw18 := Lib.hid (btr HSMwc.out HS18.out)
          have HAw18 := Lib.hid (HAwc.out.mono HS18.out)
          have HSUw18 := Lib.hid (btr HSUwc.out HS18.out)
          have HSWw18 := Lib.hid (btr HSWwc.out HS18.out)
          clear HBwc HTwc HSNwc HKwc HSXwc HSMwc HAwc HSUwc HSWwc
          obtain ⟨gx, zx⟩ := HX.out _ HSXw18.out
          go_wp2_with fail
          refine (HCC.out _ ch _ _ HKw18.out (HY.out.mono (btr HB0.out HBw18.out)) HCL.out).mono ?_
          rintro e w19 ⟨rfl, hB⟩
          clear gx zx
          have HBw19 := Lib.hid (btr HBw18.out hB)
          have HTw19 := Lib.hid (HTw18.out.mono hB)
          have HSNw19 := Lib.hid (btr HSNw18.out hB)
          have HKw19 := Lib.hid (HKw18.out.mono hB)
          have HSXw19 := Lib.hid (btr HSXw18.out hB)
          have HSMw19 := Lib.hid (btr HSMw18.out hB)
          have HAw19 := Lib.hid (HAw18.out.mono hB)
          have HSUw19 := Lib.hid (btr HSUw18.out hB)
          have HSWw19 := Lib.hid (btr HSWw18.out hB)
          clear HBw18 HTw18 HSNw18 HKw18 HSXw18 HSMw18 HAw18 HSUw18 HSWw18
          clear hB
          obtain ⟨v1, hv1⟩ : ∃ p, p = chainV K ch := ⟨_, rfl⟩
          rw [← hv1] at HCH ⊢
          clear hv1
          obtain ⟨v1, v2⟩ := v1
          generalize chainC K ch = cc at *
          dsimp only at *
          obtain ⟨g, z⟩ := HGQ.out _ HBw19.out
          obtain ⟨gx, zx⟩ := HX.out _ HSXw19.out
          go_upto_region 23 with fail
          have hq0 : (w19.alloc (.cells #[.int .i64 v1, .int .i64 v2] 32)).cell? ⟨w19.heap.size, 0, none⟩ = some (.int .i64 v1) := cnew rfl rfl
          have hq1 : (w19.alloc (.cells #[.int .i64 v1, .int .i64 v2] 32)).cell? ⟨w19.heap.size, 0 + 1, none⟩ = some (.int .i64 v2) := cnew rfl rfl
          have zq : w19.heap.size < (w19.alloc (.cells #[.int .i64 v1, .int .i64 v2] 32)).heap.size := by simp
          have hB := bal (bz w19) (.cells #[.int .i64 v1, .int .i64 v2] 32)
          generalize w19.alloc (.cells #[.int .i64 v1, .int .i64 v2] 32) = w20 at hq0 hq1 zq hB ⊢
          have HBw20 := Lib.hid (btr HBw19.out hB)
          have HTw20 := Lib.hid (HTw19.out.mono hB)
          have HSNw20 := Lib.hid (btr HSNw19.out hB)
          have HKw20 := Lib.hid (HKw19.out.mono hB)
          have HSXw20 := Lib.hid (btr HSXw19.out hB)
          have HSMw20 := Lib.hid (btr HSMw19.out hB)
          have HAw20 := Lib.hid (HAw19.out.mono hB)
          have HSUw20 := Lib.hid (btr HSUw19.out hB)
          have HSWw20 := Lib.hid (btr HSWw19.out hB)
          clear HBw19 HTw19 HSNw19 HKw19 HSXw19 HSMw19 HAw19 HSUw19 HSWw19
          generalize w19.heap.size = b6 at hq0 hq1 zq ⊢
          have HO := Lib.hid (fun (wz : World) (h : Below w20.heap.size w20 wz) => (⟨(h.cell (p := ⟨b6, 0, none⟩) zq).trans hq0, (h.cell (p := ⟨b6, 0 + 1, none⟩) zq).trans hq1, Nat.lt_of_lt_of_le zq h.size⟩ : wz.cell? ⟨b6, 0, none⟩ = some (.int .i64 v1) ∧ wz.cell? ⟨b6, 0 + 1, none⟩ = some (.int .i64 v2) ∧ b6 < wz.heap.size))
          clear hq0 hq1 zq hB
          have HSOw20 := Lib.hid (bz w20)
          clear g z gx zx
          obtain ⟨m0, m1, mz⟩ := HM.out _ HSMw20.out
          obtain ⟨o0, o1, oz⟩ := HO.out _ HSOw20.out
          by_cases hcc : cc = 0
          · have hv : v1 ≤ T := HCH.out hcc
            have d1 : decide (v1 ≤ T) = true := decide_eq_true hv
            have t0 : (cc != 0) = false := by simp [hcc]
            clear hcc
            go_wp2_with fail
            refine (HWK.out _).mono ?_
            rintro e w21 ⟨rfl, hB⟩
            have HB21 := Lib.hid (btr HB0.out (btr HBw20.out hB))
            clear hB
            go_wp2_with fail
            go_ret
            exact ⟨rfl, HB21.out⟩
          · have t0 : (cc != 0) = true := by simp [hcc]
            clear hcc
            go_wp2_with fail
            refine (HWK.out _).mono ?_
            rintro e w21 ⟨rfl, hB⟩
            have HB21 := Lib.hid (btr HB0.out (btr HBw20.out hB))
            clear hB
            go_wp2_with fail
            go_ret
            exact ⟨rfl, HB21.out⟩
end Go.Proofs.YteknehlkdgamjaaGreat
