/- PlanWidth, in terms of Works: as few covering lists as free jobs; no condition. -/
import Derived.Test.YteknehlkdgamjaaGreatMHlz
import Derived.Test.YteknehlkdgamjaaGreatMLnz
import Derived.Test.YteknehlkdgamjaaGreatMGU
namespace Go.Proofs.YteknehlkdgamjaaGreat
open Go.RowKit Go.Shelf

/-- What Cover returns. -/
def CovP (J : List Job) (R : List (List Int)) : Prop := ∃ nx bf, MatI J nx bf J.length ∧ R = covI J nx bf J.length
theorem cover_outP {J : List Job} (h0 : errC J = 0) {w w' : World} {e : Ending} (h : CoverOut J w e w') :
    ∃ u R, e = .returned (.tuple #[u, .int .i64 0]) ∧ RdLL w' u R ∧ CovP J R ∧ Below w.heap.size w w' := by
  obtain ⟨h | h, hB⟩ := h
  · exact absurd h0 h.1
  · obtain ⟨_, v, nx, bf, rfl, h1, h2⟩ := h
    exact ⟨v, _, rfl, h2, ⟨nx, bf, h1, rfl⟩, hB⟩
theorem width_P {J : List Job} (h0 : errC J = 0) {l : List Nat} {R : List (List Int)} (h : FreP J l) (hR : CovP J R) :
    l.length ≤ J.length ∧ Sml R ∧ coverC J R = 0 ∧ coverV J R = (l.length : Int) ∧ freeC J (ints l) = 0 ∧ freeV J (ints l) = (l.length : Int) := by
  obtain ⟨nx, bf, F, G, hm, hf, rfl⟩ := h
  obtain ⟨nx', bf', hm', rfl⟩ := hR
  obtain ⟨h1, h2, h3, h4⟩ := width_facts h0 hm hf hm'
  obtain ⟨h5, h6⟩ := frTo_code h0 hf
  exact ⟨h1, h2, h3, h4, h5, h6⟩
theorem own_P {J : List Job} (h0 : errC J = 0) {l : List Nat} (h : FreP J l) (p : Nat → Bool) :
    (freeC J (ints (fltN p J.length)) = 0 ∧ freeV J (ints (fltN p J.length)) = ((fltN p J.length).length : Int) ∧ (fltN p J.length).length ≤ l.length) ∨ (freeC J (ints (fltN p J.length)) = 16 ∧ freeV J (ints (fltN p J.length)) = 0) := by
  obtain ⟨nx, bf, F, G, hm, hf, rfl⟩ := h
  exact width_own h0 hm hf p
theorem cov_P {J : List Job} {l : List Nat} (h : FreP J l) {R : List (List Int)} (hc : coverC J R = 0) : (l.length : Int) ≤ coverV J R := by
  obtain ⟨nx, bf, F, G, hm, hf, rfl⟩ := h
  exact width_cov hf hc
def bitP (bt : Int) (k : Nat) : Bool := bits .and .u16 (bt / 2 ^ k) 1 == 1
set_option maxRecDepth 100000 in
set_option maxHeartbeats 25600000 in
theorem planwidth_core (hwk : WorksSaid) (v y : Value) (J : List Job) (bt : Int) (RC : List (List Int)) (w : World) (hx0 : RdJ w v J) (hbt : (Lit.int .u16 bt).wf = true) (hy0 : RdLL w y RC) :
    Calls Tryz.prog 11 #[.agg #[v], .int .u16 bt, y] w fun e w' => e = .returned (.bool true) ∧ Below w.heap.size w w' := by
  have HWK := Lib.hid hwk
  unfold WorksSaid at HWK
  have HBT : 0 ≤ bt ∧ bt ≤ 65535 := by simp [Lit.wf] at hbt; exact hbt
  have HFI := Lib.hid (fun wz (h : Below w.heap.size w wz) => fine_any v J wz (hx0.mono h))
  have HFT := Lib.hid (fun h => fineJ_true (J := J) h)
  have HLO := Lib.hid (fun wz (h : Below w.heap.size w wz) => long_any y RC wz (hy0.mono h))
  have HLS := Lib.hid (fun (h : longB RC = false) => long_sml.1 h)
  have HPF := Lib.hid (fun wz (h : Below w.heap.size w wz) (hs : SmJ J) => pfree_any v J wz (hx0.mono h) hs)
  have HPC := Lib.hid (fun wz (h : Below w.heap.size w wz) (hs : SmJ J) => pcover_any v J wz (hx0.mono h) hs)
  have HCF := Lib.hid (fun y l wz (h : Below w.heap.size w wz) (hs : SmJ J) (hy : RdI wz .i64 y l) (hl : l.length ≤ 1000) => pcheckfree_any v y J l wz (hx0.mono h) hy hl hs)
  have HRF := Lib.hid (fun y l wz (h : Below w.heap.size w wz) (hs : SmJ J) (hy : RdI wz .i64 y l) (hl : l.length ≤ 1000) => rcheckfree_any v y J l wz (hx0.mono h) hy hl hs)
  have HCC := Lib.hid (fun y R wz (h : Below w.heap.size w wz) (hs : SmJ J) (hy : RdLL wz y R) (hR : Sml R) => pcheckcover_any v y J R wz (hx0.mono h) hy hs hR)
  have HRC := Lib.hid (fun y R wz (h : Below w.heap.size w wz) (hs : SmJ J) (hy : RdLL wz y R) (hR : Sml R) => rcheckcover_any v y J R wz (hx0.mono h) hy hs hR)
  have HYC := Lib.hid (fun wz (h : Below w.heap.size w wz) => hy0.mono h)
  have HFO := Lib.hid (fun (h0 : errC J = 0) wz w' e (h : FreeOut J wz e w') => free_outP h0 h)
  have HCO := Lib.hid (fun (h0 : errC J = 0) wz w' e (h : CoverOut J wz e w') => cover_outP h0 h)
  have HWP := Lib.hid (fun (h0 : errC J = 0) l R (h : FreP J l) (hR : CovP J R) => width_P h0 h hR)
  have HOP := Lib.hid (fun (h0 : errC J = 0) l p (h : FreP J l) => own_P h0 h p)
  have HCP := Lib.hid (fun l (h : FreP J l) (hc : coverC J RC = 0) => cov_P h hc)
  obtain ⟨a, c, rfl⟩ := hx0.sl
  clear hx0 hwk hbt hy0
  obtain ⟨n, hn⟩ : ∃ n, n = J.length := ⟨_, rfl⟩
  have HN1' : Hid (errC J = 0 → 0 < n ∧ n ≤ 12) := Lib.hid (fun h0 => by have := (fine_err h0).1.n1; have := (fine_err h0).1.n12; omega)
  rw [← hn] at HFI HPF HPC HCF HRF HCC HRC HWP HOP ⊢
  clear hn
  unfold RetN at HCF HRF HCC HRC
  have HB0 := Lib.hid (bal (bz w) (.cells #[.slice a n c] 24))
  have gq : (w.alloc (.cells #[.slice a n c] 24)).cell? ⟨w.heap.size, 0, none⟩ = some (.slice a n c) := cnew rfl rfl
  have zq : w.heap.size < (w.alloc (.cells #[.slice a n c] 24)).heap.size := by simp
  generalize hgr : fineJ J = gr at *
  clear hgr
  generalize hlb : longB RC = lb at *
  clear hlb
  obtain ⟨hbt1, hbt2⟩ := HBT
  go_enter Tryz.func11, Tryz.ntmps11
  go_wp2_with fail
  generalize w.alloc (.cells #[.slice a n c] 24) = w1 at *
  have HGQ := Lib.hid (fun (wz : World) (h : Below w1.heap.size w1 wz) => (⟨(h.cell (p := ⟨w.heap.size, 0, none⟩) zq).trans gq, Nat.lt_of_lt_of_le zq h.size⟩ : wz.cell? ⟨w.heap.size, 0, none⟩ = some (.slice a n c) ∧ w.heap.size < wz.heap.size))
  refine (HFI.out _ HB0.out).mono ?_
  rintro e w2 ⟨rfl, hB⟩
  have HBw2 := Lib.hid hB
  clear hB gq zq
  cases gr with
  | false =>
    go_wp2_with fail
    refine (HWK.out _).mono ?_
    rintro e w3 ⟨rfl, hB⟩
    have HBE := Lib.hid (btr HB0.out (btr HBw2.out hB))
    clear hB
    go_wp2_with fail
    go_ret
    exact ⟨rfl, HBE.out⟩
  | true =>
    obtain ⟨g, z⟩ := HGQ.out _ HBw2.out
    go_wp2_with fail
    refine (HLO.out _ (btr HB0.out HBw2.out)).mono ?_
    rintro e w' ⟨rfl, rfl⟩
    clear g z
    cases lb with
    | true =>
      go_wp2_with fail
      refine (HWK.out _).mono ?_
      rintro e w3 ⟨rfl, hB⟩
      have HBE := Lib.hid (btr HB0.out (btr HBw2.out hB))
      clear hB
      go_wp2_with fail
      go_ret
      exact ⟨rfl, HBE.out⟩
    | false =>
      have HSC := Lib.hid (HLS.out (by first | trivial | rfl))
      obtain ⟨hsm, h0⟩ := HFT.out (by first | trivial | rfl)
      have HPF2 := Lib.hid (fun wz h => HPF.out wz h hsm); have HPC2 := Lib.hid (fun wz h => HPC.out wz h hsm)
      have HCF2 := Lib.hid (fun y l wz h hy hl => HCF.out y l wz h hsm hy hl); have HRF2 := Lib.hid (fun y l wz h hy hl => HRF.out y l wz h hsm hy hl)
      have HCC2 := Lib.hid (fun y R wz h hy hR => HCC.out y R wz h hsm hy hR); have HRC2 := Lib.hid (fun y R wz h hy hR => HRC.out y R wz h hsm hy hR)
      have HFO2 := Lib.hid (HFO.out h0); have HCO2 := Lib.hid (HCO.out h0); have HWP2 := Lib.hid (HWP.out h0); have HOP2 := Lib.hid (HOP.out h0)
      obtain ⟨hn1, hn12⟩ := HN1'.out h0
      have HN1 := Lib.hid hn1
      clear hn1 hsm h0 HPF HPC HCF HRF HCC HRC HFO HCO HWP HOP HN1' HFT HFI HLO HLS
      obtain ⟨g, z⟩ := HGQ.out _ HBw2.out
      go_wp2_with fail
      refine (HPF2.out _ (btr HB0.out HBw2.out)).mono ?_
      intro e w3 hO
      obtain ⟨uf, fl, rfl, hr, hfp, hB⟩ := HFO2.out _ _ _ hO
      obtain ⟨fn, hfn⟩ : ∃ fn, fn = fl.length := ⟨_, rfl⟩
      obtain ⟨af, cf, hu⟩ := exI hr fn (by rw [ints_len, hfn])
      subst hu
      have HFP := Lib.hid hfp; have HFN2 := Lib.hid hfn; have HAw3 := Lib.hid hr
      clear hO hr hfp hfn g z
      have HBw3 := Lib.hid (btr HBw2.out hB)
      clear HBw2
      clear hB
      obtain ⟨g, z⟩ := HGQ.out _ HBw3.out
      go_wp2_with fail
      refine (HPC2.out _ (btr HB0.out HBw3.out)).mono ?_
      intro e w4 hO
      obtain ⟨ub, R, rfl, hr, hcp, hB⟩ := HCO2.out _ _ _ hO
      obtain ⟨x1, x2, x3, x4, x5, x6⟩ := HWP2.out _ _ HFP.out hcp
      have HWR := Lib.hid x2; have HX3 := Lib.hid x3; have HX4 := Lib.hid x4; have HX5 := Lib.hid x5; have HX6 := Lib.hid x6
      have HLR := Lib.hid (long_sml.2 x2)
      have HRw4 := Lib.hid hr
      have HOP3 := Lib.hid (fun p => HOP2.out _ p HFP.out); have HCP3 := Lib.hid (HCP.out _ HFP.out)
      have HML := Lib.hid (show (ints fl).length ≤ 1000 by rw [ints_len]; omega)
      rw [← HFN2.out] at x1 HX4 HX6 HOP3 HCP3
      clear hO hr hcp x2 x3 x4 x5 x6 g z HFP HFN2 HOP2 HCP HFO2 HCO2 HPF2 HPC2 HWP2
      have HBw4 := Lib.hid (btr HBw3.out hB)
      have HAw4 := Lib.hid (HAw3.out.mono hB)
      clear HBw3 HAw3
      clear hB
      generalize ints fl = fi at *
      go_wp2_with fail
      refine (long_any _ _ _ HRw4.out).mono ?_
      rw [HLR.out]
      rintro e w' ⟨rfl, rfl⟩
      have d0 : decide ((n : Int) < (fn : Int)) = false := decide_eq_false (by omega)
      have d0' : decide (n < fn) = false := decide_eq_false (by omega)
      have d0n : ¬ n < fn := by omega
      obtain ⟨g, z⟩ := HGQ.out _ HBw4.out
      go_wp2_with fail
      refine (HCF2.out _ fi _ (btr HB0.out HBw4.out) HAw4.out HML.out).mono ?_
      rw [HX5.out, HX6.out]
      rintro e w5 ⟨rfl, hB⟩
      clear g z d0 d0' d0n
      have HBw5 := Lib.hid (btr HBw4.out hB)
      have HAw5 := Lib.hid (HAw4.out.mono hB)
      have HRw5 := Lib.hid (HRw4.out.mono hB)
      clear HBw4 HAw4 HRw4
      clear hB
      obtain ⟨g, z⟩ := HGQ.out _ HBw5.out
      go_wp2_with fail
      refine (HCC2.out _ R _ (btr HB0.out HBw5.out) HRw5.out HWR.out).mono ?_
      rw [HX3.out, HX4.out]
      rintro e w6 ⟨rfl, hB⟩
      clear g z
      have HBw6 := Lib.hid (btr HBw5.out hB)
      have HAw6 := Lib.hid (HAw5.out.mono hB)
      have HRw6 := Lib.hid (HRw5.out.mono hB)
      clear HBw5 HAw5 HRw5
      clear hB
      obtain ⟨g, z⟩ := HGQ.out _ HBw6.out
      go_wp2_with fail
      refine (HRF2.out _ fi _ (btr HB0.out HBw6.out) HAw6.out HML.out).mono ?_
      rw [HX5.out, HX6.out]
      rintro e w7 ⟨rfl, hB⟩
      clear g z
      have HBw7 := Lib.hid (btr HBw6.out hB)
      have HAw7 := Lib.hid (HAw6.out.mono hB)
      have HRw7 := Lib.hid (HRw6.out.mono hB)
      clear HBw6 HAw6 HRw6
      clear hB
      obtain ⟨g, z⟩ := HGQ.out _ HBw7.out
      go_wp2_with fail
      refine (HRC2.out _ R _ (btr HB0.out HBw7.out) HRw7.out HWR.out).mono ?_
      rw [HX3.out, HX4.out]
      rintro e w8 ⟨rfl, hB⟩
      clear g z
      have HBw8 := Lib.hid (btr HBw7.out hB)
      have HAw8 := Lib.hid (HAw7.out.mono hB)
      have HRw8 := Lib.hid (HRw7.out.mono hB)
      clear HBw7 HAw7 HRw7
      clear hB
      clear HAw8
      clear HRw8
      obtain ⟨g, z⟩ := HGQ.out _ HBw8.out
      go_wp2_with fail
      clear g z
      generalize hbp : bitP bt = bp
      have HBP := Lib.hid (fun k => show bp k = (bits .and .u16 (bt / 2 ^ k) 1 == 1) by rw [← hbp]; rfl)
      clear hbp
      go_loopw [17, 18] (fun s17 s18 wr => ∃ k : Nat, k ≤ n ∧ rowI wr w8.heap.size s17 (ints (fltN bp k)) ∧ s18 = .int .i64 k ∧ Below w8.heap.size w8 wr) (fun _ s18 _ => n - (intOf s18).toNat)
      case atStart => exact ⟨0, Nat.zero_le _, World.ownsRow_nil _ _ _ _, rfl, bz w8⟩
      case round =>
        obtain ⟨k, hk, hrow, rfl, hB⟩ := hrel
        have HBR := Lib.hid hB
        have HR := Lib.hid hrow
        have HBQ := Lib.hid (btr HBw8.out hB)
        rename World => wO
        clear hB hrow
        obtain ⟨g, z⟩ := HGQ.out _ HBQ.out
        have hbpk := HBP.out k
        by_cases hlt : k < n
        · cases hbk : bp k with
          | false =>
            rw [hbk] at hbpk
            have t1 := hbpk.symm
            clear hbpk
            go_wp2_with fail
            go_roundw
            case rel => exact ⟨k + 1, by omega, by rw [fltN_succ, hbk]; exact HR.out, by go_num, HBR.out⟩
            case measure => simp [intOf]; omega
          | true =>
            rw [hbk] at hbpk
            have t1 := hbpk.symm
            have HSN := Lib.hid (show ints (fltN bp (k + 1)) = ints (fltN bp k) ++ [(k : Int)] by rw [fltN_succ, if_pos hbk, ints_snoc])
            have hfl := fltN_le bp k
            clear hbpk hbk
            obtain ⟨al, cl, hvl⟩ := owns_form HR.out
            subst hvl
            go_wp2_with (at_builtin; refine wpList_append_num rfl _ _ rfl Tryz.underlying41 num3 HR.out (k : Int) rfl rfl rfl (by rw [ints_len]; omega) HBR.out.size ?_)
            intro v' w' hO' hg'
            have HR6 := Lib.hid (show rowI w' w8.heap.size v' (ints (fltN bp (k + 1))) from by unfold rowI; rw [HSN.out, List.length_append, List.length_singleton, List.map_append]; exact hO')
            have hfr : Fr wO w' (fun j => w8.heap.size ≤ j) := (Fr.of_below (bal (bz wO) (.cells #[.int .i64 (k : Int)] 3))).trans (Fr.grown hg' (fun j e => (rowI.lt HR.out (k := j) e).1))
            have HB6 := Lib.hid (hfr.below HBR.out (fun j hj => hj))
            clear hO' hg' hfr
            go_wp2_with fail
            go_roundw
            case rel => exact ⟨k + 1, by omega, HR6.out, by go_num, HB6.out⟩
            case measure => simp [intOf]; omega
        · have hkn : k = n := by omega
          subst hkn
          obtain ⟨al, cl, hvl⟩ := exI (RdI.of_owns HR.out) (fltN bp k).length (ints_len _)
          subst hvl
          have HRR := Lib.hid (show RdI wO .i64 _ (ints (fltN bp k)) from RdI.of_owns HR.out)
          have HWL := Lib.hid (show (ints (fltN bp k)).length ≤ 1000 by rw [ints_len]; have := fltN_le bp k; omega)
          have HO4 := HOP3.out bp
          clear hbpk HR
          generalize ints (fltN bp k) = oi at *
          generalize (fltN bp k).length = on at *
          have HO := Lib.hid HO4
          clear HO4
          go_wp2_with fail
          refine (HCF2.out _ oi _ (btr HB0.out HBQ.out) HRR.out HWL.out).mono ?_
          have HO5 := HO.out
          generalize freeC J oi = fc at *
          generalize freeV J oi = fv at *
          rintro e w9 ⟨rfl, hB⟩
          have HB9 := Lib.hid (btr HBQ.out hB)
          have HO := Lib.hid HO5
          clear hB g z HO5 hlt
          obtain ⟨g, z⟩ := HGQ.out _ HB9.out
          go_wp2_with fail
          refine (HCC2.out _ RC _ (btr HB0.out HB9.out) (HYC.out _ (btr HB0.out HB9.out)) HSC.out).mono ?_
          have HCQ := HCP3.out
          generalize coverC J RC = cc at *
          generalize coverV J RC = cv at *
          rintro e w10 ⟨rfl, hB⟩
          have HB10 := Lib.hid (btr HB9.out hB)
          have HCQ2 := Lib.hid HCQ
          clear hB g z HCQ
          rcases HO.out with ⟨rfl, rfl, hle⟩ | ⟨rfl, rfl⟩
          · have d1 : decide ((on : Int) ≤ (fn : Int)) = true := decide_eq_true (by omega)
            have d1' : decide (on ≤ fn) = true := decide_eq_true hle
            by_cases hcc : cc = 0
            · have hcv := HCQ2.out hcc
              have t0 : (cc != 0) = false := by simp [hcc]
              have d2 : decide ((fn : Int) ≤ cv) = true := decide_eq_true hcv
              clear hcc
              have HE9 := Lib.hid (btr HB0.out HB10.out)
              go_wp2_with fail
              refine (HWK.out _).mono ?_
              rintro e w11 ⟨rfl, hB⟩
              have HBE := Lib.hid (btr HE9.out hB)
              clear hB
              go_wp2_with fail
              go_ret
              exact ⟨rfl, HBE.out⟩
            · have t0 : (cc != 0) = true := by simp [hcc]
              clear hcc
              have HE9 := Lib.hid (btr HB0.out HB10.out)
              go_wp2_with fail
              refine (HWK.out _).mono ?_
              rintro e w11 ⟨rfl, hB⟩
              have HBE := Lib.hid (btr HE9.out hB)
              clear hB
              go_wp2_with fail
              go_ret
              exact ⟨rfl, HBE.out⟩
          · clear HOP3
            by_cases hcc : cc = 0
            · have hcv := HCQ2.out hcc
              have t0 : (cc != 0) = false := by simp [hcc]
              have d2 : decide ((fn : Int) ≤ cv) = true := decide_eq_true hcv
              clear hcc
              have HE9 := Lib.hid (btr HB0.out HB10.out)
              go_wp2_with fail
              refine (HWK.out _).mono ?_
              rintro e w11 ⟨rfl, hB⟩
              have HBE := Lib.hid (btr HE9.out hB)
              clear hB
              go_wp2_with fail
              go_ret
              exact ⟨rfl, HBE.out⟩
            · have t0 : (cc != 0) = true := by simp [hcc]
              clear hcc
              have HE9 := Lib.hid (btr HB0.out HB10.out)
              go_wp2_with fail
              refine (HWK.out _).mono ?_
              rintro e w11 ⟨rfl, hB⟩
              have HBE := Lib.hid (btr HE9.out hB)
              clear hB
              go_wp2_with fail
              go_ret
              exact ⟨rfl, HBE.out⟩
end Go.Proofs.YteknehlkdgamjaaGreat
