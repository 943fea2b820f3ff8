/- PlanMore, in terms of Works: one more wait; no condition. -/
import Derived.Test.YteknehlkdgamjaaMLya
import Derived.Test.YteknehlkdgamjaaMU2
import Derived.Test.YteknehlkdgamjaaMGE
import Derived.Test.YteknehlkdgamjaaMGK
namespace Go.Proofs.Yteknehlkdgamjaa
open Go.RowKit Go.Shelf

theorem staP_eltU {J : List Job} {i : Nat} (hi : i < J.length) : (staP J)[i]?.getD (0, 0) = (beg J (loD J) i, beg J (hiD J) i) := by simp [staP, hi]
theorem rdP_lenU {w : World} {v : Value} {V : List (Int × Int)} (h : RdP w v V) : ∃ a c, v = .slice a V.length c := by
  obtain ⟨a, c, e, _⟩ := h
  exact ⟨a, c, e⟩
theorem owns_empty (w : World) {base : Nat} (hb : base ≤ w.heap.size) (t : TypeId) : (w.alloc (.cells #[] t)).ownsRow base t 3 (.slice (some ⟨w.heap.size, 0, none⟩) 0 0) 0 [] :=
  ⟨rfl, .inr ⟨w.heap.size, 0, #[], rfl, hb, heap_alloc_new w _, Nat.le_refl _, by unfold maxLen; omega, rfl, rfl⟩⟩
set_option maxRecDepth 100000 in
set_option maxHeartbeats 25600000 in
theorem planmore_core (hwk : WorksSaid) (v : Value) (J : List Job) (one two : Int) (w : World) (hx0 : RdJ w v J) (h1 : (Lit.int .u8 one).wf = true) (h2 : (Lit.int .u8 two).wf = true) :
    Calls Try.prog 5 #[.agg #[v], .int .u8 one, .int .u8 two] w fun e w' => e = .returned (.bool true) ∧ Below w.heap.size w w' := by
  have HWK := Lib.hid hwk
  unfold WorksSaid at HWK
  have HO1 : 0 ≤ one ∧ one ≤ 255 := by simp [Lit.wf] at h1; exact h1
  have HO2 : 0 ≤ two ∧ two ≤ 255 := by simp [Lit.wf] at h2; exact h2
  have HXJ := Lib.hid hx0
  have HFI := Lib.hid (fun wz (h : Below w.heap.size w wz) => fine_any v J wz (hx0.mono h))
  have HFT := Lib.hid (fun h => fineJ_true (J := J) h)
  have HPS := Lib.hid (fun wz (h : Below w.heap.size w wz) (hs : SmJ J) => pstarts_any v J wz (hx0.mono h) hs)
  have HPL := Lib.hid (fun wz (h : Below w.heap.size w wz) (hs : SmJ J) => plength_any v J wz (hx0.mono h) hs)
  have HPF := Lib.hid (fun wz (h : Below w.heap.size w wz) (hs : SmJ J) => pfree_any v J wz (hx0.mono h) hs)
  obtain ⟨a, c, rfl⟩ := hx0.sl
  clear hx0 hwk h1 h2
  obtain ⟨n, hn⟩ : ∃ n, n = J.length := ⟨_, rfl⟩
  have HN := Lib.hid hn
  have HN1' : Hid (errC J = 0 → 0 < n ∧ n ≤ 12) := Lib.hid (fun h0 => by have := (fine_err h0).1.n1; have := (fine_err h0).1.n12; omega)
  rw [← hn] at HFI HPS HPL HPF ⊢
  clear hn
  have HB0 := Lib.hid (bal (bz w) (.cells #[.slice a n c] 24))
  have gq : (w.alloc (.cells #[.slice a n c] 24)).cell? ⟨w.heap.size, 0, none⟩ = some (.slice a n c) := cnew rfl rfl
  have zq : w.heap.size < (w.alloc (.cells #[.slice a n c] 24)).heap.size := by simp
  generalize hgr : fineJ J = gr at *
  clear hgr
  obtain ⟨ho1, ho2⟩ := HO1
  obtain ⟨ho3, ho4⟩ := HO2
  go_enter Try.func5, Try.ntmps5
  go_wp2_with fail
  generalize w.alloc (.cells #[.slice a n c] 24) = w1 at *
  have HGQ := Lib.hid (fun (wz : World) (h : Below w1.heap.size w1 wz) => (⟨(h.cell (p := ⟨w.heap.size, 0, none⟩) zq).trans gq, Nat.lt_of_lt_of_le zq h.size⟩ : wz.cell? ⟨w.heap.size, 0, none⟩ = some (.slice a n c) ∧ w.heap.size < wz.heap.size))
  refine (HFI.out _ HB0.out).mono ?_
  rintro e w2 ⟨rfl, hB⟩
  have HBw2 := Lib.hid hB
  clear hB gq zq
  cases gr with
  | false =>
    go_wp2_with fail
    refine (HWK.out _).mono ?_
    rintro e w3 ⟨rfl, hB⟩
    have HBE := Lib.hid (btr HB0.out (btr HBw2.out hB))
    clear hB
    go_wp2_with fail
    go_ret
    exact ⟨rfl, HBE.out⟩
  | true =>
    obtain ⟨hsm, h0⟩ := HFT.out (by first | trivial | rfl)
    obtain ⟨hn1, hn12⟩ := HN1'.out h0
    by_cases hn2 : n < 2
    · have t1 : decide ((n : Int) < 2) = true := decide_eq_true (by omega)
      obtain ⟨g, z⟩ := HGQ.out _ HBw2.out
      go_wp2_with fail
      refine (HWK.out _).mono ?_
      rintro e w3 ⟨rfl, hB⟩
      have HBE := Lib.hid (btr HB0.out (btr HBw2.out hB))
      clear hB
      go_wp2_with fail
      go_ret
      exact ⟨rfl, HBE.out⟩
    · have t1 : decide ((n : Int) < 2) = false := decide_eq_false (by omega)
      have hFJ := Lib.hid (fine_err h0)
      obtain ⟨i, hi, hin⟩ : ∃ q : Nat, one % (n : Int) = (q : Int) ∧ q < n := ⟨(one % (n : Int)).toNat, (Int.toNat_of_nonneg (Int.emod_nonneg _ (by omega))).symm, by have h1 := Int.emod_nonneg one (show (n : Int) ≠ 0 by omega); have h2 := Int.emod_lt_of_pos one (show (0 : Int) < n by omega); omega⟩
      obtain ⟨t, ht, htn⟩ : ∃ q : Nat, two % ((n : Int) - 1) = (q : Int) ∧ q < n - 1 := ⟨(two % ((n : Int) - 1)).toNat, (Int.toNat_of_nonneg (Int.emod_nonneg _ (by omega))).symm, by have h1 := Int.emod_nonneg two (show (n : Int) - 1 ≠ 0 by omega); have h2 := Int.emod_lt_of_pos two (show (0 : Int) < (n : Int) - 1 by omega); omega⟩
      obtain ⟨k, hk, hki, hkn⟩ : ∃ k : Nat, ((i : Int) + 1 + t) % (n : Int) = (k : Int) ∧ k ≠ i ∧ k < n := ⟨(i + 1 + t) % n, by rw [Int.natCast_emod]; simp only [Int.natCast_add, Int.natCast_one], (other_ne hin (by omega) htn).1, (other_ne hin (by omega) htn).2⟩
      have HPS1 := Lib.hid (fun wz h => HPS.out wz h hsm); have HPL1 := Lib.hid (fun wz h => HPL.out wz h hsm); have HPF1 := Lib.hid (fun wz h => HPF.out wz h hsm)
      have HE0 := Lib.hid h0
      obtain ⟨b, o, _, _, rfl, _⟩ := HXJ.out.get 0 (by have := HN.out; omega)
      clear hsm h0 HPS HPL HPF HN1' HFT HFI
      obtain ⟨g, z⟩ := HGQ.out _ HBw2.out
      go_upto_region 4 with fail
      rw [hi]
      refine wp_region_flow [] [] [0, 1, 2, 3, 4, 5, 6, 7, 8, 9, 10, 11, 12, 13, 14] (by kernel_rfl) (by kernel_rfl) ?_
      intro wc hBc hh
      clear hh g z
      have hL := @Later.cell wc
      have HBwc := Lib.hid (btr HBw2.out hBc)
      clear HBw2
      clear hBc
      obtain ⟨g, z⟩ := HGQ.out _ HBwc.out
      simp only [flowP, flow, pickL, List.getElem?_cons_succ, List.getElem?_cons_zero]
      refine wpQuiet_nil ?_
      repeat (go_big_quiet_step (fail))
      refine wpQuiet_nil ?_
      refine only_done ?_
      go_upto_region 5 with fail
      clear hL g z
      rw [hk]
      obtain ⟨g, z⟩ := HGQ.out _ HBwc.out
      have HX5 := Lib.hid (HXJ.out.mono (btr HB0.out HBwc.out))
      have HBW := Lib.hid (bal (bz wc) (.cells #[] 41))
      go_wp2_with (at_builtin; refine wpList_append_jobs (owns_empty wc (Nat.le_refl _) _) HX5.out HBW.out (by have := HN.out; omega) rfl _ _ rfl rfl (by rw [← HN.out]; rfl) HBW.out.size ?_)
      intro v' wA es e1 e2 how hgr
      have hFA : Fr wc wA (fun j => wc.heap.size ≤ j) := (Fr.of_below (bal (bz wc) (.cells #[] 41))).trans (Fr.grown hgr (fun j e => by cases e; exact Nat.le_refl _))
      have hBA := hFA.below (bz wc) (fun j hj => hj)
      obtain ⟨g0, cap, cur, rfl, hg0, hg1, hg2, hg3, hg4, hg5⟩ := how.2.resolve_left (fun h => by have := h.2; have := HN.out; omega)
      have HOW := Lib.hid how
      have HE1 := Lib.hid e1; have HE2 := Lib.hid e2
      have HC := Lib.hid (⟨hg2, hg3, (Array.getElem?_eq_some_iff.1 hg1).1, hg0, Nat.le_trans HBwc.out.size hg0⟩ : J.length ≤ cap ∧ cap ≤ maxLen ∧ g0 < wA.heap.size ∧ wc.heap.size ≤ g0 ∧ w1.heap.size ≤ g0)
      have HBcA := Lib.hid hBA
      rw [← HN.out]
      clear hFA hg0 hg1 hg2 hg3 hg4 hg5 how hgr e1 e2 g z HBW
      have HBwA := Lib.hid (btr HBwc.out hBA)
      clear HBwc
      clear hBA
      have HAw := Lib.hid (bz wA)
      have HSA1wA := HAw
      clear HAw
      obtain ⟨g, z⟩ := HGQ.out _ HBwA.out
      go_wp2_with fail
      have hq0 : (wA.alloc (.cells #[.slice (some ⟨g0, 0, none⟩) n cap] 24)).cell? ⟨wA.heap.size, 0, none⟩ = some (.slice (some ⟨g0, 0, none⟩) n cap) := cnew rfl rfl
      have zq : wA.heap.size < (wA.alloc (.cells #[.slice (some ⟨g0, 0, none⟩) n cap] 24)).heap.size := by simp
      have hB := bal (bz wA) (.cells #[.slice (some ⟨g0, 0, none⟩) n cap] 24)
      generalize wA.alloc (.cells #[.slice (some ⟨g0, 0, none⟩) n cap] 24) = wX at hq0 zq hB ⊢
      have HBwX := Lib.hid (btr HBwA.out hB)
      have HSA1wX := Lib.hid (btr HSA1wA.out hB)
      clear HBwA HSA1wA
      generalize wA.heap.size = b1 at hq0 zq ⊢
      have HX := Lib.hid (fun (wz : World) (h : Below wX.heap.size wX wz) => (⟨(h.cell (p := ⟨b1, 0, none⟩) zq).trans hq0, Nat.lt_of_lt_of_le zq h.size⟩ : wz.cell? ⟨b1, 0, none⟩ = some (.slice (some ⟨g0, 0, none⟩) n cap) ∧ b1 < wz.heap.size))
      clear hq0 zq hB
      have HSXwX := Lib.hid (bz wX)
      have HXA := Lib.hid HSA1wX.out.size
      obtain ⟨g, z⟩ := HGQ.out _ HBwX.out
      go_wp2_with fail
      clear g z
      generalize hmp : moreP J i k = mp
      have HMP := Lib.hid (fun m => show mp m = (m == k || (job J i).ws.contains (m : Int)) by rw [← hmp]; rfl)
      have HMQ := Lib.hid hmp
      clear hmp
      have HXW := Lib.hid (HXJ.out.mono (btr HB0.out HBwX.out))
      have HWS := Lib.hid (fun (wz : World) (h : Below wX.heap.size wX wz) => (show ∃ a' c', wz.cell? ⟨b, o + i * 3 + 2, none⟩ = some (.slice a' (job J i).ws.length c') ∧ b < wz.heap.size ∧ RdI wz .i64 (.slice a' (job J i).ws.length c') (job J i).ws from by
        obtain ⟨b', o', a', c', e, hb', _, _, g3, hr⟩ := HXW.out.get i (by have := HN.out; omega)
        cases e
        exact ⟨a', c', (h.cell (p := ⟨b, o + i * 3 + 2, none⟩) hb').trans g3, Nat.lt_of_lt_of_le hb' h.size, hr.mono h⟩))
      have HWL := Lib.hid (show (job J i).ws.length ≤ 1000 by have := hFJ.out.1.ws_le (i := i) (by have := HN.out; omega); omega)
      generalize (job J i).ws = ws at *
      go_loopw [10, 11] (fun s10 s11 wr => ∃ m : Nat, m ≤ n ∧ rowI wr wX.heap.size s10 (ints (fltN mp m)) ∧ s11 = .int .i64 m ∧ Below wX.heap.size wX wr) (fun _ s11 _ => n - (intOf s11).toNat)
      case atStart => exact ⟨0, Nat.zero_le _, World.ownsRow_nil _ _ _ _, rfl, bz wX⟩
      case round =>
        obtain ⟨m, hm, hrow, rfl, hB⟩ := hrel
        have HBR := Lib.hid hB
        have HR := Lib.hid hrow
        have HBQ := Lib.hid (btr HBwX.out hB)
        rename World => wO
        clear hB hrow
        obtain ⟨g, z⟩ := HGQ.out _ HBQ.out
        by_cases hlt : m < n
        · obtain ⟨a', c', gw, zw, hrw⟩ := HWS.out _ HBR.out
          have HRW := Lib.hid hrw
          have hmp := HMP.out m
          have hfl := fltN_le mp m
          clear hrw
          by_cases hmk : m = k
          · have hmpt : mp m = true := by rw [hmp]; simp [hmk]
            have HSN := Lib.hid (show ints (fltN mp (m + 1)) = ints (fltN mp m) ++ [(m : Int)] by rw [fltN_succ, if_pos hmpt, ints_snoc])
            have t2 : ((m : Int) == (k : Int)) = true := by simp [hmk]
            clear hmp hmpt hmk
            obtain ⟨al, cl, hvl⟩ := owns_form HR.out
            subst hvl
            go_wp2_with (at_builtin; refine wpList_append_num rfl _ _ rfl Try.underlying25 num3 HR.out (m : Int) rfl rfl rfl (by rw [ints_len]; omega) HBR.out.size ?_)
            intro v' w' hO' hg'
            have HR6 := Lib.hid (show rowI w' wX.heap.size v' (ints (fltN mp (m + 1))) from by unfold rowI; rw [HSN.out, List.length_append, List.length_singleton, List.map_append]; exact hO')
            have hfr : Fr wO w' (fun j => wX.heap.size ≤ j) := (Fr.of_below (bal (bz wO) (.cells #[.int .i64 (m : Int)] 3))).trans (Fr.grown hg' (fun j e => (rowI.lt HR.out (k := j) e).1))
            have HB6 := Lib.hid (hfr.below HBR.out (fun j hj => hj))
            clear hO' hg' hfr
            go_wp2_with fail
            go_roundw
            case rel => exact ⟨m + 1, by omega, HR6.out, by go_num, HB6.out⟩
            case measure => simp [intOf]; omega
          · cases hcn : ws.contains (m : Int) with
            | true =>
              have hmpt : mp m = true := by rw [hmp, hcn]; simp
              have HSN := Lib.hid (show ints (fltN mp (m + 1)) = ints (fltN mp m) ++ [(m : Int)] by rw [fltN_succ, if_pos hmpt, ints_snoc])
              have t2 : ((m : Int) == (k : Int)) = false := by simp; omega
              have HCN := Lib.hid hcn
              clear hmp hmpt hmk hcn
              go_wp2_with fail
              refine (has_any _ _ (m : Int) _ HRW.out HWL.out).mono ?_
              rw [HCN.out]
              rintro e w11 ⟨rfl, rfl⟩
              obtain ⟨al, cl, hvl⟩ := owns_form HR.out
              subst hvl
              go_wp2_with (at_builtin; refine wpList_append_num rfl _ _ rfl Try.underlying25 num3 HR.out (m : Int) rfl rfl rfl (by rw [ints_len]; omega) HBR.out.size ?_)
              intro v' w' hO' hg'
              have HR6 := Lib.hid (show rowI w' wX.heap.size v' (ints (fltN mp (m + 1))) from by unfold rowI; rw [HSN.out, List.length_append, List.length_singleton, List.map_append]; exact hO')
              have hfr : Fr wO w' (fun j => wX.heap.size ≤ j) := (Fr.of_below (bal (bz wO) (.cells #[.int .i64 (m : Int)] 3))).trans (Fr.grown hg' (fun j e => (rowI.lt HR.out (k := j) e).1))
              have HB6 := Lib.hid (hfr.below HBR.out (fun j hj => hj))
              clear hO' hg' hfr
              go_wp2_with fail
              go_roundw
              case rel => exact ⟨m + 1, by omega, HR6.out, by go_num, HB6.out⟩
              case measure => simp [intOf]; omega
            | false =>
              have hmpf : mp m = false := by rw [hmp, hcn]; simp [hmk]
              have HSN := Lib.hid (show fltN mp (m + 1) = fltN mp m by rw [fltN_succ, if_neg (by rw [hmpf]; simp)])
              have t2 : ((m : Int) == (k : Int)) = false := by simp; omega
              have HCN := Lib.hid hcn
              clear hmp hmpf hmk hcn
              go_wp2_with fail
              refine (has_any _ _ (m : Int) _ HRW.out HWL.out).mono ?_
              rw [HCN.out]
              rintro e w11 ⟨rfl, rfl⟩
              go_wp2_with fail
              go_roundw
              case rel => exact ⟨m + 1, by omega, by rw [HSN.out]; exact HR.out, by go_num, HBR.out⟩
              case measure => simp [intOf]; omega
        · have hmn : n = m := by omega
          subst hmn
          have HBwO := Lib.hid (btr HBwX.out HBR.out)
          have HSA1wO := Lib.hid (btr HSA1wX.out HBR.out)
          have HSXwO := Lib.hid (btr HSXwX.out HBR.out)
          clear HBwX HSA1wX HSXwX
          have HCJ := HC.out
          obtain ⟨gx, zx⟩ := HX.out _ HSXwO.out
          have hbA := HSA1wO.out
          have hiJ : i < J.length := by have := HN.out; omega
          have hes := HE1.out
          obtain ⟨es0, hes0⟩ : ∃ e, es[i]? = some e := ⟨_, List.getElem?_eq_getElem (by omega)⟩
          have gc : wO.cell? ⟨g0, i * 3 + 2, none⟩ = some es0 := by
            rw [hbA.cell (p := ⟨g0, i * 3 + 2, none⟩) HCJ.2.2.1, HOW.out.cellAt _ (by omega), (jcs_at hes i hiJ).2.2, hes0]
          have gf : wO.frozen? ⟨g0, i * 3 + 2, none⟩ = false := (hbA.frozen (p := ⟨g0, i * 3 + 2, none⟩) HCJ.2.2.1).trans (HOW.out.frozenAt _)
          have zg : g0 < wO.heap.size := Nat.lt_of_lt_of_le HCJ.2.2.1 hbA.size
          have hne : b1 ≠ g0 := fun e => by
            have h1 : wO.cell? ⟨g0, 0, none⟩ = some (.int .i64 (job J 0).lo) := by
              rw [hbA.cell (p := ⟨g0, 0, none⟩) HCJ.2.2.1, HOW.out.cellAt 0 (by omega)]
              exact (jcs_at hes 0 (by omega)).1
            rw [e, h1] at gx
            cases gx
          have HNE := Lib.hid hne; have HGC := Lib.hid gc; have HZG := Lib.hid zg
          have HES := Lib.hid hes; have HIJ := Lib.hid hiJ
          obtain ⟨al, cl, hvl⟩ := exI (RdI.of_owns HR.out) (fltN mp n).length (ints_len _)
          subst hvl
          clear hne hes hiJ HCJ hbA hes0
          go_upto_region 13 with fail
          clear g z
          have HFS : Hid (Fr wO (wO.setCell ⟨g0, i * 3 + 2, none⟩ (.slice al (fltN mp n).length cl)) (fun j => j = g0)) := Lib.hid (Fr.set (B := fun j => j = g0) (p := ⟨g0, i * 3 + 2, none⟩) rfl _)
          have HOS := Lib.hid (owns_set HR.out (r := g0) (Nat.lt_of_lt_of_le HC.out.2.2.1 (by have := HXA.out; exact this)) (i * 3 + 2) (.slice al (fltN mp n).length cl))
          have HCS : Hid (∀ q, (wO.setCell ⟨g0, i * 3 + 2, none⟩ (.slice al (fltN mp n).length cl)).cell? ⟨g0, q, none⟩ = if q = i * 3 + 2 then some (.slice al (fltN mp n).length cl) else wO.cell? ⟨g0, q, none⟩) := Lib.hid (fun q => by
            by_cases hq : q = i * 3 + 2
            · rw [if_pos hq, hq]; exact World.cell?_setCell_same' _ _ _ (by rw [HGC.out]; rfl)
            · rw [if_neg hq, World.cell?_setCell_other _ _ _ _ (fun e => hq (by have := congrArg Addr.off e; exact this.symm))])
          have HXS : Hid ((wO.setCell ⟨g0, i * 3 + 2, none⟩ (.slice al (fltN mp n).length cl)).cell? ⟨b1, 0, none⟩ = some (.slice (some ⟨g0, 0, none⟩) n cap) ∧ b1 < (wO.setCell ⟨g0, i * 3 + 2, none⟩ (.slice al (fltN mp n).length cl)).heap.size) := Lib.hid ⟨by
            rw [World.cell?_setCell_other _ _ _ _ (fun e => HNE.out (by have := congrArg Addr.block e; exact this.symm))]; exact gx, by simpa using zx⟩
          have HZS := Lib.hid (show g0 < (wO.setCell ⟨g0, i * 3 + 2, none⟩ (.slice al (fltN mp n).length cl)).heap.size by simpa using HZG.out)
          generalize wO.setCell ⟨g0, i * 3 + 2, none⟩ (.slice al (fltN mp n).length cl) = wS at HFS HOS HCS HXS HZS ⊢
          have HBS := Lib.hid (HFS.out.below HBwO.out (fun j hj => by rw [hj]; exact HC.out.2.2.2.2))
          have HBT := Lib.hid (HFS.out.below (btr HBcA.out HSA1wO.out) (fun j hj => by rw [hj]; exact HC.out.2.2.2.1))
          have hrk : RdJ wS (.slice (some ⟨g0, 0, none⟩) n cap) (moreJ J i k) :=
            more_stored (w := wO) HN.out HIJ.out HES.out (own_mono (by rw [HN.out]; exact owns_kept HOW.out HSA1wO.out) (Nat.zero_le _)) (fun j f hf => (HE2.out j f hf).mono HBT.out)
              (by rw [HMQ.out, ← HN.out]; exact RdI.of_owns HOS.out) HCS.out HZS.out (by rw [HN.out]; exact HC.out.1) HC.out.2.1
          have HKwS := Lib.hid hrk
          have hms := fine_smU (more_fine hFJ.out.1 HIJ.out (Ne.symm hki))
          have HMS := Lib.hid hms
          have HER := Lib.hid (more_err hFJ.out.1 HIJ.out (Ne.symm hki))
          have HMT := Lib.hid (more_takes (k := k) hFJ.out.1 HIJ.out (Ne.symm hki))
          have HMB := Lib.hid (fun hc c hcl => more_beg (k := k) (c := c) hFJ.out.1 HIJ.out (Ne.symm hki) hc hcl)
          have HMF := Lib.hid (fun l m (h : FreQ J l) (h' : FreQ (moreJ J i k) m) => more_free HE0.out HIJ.out h h')
          have HKL := Lib.hid (show (moreJ J i k).length = n by rw [more_len, ← HN.out])
          have HLE := Lib.hid (show lenR J = (takes J (loD J), takes J (hiD J)) from by unfold lenR; rw [if_pos HE0.out])
          have HSL := Lib.hid (show staL J = staP J from by unfold staL; rw [if_pos HE0.out])
          have HGS := Lib.hid (fun (wz : World) (h : Below wS.heap.size wS wz) => (⟨(h.cell (p := ⟨b1, 0, none⟩) HXS.out.2).trans HXS.out.1, Nat.lt_of_lt_of_le HXS.out.2 h.size⟩ : wz.cell? ⟨b1, 0, none⟩ = some (.slice (some ⟨g0, 0, none⟩) n cap) ∧ b1 < wz.heap.size))
          have HFB := Lib.hid HBS.out
          clear hrk hms gx zx gc gf zg HFS HOS HCS HXS HZS HC HOW HE1 HE2 HR HBR HBcA HNE HGC HZG HES HX HSXwO HSA1wO HBwO HBQ HMQ HMP HWS HXW HXA hlt hki
          generalize moreJ J i k = K at *
          generalize hcir : cir K = ci at *
          have HBwS := Lib.hid HBS.out
          have HSXXwS := Lib.hid (bz wS)
          clear HBS HFB HBT
          obtain ⟨gx, zx⟩ := HGS.out _ HSXXwS.out
          go_wp2_with fail
          refine (error_any _ K _ HKwS.out HMS.out).mono ?_
          rw [HER.out]
          rintro e wE ⟨rfl, hB⟩
          clear gx zx
          have HBwE := Lib.hid (btr HBwS.out hB)
          have HKwE := Lib.hid (HKwS.out.mono hB)
          have HSXXwE := Lib.hid (btr HSXXwS.out hB)
          clear HBwS HKwS HSXXwS
          clear hB
          cases ci with
          | true =>
            have her : errC K = 13 := HER.out
            have hle : lenR K = (0, 0) := by unfold lenR; rw [if_neg (by rw [her]; decide)]
            have HPK := plength_any _ K _ HKwE.out HMS.out
            rw [her, hle] at HPK
            have HPK2 := Lib.hid HPK
            clear HPK her hle
            obtain ⟨gx, zx⟩ := HGS.out _ HSXXwE.out
            go_wp2_with fail
            refine (HPK2.out).mono ?_
            rintro e wF ⟨rfl, hB⟩
            clear gx zx
            have HBwF := Lib.hid (btr HBwE.out hB)
            have HKwF := Lib.hid (HKwE.out.mono hB)
            have HSXXwF := Lib.hid (btr HSXXwE.out hB)
            clear HBwE HKwE HSXXwE
            clear hB
            go_wp2_with fail
            have hq0 : (wF.alloc (.cells #[.int .i64 0, .int .i64 0] 39)).cell? ⟨wF.heap.size, 0, none⟩ = some (.int .i64 0) := cnew rfl rfl
            have hq1 : (wF.alloc (.cells #[.int .i64 0, .int .i64 0] 39)).cell? ⟨wF.heap.size, 0 + 1, none⟩ = some (.int .i64 0) := cnew rfl rfl
            have zq : wF.heap.size < (wF.alloc (.cells #[.int .i64 0, .int .i64 0] 39)).heap.size := by simp
            have hB := bal (bz wF) (.cells #[.int .i64 0, .int .i64 0] 39)
            generalize wF.alloc (.cells #[.int .i64 0, .int .i64 0] 39) = wG at hq0 hq1 zq hB ⊢
            have HBwG := Lib.hid (btr HBwF.out hB)
            have HKwG := Lib.hid (HKwF.out.mono hB)
            have HSXXwG := Lib.hid (btr HSXXwF.out hB)
            clear HBwF HKwF HSXXwF
            generalize wF.heap.size = b2 at hq0 hq1 zq ⊢
            have HM := Lib.hid (fun (wz : World) (h : Below wG.heap.size wG wz) => (⟨(h.cell (p := ⟨b2, 0, none⟩) zq).trans hq0, (h.cell (p := ⟨b2, 0 + 1, none⟩) zq).trans hq1, Nat.lt_of_lt_of_le zq h.size⟩ : wz.cell? ⟨b2, 0, none⟩ = some (.int .i64 0) ∧ wz.cell? ⟨b2, 0 + 1, none⟩ = some (.int .i64 0) ∧ b2 < wz.heap.size))
            clear hq0 hq1 zq hB
            have HSMwG := Lib.hid (bz wG)
            refine (HWK.out _).mono ?_
            rintro e wH ⟨rfl, hB⟩
            have HBE := Lib.hid (btr HB0.out (btr HBwG.out hB))
            clear hB
            go_wp2_with fail
            go_ret
            exact ⟨rfl, HBE.out⟩
          | false =>
            have her : errC K = 0 := HER.out
            have HEK := Lib.hid her
            have HLK := Lib.hid (show lenR K = (takes K (loD K), takes K (hiD K)) from by unfold lenR; rw [if_pos her])
            have HSK := Lib.hid (show staL K = staP K from by unfold staL; rw [if_pos her])
            have HPS2 := HPS1.out; have HPL2 := HPL1.out
            rw [HSL.out, HE0.out] at HPS2
            rw [HLE.out, HE0.out] at HPL2
            dsimp only at HPL2
            have HKS := Lib.hid (fun wz (h : RdJ wz (.slice (some ⟨g0, 0, none⟩) n cap) K) => pstarts_any _ K wz h HMS.out)
            have HKLn := Lib.hid (fun wz (h : RdJ wz (.slice (some ⟨g0, 0, none⟩) n cap) K) => plength_any _ K wz h HMS.out)
            have HKF := Lib.hid (fun wz (h : RdJ wz (.slice (some ⟨g0, 0, none⟩) n cap) K) => pfree_any _ K wz h HMS.out)
            have HKS2 := HKS.out; have HKL2 := HKLn.out
            rw [HSK.out, her] at HKS2
            rw [HLK.out, her] at HKL2
            dsimp only at HKL2
            have HPS3 := Lib.hid HPS2; have HPL3 := Lib.hid HPL2; have HKS3 := Lib.hid HKS2; have HKL3 := Lib.hid HKL2
            obtain ⟨q1, q2⟩ := HMT.out rfl
            have HBEG := Lib.hid (fun c hc => HMB.out rfl c hc)
            have HJ4 := Lib.hid (fun c (hc : c < n) => staP_eltU (J := J) (i := c) (by have := HN.out; omega))
            have HJ5 := Lib.hid (fun c (hc : c < n) => staP_eltU (J := K) (i := c) (by have := HKL.out; omega))
            have HP4 := Lib.hid (show (staP J).length = n by rw [staP_len, ← HN.out]); have HP5 := Lib.hid (show (staP K).length = n by rw [staP_len, HKL.out])
            clear her HPS2 HPL2 HKS HKLn HKS2 HKL2 HPS1 HPL1 HMT HMB HSK HLK HER HSL HLE hcir
            unfold RetR at HPS3 HKS3
            generalize takes J (loD J) = T1 at *
            generalize takes J (hiD J) = T2 at *
            generalize takes K (loD K) = K1 at *
            generalize takes K (hiD K) = K2 at *
            generalize staP J = ST at *
            generalize staP K = SK at *
            generalize beg J (loD J) = BL at *
            generalize beg J (hiD J) = BH at *
            generalize beg K (loD K) = KL at *
            generalize beg K (hiD K) = KH at *
            obtain ⟨g, z⟩ := HGQ.out _ HBwE.out
            go_wp2_with fail
            refine (HPS3.out _ (btr HB0.out HBwE.out)).mono ?_
            rintro e x1 ⟨⟨us, rfl, hr⟩, hB⟩
            clear g z
            obtain ⟨as', cs, hu⟩ := rdP_lenU hr
            subst hu
            rw [HP4.out]
            have HPx1 := Lib.hid hr
            clear hr
            have HBx1 := Lib.hid (btr HBwE.out hB)
            have HKx1 := Lib.hid (HKwE.out.mono hB)
            have HSXXx1 := Lib.hid (btr HSXXwE.out hB)
            clear HBwE HKwE HSXXwE
            clear hB
            obtain ⟨gx, zx⟩ := HGS.out _ HSXXx1.out
            go_wp2_with fail
            refine (HKS3.out _ HKx1.out).mono ?_
            rintro e x2 ⟨⟨uk, rfl, hr⟩, hB⟩
            clear gx zx
            obtain ⟨ak, ck, hu⟩ := rdP_lenU hr
            subst hu
            rw [HP5.out]
            have HQx2 := Lib.hid hr
            clear hr
            have HBx2 := Lib.hid (btr HBx1.out hB)
            have HKx2 := Lib.hid (HKx1.out.mono hB)
            have HSXXx2 := Lib.hid (btr HSXXx1.out hB)
            have HPx2 := Lib.hid (HPx1.out.mono hB)
            clear HBx1 HKx1 HSXXx1 HPx1
            clear hB
            obtain ⟨g, z⟩ := HGQ.out _ HBx2.out
            go_wp2_with fail
            refine (HPL3.out _ (btr HB0.out HBx2.out)).mono ?_
            rintro e x3 ⟨rfl, hB⟩
            clear g z
            have HBx3 := Lib.hid (btr HBx2.out hB)
            have HKx3 := Lib.hid (HKx2.out.mono hB)
            have HSXXx3 := Lib.hid (btr HSXXx2.out hB)
            have HPx3 := Lib.hid (HPx2.out.mono hB)
            have HQx3 := Lib.hid (HQx2.out.mono hB)
            clear HBx2 HKx2 HSXXx2 HPx2 HQx2
            clear hB
            obtain ⟨gx, zx⟩ := HGS.out _ HSXXx3.out
            go_wp2_with fail
            have hq0 : (x3.alloc (.cells #[.int .i64 T1, .int .i64 T2] 39)).cell? ⟨x3.heap.size, 0, none⟩ = some (.int .i64 T1) := cnew rfl rfl
            have hq1 : (x3.alloc (.cells #[.int .i64 T1, .int .i64 T2] 39)).cell? ⟨x3.heap.size, 0 + 1, none⟩ = some (.int .i64 T2) := cnew rfl rfl
            have zq : x3.heap.size < (x3.alloc (.cells #[.int .i64 T1, .int .i64 T2] 39)).heap.size := by simp
            have hB := bal (bz x3) (.cells #[.int .i64 T1, .int .i64 T2] 39)
            generalize x3.alloc (.cells #[.int .i64 T1, .int .i64 T2] 39) = x4 at hq0 hq1 zq hB ⊢
            have HBx4 := Lib.hid (btr HBx3.out hB)
            have HKx4 := Lib.hid (HKx3.out.mono hB)
            have HSXXx4 := Lib.hid (btr HSXXx3.out hB)
            have HPx4 := Lib.hid (HPx3.out.mono hB)
            have HQx4 := Lib.hid (HQx3.out.mono hB)
            clear HBx3 HKx3 HSXXx3 HPx3 HQx3
            generalize x3.heap.size = b2 at hq0 hq1 zq ⊢
            have HM := Lib.hid (fun (wz : World) (h : Below x4.heap.size x4 wz) => (⟨(h.cell (p := ⟨b2, 0, none⟩) zq).trans hq0, (h.cell (p := ⟨b2, 0 + 1, none⟩) zq).trans hq1, Nat.lt_of_lt_of_le zq h.size⟩ : wz.cell? ⟨b2, 0, none⟩ = some (.int .i64 T1) ∧ wz.cell? ⟨b2, 0 + 1, none⟩ = some (.int .i64 T2) ∧ b2 < wz.heap.size))
            clear hq0 hq1 zq hB
            have HSMx4 := Lib.hid (bz x4)
            refine (HKL3.out _ HKx4.out).mono ?_
            rintro e x5 ⟨rfl, hB⟩
            clear gx zx
            have HBx5 := Lib.hid (btr HBx4.out hB)
            have HKx5 := Lib.hid (HKx4.out.mono hB)
            have HSXXx5 := Lib.hid (btr HSXXx4.out hB)
            have HPx5 := Lib.hid (HPx4.out.mono hB)
            have HQx5 := Lib.hid (HQx4.out.mono hB)
            have HSMx5 := Lib.hid (btr HSMx4.out hB)
            clear HBx4 HKx4 HSXXx4 HPx4 HQx4 HSMx4
            clear hB
            obtain ⟨g, z⟩ := HGQ.out _ HBx5.out
            go_wp2_with fail
            have hq0 : (x5.alloc (.cells #[.int .i64 K1, .int .i64 K2] 39)).cell? ⟨x5.heap.size, 0, none⟩ = some (.int .i64 K1) := cnew rfl rfl
            have hq1 : (x5.alloc (.cells #[.int .i64 K1, .int .i64 K2] 39)).cell? ⟨x5.heap.size, 0 + 1, none⟩ = some (.int .i64 K2) := cnew rfl rfl
            have zq : x5.heap.size < (x5.alloc (.cells #[.int .i64 K1, .int .i64 K2] 39)).heap.size := by simp
            have hB := bal (bz x5) (.cells #[.int .i64 K1, .int .i64 K2] 39)
            generalize x5.alloc (.cells #[.int .i64 K1, .int .i64 K2] 39) = x6 at hq0 hq1 zq hB ⊢
            have HBx6 := Lib.hid (btr HBx5.out hB)
            have HKx6 := Lib.hid (HKx5.out.mono hB)
            have HSXXx6 := Lib.hid (btr HSXXx5.out hB)
            have HPx6 := Lib.hid (HPx5.out.mono hB)
            have HQx6 := Lib.hid (HQx5.out.mono hB)
            have HSMx6 := Lib.hid (btr HSMx5.out hB)
            clear HBx5 HKx5 HSXXx5 HPx5 HQx5 HSMx5
            generalize x5.heap.size = b3 at hq0 hq1 zq ⊢
            have HO := Lib.hid (fun (wz : World) (h : Below x6.heap.size x6 wz) => (⟨(h.cell (p := ⟨b3, 0, none⟩) zq).trans hq0, (h.cell (p := ⟨b3, 0 + 1, none⟩) zq).trans hq1, Nat.lt_of_lt_of_le zq h.size⟩ : wz.cell? ⟨b3, 0, none⟩ = some (.int .i64 K1) ∧ wz.cell? ⟨b3, 0 + 1, none⟩ = some (.int .i64 K2) ∧ b3 < wz.heap.size))
            clear hq0 hq1 zq hB
            have HSOx6 := Lib.hid (bz x6)
            refine (HPF1.out _ (btr HB0.out HBx6.out)).mono ?_
            intro e x7 hO
            obtain ⟨uf, fl, rfl, hr, hfp, hB⟩ := free_outQ HE0.out hO
            obtain ⟨fn, hfn⟩ : ∃ fn, fn = fl.length := ⟨_, rfl⟩
            obtain ⟨af, cf, hu⟩ := exI hr fn (by rw [ints_len, hfn])
            subst hu
            have HFP := Lib.hid hfp; have HFN2 := Lib.hid hfn
            clear hO hr hfp hfn g z
            have HBx7 := Lib.hid (btr HBx6.out hB)
            have HKx7 := Lib.hid (HKx6.out.mono hB)
            have HSXXx7 := Lib.hid (btr HSXXx6.out hB)
            have HPx7 := Lib.hid (HPx6.out.mono hB)
            have HQx7 := Lib.hid (HQx6.out.mono hB)
            have HSMx7 := Lib.hid (btr HSMx6.out hB)
            have HSOx7 := Lib.hid (btr HSOx6.out hB)
            clear HBx6 HKx6 HSXXx6 HPx6 HQx6 HSMx6 HSOx6
            clear hB
            obtain ⟨gx, zx⟩ := HGS.out _ HSXXx7.out
            go_wp2_with fail
            refine (pfree_any _ K _ HKx7.out HMS.out).mono ?_
            intro e x8 hO
            obtain ⟨ug, gl, rfl, hr, hgp, hB⟩ := free_outQ HEK.out hO
            have hgf := HMF.out _ _ HFP.out hgp
            obtain ⟨gn, hgn⟩ : ∃ gn, gn = gl.length := ⟨_, rfl⟩
            obtain ⟨ag, cg, hu⟩ := exI hr gn (by rw [ints_len, hgn])
            subst hu
            rw [← hgn, ← HFN2.out] at hgf
            clear hO hr hgp hgn gx zx HFP HFN2 HMF
            have HBx8 := Lib.hid (btr HBx7.out hB)
            have HKx8 := Lib.hid (HKx7.out.mono hB)
            have HSXXx8 := Lib.hid (btr HSXXx7.out hB)
            have HPx8 := Lib.hid (HPx7.out.mono hB)
            have HQx8 := Lib.hid (HQx7.out.mono hB)
            have HSMx8 := Lib.hid (btr HSMx7.out hB)
            have HSOx8 := Lib.hid (btr HSOx7.out hB)
            clear HBx7 HKx7 HSXXx7 HPx7 HQx7 HSMx7 HSOx7
            clear hB
            obtain ⟨aS, cS, e, hcS0⟩ := HPx8.out.form'
            rw [HP4.out] at e hcS0
            obtain ⟨bS, oS, rfl, hbS, hcS⟩ := hcS0 hn1
            cases e
            obtain ⟨aV, cV, e, hcV0⟩ := HQx8.out.form'
            rw [HP5.out] at e hcV0
            obtain ⟨bV, oV, rfl, hbV, hcV⟩ := hcV0 hn1
            cases e
            have HSC := Lib.hid (fun (wz : World) (h : Below x8.heap.size x8 wz) i (hi : i < n) => (⟨(h.cell (p := ⟨bS, oS + i * 2, none⟩) hbS).trans (by have := (hcS i hi).1; rwa [HJ4.out i hi] at this), (h.cell (p := ⟨bS, oS + i * 2 + 1, none⟩) hbS).trans (by have := (hcS i hi).2; rwa [HJ4.out i hi] at this), Nat.lt_of_lt_of_le hbS h.size⟩ : wz.cell? ⟨bS, oS + i * 2, none⟩ = some (.int .i64 (BL i)) ∧ wz.cell? ⟨bS, oS + i * 2 + 1, none⟩ = some (.int .i64 (BH i)) ∧ bS < wz.heap.size))
            have HVC := Lib.hid (fun (wz : World) (h : Below x8.heap.size x8 wz) i (hi : i < n) => (⟨(h.cell (p := ⟨bV, oV + i * 2, none⟩) hbV).trans (by have := (hcV i hi).1; rwa [HJ5.out i hi] at this), (h.cell (p := ⟨bV, oV + i * 2 + 1, none⟩) hbV).trans (by have := (hcV i hi).2; rwa [HJ5.out i hi] at this), Nat.lt_of_lt_of_le hbV h.size⟩ : wz.cell? ⟨bV, oV + i * 2, none⟩ = some (.int .i64 (KL i)) ∧ wz.cell? ⟨bV, oV + i * 2 + 1, none⟩ = some (.int .i64 (KH i)) ∧ bV < wz.heap.size))
            clear hcS0 hcS hcV0 hcV hbS hbV
            have d1 : decide (K1 < T1) = false := decide_eq_false (by omega)
            have d2 : decide (K2 < T2) = false := decide_eq_false (by omega)
            have d3 : decide ((fn : Int) < (gn : Int)) = false := decide_eq_false (by omega)
            have d3' : decide (fn < gn) = false := decide_eq_false (by omega)
            have d3n : ¬ fn < gn := by omega
            clear HPx8
            clear HQx8
            obtain ⟨m0, m1, mz⟩ := HM.out _ HSMx8.out
            obtain ⟨n0, n1, nz⟩ := HO.out _ HSOx8.out
            go_wp2_with fail
            clear m0 m1 mz n0 n1 nz d1 d2 d3 d3' d3n
            go_loopw [26] (fun s26 wr => ∃ m : Nat, m ≤ n ∧ s26 = .int .i64 m ∧ Below x8.heap.size x8 wr) (fun s26 _ => n - (intOf s26).toNat)
            case atStart => exact ⟨0, Nat.zero_le _, rfl, bz x8⟩
            case round =>
              obtain ⟨m, hm, rfl, hB⟩ := hrel
              have HBR := Lib.hid hB
              rename World => wP
              clear hB
              by_cases hlt : m < n
              · obtain ⟨p1, p2⟩ := HBEG.out m (by have := HN.out; omega)
                have d1 : decide (KL m < BL m) = false := decide_eq_false (by omega)
                have d2 : decide (KH m < BH m) = false := decide_eq_false (by omega)
                go_upto_region 27 with fail
                refine wp_region_flow [] [] [0, 1, 2, 3, 4, 5, 6, 7, 8, 9, 10, 11, 12, 13, 14, 15, 16, 17, 18, 19, 20, 21, 22, 23] (by kernel_rfl) (by kernel_rfl) ?_
                intro wc hBc hh
                clear hh
                have HBC := Lib.hid (btr HBR.out hBc)
                have hL := @Later.cell wc
                clear hBc
                obtain ⟨c1, c2, y1⟩ := HSC.out _ HBC.out m hlt
                obtain ⟨c3, c4, y3⟩ := HVC.out _ HBC.out m hlt
                simp only [flowP, flow, pickL, List.getElem?_cons_succ, List.getElem?_cons_zero]
                refine wpQuiet_nil ?_
                repeat (go_big_quiet_step (fail))
                refine wpQuiet_nil ?_
                refine only_done ?_
                clear hL c1 c2 y1 c3 c4 y3 d1 d2 p1 p2
                go_wp2_with fail
                go_roundw
                case rel => exact ⟨m + 1, by omega, by go_num, HBC.out⟩
                case measure => simp [intOf]; omega
              · clear HSC HVC
                have HBwP := Lib.hid (btr HBx8.out HBR.out)
                have HKwP := Lib.hid (HKx8.out.mono HBR.out)
                have HSXXwP := Lib.hid (btr HSXXx8.out HBR.out)
                have HSMwP := Lib.hid (btr HSMx8.out HBR.out)
                have HSOwP := Lib.hid (btr HSOx8.out HBR.out)
                clear HBx8 HKx8 HSXXx8 HSMx8 HSOx8
                go_wp2_with fail
                refine (HWK.out _).mono ?_
                rintro e wZ ⟨rfl, hB⟩
                have HBE := Lib.hid (btr HB0.out (btr HBwP.out hB))
                clear hB
                go_wp2_with fail
                go_ret
                exact ⟨rfl, HBE.out⟩
end Go.Proofs.Yteknehlkdgamjaa
