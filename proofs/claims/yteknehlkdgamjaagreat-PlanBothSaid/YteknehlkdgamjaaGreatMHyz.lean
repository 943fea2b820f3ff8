/- Turned of the document: what it returns is its own; no condition. -/
import Derived.Test.YteknehlkdgamjaaGreatMGT
namespace Go.Proofs.YteknehlkdgamjaaGreat
open Go.RowKit Go.Shelf

set_option maxRecDepth 100000 in
set_option maxHeartbeats 3200000 in
theorem rturned_own (v : Value) (J : List Job) (w : World) (hx0 : RdJ w v J) (hJ : FineJ J) :
    Calls Tryz.prog 41 #[.agg #[v]] w fun e w' => ∃ u, e = .returned (.agg #[u]) ∧ RdJ w' u (turnJ J) ∧ (∀ k, u.ownBlock = some k → w.heap.size ≤ k) ∧ Below w.heap.size w w' := by
  have HX := Lib.hid hx0
  have h12 := hJ.n12
  have HT := Lib.hid (turnTo_succ J); have HTL := Lib.hid (turnTo_len J)
  have HT0 := Lib.hid (show turnTo J 0 = [] from rfl)
  have HTN := Lib.hid (show turnTo J J.length = turnJ J from rfl)
  have HNX := Lib.hid (nxtTo_succ J); have HN0 := Lib.hid (fun i => show nxtTo J i 0 = [] from rfl); have HNL := Lib.hid (nxtTo_le J)
  have HTA := Lib.hid (fun i => show turnA J i = ⟨(job J i).lo, (job J i).hi, ints (nxtTo J i J.length)⟩ from rfl)
  have HED := Lib.hid (fun b k (hk : k < J.length) => show edg J b k = (job J k).ws.contains (b : Int) from by unfold edg; rw [decide_eq_true hk, Bool.true_and])
  have HWL := Lib.hid (fun k (hk : k < J.length) => hJ.ws_le hk)
  obtain ⟨a, c, rfl⟩ := hx0.sl
  clear hx0 hJ
  obtain ⟨n, hn⟩ : ∃ n, n = J.length := ⟨_, rfl⟩
  have HN := Lib.hid hn
  rw [← hn] at HTN HTA HED h12 HWL ⊢
  clear hn
  have gq3 : (((w.alloc (.cells #[.slice a n c] 24)).alloc (.cells #[.slice none 0 0] 24)).alloc (.cells #[.slice none 0 0] 24)).cell? ⟨w.heap.size, 0, none⟩ = some (.slice a n c) := cal _ (cal _ (cnew rfl rfl))
  have hr3 : (((w.alloc (.cells #[.slice a n c] 24)).alloc (.cells #[.slice none 0 0] 24)).alloc (.cells #[.slice none 0 0] 24)).heap[w.heap.size + 1]? = some (.cells #[.slice none 0 0] 24 (0, 0)) := by
    have := heap_alloc_new (w.alloc (.cells #[.slice a n c] 24)) (.cells #[.slice none 0 0] 24)
    rw [World.size_alloc] at this
    rw [Below.heap_alloc _ _ _ (by simp)]
    exact this
  have ho3 : (((w.alloc (.cells #[.slice a n c] 24)).alloc (.cells #[.slice none 0 0] 24)).alloc (.cells #[.slice none 0 0] 24)).heap[w.heap.size + 2]? = some (.cells #[.slice none 0 0] 24 (0, 0)) := by
    have := heap_alloc_new ((w.alloc (.cells #[.slice a n c] 24)).alloc (.cells #[.slice none 0 0] 24)) (.cells #[.slice none 0 0] 24)
    rw [World.size_alloc, World.size_alloc] at this
    exact this
  have hB3 : Below w.heap.size w (((w.alloc (.cells #[.slice a n c] 24)).alloc (.cells #[.slice none 0 0] 24)).alloc (.cells #[.slice none 0 0] 24)) := bal (bal (bal (bz w) _) _) _
  have hz3 : (((w.alloc (.cells #[.slice a n c] 24)).alloc (.cells #[.slice none 0 0] 24)).alloc (.cells #[.slice none 0 0] 24)).heap.size = w.heap.size + 3 := by simp
  go_enter Tryz.func41, Tryz.ntmps41
  go_wp2_with fail
  generalize ((w.alloc (.cells #[.slice a n c] 24)).alloc (.cells #[.slice none 0 0] 24)).alloc (.cells #[.slice none 0 0] 24) = w3 at *
  obtain ⟨bq, hbq⟩ : ∃ b, w.heap.size = b := ⟨_, rfl⟩
  obtain ⟨br, hbr⟩ : ∃ b, w.heap.size + 1 = b := ⟨_, rfl⟩
  obtain ⟨bo, hbo⟩ : ∃ b, w.heap.size + 1 + 1 = b := ⟨_, rfl⟩
  have hbo2 : w.heap.size + 2 = bo := by omega
  rw [hbq] at gq3
  rw [hbr] at hr3
  rw [hbo2] at ho3
  rw [hbo, hbr, hbq]
  have HZ3 := Lib.hid (show w3.heap.size = bo + 1 by omega)
  have HQO := Lib.hid (show bq < bo ∧ br < bo ∧ br ≠ bq ∧ w.heap.size ≤ br by omega)
  have HB3 := Lib.hid hB3; have HGQ := Lib.hid gq3; have HGR := Lib.hid hr3; have HGO := Lib.hid ho3
  clear hbq hbr hbo hbo2 gq3 hr3 ho3 hB3 hz3
  go_loopw [4] (fun s4 wr => ∃ (i : Nat) (u : Value) (es : List Value), i ≤ n ∧ s4 = .int .i64 i ∧ wr.heap[bo]? = some (.cells #[u] 24 (0, 0)) ∧ JL wr (bo + 1) br u (turnTo J i) es ∧ Fr w3 wr (fun k => k = bo)) (fun s4 _ => n - (intOf s4).toNat)
  case atStart => exact ⟨0, _, [], Nat.zero_le _, rfl, HGO.out, by rw [HT0.out]; exact JL.nil _ _ _, Fr.refl _ _⟩
  case round =>
    clear HGO
    obtain ⟨i, u, es, hi, rfl, hgo, hjl, hF⟩ := hrel
    rename World => wO
    have HGO := Lib.hid hgo; have HJL := Lib.hid hjl; have HF := Lib.hid hF
    have HBO := Lib.hid (show Below w.heap.size w wO from hF.below HB3.out (fun k e => by subst e; have := HQO.out; omega))
    have gq := (World.cell?_of_block (a := ⟨bq, 0, none⟩) (hF.block bq (by have := HZ3.out; have := HQO.out; omega) (by have := HQO.out; omega))).trans HGQ.out
    have zq := World.block_lt_of_cell? _ _ gq
    have zo : bo < wO.heap.size := (one_cell hgo).2.2
    clear hgo hjl hF
    by_cases hin : i < n
    · obtain ⟨bj, oj, a', c', e, hbj0, g10, g20, g30, hrw⟩ := HX.out.get i (by have := HN.out; omega)
      subst e
      have g1 := (HBO.out.cell (p := ⟨bj, _, none⟩) hbj0).trans g10
      have g2 := (HBO.out.cell (p := ⟨bj, _, none⟩) hbj0).trans g20
      have zj := Nat.lt_of_lt_of_le hbj0 HBO.out.size
      have HTAI := Lib.hid (HTA.out i)
      clear hbj0 g10 g20 g30 hrw
      generalize (job J i).lo = lo at *
      generalize (job J i).hi = hh at *
      go_upto_region 7 with fail
      have HBV := Lib.hid (bal (bz wO) (.cells #[.int .i64 lo, .int .i64 hh, .slice none 0 0] 62))
      have hgv := heap_alloc_new wO (.cells #[.int .i64 lo, .int .i64 hh, .slice none 0 0] 62)
      have hzv : (wO.alloc (.cells #[.int .i64 lo, .int .i64 hh, .slice none 0 0] 62)).heap.size = wO.heap.size + 1 := by simp
      generalize wO.alloc (.cells #[.int .i64 lo, .int .i64 hh, .slice none 0 0] 62) = wv at *
      obtain ⟨bv, hbv⟩ : ∃ b, wO.heap.size = b := ⟨_, rfl⟩
      rw [hbv] at hgv hzv
      rw [hbv]
      have HGV := Lib.hid hgv; have HZV := Lib.hid hzv; have HBVE := Lib.hid hbv
      have gqv := (HBV.out.cell (p := ⟨bq, 0, none⟩) zq).trans gq
      have HGQV := Lib.hid gqv
      have HQV := Lib.hid (show bq < bv by rw [hbv] at zq; exact zq)
      clear hgv hzv g1 g2 zj gq zq gqv
      clear hbv
      clear zo
      go_loopw [6] (fun s6 wr => ∃ (q : Nat) (u : Value), q ≤ n ∧ s6 = .int .i64 q ∧ wr.heap[bv]? = some (.cells #[.int .i64 lo, .int .i64 hh, u] 62 (0, 0)) ∧ rowI wr (bv + 1) u (ints (nxtTo J i q)) ∧ Fr wv wr (fun k => k = bv)) (fun s6 _ => n - (intOf s6).toNat)
      case atStart => exact ⟨0, _, Nat.zero_le _, rfl, HGV.out, by rw [HN0.out]; exact World.ownsRow_nil _ _ _ _, Fr.refl _ _⟩
      case round =>
        clear HGV
        obtain ⟨q, u2, hq, rfl, hgv, hru, hF2⟩ := hrel
        rename World => wI
        have HGV := Lib.hid hgv; have HRU := Lib.hid hru; have HF2 := Lib.hid hF2
        have HBI := Lib.hid (show Below w.heap.size w wI from btr HBO.out (hF2.below HBV.out (fun k e => by subst e; have := HBVE.out; omega)))
        have gq := (World.cell?_of_block (a := ⟨bq, 0, none⟩) (hF2.block bq (by have := HZV.out; have := HQV.out; omega) (by have := HQV.out; omega))).trans HGQV.out
        have zq := World.block_lt_of_cell? _ _ gq
        obtain ⟨_, _, gv2, fv2, zv⟩ := three_cells hgv
        have hnl := HNL.out i q
        have HNXQ := Lib.hid (HNX.out i q)
        obtain ⟨au, cu, hu2⟩ := owns_form hru
        subst hu2
        have hbelow : Below wO.heap.size wO wI := hF2.below HBV.out (fun k e => by subst e; have := HBVE.out; omega)
        have HBW := Lib.hid hbelow
        clear hgv hru hF2 hbelow
        by_cases hqn : q < n
        · obtain ⟨bj2, oj2, a'', c'', e, hbj0, _, _, g30, hrw⟩ := HX.out.get q (by have := HN.out; omega)
          cases e
          have g3 := (HBI.out.cell (p := ⟨bj, _, none⟩) hbj0).trans g30
          have zj := Nat.lt_of_lt_of_le hbj0 HBI.out.size
          have HRW := Lib.hid (hrw.mono HBI.out)
          have hED := HED.out i q hqn
          have hwl := HWL.out q hqn
          clear hbj0 g30 hrw
          generalize nxtTo J i q = L at *
          generalize (job J q).ws = W at *
          generalize edg J i q = ed at *
          go_wp2_with fail
          refine (has_any _ W (i : Int) wI HRW.out (by omega)).mono ?_
          rintro e w' ⟨rfl, hw⟩
          subst hw
          rw [← hED]
          clear hED
          cases ed with
          | true =>
            have hL : L.length ≤ 12 := by omega
            have HNX1 := Lib.hid (show nxtTo J i (q + 1) = L ++ [q] from HNXQ.out)
            clear HNXQ
            go_wp2_with (at_builtin; refine wpList_append_num rfl _ _ rfl Tryz.underlying41 num3 HRU.out (q : Int) rfl rfl rfl (by rw [ints_len]; omega) (show bv + 1 ≤ wI.heap.size from Nat.succ_le_of_lt zv) ?_)
            intro v' w' hO' hg'
            obtain ⟨av, cv, hv'⟩ := owns_form hO'
            subst hv'
            have hk := (append_keep (World.ownsRow.alloc HRU.out _) hg' (Nat.lt_succ_self bv) (by simp; omega)).trans ((Below.heap_alloc wI _ bv zv).trans HGV.out)
            obtain ⟨_, _, gv3, fv3, zv3⟩ := three_cells hk
            have HK := Lib.hid hk; have HO' := Lib.hid hO'
            have HFP := Lib.hid (fun u => fr_push HF2.out HZV.out HRU.out _ hg' ⟨bv, 2, none⟩ rfl u)
            clear hk hO' hg' gv2 fv2 zv g3 zj gq zq
            go_wp2_with fail
            go_roundw
            case rel => exact ⟨q + 1, _, by omega, by go_num, by rw [heap_setCell_same _ bv 2 _ _ _ HK.out]; rfl, owns_set (by rw [HNX1.out, ints_snoc, List.length_append, List.map_append]; exact HO'.out) (Nat.lt_succ_self bv) _ _, HFP.out _⟩
            case measure => simp [intOf]; omega
          | false =>
            have HNX1 := Lib.hid (show nxtTo J i (q + 1) = L from HNXQ.out)
            clear HNXQ gv2 fv2 zv g3 zj gq zq
            go_wp2_with fail
            go_roundw
            case rel => exact ⟨q + 1, _, by omega, by go_num, HGV.out, by rw [HNX1.out]; exact HRU.out, HF2.out⟩
            case measure => simp [intOf]; omega
        · have hqe : q = n := by omega
          have hgo := (HBW.out.block bo (one_cell HGO.out).2.2).trans HGO.out
          obtain ⟨go1, fo1, zo1⟩ := one_cell hgo
          have HGI := Lib.hid hgo; have HJI := Lib.hid (HJL.out.later HBW.out)
          obtain ⟨ae, ce, hue⟩ := HJL.out.form
          subst hue
          have htl : (turnTo J i).length ≤ 1000 := by rw [HTL.out]; omega
          have HTS := Lib.hid (HT.out i)
          have HAP := Lib.hid (show Ap (fun k => (br ≤ k ∧ k < bo + 1) ∨ (Value.slice ae (turnTo J i).length ce).ownBlock = some k) (.slice au (ints (nxtTo J i q)).length cu) from ap_own HRU.out fun k hk => by
            rcases hk with hk | hk
            · intro e; have h1 := (World.ownsRow.lt HRU.out _ e).1; have := HBVE.out; have h3 := (one_cell HGO.out).2.2; omega
            · intro e
              rcases own_ne HRU.out HJI.out.out (by decide) with h | h
              · rw [h] at e; cases e
              · exact h (by rw [e, hk]))
          have HRI := Lib.hid (show RdI wI .i64 (.slice au (ints (nxtTo J i q)).length cu) (ints (nxtTo J i q)) from RdI.of_owns HRU.out)
          have HF3 := Lib.hid (HF.out.trans (Fr.of_below (B := fun k => k = bo) HBW.out))
          obtain ⟨gj0, gj1, gj2, _, zj⟩ := three_cells HGV.out
          rw [hqe] at HAP HRI gj2
          have HNI := Lib.hid (show turnA J i = ⟨lo, hh, ints (nxtTo J i n)⟩ from HTAI.out)
          clear hgo HGO HJL HNXQ HF HGV HRU fv2 gv2 hqe HTAI
          generalize ints (nxtTo J i n) = L at *
          generalize turnTo J i = KT at *
          go_wp2_with (at_builtin; refine JL.push (j := ⟨lo, hh, L⟩) HJI.out HRI.out HAP.out rfl _ _ rfl rfl rfl rfl htl (Nat.succ_le_of_lt zo1) ?_)
          intro v' w' hJ' hg'
          obtain ⟨av, cv, hv'⟩ := hJ'.form
          subst hv'
          have hk := (append_keep (World.ownsRow.alloc HJI.out.out _) hg' (Nat.lt_succ_self bo) (by simp; omega)).trans ((Below.heap_alloc wI _ bo zo1).trans HGI.out)
          obtain ⟨gv3, fv3, zv3⟩ := one_cell hk
          have HK := Lib.hid hk; have HJ' := Lib.hid hJ'
          have HFP := Lib.hid (fun u => fr_push HF3.out HZ3.out HJI.out.out _ hg' ⟨bo, 0, none⟩ rfl u)
          clear hk hJ' hg' go1 fo1 zo1 gj0 gj1 gj2 zj gq zq
          go_wp2_with fail
          go_roundw
          case rel => exact ⟨i + 1, _, _, by omega, by go_num, by rw [heap_setCell_same _ bo 0 _ _ _ HK.out]; rfl, by rw [HTS.out, HNI.out]; have h := HJ'.out; rw [List.length_append] at h; exact h.set (by have := HQO.out; omega) (Nat.lt_succ_self bo) _ _, HFP.out _⟩
          case measure => simp [intOf]; omega
    · have hie : i = n := by omega
      have HTE := Lib.hid (show turnTo J i = turnJ J by rw [hie, HTN.out])
      rw [HTE.out] at HJL
      obtain ⟨ae, ce, hue⟩ := HJL.out.form
      subst hue
      obtain ⟨go1, fo1, zo1⟩ := one_cell HGO.out
      have hgr := (HF.out.block br (by have := HZ3.out; have := HQO.out; omega) (by have := HQO.out; omega)).trans HGR.out
      obtain ⟨gr1, fr1, zr1⟩ := one_cell hgr
      have HGR2 := Lib.hid hgr
      clear hgr hie
      go_wp2_with fail
      exact bodyPost_ret (results_cell1 rfl rfl (load_work (heap_setCell_same wO br 0 _ _ _ HGR2.out))) rfl ⟨_, rfl, (HJL.out.set (Nat.le_refl br) (by have := HQO.out; omega) _ _).rd, fun k hk => by have h8 := (World.ownsRow.lt HJL.out.out k hk).1; have := HQO.out; omega, bset HBO.out (p := ⟨br, 0, none⟩) HQO.out.2.2.2 _⟩
end Go.Proofs.YteknehlkdgamjaaGreat
