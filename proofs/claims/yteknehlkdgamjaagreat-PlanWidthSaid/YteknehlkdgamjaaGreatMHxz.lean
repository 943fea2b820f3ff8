/- Exact: the work in which each job takes just the days of a truth; no condition. -/
import Derived.Test.YteknehlkdgamjaaGreatMHtz
namespace Go.Proofs.YteknehlkdgamjaaGreat
open Go.RowKit Go.Shelf

def exTo (J : List Job) (D : Nat → Int) (k : Nat) : List Job := (List.range k).map (exA J D)
theorem exTo_succ (J : List Job) (D : Nat → Int) (k : Nat) : exTo J D (k + 1) = exTo J D k ++ [exA J D k] := by simp [exTo, List.range_succ]
theorem exTo_len (J : List Job) (D : Nat → Int) (k : Nat) : (exTo J D k).length = k := by simp [exTo]
set_option maxRecDepth 100000 in
set_option maxHeartbeats 3200000 in
theorem exact_any (v y : Value) (J : List Job) (D : Nat → Int) (w : World) (hx0 : RdJ w v J) (hn12 : J.length ≤ 1000) (hn1 : 0 < J.length) (hy0 : RdI w .i64 y (fnL D J.length)) :
    Calls Tryz.prog 35 #[.agg #[v], y] w fun e w' => ∃ u, e = .returned (.agg #[u]) ∧ RdJ w' u (exJ J D) ∧ Below w.heap.size w w' := by
  have HX := Lib.hid hx0
  have HT := Lib.hid (exTo_succ J D); have HTL := Lib.hid (exTo_len J D)
  have HT0 := Lib.hid (show exTo J D 0 = [] from rfl)
  have HTN := Lib.hid (show exTo J D J.length = exJ J D from rfl)
  have HTA := Lib.hid (fun i => show exA J D i = ⟨D i, D i, (job J i).ws⟩ from rfl)
  obtain ⟨ay, cy, hyy⟩ := exI hy0 _ rfl
  subst hyy
  rw [fnL_len]
  obtain ⟨by', oy, rfl, hby, hcy⟩ := hy0.get (by rw [fnL_len]; exact hn1)
  have HD := Lib.hid (fun (wz : World) (h : Below w.heap.size w wz) i (hi : i < J.length) => (⟨(h.cell (p := ⟨by', oy + i, none⟩) hby).trans (by have h2 := hcy i (by rw [fnL_len]; exact hi); rwa [show elt (fnL D J.length) i = D i from by simp [elt, fnL, hi]] at h2), Nat.lt_of_lt_of_le hby h.size⟩ : wz.cell? ⟨by', oy + i, none⟩ = some (.int .i64 (D i)) ∧ by' < wz.heap.size))
  clear hby hcy
  obtain ⟨a, c, rfl⟩ := hx0.sl
  clear hx0 hy0
  obtain ⟨n, hn⟩ : ∃ n, n = J.length := ⟨_, rfl⟩
  have HN := Lib.hid hn
  rw [← hn] at HTN HD hn12 ⊢
  clear hn hn1
  have gq3 : (((w.alloc (.cells #[.slice a n c] 24)).alloc (.cells #[.slice none 0 0] 24)).alloc (.cells #[.slice none 0 0] 24)).cell? ⟨w.heap.size, 0, none⟩ = some (.slice a n c) := cal _ (cal _ (cnew rfl rfl))
  have hr3 : (((w.alloc (.cells #[.slice a n c] 24)).alloc (.cells #[.slice none 0 0] 24)).alloc (.cells #[.slice none 0 0] 24)).heap[w.heap.size + 1]? = some (.cells #[.slice none 0 0] 24 (0, 0)) := by
    have := heap_alloc_new (w.alloc (.cells #[.slice a n c] 24)) (.cells #[.slice none 0 0] 24)
    rw [World.size_alloc] at this
    rw [Below.heap_alloc _ _ _ (by simp)]
    exact this
  have ho3 : (((w.alloc (.cells #[.slice a n c] 24)).alloc (.cells #[.slice none 0 0] 24)).alloc (.cells #[.slice none 0 0] 24)).heap[w.heap.size + 2]? = some (.cells #[.slice none 0 0] 24 (0, 0)) := by
    have := heap_alloc_new ((w.alloc (.cells #[.slice a n c] 24)).alloc (.cells #[.slice none 0 0] 24)) (.cells #[.slice none 0 0] 24)
    rw [World.size_alloc, World.size_alloc] at this
    exact this
  have hB3 : Below w.heap.size w (((w.alloc (.cells #[.slice a n c] 24)).alloc (.cells #[.slice none 0 0] 24)).alloc (.cells #[.slice none 0 0] 24)) := bal (bal (bal (bz w) _) _) _
  have hz3 : (((w.alloc (.cells #[.slice a n c] 24)).alloc (.cells #[.slice none 0 0] 24)).alloc (.cells #[.slice none 0 0] 24)).heap.size = w.heap.size + 3 := by simp
  go_enter Tryz.func35, Tryz.ntmps35
  go_wp2_with fail
  generalize ((w.alloc (.cells #[.slice a n c] 24)).alloc (.cells #[.slice none 0 0] 24)).alloc (.cells #[.slice none 0 0] 24) = w3 at *
  obtain ⟨bq, hbq⟩ : ∃ b, w.heap.size = b := ⟨_, rfl⟩
  obtain ⟨br, hbr⟩ : ∃ b, w.heap.size + 1 = b := ⟨_, rfl⟩
  obtain ⟨bo, hbo⟩ : ∃ b, w.heap.size + 1 + 1 = b := ⟨_, rfl⟩
  have hbo2 : w.heap.size + 2 = bo := by omega
  rw [hbq] at gq3
  rw [hbr] at hr3
  rw [hbo2] at ho3
  rw [hbo, hbr, hbq]
  have HZ3 := Lib.hid (show w3.heap.size = bo + 1 by omega)
  have HQO := Lib.hid (show bq < bo ∧ br < bo ∧ br ≠ bq ∧ w.heap.size ≤ br by omega)
  have HB3 := Lib.hid hB3; have HGQ := Lib.hid gq3; have HGR := Lib.hid hr3; have HGO := Lib.hid ho3
  clear hbq hbr hbo hbo2 gq3 hr3 ho3 hB3 hz3
  go_loopw [6] (fun s6 wr => ∃ (i : Nat) (u : Value) (es : List Value), i ≤ n ∧ s6 = .int .i64 i ∧ wr.heap[bo]? = some (.cells #[u] 24 (0, 0)) ∧ JL wr (bo + 1) br u (exTo J D i) es ∧ Fr w3 wr (fun k => k = bo)) (fun s6 _ => n - (intOf s6).toNat)
  case atStart => exact ⟨0, _, [], Nat.zero_le _, rfl, HGO.out, by rw [HT0.out]; exact JL.nil _ _ _, Fr.refl _ _⟩
  case round =>
    clear HGO
    obtain ⟨i, u, es, hi, rfl, hgo, hjl, hF⟩ := hrel
    rename World => wO
    have HGO := Lib.hid hgo; have HJL := Lib.hid hjl; have HF := Lib.hid hF
    have HBO := Lib.hid (show Below w.heap.size w wO from hF.below HB3.out (fun k e => by subst e; have := HQO.out; omega))
    have gq := (World.cell?_of_block (a := ⟨bq, 0, none⟩) (hF.block bq (by have := HZ3.out; have := HQO.out; omega) (by have := HQO.out; omega))).trans HGQ.out
    have zq := World.block_lt_of_cell? _ _ gq
    obtain ⟨go1, fo1, zo⟩ := one_cell hgo
    clear hgo hjl hF
    by_cases hin : i < n
    · obtain ⟨bj, oj, a', c', e, hbj0, _, _, g30, hrw⟩ := HX.out.get i (by have := HN.out; omega)
      subst e
      have g3 := (HBO.out.cell (p := ⟨bj, _, none⟩) hbj0).trans g30
      have zj := Nat.lt_of_lt_of_le hbj0 HBO.out.size
      obtain ⟨gd, zd⟩ := HD.out _ HBO.out i hin
      have HTAI := Lib.hid (HTA.out i)
      have HRW := Lib.hid (hrw.mono HBO.out)
      have HAPW := Lib.hid hrw
      obtain ⟨ae, ce, hue⟩ := HJL.out.form
      subst hue
      have htl : (exTo J D i).length ≤ 1000 := by rw [HTL.out]; omega
      have HTS := Lib.hid (HT.out i)
      clear g30 hrw
      generalize (job J i).ws = W at *
      generalize D i = di at *
      generalize exTo J D i = KT at *
      go_upto_region 5 with fail
      refine wp_region_flow [] [([0, 1, 2, 3, 4, 5, 6, 7, 8, 9, 11, 12, 13, 14, 15, 16], 10, true), ([17], 18, true), ([], 19, false), ([], 20, false), ([], 21, false)] [] (by kernel_rfl) (by kernel_rfl) ?_
      intro wc hBc hh
      clear hh
      have HBC := Lib.hid (btr HBO.out hBc)
      have HWC := Lib.hid hBc
      have hL := @Later.cell wc
      have k1 := (hBc.cell (p := ⟨bq, 0, none⟩) zq).trans gq
      have k2 := (hBc.cell (p := ⟨bo, 0, none⟩) zo).trans go1
      have k3 := (hBc.cell (p := ⟨bj, oj + i * 3 + 2, none⟩) zj).trans g3
      have k4 := (hBc.cell (p := ⟨by', oy + i, none⟩) zd).trans gd
      have z1 := Nat.lt_of_lt_of_le zq hBc.size
      have z2 := Nat.lt_of_lt_of_le zo hBc.size
      have z3 := Nat.lt_of_lt_of_le zj hBc.size
      have z4 := Nat.lt_of_lt_of_le zd hBc.size
      clear hBc zq gq zo go1 fo1 zj g3 zd gd
      simp only [flowP, flow, pickL, List.getElem?_cons_succ, List.getElem?_cons_zero]
      refine wpQuiet_nil ?_
      repeat (go_big_quiet_step (fail))
      refine wpQuiet_nil ?_
      go_wp2_with fail
      refine (days_any di di wc).mono ?_
      rintro e w5 ⟨rfl, hB⟩
      have HS5 := Lib.hid hB
      clear hB
      go_wp2
      refine seg_grow ⟨⟨_, HS5.out⟩, rfl⟩ ?_
      repeat (go_big_quiet_step (fail))
      refine wpQuiet_nil ?_
      go_wp2
      refine seg_grow ⟨⟨_, btr HS5.out (bal (bz w5) _)⟩, rfl⟩ ?_
      refine wpQuiet_nil ?_
      clear hL k1 k2 k3 k4 z1 z2 z3 z4
      have HW5 := Lib.hid (btr HWC.out HS5.out)
      have HJI := Lib.hid (HJL.out.later HW5.out)
      have HRI := Lib.hid (HRW.out.mono HW5.out)
      have HAP := Lib.hid (show Ap (fun k => (br ≤ k ∧ k < bo + 1) ∨ (Value.slice ae KT.length ce).ownBlock = some k) (.slice a' W.length c') from ap_old HAPW.out fun k hk => by
        rcases hk with hk | hk
        · have := HQO.out; omega
        · have := (World.ownsRow.lt HJI.out.out k hk).1; have := HQO.out; omega)
      have HF3 := Lib.hid (HF.out.trans (Fr.of_below (B := fun k => k = bo) HW5.out))
      have HGI := Lib.hid ((HW5.out.block bo (one_cell HGO.out).2.2).trans HGO.out)
      have hzo : bo < w5.heap.size := (one_cell HGI.out).2.2
      clear HJL HRW HAPW HF HGO HBC HWC HS5 HW5
      go_wp2_with (at_builtin; refine JL.push (j := ⟨di, di, W⟩) HJI.out HRI.out HAP.out rfl _ _ rfl rfl rfl rfl htl (Nat.succ_le_of_lt hzo) ?_)
      intro v' w' hJ' hg'
      obtain ⟨av, cv, hv'⟩ := hJ'.form
      subst hv'
      have hk := (append_keep (World.ownsRow.alloc HJI.out.out _) hg' (Nat.lt_succ_self bo) (by simp; omega)).trans ((Below.heap_alloc w5 _ bo hzo).trans HGI.out)
      obtain ⟨gv3, fv3, zv3⟩ := one_cell hk
      have HK := Lib.hid hk; have HJ' := Lib.hid hJ'
      have HFP := Lib.hid (fun u => fr_push HF3.out HZ3.out HJI.out.out _ hg' ⟨bo, 0, none⟩ rfl u)
      clear hk hJ' hg' hzo
      go_wp2
      refine seg_write ?_
      refine wpQuiet_nil ?_
      go_wp2
      refine seg_write ?_
      refine wpQuiet_nil ?_
      go_wp2_with fail
      refine seg_write ?_
      refine wpQuiet_nil ?_
      refine only_done ?_
      go_wp2_with fail
      go_roundw
      case rel => exact ⟨i + 1, _, _, by omega, by go_num, by rw [heap_setCell_same _ bo 0 _ _ _ HK.out]; rfl, by rw [HTS.out, HTAI.out]; have h := HJ'.out; rw [List.length_append] at h; exact h.set (by have := HQO.out; omega) (Nat.lt_succ_self bo) _ _, HFP.out _⟩
      case measure => simp [intOf]; omega
    · have hie : i = n := by omega
      have HTE := Lib.hid (show exTo J D i = exJ J D by rw [hie, HTN.out])
      rw [HTE.out] at HJL
      obtain ⟨ae, ce, hue⟩ := HJL.out.form
      subst hue
      have hgr := (HF.out.block br (by have := HZ3.out; have := HQO.out; omega) (by have := HQO.out; omega)).trans HGR.out
      obtain ⟨gr1, fr1, zr1⟩ := one_cell hgr
      have HGR2 := Lib.hid hgr
      clear hgr hie
      go_wp2_with fail
      exact bodyPost_ret (results_cell1 rfl rfl (load_work (heap_setCell_same wO br 0 _ _ _ HGR2.out))) rfl ⟨_, rfl, (HJL.out.set (Nat.le_refl br) (by have := HQO.out; omega) _ _).rd, bset HBO.out (p := ⟨br, 0, none⟩) HQO.out.2.2.2 _⟩
end Go.Proofs.YteknehlkdgamjaaGreat
