/- Merged texts: days, begins, takes, starts of the document; no condition. -/
import Derived.Test.YteknehlkdgamjaaGreatMGH
import Derived.Test.YteknehlkdgamjaaGreatMK7
namespace Go.Proofs.YteknehlkdgamjaaGreat
open Go.RowKit Go.Shelf

/-- The least days, or the greatest. -/
def dayD (J : List Job) (high : Bool) : Nat → Int := if high then hiD J else loD J
theorem dayD_bd {J : List Job} (hJ : FineJ J) (high : Bool) {i : Nat} (hi : i < J.length) : 0 ≤ dayD J high i ∧ dayD J high i ≤ 1000 := by
  have := hJ.days i hi
  unfold dayD
  cases high
  · simp only [Bool.false_eq_true, if_false]; unfold loD; omega
  · simp only [if_true]; unfold hiD; omega
set_option maxRecDepth 100000 in
set_option maxHeartbeats 1600000 in
theorem rdays_any (v : Value) (J : List Job) (high : Bool) (w : World) (hx0 : RdJ w v J) (hn12 : J.length ≤ 1000) :
    Calls Tryz.prog 27 #[.agg #[v], .bool high] w fun e w' => ∃ u, e = .returned u ∧ rowL w' w.heap.size u (fnL (dayD J high) J.length) ∧ Below w.heap.size w w' := by
  have HX := Lib.hid hx0
  obtain ⟨a, c, rfl⟩ := hx0.sl
  clear hx0
  have HB0 := Lib.hid (bal (bz w) (.cells #[.slice a J.length c] 24))
  have g0 : (w.alloc (.cells #[.slice a J.length c] 24)).cell? ⟨w.heap.size, 0, none⟩ = some (.slice a J.length c) := cnew rfl rfl
  have z0 : w.heap.size < (w.alloc (.cells #[.slice a J.length c] 24)).heap.size := by simp
  obtain ⟨n, hn⟩ : ∃ n, n = J.length := ⟨_, rfl⟩
  have HN := Lib.hid hn
  have HL := Lib.hid (fun i => show dayD J high i = if high then (job J i).hi else (job J i).lo from by unfold dayD; cases high <;> rfl)
  have HS := Lib.hid (fun i => fnL_succ (dayD J high) i)
  have HLE := Lib.hid (fun i => fnL_len (dayD J high) i)
  rw [← hn] at HB0 g0 z0 hn12 ⊢
  generalize dayD J high = F at *
  clear hn
  go_enter Tryz.func27, Tryz.ntmps27
  go_wp2_with fail
  generalize w.alloc (.cells #[.slice a n c] 24) = w1 at *
  go_loopw [5, 6] (fun s5 s6 wr => ∃ k : Nat, k ≤ n ∧ s6 = .int .i64 k ∧ wr.ownsRow w1.heap.size 2 1 s5 k ((fnL F k).map (Value.int .i64)) ∧ Below w1.heap.size w1 wr) (fun _ s6 _ => n - (intOf s6).toNat)
  case atStart => exact ⟨0, Nat.zero_le _, rfl, World.ownsRow_nil _ _ _ _, bz w1⟩
  case round =>
    obtain ⟨k, hk, rfl, ho, hB⟩ := hrel
    have HO7 := Lib.hid ho; have HB7 := Lib.hid hB
    have gr := (hB.cell (p := ⟨w.heap.size, 0, none⟩) z0).trans g0
    have zr := Nat.lt_of_lt_of_le z0 hB.size
    by_cases hlt : k < n
    · have HX7 := HX.out.mono (btr HB0.out hB)
      rw [← HN.out] at HX7
      obtain ⟨b, o, a', c', e, hb, g1, g2, g3, _⟩ := (HX.out.mono (btr HB0.out hB)).get k (by have := HN.out; omega)
      subst e
      have hlk := HLE.out k
      have HSK := Lib.hid (HS.out k)
      have HF := Lib.hid (HL.out k)
      have HO8 := Lib.hid (show wr.ownsRow w1.heap.size 2 1 _ (fnL F k).length ((fnL F k).map (Value.int .i64)) by rw [hlk]; exact HO7.out)
      clear ho hB g3 HX7
      generalize (job J k).lo = lo at *
      generalize (job J k).hi = hh at *
      cases high with
      | false =>
        have HF2 := Lib.hid (show F k = lo from HF.out)
        go_wp2_with (at_builtin; refine wpList_append_num rfl _ _ rfl Tryz.underlying35 num2 HO8.out lo rfl rfl rfl (by omega) HB7.out.size ?_)
        intro v' w' hO' hg
        have HO' := Lib.hid hO'
        have HB' := Lib.hid (show Below w1.heap.size w1 w' from append_below (bal HB7.out _) (World.ownsRow.alloc HO7.out _) hg (Nat.le_refl _))
        clear hO' hg
        go_wp2_with fail
        go_roundw
        case rel => exact ⟨k + 1, by omega, by go_num, by rw [HSK.out, HF2.out, List.map_append]; exact HO'.out, HB'.out⟩
        case measure => simp [intOf]; omega
      | true =>
        have HF2 := Lib.hid (show F k = hh from HF.out)
        go_wp2_with (at_builtin; refine wpList_append_num rfl _ _ rfl Tryz.underlying35 num2 HO8.out hh rfl rfl rfl (by omega) HB7.out.size ?_)
        intro v' w' hO' hg
        have HO' := Lib.hid hO'
        have HB' := Lib.hid (show Below w1.heap.size w1 w' from append_below (bal HB7.out _) (World.ownsRow.alloc HO7.out _) hg (Nat.le_refl _))
        clear hO' hg
        go_wp2_with fail
        go_roundw
        case rel => exact ⟨k + 1, by omega, by go_num, by rw [HSK.out, HF2.out, List.map_append]; exact HO'.out, HB'.out⟩
        case measure => simp [intOf]; omega
    · have hkn : k = n := by omega
      subst hkn
      clear ho hB
      go_wp2_with fail
      go_ret
      refine ⟨_, rfl, ?_, btr HB0.out HB7.out⟩
      unfold rowL
      rw [HLE.out]
      exact own_mono HO7.out HB0.out.size
end Go.Proofs.YteknehlkdgamjaaGreat

namespace Go.Proofs.YteknehlkdgamjaaGreat
open Go.RowKit Go.Shelf

set_option maxRecDepth 100000 in
set_option maxHeartbeats 3200000 in
theorem rbegins_any (v y : Value) (J : List Job) (D : Nat → Int) (w : World) (hx0 : RdJ w v J) (hJ : FineJ J) (hc : cir J = false) (hy0 : RdI w .i64 y (fnL D J.length)) (hD : ∀ i, i < J.length → 0 ≤ D i ∧ D i ≤ 1000) :
    Calls Tryz.prog 36 #[.agg #[v], y] w fun e w' => ∃ u, e = .returned u ∧ rowL w' w.heap.size u (fnL (beg J D) J.length) ∧ Below w.heap.size w w' := by
  have HX := Lib.hid hx0; have HY := Lib.hid hy0; have HJ := Lib.hid hJ; have HC := Lib.hid hc; have HDB := Lib.hid hD
  have h12 := hJ.n12
  have h1 := hJ.n1
  have HFIN := Lib.hid (fun X => BgI.done (J := J) (D := D) (X := X))
  have HZ := Lib.hid (bgI_zero J D)
  obtain ⟨a, c, rfl⟩ := hx0.sl
  obtain ⟨ay, cy, rfl, _⟩ := hy0.form
  rw [fnL_len] at hy0 HY ⊢
  clear hx0 hy0 hJ hc hD
  have HB0 := Lib.hid (bal (bz w) (.cells #[.slice a J.length c] 24))
  have g0 : (w.alloc (.cells #[.slice a J.length c] 24)).cell? ⟨w.heap.size, 0, none⟩ = some (.slice a J.length c) := cnew rfl rfl
  have z0 : w.heap.size < (w.alloc (.cells #[.slice a J.length c] 24)).heap.size := by simp
  obtain ⟨n, hn⟩ : ∃ n, n = J.length := ⟨_, rfl⟩
  have HN := Lib.hid hn
  rw [← hn] at HB0 g0 z0 h12 h1 HY HFIN HZ ⊢
  clear hn
  go_enter Tryz.func36, Tryz.ntmps36
  go_upto_region 2 with (refine wpList_make_longs rfl _ _ rfl n rfl rfl (by omega) ?_)
  intro w1 hr1 hg1
  have HB1 := Lib.hid (show Below w.heap.size w w1 from bgr (bal (bz w) _) hg1 (fun k e => by cases e))
  have gb1 := hg1.cell g0 (fun e => by cases e)
  have zb1 : w.heap.size < w1.heap.size := Nat.lt_of_lt_of_le z0 hg1.size
  obtain ⟨g, hg⟩ : ∃ g, w.heap.size + 1 = g := ⟨_, rfl⟩
  rw [hg] at hr1
  rw [hg]
  have HG := Lib.hid (show w.heap.size < g by omega)
  have HR1 := Lib.hid hr1
  clear hg hg1 g0 z0 hr1 HB0
  go_wp2_with fail
  obtain ⟨bw, hbw⟩ : ∃ b, w.heap.size = b := ⟨_, rfl⟩
  rw [hbw] at gb1 zb1 HG
  rw [hbw]
  have HBW := Lib.hid hbw
  clear hbw
  go_loopw [6] (fun s6 wr => ∃ (m : Nat) (X : List Int), m ≤ n ∧ s6 = .int .i64 m ∧ rowL wr g (.slice (some ⟨g, 0, none⟩) n n) X ∧ BgI J D m 0 0 X ∧ (wr.cell? ⟨bw, 0, none⟩ = some (.slice a n c) ∧ bw < wr.heap.size) ∧ Below w.heap.size w wr) (fun s6 _ => n - (intOf s6).toNat)
  case atStart => exact ⟨0, _, Nat.zero_le _, rfl, HR1.out, HZ.out, ⟨gb1, zb1⟩, HB1.out⟩
  case round =>
    clear gb1 zb1 HB1 HR1 HZ
    obtain ⟨m, X, hm, rfl, hr, hx, ⟨gb, zb⟩, hB⟩ := hrel
    rename World => w2
    have HR2 := Lib.hid hr; have HX2 := Lib.hid hx; have HB2 := Lib.hid hB
    clear hr hx hB
    by_cases hmn : m < n
    · go_wp2_with fail
      go_loopw [7] (fun s7 wr => ∃ (i : Nat) (X : List Int), i ≤ n ∧ s7 = .int .i64 i ∧ rowL wr g (.slice (some ⟨g, 0, none⟩) n n) X ∧ BgI J D m i 0 X ∧ (wr.cell? ⟨bw, 0, none⟩ = some (.slice a n c) ∧ bw < wr.heap.size) ∧ Below w.heap.size w wr) (fun s7 _ => n - (intOf s7).toNat)
      case atStart => exact ⟨0, X, Nat.zero_le _, rfl, HR2.out, HX2.out, ⟨gb, zb⟩, HB2.out⟩
      case round =>
        clear gb zb HR2 HX2 HB2
        obtain ⟨i, X, hi, rfl, hr, hx, ⟨gb, zb⟩, hB⟩ := hrel
        rename World => w3
        have HR3 := Lib.hid hr; have HX3 := Lib.hid hx; have HB3 := Lib.hid hB
        clear hr hx hB
        by_cases hin : i < n
        · obtain ⟨bj, oj, a', c', e, hbj0, g10, g20, g30, hrw⟩ := HX.out.get i (by have := HN.out; omega)
          subst e
          have g3 := (HB3.out.cell (p := ⟨bj, _, none⟩) hbj0).trans g30
          have hbj := Nat.lt_of_lt_of_le hbj0 HB3.out.size
          have HI := Lib.hid (show i < J.length by have := HN.out; omega)
          have HWW := Lib.hid (fun (wz : World) (h : Below w.heap.size w wz) => hrw.mono h)
          obtain ⟨k, hk⟩ : ∃ k, k = (job J i).ws.length := ⟨_, rfl⟩
          have HK := Lib.hid hk
          have hk12 : k ≤ 12 := by have := HJ.out.ws_le HI.out; omega
          rw [← hk] at g3 HWW
          clear hrw hk g10 g20 g30 hbj0
          go_wp2_with fail
          clear g3 hbj
          go_loopw [9] (fun s9 wr => ∃ (q : Nat) (X1 : List Int), q ≤ k ∧ s9 = .int .i64 q ∧ rowL wr g (.slice (some ⟨g, 0, none⟩) n n) X1 ∧ BgI J D m i q X1 ∧ (wr.cell? ⟨bw, 0, none⟩ = some (.slice (some ⟨bj, oj, none⟩) n c) ∧ bw < wr.heap.size) ∧ Below w.heap.size w wr) (fun s9 _ => k - (intOf s9).toNat)
          case atStart => exact ⟨0, X, Nat.zero_le _, rfl, HR3.out, HX3.out, ⟨gb, zb⟩, HB3.out⟩
          case round =>
            clear gb zb HR3 HX3 HB3
            obtain ⟨q, X1, hq, rfl, hr, hx, ⟨gb, zb⟩, hB⟩ := hrel
            rename World => w4
            have HR4 := Lib.hid hr; have HX4 := Lib.hid hx; have HB4 := Lib.hid hB; have HW4 := Lib.hid (HWW.out _ hB); have HGB := Lib.hid (⟨gb, zb⟩ : _ ∧ _)
            clear hr hx hB
            by_cases hqk : q < k
            · obtain ⟨bx, ox, e, hbx, hcx⟩ := HW4.out.get (by have := HK.out; omega)
              subst e
              have gx := hcx q (by have := HK.out; omega)
              obtain ⟨b, hb, hbn, _⟩ := HJ.out.wait (i := i) (j := q) HI.out (by have := HK.out; omega)
              rw [hb] at gx
              have hbN : b < n := by have := HN.out; omega
              have HST := Lib.hid (HX4.out.wait HJ.out HC.out HI.out (by have := HK.out; omega) hb)
              have hlen : X1.length = n := by rw [HX4.out.len, HN.out]
              obtain ⟨gz, gi, gf⟩ := HR4.out.at i (by omega)
              have gB := (HR4.out.at b (by omega)).2.1
              obtain ⟨yb, yo, e, hyb, hcy⟩ := (HY.out.mono HB4.out).get (by rw [fnL_len]; omega)
              subst e
              have gy := hcy b (by rw [fnL_len]; exact hbN)
              rw [fnL_at _ hbN] at gy
              have b1 := HX4.out.lo b hbn
              have b2 := HX4.out.hi b hbn
              have b3 := beg_bd HJ.out (fun i hi => (HDB.out i hi).2) (i := b) hbn
              have b0 := begF_nn J D m b
              have d1 := HDB.out b hbn
              have HRS := Lib.hid (fun x => HR4.out.stored i x)
              have hwr : IntKind.i64.wrap (elt X1 b + D b) = elt X1 b + D b := IntWalk.i64_in _ (by omega)
              clear hcx hcy b0 b1 b2 b3 d1 hb gb zb
              generalize elt X1 i = xi at *
              generalize elt X1 b = xb at *
              generalize D b = db at *
              go_upto_region 12 with fail
              refine wp_region_flow [] [([0, 1, 2, 3, 4, 5, 6, 7, 8, 9, 10, 11, 12, 13, 14, 15, 16, 17, 18, 19, 20, 21, 22], 23, false)] [] (by kernel_rfl) (by kernel_rfl) ?_
              intro wc hBc hh
              clear hh
              have HBC := Lib.hid hBc
              have k1 := (hBc.cell (p := ⟨bx, ox + q, none⟩) hbx).trans gx
              have k2 := (hBc.cell (p := ⟨g, i, none⟩) gz).trans gi
              have k3 := (hBc.cell (p := ⟨g, b, none⟩) gz).trans gB
              have k4 := (hBc.cell (p := ⟨yb, yo + b, none⟩) hyb).trans gy
              have z1 := Nat.lt_of_lt_of_le hbx hBc.size
              have z2 := Nat.lt_of_lt_of_le gz hBc.size
              have z4 := Nat.lt_of_lt_of_le hyb hBc.size
              have kf := (World.frozen?_of_block (hBc.block g gz)).trans gf
              have hL := @Later.cell wc
              clear hBc gx gi gB gy hbx gz hyb gf
              have HRC := Lib.hid (show rowL wc g (.slice (some ⟨g, 0, none⟩) n n) X1 from owns_kept HR4.out HBC.out)
              have HGC := Lib.hid (⟨(HBC.out.cell (p := ⟨bw, 0, none⟩) HGB.out.2).trans HGB.out.1, Nat.lt_of_lt_of_le HGB.out.2 HBC.out.size⟩ : wc.cell? ⟨bw, 0, none⟩ = some (.slice (some ⟨bj, oj, none⟩) n c) ∧ bw < wc.heap.size)
              have HB5 := Lib.hid (btr HB4.out HBC.out)
              simp only [flowP, flow, pickL, List.getElem?_cons_succ, List.getElem?_cons_zero]
              refine wpQuiet_nil ?_
              repeat (go_big_quiet_step (fail))
              refine wpQuiet_nil ?_
              go_wp2
              refine seg_write ?_
              refine wpQuiet_nil ?_
              refine only_done ?_
              go_wp2_with fail
              go_roundw
              case rel =>
                exact ⟨q + 1, _, by omega, by go_num, HRC.out.stored i _, HST.out,
                  ⟨(World.cell?_setCell_other _ _ _ _ (fun e => by have h1 := congrArg Addr.block e; simp only at h1; have := HG.out; omega)).trans HGC.out.1, by simp; exact HGC.out.2⟩,
                  bset HB5.out (p := ⟨g, i, none⟩) (by show w.heap.size ≤ g; have := HG.out; have := HBW.out; omega) _⟩
              case measure => simp [intOf]; omega
            · have hqe : q = k := by omega
              have HX5 := Lib.hid (show BgI J D m (i + 1) 0 X1 from BgI.job HJ.out HI.out (by have h := HX4.out; rwa [hqe, HK.out] at h))
              go_wp2_with fail
              go_roundw
              case rel => exact ⟨i + 1, X1, by omega, by go_num, HR4.out, HX5.out, HGB.out, HB4.out⟩
              case measure => simp [intOf]; omega
        · have hie : i = n := by omega
          have HX5 := Lib.hid (show BgI J D (m + 1) 0 0 X from BgI.round (by have h := HX3.out; rwa [hie, HN.out] at h))
          go_wp2_with fail
          go_roundw
          case rel => exact ⟨m + 1, X, by omega, by go_num, HR3.out, HX5.out, ⟨gb, zb⟩, HB3.out⟩
          case measure => simp [intOf]; omega
    · have hme : m = n := by omega
      have HXE := Lib.hid (HFIN.out X (by have h := HX2.out; rwa [hme] at h))
      go_wp2_with fail
      go_ret
      refine ⟨_, rfl, ?_, HB2.out⟩
      rw [← HXE.out]
      exact own_mono HR2.out (by have := HG.out; have := HBW.out; omega)
end Go.Proofs.YteknehlkdgamjaaGreat

namespace Go.Proofs.YteknehlkdgamjaaGreat
open Go.RowKit Go.Shelf

set_option maxRecDepth 100000 in
set_option maxHeartbeats 1600000 in
theorem rtakes_any (v y : Value) (J : List Job) (D : Nat → Int) (w : World) (hx0 : RdJ w v J) (hJ : FineJ J) (hc : cir J = false) (hy0 : RdI w .i64 y (fnL D J.length)) (hD : ∀ i, i < J.length → 0 ≤ D i ∧ D i ≤ 1000) :
    Calls Tryz.prog 29 #[.agg #[v], y] w fun e w' => e = .returned (.int .i64 (takes J D)) ∧ Below w.heap.size w w' := by
  have HBG := Lib.hid (fun wz (h : Below w.heap.size w wz) => rbegins_any v y J D wz (hx0.mono h) hJ hc (hy0.mono h) hD)
  have HY := Lib.hid hy0
  have HDB := Lib.hid hD
  have HBB := Lib.hid (fun i (hi : i < J.length) => beg_bd hJ (fun i hi => (hD i hi).2) hi)
  have HTB := Lib.hid (fun i (hi : i ≤ J.length) => takTo_bd hJ (fun i hi => (hD i hi).2) hi)
  have HTA := Lib.hid (takTo_all J D)
  have h12 := hJ.n12
  obtain ⟨a, c, rfl⟩ := hx0.sl
  obtain ⟨ay, cy, rfl, _⟩ := hy0.form
  rw [fnL_len] at HBG HY ⊢
  clear hx0 hJ hc hy0 hD
  have HB0 := Lib.hid (bal (bz w) (.cells #[.slice a J.length c] 24))
  obtain ⟨n, hn⟩ : ∃ n, n = J.length := ⟨_, rfl⟩
  have HN := Lib.hid hn
  rw [← hn] at h12 HTA HDB HBB HTB HB0 HBG HY ⊢
  clear hn
  go_enter Tryz.func29, Tryz.ntmps29
  go_wp2_with fail
  refine (HBG.out _ HB0.out).mono ?_
  rintro e w2 ⟨v2, rfl, hr, hB⟩
  obtain ⟨av, cv, rfl⟩ := owns_form hr
  have HB2 := Lib.hid (btr HB0.out hB)
  have HR := Lib.hid hr.rd
  rw [fnL_len] at HR
  rw [fnL_len]
  clear hr hB HBG
  have HTS := Lib.hid (fun i => show takTo J D (i + 1) = max (takTo J D i) (beg J D i + D i) from rfl)
  have HT0 := Lib.hid (show takTo J D 0 = 0 from rfl)
  have HTN := Lib.hid (takTo_nn J D)
  have HBN := Lib.hid (beg_nn J D)
  go_wp2_with fail
  go_loopw [6, 7] (fun s6 s7 wr => ∃ i : Nat, i ≤ n ∧ s7 = .int .i64 i ∧ s6 = .int .i64 (takTo J D i) ∧ Below w2.heap.size w2 wr) (fun _ s7 _ => n - (intOf s7).toNat)
  case atStart => exact ⟨0, Nat.zero_le _, rfl, by rw [HT0.out], bz w2⟩
  case round =>
    obtain ⟨i, hi, rfl, rfl, hB⟩ := hrel
    have HB3 := Lib.hid hB
    by_cases hlt : i < n
    · obtain ⟨b, o, e, hb, hcb⟩ := (HR.out.mono hB).get (by rw [fnL_len]; omega)
      subst e
      have g := hcb i (by rw [fnL_len]; omega)
      rw [fnL_at _ hlt] at g
      obtain ⟨yb, yo, e, hyb, hcy⟩ := (HY.out.mono (btr HB2.out hB)).get (by rw [fnL_len]; omega)
      subst e
      have gy := hcy i (by rw [fnL_len]; omega)
      rw [fnL_at _ hlt] at gy
      have HS := Lib.hid (HTS.out i)
      have t1 := HTN.out i
      have t2 := HTB.out i hi
      have b1 := HBN.out i
      have b2 := HBB.out i hlt
      have d1 := (HDB.out i hlt).1
      have d2 := (HDB.out i hlt).2
      clear hcb hcy hB
      generalize takTo J D i = x at *
      generalize beg J D i = y at *
      generalize D i = z at *
      have hwr : IntKind.i64.wrap (y + z) = y + z := IntWalk.i64_in _ (by omega)
      go_upto_region 6 with fail
      refine wp_region_flow [] [] [0, 1, 2, 3, 4, 5, 6, 7, 8, 9, 10, 11] (by kernel_rfl) (by kernel_rfl) ?_
      intro wc hBc hh
      clear hh
      have HBC := Lib.hid (btr HB3.out hBc)
      have k1 := (hBc.cell (p := ⟨b, o + i, none⟩) hb).trans g
      have k2 := (hBc.cell (p := ⟨yb, yo + i, none⟩) hyb).trans gy
      have z1 := Nat.lt_of_lt_of_le hb hBc.size
      have z2 := Nat.lt_of_lt_of_le hyb hBc.size
      have hL := @Later.cell wc
      clear hBc g gy hb hyb
      simp only [flowP, flow, pickL, List.getElem?_cons_succ, List.getElem?_cons_zero]
      refine wpQuiet_nil ?_
      repeat (go_big_quiet_step (fail))
      refine wpQuiet_nil ?_
      refine only_done ?_
      clear hL k1 k2 z1 z2
      go_wp2_with fail
      go_roundw
      case rel => exact ⟨i + 1, by omega, by go_num, by rw [HS.out], HBC.out⟩
      case measure => simp [intOf]; omega
    · have hin : i = n := by omega
      rw [hin, HTA.out]
      clear hB hin
      go_wp2_with fail
      go_ret
      exact ⟨rfl, btr HB2.out HB3.out⟩
end Go.Proofs.YteknehlkdgamjaaGreat

namespace Go.Proofs.YteknehlkdgamjaaGreat
open Go.RowKit Go.Shelf

set_option maxRecDepth 100000 in
set_option maxHeartbeats 800000 in
theorem rsum_any (x y : Value) (l : List Int) (n : Nat) (D : Nat → Int) (w : World) (hx0 : RdI w .i64 x l) (hl : l.length ≤ 1000) (hv : ∀ i, i < l.length → 0 ≤ elt l i ∧ elt l i < n) (hy0 : RdI w .i64 y (fnL D n)) (hD : ∀ i, i < n → 0 ≤ D i ∧ D i ≤ 1000) :
    Calls Tryz.prog 28 #[x, y] w fun e w' => e = .returned (.int .i64 (sumTo D l l.length)) ∧ w' = w := by
  have HX := Lib.hid hx0; have HY := Lib.hid hy0; have HV := Lib.hid hv
  have HSB := Lib.hid (fun k (hk : k ≤ l.length) => sumTo_bd hD hv (k := k) hk)
  have HS := Lib.hid (fun k => show sumTo D l (k + 1) = sumTo D l k + D (elt l k).toNat from rfl)
  have HS0 := Lib.hid (show sumTo D l 0 = 0 from rfl)
  have HDB := Lib.hid hD
  obtain ⟨a, c, rfl, _⟩ := hx0.form
  obtain ⟨ay, cy, rfl, _⟩ := hy0.form
  rw [fnL_len] at HY ⊢
  clear hx0 hy0 hv hD
  go_enter Tryz.func28, Tryz.ntmps28
  go_wp2_with fail
  go_loopw [5, 6] (fun s5 s6 wr => ∃ k : Nat, k ≤ l.length ∧ s6 = .int .i64 k ∧ s5 = .int .i64 (sumTo D l k) ∧ wr = w) (fun _ s6 _ => l.length - (intOf s6).toNat)
  case atStart => exact ⟨0, Nat.zero_le _, rfl, by rw [HS0.out], rfl⟩
  case round =>
    obtain ⟨k, hk, rfl, rfl, hw⟩ := hrel
    subst hw
    by_cases hlt : k < l.length
    · obtain ⟨b, o, e, hb, hc⟩ := HX.out.get (by omega)
      subst e
      have gx := hc k hlt
      obtain ⟨v1, v2⟩ := HV.out k hlt
      obtain ⟨p, hp⟩ := Int.eq_ofNat_of_zero_le v1
      have hpn : p < n := by omega
      obtain ⟨yb, yo, e, hyb, hcy⟩ := HY.out.get (by rw [fnL_len]; omega)
      subst e
      have gy := hcy p (by rw [fnL_len]; exact hpn)
      rw [fnL_at _ hpn] at gy
      have HST := Lib.hid (HS.out k)
      have s1 := HSB.out k hk
      have d1 := HDB.out p hpn
      rw [hp, Int.toNat_natCast] at HST
      rw [hp] at gx
      clear hc hcy v1 v2 hp
      generalize sumTo D l k = sq at *
      generalize D p = dp at *
      have hwr : IntKind.i64.wrap (sq + dp) = sq + dp := IntWalk.i64_in _ (by omega)
      go_wp2_with fail
      go_roundw
      case rel => exact ⟨k + 1, by omega, by go_num, by rw [HST.out], trivial⟩
      case measure => simp [intOf]; omega
    · have hke : k = l.length := by omega
      subst hke
      go_wp2_with fail
      go_ret
      exact ⟨rfl, rfl⟩
end Go.Proofs.YteknehlkdgamjaaGreat

namespace Go.Proofs.YteknehlkdgamjaaGreat
open Go.RowKit Go.Shelf

theorem results_cell1 {P : Program} {fn : Func} {p : Tmp} {ty : TypeId} {tmps : Array Value} {w : World} {g : Nat} {v : Value} (h : fn.results = #[.cell p ty]) (hp : tmps.getD p undef = .pointer (some ⟨g, 0, none⟩))
    (hl : (loadVar ty ⟨g, 0, none⟩).run P w = .ok v w) : (results fn tmps).run P w = .ok v w := by
  have hp' : tmps[p]?.getD undef = .pointer (some ⟨g, 0, none⟩) := by simpa using hp
  simp [results, h, hp', hl, asAddr]
set_option maxRecDepth 100000 in
set_option maxHeartbeats 3200000 in
theorem rlengthof_any (v : Value) (J : List Job) (w : World) (hx0 : RdJ w v J) (hJ : FineJ J) (hc : cir J = false) :
    Calls Tryz.prog 38 #[.agg #[v]] w fun e w' => e = .returned (.agg #[.int .i64 (takes J (loD J)), .int .i64 (takes J (hiD J))]) ∧ Below w.heap.size w w' := by
  have HDY := Lib.hid (fun high wz (h : Below w.heap.size w wz) => rdays_any v J high wz (hx0.mono h) (by have := hJ.n12; omega))
  have HTK := Lib.hid (fun high y wz (h : Below w.heap.size w wz) (hy : RdI wz .i64 y (fnL (dayD J high) J.length)) => rtakes_any v y J (dayD J high) wz (hx0.mono h) hJ hc hy (fun i hi => dayD_bd hJ high hi))
  obtain ⟨a, c, rfl⟩ := hx0.sl
  clear hx0 hJ hc
  obtain ⟨x1, hx1⟩ : ∃ x, x = takes J (loD J) := ⟨_, rfl⟩
  obtain ⟨x2, hx2⟩ : ∃ x, x = takes J (hiD J) := ⟨_, rfl⟩
  have HX1 := Lib.hid (show takes J (dayD J false) = x1 from hx1.symm)
  have HX2 := Lib.hid (show takes J (dayD J true) = x2 from hx2.symm)
  rw [← hx1, ← hx2]
  clear hx1 hx2
  go_enter Tryz.func38, Tryz.ntmps38
  go_upto_region 1 with fail
  have gq : ((w.alloc (.cells #[.slice a J.length c] 24)).alloc (.cells #[.int .i64 0, .int .i64 0] 32)).cell? ⟨w.heap.size, 0, none⟩ = some (.slice a J.length c) := cal _ (cnew rfl rfl)
  have HR1 := Lib.hid (show ((w.alloc (.cells #[.slice a J.length c] 24)).alloc (.cells #[.int .i64 0, .int .i64 0] 32)).heap[w.heap.size + 1]? = some (.cells #[.int .i64 0, .int .i64 0] 32 (0, 0)) from by
    have := heap_alloc_new (w.alloc (.cells #[.slice a J.length c] 24)) (.cells #[.int .i64 0, .int .i64 0] 32)
    rwa [World.size_alloc] at this)
  have HB1 := Lib.hid (bal (bal (bz w) (.cells #[.slice a J.length c] 24)) (.cells #[.int .i64 0, .int .i64 0] 32))
  have zq : w.heap.size < ((w.alloc (.cells #[.slice a J.length c] 24)).alloc (.cells #[.int .i64 0, .int .i64 0] 32)).heap.size := by simp; omega
  generalize (w.alloc (.cells #[.slice a J.length c] 24)).alloc (.cells #[.int .i64 0, .int .i64 0] 32) = w1 at *
  refine wp_region_flow [] [([0, 1, 4, 5], 2, true), ([], 3, true), ([], 6, true), ([], 7, true), ([8], 9, false)] [] (by kernel_rfl) (by kernel_rfl) ?_
  intro wc hBc hh
  clear hh
  have HBC := Lib.hid (btr HB1.out hBc)
  have HRC := Lib.hid ((hBc.block (w.heap.size + 1) (Array.getElem?_eq_some_iff.1 HR1.out).1).trans HR1.out)
  have k1 := (hBc.cell (p := ⟨w.heap.size, 0, none⟩) zq).trans gq
  have z1 := Nat.lt_of_lt_of_le zq hBc.size
  have hL := @Later.cell wc
  clear hBc gq zq
  simp only [flowP, flow, pickL, List.getElem?_cons_succ, List.getElem?_cons_zero]
  refine wpQuiet_nil ?_
  repeat (go_big_quiet_step (fail))
  refine wpQuiet_nil ?_
  go_wp2_with fail
  refine (HDY.out false _ HBC.out).mono ?_
  rintro e w2 ⟨u1, rfl, hr1, hB2⟩
  have HBD := Lib.hid hB2
  have HR2 := Lib.hid hr1.rd
  clear hB2 hr1
  go_wp2
  refine seg_grow ⟨⟨_, HBD.out⟩, rfl⟩ ?_
  refine wpQuiet_nil ?_
  go_wp2_with fail
  refine (HTK.out false u1 _ (btr HBC.out HBD.out) HR2.out).mono ?_
  rw [HX1.out]
  rintro e w3 ⟨rfl, hB3⟩
  have HBE := Lib.hid (btr HBD.out hB3)
  clear hB3
  go_wp2
  refine seg_grow ⟨⟨_, HBE.out⟩, rfl⟩ ?_
  refine wpQuiet_nil ?_
  clear hL k1 z1
  go_wp2_with fail
  refine (HDY.out true _ (btr HBC.out HBE.out)).mono ?_
  rintro e w4 ⟨u2, rfl, hr2, hB4⟩
  have HBF := Lib.hid (btr HBE.out hB4)
  have HR4 := Lib.hid hr2.rd
  clear hB4 hr2
  go_wp2
  refine seg_grow ⟨⟨_, HBF.out⟩, rfl⟩ ?_
  refine wpQuiet_nil ?_
  go_wp2_with fail
  refine (HTK.out true u2 _ (btr HBC.out HBF.out) HR4.out).mono ?_
  rw [HX2.out]
  rintro e w5 ⟨rfl, hB5⟩
  have HBG := Lib.hid (btr HBF.out hB5)
  clear hB5
  go_wp2
  refine seg_grow ⟨⟨_, HBG.out⟩, rfl⟩ ?_
  have hz5 := (HBG.out.block (w.heap.size + 1) (Array.getElem?_eq_some_iff.1 HRC.out).1).trans HRC.out
  obtain ⟨c0, c1, f0, f1⟩ := pair_cells hz5
  have hz6 := (Array.getElem?_eq_some_iff.1 hz5).1
  have HZ5 := Lib.hid hz5
  clear hz5
  repeat (go_big_quiet_step (fail))
  refine wpQuiet_nil ?_
  go_wp2
  refine seg_write ?_
  refine wpQuiet_nil ?_
  refine only_done ?_
  go_wp2_with fail
  exact bodyPost_ret (results_cell1 rfl rfl (load_range (pair_set HZ5.out _ _))) rfl ⟨rfl, pair_below (btr HBC.out HBG.out) (by omega) _ _⟩
end Go.Proofs.YteknehlkdgamjaaGreat

namespace Go.Proofs.YteknehlkdgamjaaGreat
open Go.RowKit Go.Shelf

def staTo (J : List Job) (k : Nat) : List (Int × Int) := (List.range k).map fun i => (beg J (loD J) i, beg J (hiD J) i)
theorem staTo_succ (J : List Job) (k : Nat) : staTo J (k + 1) = staTo J k ++ [(beg J (loD J) k, beg J (hiD J) k)] := by simp [staTo, List.range_succ]
theorem staTo_len (J : List Job) (k : Nat) : (staTo J k).length = k := by simp [staTo]
set_option maxRecDepth 100000 in
set_option maxHeartbeats 3200000 in
theorem rstartsof_any (v : Value) (J : List Job) (w : World) (hx0 : RdJ w v J) (hJ : FineJ J) (hc : cir J = false) :
    Calls Tryz.prog 62 #[.agg #[v]] w fun e w' => ∃ u, e = .returned u ∧ RdP w' u (staP J) ∧ Below w.heap.size w w' := by
  have HDY := Lib.hid (fun high wz (h : Below w.heap.size w wz) => rdays_any v J high wz (hx0.mono h) (by have := hJ.n12; omega))
  have HTK := Lib.hid (fun high y wz (h : Below w.heap.size w wz) (hy : RdI wz .i64 y (fnL (dayD J high) J.length)) => rbegins_any v y J (dayD J high) wz (hx0.mono h) hJ hc hy (fun i hi => dayD_bd hJ high hi))
  have h12 := hJ.n12
  have HE := Lib.hid (show staTo J J.length = staP J from rfl)
  have HS := Lib.hid (staTo_succ J)
  have HSL := Lib.hid (staTo_len J)
  have HS0 := Lib.hid (show staTo J 0 = [] from rfl)
  obtain ⟨a, c, rfl⟩ := hx0.sl
  clear hx0 hJ hc
  obtain ⟨n, hn⟩ : ∃ n, n = J.length := ⟨_, rfl⟩
  have HN := Lib.hid hn
  have HX1 := Lib.hid (show dayD J false = loD J from rfl)
  have HX2 := Lib.hid (show dayD J true = hiD J from rfl)
  rw [← hn] at HDY HTK h12 HE ⊢
  clear hn
  go_enter Tryz.func62, Tryz.ntmps62
  go_upto_region 1 with fail
  have gq : (w.alloc (.cells #[.slice a n c] 24)).cell? ⟨w.heap.size, 0, none⟩ = some (.slice a n c) := cnew rfl rfl
  have HB1 := Lib.hid (bal (bz w) (.cells #[.slice a n c] 24))
  have zq : w.heap.size < (w.alloc (.cells #[.slice a n c] 24)).heap.size := by simp
  generalize w.alloc (.cells #[.slice a n c] 24) = w1 at *
  refine wp_region_flow [] [([0, 1, 4, 5], 2, true), ([], 3, true), ([], 6, true), ([], 7, true)] [8, 9] (by kernel_rfl) (by kernel_rfl) ?_
  intro wc hBc hh
  clear hh
  have HBC := Lib.hid (btr HB1.out hBc)
  have k1 := (hBc.cell (p := ⟨w.heap.size, 0, none⟩) zq).trans gq
  have z1 := Nat.lt_of_lt_of_le zq hBc.size
  have hL := @Later.cell wc
  clear hBc gq zq
  simp only [flowP, flow, pickL, List.getElem?_cons_succ, List.getElem?_cons_zero]
  refine wpQuiet_nil ?_
  repeat (go_big_quiet_step (fail))
  refine wpQuiet_nil ?_
  go_wp2_with fail
  refine (HDY.out false _ HBC.out).mono ?_
  rintro e w2 ⟨u1, rfl, hr1, hB2⟩
  have HBD := Lib.hid hB2
  have HR2 := Lib.hid hr1.rd
  clear hB2 hr1
  go_wp2
  refine seg_grow ⟨⟨_, HBD.out⟩, rfl⟩ ?_
  refine wpQuiet_nil ?_
  go_wp2_with fail
  refine (HTK.out false u1 _ (btr HBC.out HBD.out) HR2.out).mono ?_
  rw [HX1.out]
  rintro e w3 ⟨v3, rfl, hr3, hB3⟩
  have HBE := Lib.hid (btr HBD.out hB3)
  obtain ⟨a3, c3, e3⟩ := owns_form hr3
  rw [fnL_len] at e3
  subst e3
  have HR3 := Lib.hid hr3.rd
  clear hB3 hr3
  go_wp2
  refine seg_grow ⟨⟨_, HBE.out⟩, rfl⟩ ?_
  refine wpQuiet_nil ?_
  clear hL k1 z1
  go_wp2_with fail
  refine (HDY.out true _ (btr HBC.out HBE.out)).mono ?_
  rintro e w4 ⟨u2, rfl, hr2, hB4⟩
  have HBF := Lib.hid (btr HBE.out hB4)
  have HR3' := Lib.hid (HR3.out.mono hB4)
  have HR4 := Lib.hid hr2.rd
  clear hB4 hr2 HR3
  go_wp2
  refine seg_grow ⟨⟨_, HBF.out⟩, rfl⟩ ?_
  refine wpQuiet_nil ?_
  go_wp2_with fail
  refine (HTK.out true u2 _ (btr HBC.out HBF.out) HR4.out).mono ?_
  rw [HX2.out]
  rintro e w5 ⟨v5, rfl, hr5, hB5⟩
  have HBG := Lib.hid (btr HBF.out hB5)
  obtain ⟨a5, c5, e5⟩ := owns_form hr5
  rw [fnL_len] at e5
  subst e5
  have HR5 := Lib.hid hr5.rd
  have HR3 := Lib.hid (HR3'.out.mono hB5)
  clear hB5 hr5 HR3' HR4 HR2
  go_wp2
  refine seg_grow ⟨⟨_, HBG.out⟩, rfl⟩ ?_
  repeat (go_big_quiet_step (fail))
  refine wpQuiet_nil ?_
  refine only_done ?_
  have HB5 := Lib.hid (btr HBC.out HBG.out)
  clear HBC HBD HBE HBF HBG HB1 HDY HTK HX1 HX2
  go_wp2_with fail
  go_loopw [5, 6] (fun s5 s6 wr => ∃ k : Nat, k ≤ n ∧ s6 = .int .i64 k ∧ wr.ownsRow w5.heap.size 32 2 s5 (staTo J k).length (prs (staTo J k)) ∧ Below w5.heap.size w5 wr) (fun _ s6 _ => n - (intOf s6).toNat)
  case atStart => exact ⟨0, Nat.zero_le _, rfl, by rw [HS0.out]; exact World.ownsRow_nil _ _ _ _, bz w5⟩
  case round =>
    obtain ⟨k, hk, rfl, ho, hB⟩ := hrel
    have HO := Lib.hid ho; have HB := Lib.hid hB
    clear ho hB
    by_cases hlt : k < n
    · obtain ⟨b1, o1, e, hb1, hc1⟩ := (HR3.out.mono HB.out).get (by rw [fnL_len]; omega)
      cases e
      obtain ⟨b2, o2, e, hb2, hc2⟩ := (HR5.out.mono HB.out).get (by rw [fnL_len]; omega)
      cases e
      have g1 := hc1 k (by rw [fnL_len]; exact hlt)
      have g2 := hc2 k (by rw [fnL_len]; exact hlt)
      rw [fnL_at _ hlt] at g1 g2
      have HSK := Lib.hid (HS.out k)
      have hsl := HSL.out k
      clear hc1 hc2
      generalize beg J (loD J) k = x at *
      generalize beg J (hiD J) k = y at *
      generalize staTo J k = V at *
      go_upto_region 6 with fail
      refine wp_region_flow [] [([0, 1, 2, 3, 4, 5, 6, 7, 8, 9], 10, true), ([], 11, false), ([], 12, false)] [] (by kernel_rfl) (by kernel_rfl) ?_
      intro wc hBc hh
      clear hh
      have hL := @Later.cell wc
      have k1 := (hBc.cell (p := ⟨b1, _, none⟩) hb1).trans g1
      have k2 := (hBc.cell (p := ⟨b2, _, none⟩) hb2).trans g2
      have z1 := Nat.lt_of_lt_of_le hb1 hBc.size
      have z2 := Nat.lt_of_lt_of_le hb2 hBc.size
      have HOC := Lib.hid (show wc.ownsRow w5.heap.size 32 2 _ V.length (prs V) from owns_kept HO.out hBc)
      have HBC := Lib.hid (btr HB.out hBc)
      clear hBc g1 g2 hb1 hb2
      simp only [flowP, flow, pickL, List.getElem?_cons_succ, List.getElem?_cons_zero]
      refine wpQuiet_nil ?_
      repeat (go_big_quiet_step (fail))
      refine wpQuiet_nil ?_
      go_wp2
      refine seg_grow ⟨⟨_, bal (bz _) _⟩, rfl⟩ ?_
      refine wpQuiet_nil ?_
      clear hL k1 k2 z1 z2
      refine wpList_append_pair rfl _ _ rfl Tryz.underlying27 infoR HOC.out HBC.out.size x y rfl rfl rfl (by omega) ?_
      intro v' w' hown hgrow
      have HBN := Lib.hid (append_below (bal HBC.out _) (World.ownsRow.alloc HOC.out _) hgrow (Nat.le_refl _))
      have HOWN := Lib.hid hown
      clear hown hgrow
      go_wp2
      refine seg_write ?_
      refine wpQuiet_nil ?_
      go_wp2
      refine seg_write ?_
      refine wpQuiet_nil ?_
      refine only_done ?_
      go_wp2_with fail
      go_roundw
      case rel => exact ⟨k + 1, by omega, by go_num, by rw [HSK.out]; exact HOWN.out, HBN.out⟩
      case measure => simp [intOf]; omega
    · have hkn : k = n := by omega
      subst hkn
      go_wp2_with fail
      go_ret
      exact ⟨_, rfl, by rw [← HE.out]; exact RdP.of_owns HO.out, btr HB5.out HB.out⟩
end Go.Proofs.YteknehlkdgamjaaGreat

namespace Go.Proofs.YteknehlkdgamjaaGreat
open Go.RowKit Go.Shelf

set_option maxRecDepth 100000 in
set_option maxHeartbeats 1600000 in
theorem rstarts_any (v : Value) (J : List Job) (w : World) (hx0 : RdJ w v J) (hs : SmJ J) :
    Calls Tryz.prog 16 #[.agg #[v]] w (RetR w (staL J) (errC J)) := by
  have HER := Lib.hid (fun wz (h : Below w.heap.size w wz) => error_any v J wz (hx0.mono h) hs)
  have HST := Lib.hid (fun wz (h : Below w.heap.size w wz) (hq : errC J = 0) => rstartsof_any v J wz (hx0.mono h) (fine_err hq).1 (fine_err hq).2)
  obtain ⟨a, c, rfl⟩ := hx0.sl
  clear hx0 hs
  have HB0 := Lib.hid (bal (bz w) (.cells #[.slice a J.length c] 24))
  have gq : (w.alloc (.cells #[.slice a J.length c] 24)).cell? ⟨w.heap.size, 0, none⟩ = some (.slice a J.length c) := cnew rfl rfl
  have zq : w.heap.size < (w.alloc (.cells #[.slice a J.length c] 24)).heap.size := by simp
  have HL := Lib.hid (show staL J = if errC J = 0 then staP J else [] from rfl)
  unfold RetR
  generalize staL J = R at *
  generalize staP J = P at *
  generalize errC J = q at *
  generalize J.length = n at *
  go_enter Tryz.func16, Tryz.ntmps16
  go_wp2_with fail
  generalize w.alloc (.cells #[.slice a n c] 24) = w1 at *
  refine (HER.out _ HB0.out).mono ?_
  rintro e w2 ⟨rfl, hB⟩
  have HB2 := Lib.hid (btr HB0.out hB)
  have g2 := (hB.cell (p := ⟨w.heap.size, 0, none⟩) zq).trans gq
  have z2 := Nat.lt_of_lt_of_le zq hB.size
  clear hB gq zq
  by_cases hq : q = 0
  · have HLE := HL.out
    rw [if_pos hq] at HLE
    have HLE := Lib.hid HLE
    have HS2 := Lib.hid (fun wz h => HST.out wz h hq)
    clear HL HST
    subst hq
    go_wp2_with fail
    refine (HS2.out _ HB2.out).mono ?_
    rintro e w3 ⟨u, rfl, hr, hB⟩
    have HR := Lib.hid hr
    have HB3 := Lib.hid (btr HB2.out hB)
    clear hr hB
    go_wp2_with fail
    go_ret2
    exact ⟨⟨_, rfl, by rw [HLE.out]; exact HR.out⟩, HB3.out⟩
  · have t1 : (q != 0) = true := by simp [hq]
    have HLE := HL.out
    rw [if_neg hq] at HLE
    have HLE := Lib.hid HLE
    clear HL HST hq
    go_wp2_with fail
    refine (HER.out _ HB2.out).mono ?_
    rintro e w3 ⟨rfl, hB⟩
    have HB3 := Lib.hid (btr HB2.out hB)
    clear hB
    go_wp2_with fail
    go_ret2
    exact ⟨⟨_, rfl, by rw [HLE.out]; exact rdP_nil _⟩, HB3.out⟩
set_option maxRecDepth 100000 in
set_option maxHeartbeats 1600000 in
theorem rlength_any (v : Value) (J : List Job) (w : World) (hx0 : RdJ w v J) (hs : SmJ J) :
    Calls Tryz.prog 18 #[.agg #[v]] w fun e w' => e = .returned (.tuple #[.agg #[.int .i64 (lenR J).1, .int .i64 (lenR J).2], .int .i64 (errC J)]) ∧ Below w.heap.size w w' := by
  have HER := Lib.hid (fun wz (h : Below w.heap.size w wz) => error_any v J wz (hx0.mono h) hs)
  have HST := Lib.hid (fun wz (h : Below w.heap.size w wz) (hq : errC J = 0) => rlengthof_any v J wz (hx0.mono h) (fine_err hq).1 (fine_err hq).2)
  obtain ⟨a, c, rfl⟩ := hx0.sl
  clear hx0 hs
  have HL := Lib.hid (show lenR J = if errC J = 0 then (takes J (loD J), takes J (hiD J)) else (0, 0) from rfl)
  obtain ⟨x1, hx1⟩ : ∃ x, x = takes J (loD J) := ⟨_, rfl⟩
  obtain ⟨x2, hx2⟩ : ∃ x, x = takes J (hiD J) := ⟨_, rfl⟩
  rw [← hx1, ← hx2] at HST HL
  clear hx1 hx2
  generalize lenR J = R at *
  generalize errC J = q at *
  generalize J.length = n at *
  go_enter Tryz.func18, Tryz.ntmps18
  go_upto_region 1 with fail
  have gq : ((w.alloc (.cells #[.slice a n c] 24)).alloc (.cells #[.int .i64 0, .int .i64 0] 32)).cell? ⟨w.heap.size, 0, none⟩ = some (.slice a n c) := cal _ (cnew rfl rfl)
  have hr1 : ((w.alloc (.cells #[.slice a n c] 24)).alloc (.cells #[.int .i64 0, .int .i64 0] 32)).heap[w.heap.size + 1]? = some (.cells #[.int .i64 0, .int .i64 0] 32 (0, 0)) := by
    have := heap_alloc_new (w.alloc (.cells #[.slice a n c] 24)) (.cells #[.int .i64 0, .int .i64 0] 32)
    rwa [World.size_alloc] at this
  have HR1 := Lib.hid hr1
  clear hr1
  have HB1 := Lib.hid (bal (bal (bz w) (.cells #[.slice a n c] 24)) (.cells #[.int .i64 0, .int .i64 0] 32))
  have zq : w.heap.size < ((w.alloc (.cells #[.slice a n c] 24)).alloc (.cells #[.int .i64 0, .int .i64 0] 32)).heap.size := by simp; omega
  generalize (w.alloc (.cells #[.slice a n c] 24)).alloc (.cells #[.int .i64 0, .int .i64 0] 32) = w1 at *
  go_wp2_with fail
  refine (HER.out _ HB1.out).mono ?_
  rintro e w2 ⟨rfl, hB⟩
  have HB2 := Lib.hid (btr HB1.out hB)
  have g2 := (hB.cell (p := ⟨w.heap.size, 0, none⟩) zq).trans gq
  have z2 := Nat.lt_of_lt_of_le zq hB.size
  have HR2 := Lib.hid ((hB.block (w.heap.size + 1) (Array.getElem?_eq_some_iff.1 HR1.out).1).trans HR1.out)
  clear hB gq zq HR1
  by_cases hq : q = 0
  · have HLE := HL.out
    rw [if_pos hq] at HLE
    have HLE := Lib.hid HLE
    have HS2 := Lib.hid (fun wz h => HST.out wz h hq)
    clear HL HST
    subst hq
    go_wp2_with fail
    refine (HS2.out _ HB2.out).mono ?_
    rintro e w3 ⟨rfl, hB⟩
    have HB3 := Lib.hid (btr HB2.out hB)
    have hz5 := (hB.block (w.heap.size + 1) (Array.getElem?_eq_some_iff.1 HR2.out).1).trans HR2.out
    obtain ⟨c0, c1, f0, f1⟩ := pair_cells hz5
    have hz6 := (Array.getElem?_eq_some_iff.1 hz5).1
    have HZ5 := Lib.hid hz5
    clear hB hz5
    go_wp2_with fail
    exact bodyPost_ret (results_cell_tmp rfl rfl rfl (load_range (pair_set HZ5.out _ _))) rfl ⟨by rw [HLE.out] <;> rfl, pair_below HB3.out (by omega) _ _⟩
  · have t1 : (q != 0) = true := by simp [hq]
    have HLE := HL.out
    rw [if_neg hq] at HLE
    have HLE := Lib.hid HLE
    clear HL HST hq
    go_wp2_with fail
    refine (HER.out _ HB2.out).mono ?_
    rintro e w3 ⟨rfl, hB⟩
    have HB3 := Lib.hid (btr HB2.out hB)
    have hz5 := (hB.block (w.heap.size + 1) (Array.getElem?_eq_some_iff.1 HR2.out).1).trans HR2.out
    obtain ⟨c0, c1, f0, f1⟩ := pair_cells hz5
    have hz6 := (Array.getElem?_eq_some_iff.1 hz5).1
    have HZ5 := Lib.hid hz5
    clear hB hz5
    go_wp2_with fail
    exact bodyPost_ret (results_cell_tmp rfl rfl rfl (load_range (pair_set HZ5.out _ _))) rfl ⟨by rw [HLE.out] <;> rfl, pair_below HB3.out (by omega) _ _⟩
end Go.Proofs.YteknehlkdgamjaaGreat

namespace Go.Proofs.YteknehlkdgamjaaGreat
open Go.RowKit Go.Shelf

theorem structW : Tryz.prog.underlying 24 = some (.struct (Tryz.prog.fieldsOf 24)) := by kernel_rfl
theorem load_work {w : World} {g : Nat} {x : Value} (h : w.heap[g]? = some (.cells #[x] 24 (0, 0))) : (loadVar 24 ⟨g, 0, none⟩).run Tryz.prog w = .ok (.agg #[x]) w :=
  run_loadVar_row w g 24 24 #[x] (0, 0) _ h structW rfl (by kernel_rfl)
theorem one_cell {w : World} {g : Nat} {x : Value} {t : TypeId} (h : w.heap[g]? = some (.cells #[x] t (0, 0))) : w.cell? ⟨g, 0, none⟩ = some x ∧ w.frozen? ⟨g, 0, none⟩ = false ∧ g < w.heap.size :=
  ⟨by rw [cell_of_row _ _ _ _ _ _ h]; rfl, frozen_of_row _ _ _ _ _ h, (Array.getElem?_eq_some_iff.1 h).1⟩
theorem three_cells {w : World} {g : Nat} {x y z : Value} {t : TypeId} (h : w.heap[g]? = some (.cells #[x, y, z] t (0, 0))) : w.cell? ⟨g, 0, none⟩ = some x ∧ w.cell? ⟨g, 1, none⟩ = some y ∧ w.cell? ⟨g, 2, none⟩ = some z ∧ w.frozen? ⟨g, 2, none⟩ = false ∧ g < w.heap.size :=
  ⟨by rw [cell_of_row _ _ _ _ _ _ h]; rfl, by rw [cell_of_row _ _ _ _ _ _ h]; rfl, by rw [cell_of_row _ _ _ _ _ _ h]; rfl, frozen_of_row _ _ _ _ _ h, (Array.getElem?_eq_some_iff.1 h).1⟩
theorem fr_push {wv wI w' : World} {bv n size : Nat} {e : TypeId} {v : Value} {xs : List Value} (h : Fr wv wI (fun k => k = bv)) (hz : wv.heap.size = bv + 1) (ho : wI.ownsRow (bv + 1) e size v n xs) (o : Obj) (hg : (wI.alloc o).grownBy w' v.ownBlock) (p : Addr) (hp : p.block = bv) (u : Value) : Fr wv (w'.setCell p u) (fun k => k = bv) := by
  have h1 : Fr wv wI (fun k => k = bv ∨ bv < k) := h.mono fun _ _ h => .inl h
  have h2 : Fr wI (wI.alloc o) (fun k => k = bv ∨ bv < k) := Fr.of_below (bal (bz wI) o)
  have h3 : Fr (wI.alloc o) w' (fun k => k = bv ∨ bv < k) := Fr.grown hg fun j ej => .inr (by have := (ho.lt j ej).1; omega)
  have h4 : Fr w' (w'.setCell p u) (fun k => k = bv ∨ bv < k) := Fr.set (.inl hp) u
  exact (((h1.trans h2).trans h3).trans h4).mono fun j hj hb => by rcases hb with hb | hb <;> omega
def turnTo (J : List Job) (k : Nat) : List Job := (List.range k).map (turnA J)
theorem turnTo_succ (J : List Job) (k : Nat) : turnTo J (k + 1) = turnTo J k ++ [turnA J k] := by simp [turnTo, List.range_succ]
theorem turnTo_len (J : List Job) (k : Nat) : (turnTo J k).length = k := by simp [turnTo]
set_option maxRecDepth 100000 in
set_option maxHeartbeats 3200000 in
theorem rturned_any (v : Value) (J : List Job) (w : World) (hx0 : RdJ w v J) (hJ : FineJ J) :
    Calls Tryz.prog 41 #[.agg #[v]] w fun e w' => ∃ u, e = .returned (.agg #[u]) ∧ RdJ w' u (turnJ J) ∧ Below w.heap.size w w' := by
  have HX := Lib.hid hx0
  have h12 := hJ.n12
  have HT := Lib.hid (turnTo_succ J); have HTL := Lib.hid (turnTo_len J)
  have HT0 := Lib.hid (show turnTo J 0 = [] from rfl)
  have HTN := Lib.hid (show turnTo J J.length = turnJ J from rfl)
  have HNX := Lib.hid (nxtTo_succ J); have HN0 := Lib.hid (fun i => show nxtTo J i 0 = [] from rfl); have HNL := Lib.hid (nxtTo_le J)
  have HTA := Lib.hid (fun i => show turnA J i = ⟨(job J i).lo, (job J i).hi, ints (nxtTo J i J.length)⟩ from rfl)
  have HED := Lib.hid (fun b k (hk : k < J.length) => show edg J b k = (job J k).ws.contains (b : Int) from by unfold edg; rw [decide_eq_true hk, Bool.true_and])
  have HWL := Lib.hid (fun k (hk : k < J.length) => hJ.ws_le hk)
  obtain ⟨a, c, rfl⟩ := hx0.sl
  clear hx0 hJ
  obtain ⟨n, hn⟩ : ∃ n, n = J.length := ⟨_, rfl⟩
  have HN := Lib.hid hn
  rw [← hn] at HTN HTA HED h12 HWL ⊢
  clear hn
  have gq3 : (((w.alloc (.cells #[.slice a n c] 24)).alloc (.cells #[.slice none 0 0] 24)).alloc (.cells #[.slice none 0 0] 24)).cell? ⟨w.heap.size, 0, none⟩ = some (.slice a n c) := cal _ (cal _ (cnew rfl rfl))
  have hr3 : (((w.alloc (.cells #[.slice a n c] 24)).alloc (.cells #[.slice none 0 0] 24)).alloc (.cells #[.slice none 0 0] 24)).heap[w.heap.size + 1]? = some (.cells #[.slice none 0 0] 24 (0, 0)) := by
    have := heap_alloc_new (w.alloc (.cells #[.slice a n c] 24)) (.cells #[.slice none 0 0] 24)
    rw [World.size_alloc] at this
    rw [Below.heap_alloc _ _ _ (by simp)]
    exact this
  have ho3 : (((w.alloc (.cells #[.slice a n c] 24)).alloc (.cells #[.slice none 0 0] 24)).alloc (.cells #[.slice none 0 0] 24)).heap[w.heap.size + 2]? = some (.cells #[.slice none 0 0] 24 (0, 0)) := by
    have := heap_alloc_new ((w.alloc (.cells #[.slice a n c] 24)).alloc (.cells #[.slice none 0 0] 24)) (.cells #[.slice none 0 0] 24)
    rw [World.size_alloc, World.size_alloc] at this
    exact this
  have hB3 : Below w.heap.size w (((w.alloc (.cells #[.slice a n c] 24)).alloc (.cells #[.slice none 0 0] 24)).alloc (.cells #[.slice none 0 0] 24)) := bal (bal (bal (bz w) _) _) _
  have hz3 : (((w.alloc (.cells #[.slice a n c] 24)).alloc (.cells #[.slice none 0 0] 24)).alloc (.cells #[.slice none 0 0] 24)).heap.size = w.heap.size + 3 := by simp
  go_enter Tryz.func41, Tryz.ntmps41
  go_wp2_with fail
  generalize ((w.alloc (.cells #[.slice a n c] 24)).alloc (.cells #[.slice none 0 0] 24)).alloc (.cells #[.slice none 0 0] 24) = w3 at *
  obtain ⟨bq, hbq⟩ : ∃ b, w.heap.size = b := ⟨_, rfl⟩
  obtain ⟨br, hbr⟩ : ∃ b, w.heap.size + 1 = b := ⟨_, rfl⟩
  obtain ⟨bo, hbo⟩ : ∃ b, w.heap.size + 1 + 1 = b := ⟨_, rfl⟩
  have hbo2 : w.heap.size + 2 = bo := by omega
  rw [hbq] at gq3
  rw [hbr] at hr3
  rw [hbo2] at ho3
  rw [hbo, hbr, hbq]
  have HZ3 := Lib.hid (show w3.heap.size = bo + 1 by omega)
  have HQO := Lib.hid (show bq < bo ∧ br < bo ∧ br ≠ bq ∧ w.heap.size ≤ br by omega)
  have HB3 := Lib.hid hB3; have HGQ := Lib.hid gq3; have HGR := Lib.hid hr3; have HGO := Lib.hid ho3
  clear hbq hbr hbo hbo2 gq3 hr3 ho3 hB3 hz3
  go_loopw [4] (fun s4 wr => ∃ (i : Nat) (u : Value) (es : List Value), i ≤ n ∧ s4 = .int .i64 i ∧ wr.heap[bo]? = some (.cells #[u] 24 (0, 0)) ∧ JL wr (bo + 1) br u (turnTo J i) es ∧ Fr w3 wr (fun k => k = bo)) (fun s4 _ => n - (intOf s4).toNat)
  case atStart => exact ⟨0, _, [], Nat.zero_le _, rfl, HGO.out, by rw [HT0.out]; exact JL.nil _ _ _, Fr.refl _ _⟩
  case round =>
    clear HGO
    obtain ⟨i, u, es, hi, rfl, hgo, hjl, hF⟩ := hrel
    rename World => wO
    have HGO := Lib.hid hgo; have HJL := Lib.hid hjl; have HF := Lib.hid hF
    have HBO := Lib.hid (show Below w.heap.size w wO from hF.below HB3.out (fun k e => by subst e; have := HQO.out; omega))
    have gq := (World.cell?_of_block (a := ⟨bq, 0, none⟩) (hF.block bq (by have := HZ3.out; have := HQO.out; omega) (by have := HQO.out; omega))).trans HGQ.out
    have zq := World.block_lt_of_cell? _ _ gq
    have zo : bo < wO.heap.size := (one_cell hgo).2.2
    clear hgo hjl hF
    by_cases hin : i < n
    · obtain ⟨bj, oj, a', c', e, hbj0, g10, g20, g30, hrw⟩ := HX.out.get i (by have := HN.out; omega)
      subst e
      have g1 := (HBO.out.cell (p := ⟨bj, _, none⟩) hbj0).trans g10
      have g2 := (HBO.out.cell (p := ⟨bj, _, none⟩) hbj0).trans g20
      have zj := Nat.lt_of_lt_of_le hbj0 HBO.out.size
      have HTAI := Lib.hid (HTA.out i)
      clear hbj0 g10 g20 g30 hrw
      generalize (job J i).lo = lo at *
      generalize (job J i).hi = hh at *
      go_upto_region 7 with fail
      have HBV := Lib.hid (bal (bz wO) (.cells #[.int .i64 lo, .int .i64 hh, .slice none 0 0] 62))
      have hgv := heap_alloc_new wO (.cells #[.int .i64 lo, .int .i64 hh, .slice none 0 0] 62)
      have hzv : (wO.alloc (.cells #[.int .i64 lo, .int .i64 hh, .slice none 0 0] 62)).heap.size = wO.heap.size + 1 := by simp
      generalize wO.alloc (.cells #[.int .i64 lo, .int .i64 hh, .slice none 0 0] 62) = wv at *
      obtain ⟨bv, hbv⟩ : ∃ b, wO.heap.size = b := ⟨_, rfl⟩
      rw [hbv] at hgv hzv
      rw [hbv]
      have HGV := Lib.hid hgv; have HZV := Lib.hid hzv; have HBVE := Lib.hid hbv
      have gqv := (HBV.out.cell (p := ⟨bq, 0, none⟩) zq).trans gq
      have HGQV := Lib.hid gqv
      have HQV := Lib.hid (show bq < bv by rw [hbv] at zq; exact zq)
      clear hgv hzv g1 g2 zj gq zq gqv
      clear hbv
      clear zo
      go_loopw [6] (fun s6 wr => ∃ (q : Nat) (u : Value), q ≤ n ∧ s6 = .int .i64 q ∧ wr.heap[bv]? = some (.cells #[.int .i64 lo, .int .i64 hh, u] 62 (0, 0)) ∧ rowI wr (bv + 1) u (ints (nxtTo J i q)) ∧ Fr wv wr (fun k => k = bv)) (fun s6 _ => n - (intOf s6).toNat)
      case atStart => exact ⟨0, _, Nat.zero_le _, rfl, HGV.out, by rw [HN0.out]; exact World.ownsRow_nil _ _ _ _, Fr.refl _ _⟩
      case round =>
        clear HGV
        obtain ⟨q, u2, hq, rfl, hgv, hru, hF2⟩ := hrel
        rename World => wI
        have HGV := Lib.hid hgv; have HRU := Lib.hid hru; have HF2 := Lib.hid hF2
        have HBI := Lib.hid (show Below w.heap.size w wI from btr HBO.out (hF2.below HBV.out (fun k e => by subst e; have := HBVE.out; omega)))
        have gq := (World.cell?_of_block (a := ⟨bq, 0, none⟩) (hF2.block bq (by have := HZV.out; have := HQV.out; omega) (by have := HQV.out; omega))).trans HGQV.out
        have zq := World.block_lt_of_cell? _ _ gq
        obtain ⟨_, _, gv2, fv2, zv⟩ := three_cells hgv
        have hnl := HNL.out i q
        have HNXQ := Lib.hid (HNX.out i q)
        obtain ⟨au, cu, hu2⟩ := owns_form hru
        subst hu2
        have hbelow : Below wO.heap.size wO wI := hF2.below HBV.out (fun k e => by subst e; have := HBVE.out; omega)
        have HBW := Lib.hid hbelow
        clear hgv hru hF2 hbelow
        by_cases hqn : q < n
        · obtain ⟨bj2, oj2, a'', c'', e, hbj0, _, _, g30, hrw⟩ := HX.out.get q (by have := HN.out; omega)
          cases e
          have g3 := (HBI.out.cell (p := ⟨bj, _, none⟩) hbj0).trans g30
          have zj := Nat.lt_of_lt_of_le hbj0 HBI.out.size
          have HRW := Lib.hid (hrw.mono HBI.out)
          have hED := HED.out i q hqn
          have hwl := HWL.out q hqn
          clear hbj0 g30 hrw
          generalize nxtTo J i q = L at *
          generalize (job J q).ws = W at *
          generalize edg J i q = ed at *
          go_wp2_with fail
          refine (has_any _ W (i : Int) wI HRW.out (by omega)).mono ?_
          rintro e w' ⟨rfl, hw⟩
          subst hw
          rw [← hED]
          clear hED
          cases ed with
          | true =>
            have hL : L.length ≤ 12 := by omega
            have HNX1 := Lib.hid (show nxtTo J i (q + 1) = L ++ [q] from HNXQ.out)
            clear HNXQ
            go_wp2_with (at_builtin; refine wpList_append_num rfl _ _ rfl Tryz.underlying41 num3 HRU.out (q : Int) rfl rfl rfl (by rw [ints_len]; omega) (show bv + 1 ≤ wI.heap.size from Nat.succ_le_of_lt zv) ?_)
            intro v' w' hO' hg'
            obtain ⟨av, cv, hv'⟩ := owns_form hO'
            subst hv'
            have hk := (append_keep (World.ownsRow.alloc HRU.out _) hg' (Nat.lt_succ_self bv) (by simp; omega)).trans ((Below.heap_alloc wI _ bv zv).trans HGV.out)
            obtain ⟨_, _, gv3, fv3, zv3⟩ := three_cells hk
            have HK := Lib.hid hk; have HO' := Lib.hid hO'
            have HFP := Lib.hid (fun u => fr_push HF2.out HZV.out HRU.out _ hg' ⟨bv, 2, none⟩ rfl u)
            clear hk hO' hg' gv2 fv2 zv g3 zj gq zq
            go_wp2_with fail
            go_roundw
            case rel => exact ⟨q + 1, _, by omega, by go_num, by rw [heap_setCell_same _ bv 2 _ _ _ HK.out]; rfl, owns_set (by rw [HNX1.out, ints_snoc, List.length_append, List.map_append]; exact HO'.out) (Nat.lt_succ_self bv) _ _, HFP.out _⟩
            case measure => simp [intOf]; omega
          | false =>
            have HNX1 := Lib.hid (show nxtTo J i (q + 1) = L from HNXQ.out)
            clear HNXQ gv2 fv2 zv g3 zj gq zq
            go_wp2_with fail
            go_roundw
            case rel => exact ⟨q + 1, _, by omega, by go_num, HGV.out, by rw [HNX1.out]; exact HRU.out, HF2.out⟩
            case measure => simp [intOf]; omega
        · have hqe : q = n := by omega
          have hgo := (HBW.out.block bo (one_cell HGO.out).2.2).trans HGO.out
          obtain ⟨go1, fo1, zo1⟩ := one_cell hgo
          have HGI := Lib.hid hgo; have HJI := Lib.hid (HJL.out.later HBW.out)
          obtain ⟨ae, ce, hue⟩ := HJL.out.form
          subst hue
          have htl : (turnTo J i).length ≤ 1000 := by rw [HTL.out]; omega
          have HTS := Lib.hid (HT.out i)
          have HAP := Lib.hid (show Ap (fun k => (br ≤ k ∧ k < bo + 1) ∨ (Value.slice ae (turnTo J i).length ce).ownBlock = some k) (.slice au (ints (nxtTo J i q)).length cu) from ap_own HRU.out fun k hk => by
            rcases hk with hk | hk
            · intro e; have h1 := (World.ownsRow.lt HRU.out _ e).1; have := HBVE.out; have h3 := (one_cell HGO.out).2.2; omega
            · intro e
              rcases own_ne HRU.out HJI.out.out (by decide) with h | h
              · rw [h] at e; cases e
              · exact h (by rw [e, hk]))
          have HRI := Lib.hid (show RdI wI .i64 (.slice au (ints (nxtTo J i q)).length cu) (ints (nxtTo J i q)) from RdI.of_owns HRU.out)
          have HF3 := Lib.hid (HF.out.trans (Fr.of_below (B := fun k => k = bo) HBW.out))
          obtain ⟨gj0, gj1, gj2, _, zj⟩ := three_cells HGV.out
          rw [hqe] at HAP HRI gj2
          have HNI := Lib.hid (show turnA J i = ⟨lo, hh, ints (nxtTo J i n)⟩ from HTAI.out)
          clear hgo HGO HJL HNXQ HF HGV HRU fv2 gv2 hqe HTAI
          generalize ints (nxtTo J i n) = L at *
          generalize turnTo J i = KT at *
          go_wp2_with (at_builtin; refine JL.push (j := ⟨lo, hh, L⟩) HJI.out HRI.out HAP.out rfl _ _ rfl rfl rfl rfl htl (Nat.succ_le_of_lt zo1) ?_)
          intro v' w' hJ' hg'
          obtain ⟨av, cv, hv'⟩ := hJ'.form
          subst hv'
          have hk := (append_keep (World.ownsRow.alloc HJI.out.out _) hg' (Nat.lt_succ_self bo) (by simp; omega)).trans ((Below.heap_alloc wI _ bo zo1).trans HGI.out)
          obtain ⟨gv3, fv3, zv3⟩ := one_cell hk
          have HK := Lib.hid hk; have HJ' := Lib.hid hJ'
          have HFP := Lib.hid (fun u => fr_push HF3.out HZ3.out HJI.out.out _ hg' ⟨bo, 0, none⟩ rfl u)
          clear hk hJ' hg' go1 fo1 zo1 gj0 gj1 gj2 zj gq zq
          go_wp2_with fail
          go_roundw
          case rel => exact ⟨i + 1, _, _, by omega, by go_num, by rw [heap_setCell_same _ bo 0 _ _ _ HK.out]; rfl, by rw [HTS.out, HNI.out]; have h := HJ'.out; rw [List.length_append] at h; exact h.set (by have := HQO.out; omega) (Nat.lt_succ_self bo) _ _, HFP.out _⟩
          case measure => simp [intOf]; omega
    · have hie : i = n := by omega
      have HTE := Lib.hid (show turnTo J i = turnJ J by rw [hie, HTN.out])
      rw [HTE.out] at HJL
      obtain ⟨ae, ce, hue⟩ := HJL.out.form
      subst hue
      obtain ⟨go1, fo1, zo1⟩ := one_cell HGO.out
      have hgr := (HF.out.block br (by have := HZ3.out; have := HQO.out; omega) (by have := HQO.out; omega)).trans HGR.out
      obtain ⟨gr1, fr1, zr1⟩ := one_cell hgr
      have HGR2 := Lib.hid hgr
      clear hgr hie
      go_wp2_with fail
      exact bodyPost_ret (results_cell1 rfl rfl (load_work (heap_setCell_same wO br 0 _ _ _ HGR2.out))) rfl ⟨_, rfl, (HJL.out.set (Nat.le_refl br) (by have := HQO.out; omega) _ _).rd, bset HBO.out (p := ⟨br, 0, none⟩) HQO.out.2.2.2 _⟩
end Go.Proofs.YteknehlkdgamjaaGreat
