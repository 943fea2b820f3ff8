/- Merged texts: latest, free, chains, kinds of the document; no condition. -/
import Derived.Test.YteknehlkdgamjaaGreatMGT
import Derived.Test.YteknehlkdgamjaaGreatMGS
namespace Go.Proofs.YteknehlkdgamjaaGreat
open Go.RowKit Go.Shelf

theorem field_lo (x y : Int) (w : World) : (Instr.field 32 (.agg #[.int .i64 x, .int .i64 y]) 0).run Tryz.prog w = .ok (.int .i64 x) w := by kernel_rfl
theorem field_hi (x y : Int) (w : World) : (Instr.field 32 (.agg #[.int .i64 x, .int .i64 y]) 1).run Tryz.prog w = .ok (.int .i64 y) w := by kernel_rfl
theorem rtails_any (v y : Value) (J : List Job) (D : Nat → Int) (n : Nat) (hn : n = J.length) (w : World) (hx0 : RdJ w v (turnJ J)) (hJ : FineJ J) (hc : cir J = false) (hy0 : RdI w .i64 y (fnL D n)) (hD : ∀ i, i < n → 0 ≤ D i ∧ D i ≤ 1000) :
    Calls Tryz.prog 36 #[.agg #[v], y] w fun e w' => ∃ u, e = .returned u ∧ rowL w' w.heap.size u (fnL (tl J D) n) ∧ Below w.heap.size w w' := by
  subst hn
  have h := rbegins_any v y (turnJ J) D w hx0 (turn_fine hJ) (turn_cir hJ hc) (by rw [turn_len]; exact hy0) (fun i hi => hD i (by rwa [turn_len] at hi))
  rw [turn_len] at h
  exact h
set_option maxRecDepth 100000 in
set_option maxHeartbeats 3200000 in
theorem rlatest_any (v : Value) (J : List Job) (day : Int) (w : World) (hx0 : RdJ w v J) (hs : SmJ J) (hd1 : -(2 ^ 42) ≤ day) (hd2 : day ≤ 2 ^ 42) :
    Calls Tryz.prog 20 #[.agg #[v], .int .i64 day] w (RetL w (latL J day) (latC J day)) := by
  have HER := Lib.hid (fun wz (h : Below w.heap.size w wz) => error_any v J wz (hx0.mono h) hs)
  have HLO := Lib.hid (fun wz (h : Below w.heap.size w wz) (hq : errC J = 0) => rlengthof_any v J wz (hx0.mono h) (fine_err hq).1 (fine_err hq).2)
  have HDY := Lib.hid (fun wz (h : Below w.heap.size w wz) (hq : errC J = 0) => rdays_any v J true wz (hx0.mono h) (by have := (fine_err hq).1.n12; omega))
  have HTU := Lib.hid (fun wz (h : Below w.heap.size w wz) (hq : errC J = 0) => rturned_any v J wz (hx0.mono h) (fine_err hq).1)
  have HTB := Lib.hid (fun u y n (hn : n = J.length) wz (hq : errC J = 0) (h1 : RdJ wz u (turnJ J)) (h2 : RdI wz .i64 y (fnL (hiD J) n)) => rtails_any u y J (hiD J) n hn wz h1 (fine_err hq).1 (fine_err hq).2 h2 (fun i hi => ⟨hi_nn (fine_err hq).1 i (by omega), hi_bd (fine_err hq).1 i (by omega)⟩))
  have HBD := Lib.hid (fun (hq : errC J = 0) i (hi : i < J.length) => (⟨hi_nn (fine_err hq).1 i hi, hi_bd (fine_err hq).1 i hi, tl_nn J (hiD J) i, tl_bd (fine_err hq).1 (hi_bd (fine_err hq).1) hi⟩ : 0 ≤ hiD J i ∧ hiD J i ≤ 1000 ∧ 0 ≤ tl J (hiD J) i ∧ tl J (hiD J) i ≤ 12000))
  have HN12 := Lib.hid (fun (hq : errC J = 0) => (fine_err hq).1.n12)
  obtain ⟨a, c, rfl⟩ := hx0.sl
  clear hx0 hs
  have HB0 := Lib.hid (bal (bz w) (.cells #[.slice a J.length c] 24))
  have gq : (w.alloc (.cells #[.slice a J.length c] 24)).cell? ⟨w.heap.size, 0, none⟩ = some (.slice a J.length c) := cnew rfl rfl
  have zq : w.heap.size < (w.alloc (.cells #[.slice a J.length c] 24)).heap.size := by simp
  have HL := Lib.hid (show latL J day = if errC J = 0 then (if day < takes J (hiD J) then [] else fnL (latF J day) J.length) else [] from rfl)
  have HC := Lib.hid (show latC J day = if errC J = 0 then (if day < takes J (hiD J) then 12 else 0) else errC J from rfl)
  have HLF := Lib.hid (fun i => show latF J day i = day - tl J (hiD J) i - hiD J i from rfl)
  have HFS := Lib.hid (fnL_succ (latF J day)); have HFL := Lib.hid (fnL_len (latF J day)); have HF0 := Lib.hid (fnL_zero (latF J day))
  have HDE := Lib.hid (show dayD J true = hiD J from rfl)
  unfold RetL
  generalize latL J day = R at *
  generalize latC J day = C at *
  generalize latF J day = LF at *
  obtain ⟨n, hn⟩ : ∃ n, n = J.length := ⟨_, rfl⟩
  have HN := Lib.hid hn
  rw [← hn] at HER HLO HDY HTU HBD HN12 HB0 gq zq HL ⊢
  clear hn
  generalize errC J = q at *
  generalize takes J (hiD J) = T2 at *
  generalize takes J (loD J) = T1 at *
  go_enter Tryz.func20, Tryz.ntmps20
  go_wp2_with fail
  generalize w.alloc (.cells #[.slice a n c] 24) = w1 at *
  refine (HER.out _ HB0.out).mono ?_
  rintro e w2 ⟨rfl, hB⟩
  have HB2 := Lib.hid (btr HB0.out hB)
  have g2 := (hB.cell (p := ⟨w.heap.size, 0, none⟩) zq).trans gq
  have z2 := Nat.lt_of_lt_of_le zq hB.size
  clear hB gq zq
  by_cases hq : q = 0
  · have HLE := HL.out; have HCE := HC.out
    rw [if_pos hq] at HLE HCE
    have HLE := Lib.hid HLE; have HCE := Lib.hid HCE
    have h12 := HN12.out hq
    have HLO2 := Lib.hid (fun wz h => HLO.out wz h hq); have HDY2 := Lib.hid (fun wz h => HDY.out wz h hq); have HTU2 := Lib.hid (fun wz h => HTU.out wz h hq)
    have HTB2 := Lib.hid (fun u y wz h1 h2 => HTB.out u y n HN.out wz hq h1 h2); have HBD2 := Lib.hid (HBD.out hq)
    clear HL HC HLO HDY HTU HTB HBD HN12
    subst hq
    go_wp2_with fail
    refine (HLO2.out _ HB2.out).mono ?_
    rintro e w3 ⟨rfl, hB⟩
    have HB3 := Lib.hid (btr HB2.out hB)
    have g3 := (hB.cell (p := ⟨w.heap.size, 0, none⟩) z2).trans g2
    have z3 := Nat.lt_of_lt_of_le z2 hB.size
    clear hB g2 z2 HB2
    have hfd := field_hi T1 T2 w3
    by_cases hd : day < T2
    · have t1 : decide (day < T2) = true := decide_eq_true hd
      have HLE := HLE.out; have HCE := HCE.out
      rw [if_pos hd] at HLE HCE
      have HLE := Lib.hid HLE; have HCE := Lib.hid HCE
      go_wp2_with fail
      go_ret2
      exact ⟨⟨_, (by rw [HCE.out]; rfl), by rw [HLE.out]; exact ⟨none, 0, rfl, Nat.le_refl _, by unfold maxLen; omega, fun h => absurd rfl h⟩⟩, HB3.out⟩
    · have t1 : decide (day < T2) = false := decide_eq_false hd
      have HLE := HLE.out; have HCE := HCE.out
      rw [if_neg hd] at HLE HCE
      have HLE := Lib.hid HLE; have HCE := Lib.hid HCE
      go_wp2_with fail
      refine (HDY2.out _ HB3.out).mono ?_
      rintro e w4 ⟨u4, rfl, hr4, hB⟩
      have HB4 := Lib.hid (btr HB3.out hB)
      have g4 := (hB.cell (p := ⟨w.heap.size, 0, none⟩) z3).trans g3
      have z4 := Nat.lt_of_lt_of_le z3 hB.size
      have hr4' := hr4.rd
      rw [HDE.out] at hr4'
      obtain ⟨a4, c4, e4⟩ := owns_form hr4
      rw [fnL_len] at e4
      subst e4
      have HR4 := Lib.hid hr4'
      clear hB g3 z3 HB3 hr4 hr4' t1 hd
      go_wp2_with fail
      refine (HTU2.out _ HB4.out).mono ?_
      rintro e w5 ⟨u5, rfl, hr5, hB⟩
      have HB5 := Lib.hid (btr HB4.out hB)
      have HR5 := Lib.hid hr5; have HR45 := Lib.hid (HR4.out.mono hB)
      clear hB g4 z4 hr5 HR4
      go_wp2_with fail
      refine (HTB2.out _ _ _ HR5.out HR45.out).mono ?_
      rintro e w6 ⟨u6, rfl, hr6, hB⟩
      have HB6 := Lib.hid (btr HB5.out hB)
      obtain ⟨a6, c6, e6⟩ := owns_form hr6
      rw [fnL_len] at e6
      subst e6
      have HR6 := Lib.hid hr6.rd; have HR46 := Lib.hid (HR45.out.mono hB)
      clear hB hr6 HR45 HR5
      go_wp2_with fail
      go_loopw [8, 9] (fun s8 s9 wr => ∃ k : Nat, k ≤ n ∧ s9 = .int .i64 k ∧ wr.ownsRow w6.heap.size 2 1 s8 k ((fnL LF k).map (Value.int .i64)) ∧ Below w6.heap.size w6 wr) (fun _ s9 _ => n - (intOf s9).toNat)
      case atStart => exact ⟨0, Nat.zero_le _, rfl, by rw [HF0.out]; exact World.ownsRow_nil _ _ _ _, bz w6⟩
      case round =>
        obtain ⟨k, hk, rfl, ho, hB⟩ := hrel
        have HO := Lib.hid ho; have HB := Lib.hid hB
        clear ho hB
        by_cases hlt : k < n
        · obtain ⟨b1, o1, e, hb1, hc1⟩ := (HR6.out.mono HB.out).get (by rw [fnL_len]; omega)
          cases e
          obtain ⟨b2, o2, e, hb2, hc2⟩ := (HR46.out.mono HB.out).get (by rw [fnL_len]; omega)
          cases e
          have g1 := hc1 k (by rw [fnL_len]; exact hlt)
          have g2 := hc2 k (by rw [fnL_len]; exact hlt)
          rw [fnL_at _ hlt] at g1 g2
          obtain ⟨d1, d2, d3, d4⟩ := HBD2.out k hlt
          have hsl := HFL.out k
          have HSK := Lib.hid (HFS.out k)
          have HO8 := Lib.hid (show wr.ownsRow w6.heap.size 2 1 _ (fnL LF k).length ((fnL LF k).map (Value.int .i64)) by rw [hsl]; exact HO.out)
          have HLK := Lib.hid (HLF.out k)
          have hl12 : (fnL LF k).length ≤ 1000 := by rw [hsl]; omega
          clear hc1 hc2 hsl
          generalize tl J (hiD J) k = x at *
          generalize hiD J k = y at *
          generalize LF k = z at *
          have hw1 : IntKind.i64.wrap (day - x) = day - x := IntWalk.i64_in _ (by omega)
          have hw2 : IntKind.i64.wrap (day - x - y) = day - x - y := IntWalk.i64_in _ (by omega)
          go_upto_region 11 with fail
          refine wp_region_flow [] [([0, 1, 2, 3, 4, 5, 6, 7, 8, 9, 10, 11], 12, true), ([], 13, false), ([], 14, false)] [] (by kernel_rfl) (by kernel_rfl) ?_
          intro wc hBc hh
          clear hh
          have hL := @Later.cell wc
          have k1 := (hBc.cell (p := ⟨b1, _, none⟩) hb1).trans g1
          have k2 := (hBc.cell (p := ⟨b2, _, none⟩) hb2).trans g2
          have z1 := Nat.lt_of_lt_of_le hb1 hBc.size
          have z2 := Nat.lt_of_lt_of_le hb2 hBc.size
          have HOC := Lib.hid (owns_kept HO8.out hBc)
          have HBC := Lib.hid (btr HB.out hBc)
          clear hBc g1 g2 hb1 hb2
          simp only [flowP, flow, pickL, List.getElem?_cons_succ, List.getElem?_cons_zero]
          refine wpQuiet_nil ?_
          repeat (go_big_quiet_step (fail))
          refine wpQuiet_nil ?_
          go_wp2
          refine seg_grow ⟨⟨_, bal (bz _) _⟩, rfl⟩ ?_
          refine wpQuiet_nil ?_
          clear hL k1 k2 z1 z2
          refine wpList_append_num rfl _ _ rfl Tryz.underlying35 num2 HOC.out (day - x - y) rfl rfl rfl hl12 HBC.out.size ?_
          intro v' w' hown hgrow
          have HBN := Lib.hid (append_below (bal HBC.out _) (World.ownsRow.alloc HOC.out _) hgrow (Nat.le_refl _))
          have HOWN := Lib.hid (show w'.ownsRow w6.heap.size 2 1 v' (k + 1) ((fnL LF (k + 1)).map (Value.int .i64)) by
            rw [HSK.out, HLK.out]
            rw [List.length_append, HFL.out k] at hown
            exact hown)
          clear hown hgrow hw1 hw2
          go_wp2
          refine seg_write ?_
          refine wpQuiet_nil ?_
          go_wp2
          refine seg_write ?_
          refine wpQuiet_nil ?_
          refine only_done ?_
          go_wp2_with fail
          go_roundw
          case rel => exact ⟨k + 1, by omega, by go_num, HOWN.out, HBN.out⟩
          case measure => simp [intOf]; omega
        · have hkn : k = n := by omega
          subst hkn
          go_wp2_with fail
          go_ret2
          exact ⟨⟨_, (by rw [HCE.out]; rfl), by rw [HLE.out]; exact RdI.of_owns HO.out⟩, btr HB6.out HB.out⟩
  · have t1 : (q != 0) = true := by simp [hq]
    have HLE := HL.out; have HCE := HC.out
    rw [if_neg hq] at HLE HCE
    have HLE := Lib.hid HLE; have HCE := Lib.hid HCE
    clear HL HC HLO HDY HTU HTB HBD HN12 hq
    go_wp2_with fail
    refine (HER.out _ HB2.out).mono ?_
    rintro e w3 ⟨rfl, hB⟩
    have HB3 := Lib.hid (btr HB2.out hB)
    clear hB
    go_wp2_with fail
    go_ret2
    exact ⟨⟨_, (by rw [HCE.out]; rfl), by rw [HLE.out]; exact ⟨none, 0, rfl, Nat.le_refl _, by unfold maxLen; omega, fun h => absurd rfl h⟩⟩, HB3.out⟩
end Go.Proofs.YteknehlkdgamjaaGreat

namespace Go.Proofs.YteknehlkdgamjaaGreat
open Go.RowKit Go.Shelf

theorem U_three {P : Program} {S : World → Prop} {K : Act → World → Prop} {a : Act} {w : World} {l : List Oper} {H W : List Nat} {fuel : Nat} {listed : Array Bool} (c d e : Nat)
    (hB : (decide (Region.ready .any l.toArray listed = [c, d, e]) && decide (0 < fuel)) = true)
    (h1 : wpList P l.toArray (segQ (onlyN K) (fun a'' w'' => segK (!W.contains c) S a'' w'' (wpU P l (onlyN K) S H W (fuel - 1) (listed.setIfInBounds c true) a'' w''))) (pickL l [c]) a w)
    (h2 : wpList P l.toArray (segQ (onlyN K) (fun a'' w'' => segK (!W.contains d) S a'' w'' (wpU P l (onlyN K) S H W (fuel - 1) (listed.setIfInBounds d true) a'' w''))) (pickL l [d]) a w)
    (h3 : wpList P l.toArray (segQ (onlyN K) (fun a'' w'' => segK (!W.contains e) S a'' w'' (wpU P l (onlyN K) S H W (fuel - 1) (listed.setIfInBounds e true) a'' w''))) (pickL l [e]) a w) : wpU P l (onlyN K) S H W fuel listed a w :=
  U_all [c, d, e] (by simpa using hB) (fun c' hc => by simp at hc; rcases hc with rfl | rfl | rfl <;> assumption)
def onD (J : List Job) (D : Nat → Int) (j : Nat) : Bool := beg J D j + D j + tl J D j == takes J D
set_option maxRecDepth 100000 in
set_option maxHeartbeats 3200000 in
theorem ron_any (v y : Value) (J : List Job) (D : Nat → Int) (j n : Nat) (hn : n = J.length) (w : World) (hx0 : RdJ w v J) (hJ : FineJ J) (hc : cir J = false) (hy0 : RdI w .i64 y (fnL D n)) (hD : ∀ i, i < n → 0 ≤ D i ∧ D i ≤ 1000) (hj : j < n) :
    Calls Tryz.prog 39 #[.agg #[v], y, .int .i64 j] w fun e w' => e = .returned (.bool (onD J D j)) ∧ Below w.heap.size w w' := by
  have HBG := Lib.hid (fun wz (h : Below w.heap.size w wz) => rbegins_any v y J D wz (hx0.mono h) hJ hc (by rw [← hn]; exact hy0.mono h) (by rw [← hn]; exact hD))
  have HTK := Lib.hid (fun wz (h : Below w.heap.size w wz) => rtakes_any v y J D wz (hx0.mono h) hJ hc (by rw [← hn]; exact hy0.mono h) (by rw [← hn]; exact hD))
  have HTU := Lib.hid (fun wz (h : Below w.heap.size w wz) => rturned_any v J wz (hx0.mono h) hJ)
  have HTB := Lib.hid (fun u wz (h : Below w.heap.size w wz) (h1 : RdJ wz u (turnJ J)) => rtails_any u y J D n hn wz h1 hJ hc (hy0.mono h) hD)
  have HY := Lib.hid hy0
  have b1 := beg_nn J D j
  have b2 := beg_bd hJ (fun i hi => (hD i (by omega)).2) (i := j) (by omega)
  have t1 := tl_nn J D j
  have t2 := tl_bd hJ (fun i hi => (hD i (by omega)).2) (i := j) (by omega)
  have d1 := hD j hj
  have HE := Lib.hid (show onD J D j = (beg J D j + D j + tl J D j == takes J D) from rfl)
  have h12 := hJ.n12
  rw [← hn] at HBG h12
  obtain ⟨a, c, rfl⟩ := hx0.sl
  obtain ⟨ay, cy, rfl, _⟩ := hy0.form
  rw [fnL_len] at HBG HTK HTB HY ⊢
  rw [← hn] at HBG HTK HTU ⊢
  clear hx0 hy0 hJ hc hD hn
  generalize onD J D j = R at *
  have HB0 := Lib.hid (bal (bz w) (.cells #[.slice a n c] 24))
  have gq : (w.alloc (.cells #[.slice a n c] 24)).cell? ⟨w.heap.size, 0, none⟩ = some (.slice a n c) := cnew rfl rfl
  have zq : w.heap.size < (w.alloc (.cells #[.slice a n c] 24)).heap.size := by simp

  go_enter Tryz.func39, Tryz.ntmps39
  go_upto_region 1 with fail
  generalize w.alloc (.cells #[.slice a n c] 24) = w1 at *
  obtain ⟨by', oy, e, hby, hcy⟩ := (HY.out.mono HB0.out).get (by rw [fnL_len]; omega)
  cases e
  have gy := hcy j (by rw [fnL_len]; exact hj)
  rw [fnL_at _ hj] at gy
  clear hcy
  have hw1 : IntKind.i64.wrap (beg J D j + D j) = beg J D j + D j := IntWalk.i64_in _ (by omega)
  have hw2 : IntKind.i64.wrap (beg J D j + D j + tl J D j) = beg J D j + D j + tl J D j := IntWalk.i64_in _ (by omega)
  obtain ⟨z, hz⟩ : ∃ z, z = D j := ⟨_, rfl⟩
  obtain ⟨x, hx⟩ : ∃ x, x = beg J D j := ⟨_, rfl⟩
  obtain ⟨t, ht⟩ : ∃ t, t = tl J D j := ⟨_, rfl⟩
  rw [← hz] at gy HE hw1 hw2
  rw [← hx] at HE hw1 hw2
  rw [← ht] at HE hw2
  have HXX := Lib.hid hx; have HTT := Lib.hid ht
  clear hx ht hz b1 b2 t1 t2 d1
  generalize takes J D = tk at *
  refine wp_region_U [0, 1, 3, 4, 6, 7, 8, 9, 10, 11, 13, 15, 16, 18, 19, 20, 22, 23] [] (by kernel_rfl) (by kernel_rfl) ?_
  intro wc hBc hh
  clear hh
  have HBC := Lib.hid (btr HB0.out hBc)
  have hL := @Later.cell wc
  have k1 := (hBc.cell (p := ⟨w.heap.size, 0, none⟩) zq).trans gq
  have k2 := (hBc.cell (p := ⟨by', _, none⟩) hby).trans gy
  have z1 := Nat.lt_of_lt_of_le zq hBc.size
  have z2 := Nat.lt_of_lt_of_le hby hBc.size
  clear hBc gq gy zq hby
  have HS := Lib.hid (bz wc)
  refine U_heads [0, 1, 3, 6, 7, 8, 9, 11, 13, 15, 19, 20] (by kernel_rfl) ⟨⟨_, HS.out⟩, rfl⟩ ?_
  simp only [pickL, List.getElem?_cons_succ, List.getElem?_cons_zero]
  repeat (go_big_quiet_step (fail))
  refine wpQuiet_nil ?_
  refine U_one 2 (by kernel_rfl) ?_
  simp only [pickL, List.getElem?_cons_succ, List.getElem?_cons_zero]
  go_wp2_with fail
  refine (HBG.out _ (btr HBC.out HS.out)).mono ?_
  rintro e w21 ⟨vb, rfl, hr, hB⟩
  obtain ⟨pab, qb, eeb⟩ := owns_form hr
  rw [fnL_len] at eeb
  subst eeb
  obtain ⟨bb, ob, e, _, _⟩ := hr.rd.get (by rw [fnL_len]; omega)
  cases e
  replace HS := Lib.hid (btr HS.out (hB : Below _ _ w21))
  have HRb := Lib.hid hr.rd
  clear hr hB
  go_wp2
  refine seg_grow ⟨⟨_, HS.out⟩, rfl⟩ ?_
  refine U_heads [4] (by kernel_rfl) ⟨⟨_, HS.out⟩, rfl⟩ ?_
  simp only [pickL, List.getElem?_cons_succ, List.getElem?_cons_zero]
  repeat (go_big_quiet_step (fail))
  refine wpQuiet_nil ?_
  refine U_two 5 12 (by kernel_rfl) ?_ ?_
  · simp only [pickL, List.getElem?_cons_succ, List.getElem?_cons_zero]
    obtain ⟨_, _, e, hb, hc⟩ := HRb.out.get (by rw [fnL_len]; omega)
    cases e
    have gx := hc j (by rw [fnL_len]; exact hj)
    rw [fnL_at _ hj, ← HXX.out] at gx
    clear hc
    go_wp2
    clear gx hb
    refine seg_grow ⟨⟨_, HS.out⟩, rfl⟩ ?_
    refine U_heads [10] (by kernel_rfl) ⟨⟨_, HS.out⟩, rfl⟩ ?_
    simp only [pickL, List.getElem?_cons_succ, List.getElem?_cons_zero]
    repeat (go_big_quiet_step (fail))
    refine wpQuiet_nil ?_
    refine U_one 12 (by kernel_rfl) ?_
    simp only [pickL, List.getElem?_cons_succ, List.getElem?_cons_zero]
    go_wp2_with fail
    refine (HTU.out _ (btr HBC.out HS.out)).mono ?_
    rintro e w22 ⟨vu, rfl, hr, hB⟩
    replace HRb := Lib.hid (HRb.out.mono (hB : Below _ _ w22))
    replace HS := Lib.hid (btr HS.out (hB : Below _ _ w22))
    have HRu := Lib.hid hr
    clear hr hB
    go_wp2
    refine seg_grow ⟨⟨_, HS.out⟩, rfl⟩ ?_
    refine U_one 14 (by kernel_rfl) ?_
    simp only [pickL, List.getElem?_cons_succ, List.getElem?_cons_zero]
    go_wp2_with fail
    refine (HTB.out _ _ (btr HBC.out HS.out) HRu.out).mono ?_
    rintro e w23 ⟨vt, rfl, hr, hB⟩
    obtain ⟨pat, qt, eet⟩ := owns_form hr
    rw [fnL_len] at eet
    subst eet
    obtain ⟨bt, ot, e, _, _⟩ := hr.rd.get (by rw [fnL_len]; omega)
    cases e
    replace HRb := Lib.hid (HRb.out.mono (hB : Below _ _ w23))
    replace HRu := Lib.hid (HRu.out.mono (hB : Below _ _ w23))
    replace HS := Lib.hid (btr HS.out (hB : Below _ _ w23))
    have HRt := Lib.hid hr.rd
    clear hr hB
    go_wp2
    refine seg_grow ⟨⟨_, HS.out⟩, rfl⟩ ?_
    refine U_heads [16] (by kernel_rfl) ⟨⟨_, HS.out⟩, rfl⟩ ?_
    simp only [pickL, List.getElem?_cons_succ, List.getElem?_cons_zero]
    repeat (go_big_quiet_step (fail))
    refine wpQuiet_nil ?_
    refine U_two 17 21 (by kernel_rfl) ?_ ?_
    · simp only [pickL, List.getElem?_cons_succ, List.getElem?_cons_zero]
      obtain ⟨_, _, e, hb, hc⟩ := HRt.out.get (by rw [fnL_len]; omega)
      cases e
      have gx := hc j (by rw [fnL_len]; exact hj)
      rw [fnL_at _ hj, ← HTT.out] at gx
      clear hc
      go_wp2
      clear gx hb
      refine seg_grow ⟨⟨_, HS.out⟩, rfl⟩ ?_
      refine U_heads [18] (by kernel_rfl) ⟨⟨_, HS.out⟩, rfl⟩ ?_
      simp only [pickL, List.getElem?_cons_succ, List.getElem?_cons_zero]
      repeat (go_big_quiet_step (fail))
      refine wpQuiet_nil ?_
      refine U_one 21 (by kernel_rfl) ?_
      simp only [pickL, List.getElem?_cons_succ, List.getElem?_cons_zero]
      go_wp2_with fail
      refine (HTK.out _ (btr HBC.out HS.out)).mono ?_
      rintro e w24 ⟨rfl, hB⟩
      replace HRb := Lib.hid (HRb.out.mono (hB : Below _ _ w24))
      replace HRt := Lib.hid (HRt.out.mono (hB : Below _ _ w24))
      replace HRu := Lib.hid (HRu.out.mono (hB : Below _ _ w24))
      replace HS := Lib.hid (btr HS.out (hB : Below _ _ w24))
      clear hB
      go_wp2
      refine seg_grow ⟨⟨_, HS.out⟩, rfl⟩ ?_
      refine U_heads [22, 23] (by kernel_rfl) ⟨⟨_, HS.out⟩, rfl⟩ ?_
      simp only [pickL, List.getElem?_cons_succ, List.getElem?_cons_zero]
      repeat (go_big_quiet_step (fail))
      refine wpQuiet_nil ?_
      refine U_done (by kernel_rfl) ?_
      clear hL k1 k2 z1 z2
      go_wp2_with fail
      go_ret
      exact ⟨ret_bool HE.out.symm, btr HBC.out HS.out⟩
    · simp only [pickL, List.getElem?_cons_succ, List.getElem?_cons_zero]
      go_wp2_with fail
      refine (HTK.out _ (btr HBC.out HS.out)).mono ?_
      rintro e w25 ⟨rfl, hB⟩
      replace HRb := Lib.hid (HRb.out.mono (hB : Below _ _ w25))
      replace HRt := Lib.hid (HRt.out.mono (hB : Below _ _ w25))
      replace HRu := Lib.hid (HRu.out.mono (hB : Below _ _ w25))
      replace HS := Lib.hid (btr HS.out (hB : Below _ _ w25))
      clear hB
      go_wp2
      refine seg_grow ⟨⟨_, HS.out⟩, rfl⟩ ?_
      refine U_one 17 (by kernel_rfl) ?_
      simp only [pickL, List.getElem?_cons_succ, List.getElem?_cons_zero]
      obtain ⟨_, _, e, hb, hc⟩ := HRt.out.get (by rw [fnL_len]; omega)
      cases e
      have gx := hc j (by rw [fnL_len]; exact hj)
      rw [fnL_at _ hj, ← HTT.out] at gx
      clear hc
      go_wp2
      clear gx hb
      refine seg_grow ⟨⟨_, HS.out⟩, rfl⟩ ?_
      refine U_heads [18, 22, 23] (by kernel_rfl) ⟨⟨_, HS.out⟩, rfl⟩ ?_
      simp only [pickL, List.getElem?_cons_succ, List.getElem?_cons_zero]
      repeat (go_big_quiet_step (fail))
      refine wpQuiet_nil ?_
      refine U_done (by kernel_rfl) ?_
      clear hL k1 k2 z1 z2
      go_wp2_with fail
      go_ret
      exact ⟨ret_bool HE.out.symm, btr HBC.out HS.out⟩
  · simp only [pickL, List.getElem?_cons_succ, List.getElem?_cons_zero]
    go_wp2_with fail
    refine (HTU.out _ (btr HBC.out HS.out)).mono ?_
    rintro e w26 ⟨vu, rfl, hr, hB⟩
    replace HRb := Lib.hid (HRb.out.mono (hB : Below _ _ w26))
    replace HS := Lib.hid (btr HS.out (hB : Below _ _ w26))
    have HRu := Lib.hid hr
    clear hr hB
    go_wp2
    refine seg_grow ⟨⟨_, HS.out⟩, rfl⟩ ?_
    refine U_two 5 14 (by kernel_rfl) ?_ ?_
    · simp only [pickL, List.getElem?_cons_succ, List.getElem?_cons_zero]
      obtain ⟨_, _, e, hb, hc⟩ := HRb.out.get (by rw [fnL_len]; omega)
      cases e
      have gx := hc j (by rw [fnL_len]; exact hj)
      rw [fnL_at _ hj, ← HXX.out] at gx
      clear hc
      go_wp2
      clear gx hb
      refine seg_grow ⟨⟨_, HS.out⟩, rfl⟩ ?_
      refine U_heads [10] (by kernel_rfl) ⟨⟨_, HS.out⟩, rfl⟩ ?_
      simp only [pickL, List.getElem?_cons_succ, List.getElem?_cons_zero]
      repeat (go_big_quiet_step (fail))
      refine wpQuiet_nil ?_
      refine U_one 14 (by kernel_rfl) ?_
      simp only [pickL, List.getElem?_cons_succ, List.getElem?_cons_zero]
      go_wp2_with fail
      refine (HTB.out _ _ (btr HBC.out HS.out) HRu.out).mono ?_
      rintro e w27 ⟨vt, rfl, hr, hB⟩
      obtain ⟨pat, qt, eet⟩ := owns_form hr
      rw [fnL_len] at eet
      subst eet
      obtain ⟨bt, ot, e, _, _⟩ := hr.rd.get (by rw [fnL_len]; omega)
      cases e
      replace HRb := Lib.hid (HRb.out.mono (hB : Below _ _ w27))
      replace HRu := Lib.hid (HRu.out.mono (hB : Below _ _ w27))
      replace HS := Lib.hid (btr HS.out (hB : Below _ _ w27))
      have HRt := Lib.hid hr.rd
      clear hr hB
      go_wp2
      refine seg_grow ⟨⟨_, HS.out⟩, rfl⟩ ?_
      refine U_heads [16] (by kernel_rfl) ⟨⟨_, HS.out⟩, rfl⟩ ?_
      simp only [pickL, List.getElem?_cons_succ, List.getElem?_cons_zero]
      repeat (go_big_quiet_step (fail))
      refine wpQuiet_nil ?_
      refine U_two 17 21 (by kernel_rfl) ?_ ?_
      · simp only [pickL, List.getElem?_cons_succ, List.getElem?_cons_zero]
        obtain ⟨_, _, e, hb, hc⟩ := HRt.out.get (by rw [fnL_len]; omega)
        cases e
        have gx := hc j (by rw [fnL_len]; exact hj)
        rw [fnL_at _ hj, ← HTT.out] at gx
        clear hc
        go_wp2
        clear gx hb
        refine seg_grow ⟨⟨_, HS.out⟩, rfl⟩ ?_
        refine U_heads [18] (by kernel_rfl) ⟨⟨_, HS.out⟩, rfl⟩ ?_
        simp only [pickL, List.getElem?_cons_succ, List.getElem?_cons_zero]
        repeat (go_big_quiet_step (fail))
        refine wpQuiet_nil ?_
        refine U_one 21 (by kernel_rfl) ?_
        simp only [pickL, List.getElem?_cons_succ, List.getElem?_cons_zero]
        go_wp2_with fail
        refine (HTK.out _ (btr HBC.out HS.out)).mono ?_
        rintro e w28 ⟨rfl, hB⟩
        replace HRb := Lib.hid (HRb.out.mono (hB : Below _ _ w28))
        replace HRt := Lib.hid (HRt.out.mono (hB : Below _ _ w28))
        replace HRu := Lib.hid (HRu.out.mono (hB : Below _ _ w28))
        replace HS := Lib.hid (btr HS.out (hB : Below _ _ w28))
        clear hB
        go_wp2
        refine seg_grow ⟨⟨_, HS.out⟩, rfl⟩ ?_
        refine U_heads [22, 23] (by kernel_rfl) ⟨⟨_, HS.out⟩, rfl⟩ ?_
        simp only [pickL, List.getElem?_cons_succ, List.getElem?_cons_zero]
        repeat (go_big_quiet_step (fail))
        refine wpQuiet_nil ?_
        refine U_done (by kernel_rfl) ?_
        clear hL k1 k2 z1 z2
        go_wp2_with fail
        go_ret
        exact ⟨ret_bool HE.out.symm, btr HBC.out HS.out⟩
      · simp only [pickL, List.getElem?_cons_succ, List.getElem?_cons_zero]
        go_wp2_with fail
        refine (HTK.out _ (btr HBC.out HS.out)).mono ?_
        rintro e w29 ⟨rfl, hB⟩
        replace HRb := Lib.hid (HRb.out.mono (hB : Below _ _ w29))
        replace HRt := Lib.hid (HRt.out.mono (hB : Below _ _ w29))
        replace HRu := Lib.hid (HRu.out.mono (hB : Below _ _ w29))
        replace HS := Lib.hid (btr HS.out (hB : Below _ _ w29))
        clear hB
        go_wp2
        refine seg_grow ⟨⟨_, HS.out⟩, rfl⟩ ?_
        refine U_one 17 (by kernel_rfl) ?_
        simp only [pickL, List.getElem?_cons_succ, List.getElem?_cons_zero]
        obtain ⟨_, _, e, hb, hc⟩ := HRt.out.get (by rw [fnL_len]; omega)
        cases e
        have gx := hc j (by rw [fnL_len]; exact hj)
        rw [fnL_at _ hj, ← HTT.out] at gx
        clear hc
        go_wp2
        clear gx hb
        refine seg_grow ⟨⟨_, HS.out⟩, rfl⟩ ?_
        refine U_heads [18, 22, 23] (by kernel_rfl) ⟨⟨_, HS.out⟩, rfl⟩ ?_
        simp only [pickL, List.getElem?_cons_succ, List.getElem?_cons_zero]
        repeat (go_big_quiet_step (fail))
        refine wpQuiet_nil ?_
        refine U_done (by kernel_rfl) ?_
        clear hL k1 k2 z1 z2
        go_wp2_with fail
        go_ret
        exact ⟨ret_bool HE.out.symm, btr HBC.out HS.out⟩
    · simp only [pickL, List.getElem?_cons_succ, List.getElem?_cons_zero]
      go_wp2_with fail
      refine (HTB.out _ _ (btr HBC.out HS.out) HRu.out).mono ?_
      rintro e w30 ⟨vt, rfl, hr, hB⟩
      obtain ⟨pat, qt, eet⟩ := owns_form hr
      rw [fnL_len] at eet
      subst eet
      obtain ⟨bt, ot, e, _, _⟩ := hr.rd.get (by rw [fnL_len]; omega)
      cases e
      replace HRb := Lib.hid (HRb.out.mono (hB : Below _ _ w30))
      replace HRu := Lib.hid (HRu.out.mono (hB : Below _ _ w30))
      replace HS := Lib.hid (btr HS.out (hB : Below _ _ w30))
      have HRt := Lib.hid hr.rd
      clear hr hB
      go_wp2
      refine seg_grow ⟨⟨_, HS.out⟩, rfl⟩ ?_
      refine U_heads [16] (by kernel_rfl) ⟨⟨_, HS.out⟩, rfl⟩ ?_
      simp only [pickL, List.getElem?_cons_succ, List.getElem?_cons_zero]
      repeat (go_big_quiet_step (fail))
      refine wpQuiet_nil ?_
      refine U_three 5 17 21 (by kernel_rfl) ?_ ?_ ?_
      · simp only [pickL, List.getElem?_cons_succ, List.getElem?_cons_zero]
        obtain ⟨_, _, e, hb, hc⟩ := HRb.out.get (by rw [fnL_len]; omega)
        cases e
        have gx := hc j (by rw [fnL_len]; exact hj)
        rw [fnL_at _ hj, ← HXX.out] at gx
        clear hc
        go_wp2
        clear gx hb
        refine seg_grow ⟨⟨_, HS.out⟩, rfl⟩ ?_
        refine U_heads [10] (by kernel_rfl) ⟨⟨_, HS.out⟩, rfl⟩ ?_
        simp only [pickL, List.getElem?_cons_succ, List.getElem?_cons_zero]
        repeat (go_big_quiet_step (fail))
        refine wpQuiet_nil ?_
        refine U_two 17 21 (by kernel_rfl) ?_ ?_
        · simp only [pickL, List.getElem?_cons_succ, List.getElem?_cons_zero]
          obtain ⟨_, _, e, hb, hc⟩ := HRt.out.get (by rw [fnL_len]; omega)
          cases e
          have gx := hc j (by rw [fnL_len]; exact hj)
          rw [fnL_at _ hj, ← HTT.out] at gx
          clear hc
          go_wp2
          clear gx hb
          refine seg_grow ⟨⟨_, HS.out⟩, rfl⟩ ?_
          refine U_heads [18] (by kernel_rfl) ⟨⟨_, HS.out⟩, rfl⟩ ?_
          simp only [pickL, List.getElem?_cons_succ, List.getElem?_cons_zero]
          repeat (go_big_quiet_step (fail))
          refine wpQuiet_nil ?_
          refine U_one 21 (by kernel_rfl) ?_
          simp only [pickL, List.getElem?_cons_succ, List.getElem?_cons_zero]
          go_wp2_with fail
          refine (HTK.out _ (btr HBC.out HS.out)).mono ?_
          rintro e w31 ⟨rfl, hB⟩
          replace HRb := Lib.hid (HRb.out.mono (hB : Below _ _ w31))
          replace HRt := Lib.hid (HRt.out.mono (hB : Below _ _ w31))
          replace HRu := Lib.hid (HRu.out.mono (hB : Below _ _ w31))
          replace HS := Lib.hid (btr HS.out (hB : Below _ _ w31))
          clear hB
          go_wp2
          refine seg_grow ⟨⟨_, HS.out⟩, rfl⟩ ?_
          refine U_heads [22, 23] (by kernel_rfl) ⟨⟨_, HS.out⟩, rfl⟩ ?_
          simp only [pickL, List.getElem?_cons_succ, List.getElem?_cons_zero]
          repeat (go_big_quiet_step (fail))
          refine wpQuiet_nil ?_
          refine U_done (by kernel_rfl) ?_
          clear hL k1 k2 z1 z2
          go_wp2_with fail
          go_ret
          exact ⟨ret_bool HE.out.symm, btr HBC.out HS.out⟩
        · simp only [pickL, List.getElem?_cons_succ, List.getElem?_cons_zero]
          go_wp2_with fail
          refine (HTK.out _ (btr HBC.out HS.out)).mono ?_
          rintro e w32 ⟨rfl, hB⟩
          replace HRb := Lib.hid (HRb.out.mono (hB : Below _ _ w32))
          replace HRt := Lib.hid (HRt.out.mono (hB : Below _ _ w32))
          replace HRu := Lib.hid (HRu.out.mono (hB : Below _ _ w32))
          replace HS := Lib.hid (btr HS.out (hB : Below _ _ w32))
          clear hB
          go_wp2
          refine seg_grow ⟨⟨_, HS.out⟩, rfl⟩ ?_
          refine U_one 17 (by kernel_rfl) ?_
          simp only [pickL, List.getElem?_cons_succ, List.getElem?_cons_zero]
          obtain ⟨_, _, e, hb, hc⟩ := HRt.out.get (by rw [fnL_len]; omega)
          cases e
          have gx := hc j (by rw [fnL_len]; exact hj)
          rw [fnL_at _ hj, ← HTT.out] at gx
          clear hc
          go_wp2
          clear gx hb
          refine seg_grow ⟨⟨_, HS.out⟩, rfl⟩ ?_
          refine U_heads [18, 22, 23] (by kernel_rfl) ⟨⟨_, HS.out⟩, rfl⟩ ?_
          simp only [pickL, List.getElem?_cons_succ, List.getElem?_cons_zero]
          repeat (go_big_quiet_step (fail))
          refine wpQuiet_nil ?_
          refine U_done (by kernel_rfl) ?_
          clear hL k1 k2 z1 z2
          go_wp2_with fail
          go_ret
          exact ⟨ret_bool HE.out.symm, btr HBC.out HS.out⟩
      · simp only [pickL, List.getElem?_cons_succ, List.getElem?_cons_zero]
        obtain ⟨_, _, e, hb, hc⟩ := HRt.out.get (by rw [fnL_len]; omega)
        cases e
        have gx := hc j (by rw [fnL_len]; exact hj)
        rw [fnL_at _ hj, ← HTT.out] at gx
        clear hc
        go_wp2
        clear gx hb
        refine seg_grow ⟨⟨_, HS.out⟩, rfl⟩ ?_
        refine U_two 5 21 (by kernel_rfl) ?_ ?_
        · simp only [pickL, List.getElem?_cons_succ, List.getElem?_cons_zero]
          obtain ⟨_, _, e, hb, hc⟩ := HRb.out.get (by rw [fnL_len]; omega)
          cases e
          have gx := hc j (by rw [fnL_len]; exact hj)
          rw [fnL_at _ hj, ← HXX.out] at gx
          clear hc
          go_wp2
          clear gx hb
          refine seg_grow ⟨⟨_, HS.out⟩, rfl⟩ ?_
          refine U_heads [10, 18] (by kernel_rfl) ⟨⟨_, HS.out⟩, rfl⟩ ?_
          simp only [pickL, List.getElem?_cons_succ, List.getElem?_cons_zero]
          repeat (go_big_quiet_step (fail))
          refine wpQuiet_nil ?_
          refine U_one 21 (by kernel_rfl) ?_
          simp only [pickL, List.getElem?_cons_succ, List.getElem?_cons_zero]
          go_wp2_with fail
          refine (HTK.out _ (btr HBC.out HS.out)).mono ?_
          rintro e w33 ⟨rfl, hB⟩
          replace HRb := Lib.hid (HRb.out.mono (hB : Below _ _ w33))
          replace HRt := Lib.hid (HRt.out.mono (hB : Below _ _ w33))
          replace HRu := Lib.hid (HRu.out.mono (hB : Below _ _ w33))
          replace HS := Lib.hid (btr HS.out (hB : Below _ _ w33))
          clear hB
          go_wp2
          refine seg_grow ⟨⟨_, HS.out⟩, rfl⟩ ?_
          refine U_heads [22, 23] (by kernel_rfl) ⟨⟨_, HS.out⟩, rfl⟩ ?_
          simp only [pickL, List.getElem?_cons_succ, List.getElem?_cons_zero]
          repeat (go_big_quiet_step (fail))
          refine wpQuiet_nil ?_
          refine U_done (by kernel_rfl) ?_
          clear hL k1 k2 z1 z2
          go_wp2_with fail
          go_ret
          exact ⟨ret_bool HE.out.symm, btr HBC.out HS.out⟩
        · simp only [pickL, List.getElem?_cons_succ, List.getElem?_cons_zero]
          go_wp2_with fail
          refine (HTK.out _ (btr HBC.out HS.out)).mono ?_
          rintro e w34 ⟨rfl, hB⟩
          replace HRb := Lib.hid (HRb.out.mono (hB : Below _ _ w34))
          replace HRt := Lib.hid (HRt.out.mono (hB : Below _ _ w34))
          replace HRu := Lib.hid (HRu.out.mono (hB : Below _ _ w34))
          replace HS := Lib.hid (btr HS.out (hB : Below _ _ w34))
          clear hB
          go_wp2
          refine seg_grow ⟨⟨_, HS.out⟩, rfl⟩ ?_
          refine U_one 5 (by kernel_rfl) ?_
          simp only [pickL, List.getElem?_cons_succ, List.getElem?_cons_zero]
          obtain ⟨_, _, e, hb, hc⟩ := HRb.out.get (by rw [fnL_len]; omega)
          cases e
          have gx := hc j (by rw [fnL_len]; exact hj)
          rw [fnL_at _ hj, ← HXX.out] at gx
          clear hc
          go_wp2
          clear gx hb
          refine seg_grow ⟨⟨_, HS.out⟩, rfl⟩ ?_
          refine U_heads [10, 18, 22, 23] (by kernel_rfl) ⟨⟨_, HS.out⟩, rfl⟩ ?_
          simp only [pickL, List.getElem?_cons_succ, List.getElem?_cons_zero]
          repeat (go_big_quiet_step (fail))
          refine wpQuiet_nil ?_
          refine U_done (by kernel_rfl) ?_
          clear hL k1 k2 z1 z2
          go_wp2_with fail
          go_ret
          exact ⟨ret_bool HE.out.symm, btr HBC.out HS.out⟩
      · simp only [pickL, List.getElem?_cons_succ, List.getElem?_cons_zero]
        go_wp2_with fail
        refine (HTK.out _ (btr HBC.out HS.out)).mono ?_
        rintro e w35 ⟨rfl, hB⟩
        replace HRb := Lib.hid (HRb.out.mono (hB : Below _ _ w35))
        replace HRt := Lib.hid (HRt.out.mono (hB : Below _ _ w35))
        replace HRu := Lib.hid (HRu.out.mono (hB : Below _ _ w35))
        replace HS := Lib.hid (btr HS.out (hB : Below _ _ w35))
        clear hB
        go_wp2
        refine seg_grow ⟨⟨_, HS.out⟩, rfl⟩ ?_
        refine U_two 5 17 (by kernel_rfl) ?_ ?_
        · simp only [pickL, List.getElem?_cons_succ, List.getElem?_cons_zero]
          obtain ⟨_, _, e, hb, hc⟩ := HRb.out.get (by rw [fnL_len]; omega)
          cases e
          have gx := hc j (by rw [fnL_len]; exact hj)
          rw [fnL_at _ hj, ← HXX.out] at gx
          clear hc
          go_wp2
          clear gx hb
          refine seg_grow ⟨⟨_, HS.out⟩, rfl⟩ ?_
          refine U_heads [10] (by kernel_rfl) ⟨⟨_, HS.out⟩, rfl⟩ ?_
          simp only [pickL, List.getElem?_cons_succ, List.getElem?_cons_zero]
          repeat (go_big_quiet_step (fail))
          refine wpQuiet_nil ?_
          refine U_one 17 (by kernel_rfl) ?_
          simp only [pickL, List.getElem?_cons_succ, List.getElem?_cons_zero]
          obtain ⟨_, _, e, hb, hc⟩ := HRt.out.get (by rw [fnL_len]; omega)
          cases e
          have gx := hc j (by rw [fnL_len]; exact hj)
          rw [fnL_at _ hj, ← HTT.out] at gx
          clear hc
          go_wp2
          clear gx hb
          refine seg_grow ⟨⟨_, HS.out⟩, rfl⟩ ?_
          refine U_heads [18, 22, 23] (by kernel_rfl) ⟨⟨_, HS.out⟩, rfl⟩ ?_
          simp only [pickL, List.getElem?_cons_succ, List.getElem?_cons_zero]
          repeat (go_big_quiet_step (fail))
          refine wpQuiet_nil ?_
          refine U_done (by kernel_rfl) ?_
          clear hL k1 k2 z1 z2
          go_wp2_with fail
          go_ret
          exact ⟨ret_bool HE.out.symm, btr HBC.out HS.out⟩
        · simp only [pickL, List.getElem?_cons_succ, List.getElem?_cons_zero]
          obtain ⟨_, _, e, hb, hc⟩ := HRt.out.get (by rw [fnL_len]; omega)
          cases e
          have gx := hc j (by rw [fnL_len]; exact hj)
          rw [fnL_at _ hj, ← HTT.out] at gx
          clear hc
          go_wp2
          clear gx hb
          refine seg_grow ⟨⟨_, HS.out⟩, rfl⟩ ?_
          refine U_one 5 (by kernel_rfl) ?_
          simp only [pickL, List.getElem?_cons_succ, List.getElem?_cons_zero]
          obtain ⟨_, _, e, hb, hc⟩ := HRb.out.get (by rw [fnL_len]; omega)
          cases e
          have gx := hc j (by rw [fnL_len]; exact hj)
          rw [fnL_at _ hj, ← HXX.out] at gx
          clear hc
          go_wp2
          clear gx hb
          refine seg_grow ⟨⟨_, HS.out⟩, rfl⟩ ?_
          refine U_heads [10, 18, 22, 23] (by kernel_rfl) ⟨⟨_, HS.out⟩, rfl⟩ ?_
          simp only [pickL, List.getElem?_cons_succ, List.getElem?_cons_zero]
          repeat (go_big_quiet_step (fail))
          refine wpQuiet_nil ?_
          refine U_done (by kernel_rfl) ?_
          clear hL k1 k2 z1 z2
          go_wp2_with fail
          go_ret
          exact ⟨ret_bool HE.out.symm, btr HBC.out HS.out⟩
end Go.Proofs.YteknehlkdgamjaaGreat

namespace Go.Proofs.YteknehlkdgamjaaGreat
open Go.RowKit Go.Shelf

theorem i64_and (a b : Nat) (ha : a < 4096) (hb : b < 4096) : bits .and .i64 (a : Int) (b : Int) = ((a &&& b : Nat) : Int) := by
  have key : (BitVec.ofInt 64 (a : Int) &&& BitVec.ofInt 64 (b : Int)).toNat = a &&& b := by
    rw [BitVec.toNat_and, BitVec.toNat_ofInt, BitVec.toNat_ofInt]
    congr 1 <;> omega
  have hlt : a &&& b < 2 ^ 12 := Nat.lt_of_le_of_lt Nat.and_le_left ha
  show IntKind.i64.wrap ((BitVec.ofInt 64 (a : Int) &&& BitVec.ofInt 64 (b : Int)).toNat : Nat) = ((a &&& b : Nat) : Int)
  rw [key, IntKind.wrap_i64]
  omega
/-- The bits of the first k numbers of a list. -/
def setTo (l : List Int) (k : Nat) : Nat := mskN (fun q => (l.take k).contains (q : Int)) 12
theorem setTo_lt (l : List Int) (k : Nat) : setTo l k < 4096 := mskN_lt _ 12
theorem setTo_zero (l : List Int) : setTo l 0 = 0 := by
  refine Nat.eq_of_testBit_eq fun q => ?_
  unfold setTo
  rw [mskN_bit, List.take_zero]
  simp
theorem setTo_succ {l : List Int} {k p : Nat} (hk : k < l.length) (hp : elt l k = (p : Int)) (hp12 : p < 12) : setTo l (k + 1) = setTo l k ||| 2 ^ p := by
  refine Nat.eq_of_testBit_eq fun q => ?_
  unfold setTo
  rw [Nat.testBit_or, mskN_bit, mskN_bit, take_has _ hk, hp, Nat.testBit_two_pow]
  by_cases e : p = q
  · subst e; simp [hp12]
  · have h1 : ((p : Int) == (q : Int)) = false := by simp; omega
    rw [h1, Bool.or_false, decide_eq_false e, Bool.or_false]
theorem setTo_bit {l : List Int} {q : Nat} (hq : q < 12) : (setTo l l.length).testBit q = l.contains (q : Int) := by
  unfold setTo
  rw [mskN_bit, List.take_length, decide_eq_true hq, Bool.true_and]
set_option maxRecDepth 100000 in
set_option maxHeartbeats 800000 in
theorem rbits_any (x : Value) (l : List Int) (w : World) (hx0 : RdI w .i64 x l) (hl : l.length ≤ 1000) (hv : ∀ i, i < l.length → 0 ≤ elt l i ∧ elt l i < 12) :
    Calls Tryz.prog 84 #[x] w fun e w' => e = .returned (.int .i64 (setTo l l.length : Nat)) ∧ w' = w := by
  have HX := Lib.hid hx0; have HV := Lib.hid hv
  have HLT := Lib.hid (setTo_lt l); have H0 := Lib.hid (setTo_zero l)
  have HSU := Lib.hid (fun k p (hk : k < l.length) => setTo_succ (l := l) (k := k) (p := p) hk)
  obtain ⟨a, c, rfl, _⟩ := hx0.form
  clear hx0 hv
  go_enter Tryz.func84, Tryz.ntmps84
  go_wp2_with fail
  go_loopw [3, 4] (fun s3 s4 wr => ∃ k : Nat, k ≤ l.length ∧ s4 = .int .i64 k ∧ s3 = .int .i64 (setTo l k : Nat) ∧ wr = w) (fun _ s4 _ => l.length - (intOf s4).toNat)
  case atStart => exact ⟨0, Nat.zero_le _, rfl, by rw [H0.out]; rfl, rfl⟩
  case round =>
    obtain ⟨k, hk, rfl, rfl, hw⟩ := hrel
    subst hw
    by_cases hlt : k < l.length
    · obtain ⟨b, o, e, hb, hc⟩ := HX.out.get (by omega)
      subst e
      have gx := hc k hlt
      obtain ⟨v1, v2⟩ := HV.out k hlt
      obtain ⟨p, hp⟩ := Int.eq_ofNat_of_zero_le v1
      have hp12 : p < 12 := by omega
      have HST := Lib.hid (HSU.out k p hlt hp hp12)
      obtain ⟨hm1, hm2⟩ := pow_bd hp12
      have s4 := HLT.out k
      rw [hp] at gx
      clear hc v1 v2 hp
      generalize 2 ^ p = mi at *
      have hor := i64_or (setTo l k) mi s4 hm1
      generalize setTo l k = sk at *
      clear s4 hm1
      go_wp2_with fail
      go_roundw
      case rel => exact ⟨k + 1, by omega, by go_num, by rw [HST.out], trivial⟩
      case measure => simp [intOf]; omega
    · have hke : k = l.length := by omega
      subst hke
      go_wp2_with fail
      go_ret
      exact ⟨rfl, rfl⟩
/-- No job of a set comes behind another one of it, by bits. -/
def arf (J : List Job) (S k : Nat) : Bool := (List.range k).all fun i => !(S.testBit i && (nel (aftM J) i &&& S != 0))
theorem arf_succ (J : List Job) (S k : Nat) : arf J S (k + 1) = (arf J S k && !(S.testBit k && (nel (aftM J) k &&& S != 0))) := by unfold arf; rw [List.range_succ, List.all_append]; simp
theorem arf_false {J : List Job} {S k m : Nat} (h : arf J S k = false) (hkm : k ≤ m) : arf J S m = false := by
  induction hkm with
  | refl => exact h
  | step _ ih => rw [arf_succ, ih]; rfl
theorem and_zero (a b : Nat) : (a &&& b != 0) = true ↔ ∃ q, a.testBit q = true ∧ b.testBit q = true := by
  rw [bne_iff_ne]
  constructor
  · intro h
    refine Classical.byContradiction fun hc => h (Nat.eq_of_testBit_eq fun q => ?_)
    rw [Nat.testBit_and, Nat.zero_testBit]
    cases ha : a.testBit q with
    | false => rfl
    | true =>
      cases hb : b.testBit q with
      | false => rfl
      | true => exact absurd ⟨q, ha, hb⟩ hc
  · rintro ⟨q, h1, h2⟩ h
    have : (a &&& b).testBit q = true := by rw [Nat.testBit_and, h1, h2]; rfl
    rw [h, Nat.zero_testBit] at this; cases this
theorem arf_tied {J : List Job} (hJ : FineJ J) {l : List Int} (hl : LisTo l J.length l.length) : arf J (setTo l l.length) J.length = !tiedTo J l l.length := by
  have h12 := hJ.n12
  have hbit : ∀ q, q < J.length → ((setTo l l.length).testBit q = true ↔ ∃ i, i < l.length ∧ elt l i = (q : Int)) := fun q hq => by
    rw [setTo_bit (by omega), List.contains_iff_mem]
    constructor
    · intro h
      obtain ⟨i, hi, e⟩ := List.getElem_of_mem h
      exact ⟨i, hi, by rw [elt_lt hi, e]⟩
    · rintro ⟨i, hi, e⟩
      rw [← e]; exact elt_mem hi
  rw [Bool.eq_iff_iff, Bool.not_eq_true']
  unfold arf tiedTo
  rw [List.all_eq_true, List.any_eq_false]
  constructor
  · intro h i hi hp
    have hil := List.mem_range.1 hi
    unfold pairTo at hp
    rw [List.any_eq_true] at hp
    obtain ⟨k, hk, ha⟩ := hp
    have hkl := List.mem_range.1 hk
    obtain ⟨a1, a2, _⟩ := hl i hil
    obtain ⟨b1, b2, _⟩ := hl k hkl
    have h1 := h (elt l i).toNat (List.mem_range.2 (by omega))
    have hb1 := (hbit (elt l i).toNat (by omega)).2 ⟨i, hil, by omega⟩
    have hb2 := (hbit (elt l k).toNat (by omega)).2 ⟨k, hkl, by omega⟩
    rw [hb1, Bool.true_and] at h1
    have h2 := (and_zero (nel (aftM J) (elt l i).toNat) (setTo l l.length)).2 ⟨(elt l k).toNat, by rw [aftM_bit (by omega) (by omega)]; exact ha, hb2⟩
    rw [h2] at h1; cases h1
  · intro h q hq
    have hqn := List.mem_range.1 hq
    cases hb : (setTo l l.length).testBit q with
    | false => rfl
    | true =>
      cases hz : (nel (aftM J) q &&& setTo l l.length != 0) with
      | false => rfl
      | true =>
        exfalso
        obtain ⟨r, h1, h2⟩ := (and_zero _ _).1 hz
        obtain ⟨i, hi, e⟩ := (hbit q hqn).1 hb
        have hrn : r < J.length := by
          refine Classical.byContradiction fun hc => ?_
          rw [aftM_at hqn, mskN_bit, decide_eq_false hc] at h1; cases h1
        obtain ⟨k, hk, e2⟩ := (hbit r hrn).1 h2
        refine h i (List.mem_range.2 hi) ?_
        unfold pairTo
        rw [List.any_eq_true]
        refine ⟨k, List.mem_range.2 hk, ?_⟩
        rw [e, e2, Int.toNat_natCast, Int.toNat_natCast, ← aftM_bit hqn hrn]
        exact h1
set_option maxRecDepth 100000 in
set_option maxHeartbeats 1600000 in
theorem rarefree_any (x : Value) (J : List Job) (S : Nat) (w : World) (hx0 : RdI w .i64 x (nlI (aftM J))) (hJ : FineJ J) (hS : S < 4096) :
    Calls Tryz.prog 82 #[x, .int .i64 (S : Nat)] w fun e w' => e = .returned (.bool (arf J S J.length)) ∧ w' = w := by
  have HX := Lib.hid hx0
  have h12 := hJ.n12
  have HEL := Lib.hid (nlI_elt (aftM J))
  have HLN : Hid ((nlI (aftM J)).length = J.length) := Lib.hid (by rw [nlI_len, aftM_len])
  have HSU := Lib.hid (arf_succ J S); have HFA := Lib.hid (fun k m => arf_false (J := J) (S := S) (k := k) (m := m)); have H0 := Lib.hid (show arf J S 0 = true from rfl)
  have HBD := Lib.hid (fun i (hi : i < J.length) => show nel (aftM J) i < 4096 from by rw [aftM_at hi]; exact Nat.lt_of_lt_of_le (mskN_lt _ _) (Nat.pow_le_pow_right (by omega) h12))
  obtain ⟨a, c, rfl, _⟩ := hx0.form
  clear hx0 hJ
  rw [HLN.out] at HX ⊢
  generalize nlI (aftM J) = L at *
  generalize nel (aftM J) = ne at *
  obtain ⟨n, hn⟩ : ∃ n, n = J.length := ⟨_, rfl⟩
  rw [← hn] at HX HLN HBD h12 ⊢
  clear hn
  have hn1000 : n ≤ 1000 := by omega
  go_enter Tryz.func82, Tryz.ntmps82
  go_wp2_with fail
  go_loopw [5] (fun s5 wr => ∃ i : Nat, i ≤ n ∧ s5 = .int .i64 i ∧ arf J S i = true ∧ wr = w) (fun s5 _ => n - (intOf s5).toNat)
  case atStart => exact ⟨0, Nat.zero_le _, rfl, H0.out, rfl⟩
  case round =>
    obtain ⟨i, hi, rfl, ht, hw⟩ := hrel
    subst hw
    have HT := Lib.hid ht
    clear ht
    by_cases hlt : i < n
    · obtain ⟨b, o, e, hb, hc⟩ := HX.out.get (by rw [HLN.out]; omega)
      subst e
      have gx := hc i (by rw [HLN.out]; exact hlt)
      rw [HEL.out] at gx
      have hbit := i64_and1 ((S : Int) / 2 ^ i)
      rw [shr_bit] at hbit
      have hand := i64_and (ne i) S (HBD.out i hlt) hS
      have HSI := HSU.out i
      rw [HT.out, Bool.true_and] at HSI
      have HFI := Lib.hid (fun h => HFA.out (i + 1) n h hlt)
      clear hc
      obtain ⟨z, hz⟩ : ∃ z, z = ne i &&& S := ⟨_, rfl⟩
      rw [← hz] at hand HSI
      have HZD := Lib.hid hz
      clear hz
      generalize ne i = s at *
      cases hb1 : S.testBit i with
      | false =>
        rw [hb1] at hbit HSI
        simp only [Bool.false_eq_true, if_false] at hbit
        have HG := Lib.hid (show arf J S (i + 1) = true by rw [HSI]; rfl)
        clear hb1 HSI hand
        go_wp2_with fail
        go_roundw
        case rel => exact ⟨i + 1, by omega, by go_num, HG.out, trivial⟩
        case measure => simp [intOf]; omega
      | true =>
        rw [hb1] at hbit HSI
        simp only [if_true] at hbit
        cases hzz : (z != 0) with
        | false =>
          rw [hzz] at HSI
          have HG := Lib.hid (show arf J S (i + 1) = true by rw [HSI]; rfl)
          have d1 : ((z : Int) != 0) = false := by simp at hzz ⊢; exact hzz
          clear hb1 HSI
          go_wp2_with fail
          go_roundw
          case rel => exact ⟨i + 1, by omega, by go_num, HG.out, trivial⟩
          case measure => simp [intOf]; omega
        | true =>
          rw [hzz] at HSI
          have HG := Lib.hid (HFI.out (by rw [HSI]; rfl))
          have d1 : ((z : Int) != 0) = true := by simp at hzz ⊢; exact hzz
          clear hb1 HSI
          go_wp2_with fail
          go_ret
          exact ⟨ret_bool HG.out.symm, rfl⟩
    · have hie : i = n := by omega
      rw [hie] at HT
      clear hie
      go_wp2_with fail
      go_ret
      exact ⟨ret_bool HT.out.symm, rfl⟩
end Go.Proofs.YteknehlkdgamjaaGreat

namespace Go.Proofs.YteknehlkdgamjaaGreat
open Go.RowKit Go.Shelf

set_option maxRecDepth 100000 in
set_option maxHeartbeats 1600000 in
theorem rcheckfree_any (v x : Value) (J : List Job) (l : List Int) (w : World) (hx0 : RdJ w v J) (hy0 : RdI w .i64 x l) (hl : l.length ≤ 1000) (hs : SmJ J) :
    Calls Tryz.prog 47 #[.agg #[v], x] w (RetN w (freeV J l) (freeC J l)) := by
  have HER := Lib.hid (fun wz (h : Below w.heap.size w wz) => error_any v J wz (hx0.mono h) hs)
  have HIS := Lib.hid (fun wz (h : Below w.heap.size w wz) => islist_any x l J.length wz (hy0.mono h) hl)
  have HAF := Lib.hid (fun wz (h : Below w.heap.size w wz) (hq : errC J = 0) => after_any v J wz (hx0.mono h) (fine_err hq).1)
  have HBI := Lib.hid (fun wz (h : Below w.heap.size w wz) (hq : errC J = 0) (h2 : lisB l J.length = true) => rbits_any x l wz (hy0.mono h) hl (fun i hi => by
    have h3 := (lisB_iff l J.length).1 h2 i hi; have := (fine_err hq).1.n12; omega))
  have HAR := Lib.hid (fun y S wz (hq : errC J = 0) (h1 : RdI wz .i64 y (nlI (aftM J))) (h2 : S < 4096) => rarefree_any y J S wz h1 (fine_err hq).1 h2)
  have HTI := Lib.hid (fun (hq : errC J = 0) (h2 : lisB l J.length = true) => arf_tied (fine_err hq).1 ((lisB_iff l J.length).1 h2))
  have HC := Lib.hid (show freeC J l = if errC J = 0 then (if lisB l J.length then (if tiedTo J l l.length then 16 else 0) else 3) else errC J from rfl)
  have HV := Lib.hid (show freeV J l = if freeC J l = 0 then (l.length : Int) else 0 from rfl)
  have HSL := Lib.hid (setTo_lt l l.length)
  obtain ⟨a, c, rfl⟩ := hx0.sl
  obtain ⟨ax, cx, rfl, _⟩ := hy0.form
  clear hx0 hy0 hs
  obtain ⟨n, hn⟩ : ∃ n, n = J.length := ⟨_, rfl⟩
  rw [← hn] at HER HIS HAF HBI HAR HTI HC ⊢
  clear hn
  have HB0 := Lib.hid (bal (bz w) (.cells #[.slice a n c] 24))
  have gq : (w.alloc (.cells #[.slice a n c] 24)).cell? ⟨w.heap.size, 0, none⟩ = some (.slice a n c) := cnew rfl rfl
  have zq : w.heap.size < (w.alloc (.cells #[.slice a n c] 24)).heap.size := by simp
  unfold RetN
  generalize freeC J l = C at *
  generalize freeV J l = V at *
  generalize errC J = q at *
  generalize setTo l l.length = S at *
  generalize tiedTo J l l.length = td at *
  generalize lisB l n = lb at *
  go_enter Tryz.func47, Tryz.ntmps47
  go_wp2_with fail
  generalize w.alloc (.cells #[.slice a n c] 24) = w1 at *
  refine (HER.out _ HB0.out).mono ?_
  rintro e w2 ⟨rfl, hB⟩
  have HB2 := Lib.hid (btr HB0.out hB)
  have g2 := (hB.cell (p := ⟨w.heap.size, 0, none⟩) zq).trans gq
  have z2 := Nat.lt_of_lt_of_le zq hB.size
  clear hB gq zq
  by_cases hq : q = 0
  · have HCE := HC.out
    rw [if_pos hq] at HCE
    have HCE := Lib.hid HCE
    have HAF2 := Lib.hid (fun wz h => HAF.out wz h hq); have HBI2 := Lib.hid (fun wz h => HBI.out wz h hq); have HAR2 := Lib.hid (fun y S wz => HAR.out y S wz hq); have HTI2 := Lib.hid (HTI.out hq)
    clear HC HAF HBI HAR HTI
    subst hq
    go_wp2_with fail
    refine (HIS.out _ HB2.out).mono ?_
    rintro e w3 ⟨rfl, hB⟩
    have HB3 := Lib.hid (btr HB2.out hB)
    have g3 := (hB.cell (p := ⟨w.heap.size, 0, none⟩) z2).trans g2
    have z3 := Nat.lt_of_lt_of_le z2 hB.size
    clear hB g2 z2
    cases lb with
    | false =>
      have HC3 := Lib.hid (show C = 3 by rw [HCE.out]; rfl)
      have HVV := Lib.hid (show V = 0 by rw [HV.out, if_neg (by rw [HC3.out]; decide)])
      go_wp2_with fail
      go_ret2
      exact ⟨by rw [HVV.out, HC3.out]; rfl, HB3.out⟩
    | true =>
      have HC3 := Lib.hid (show C = if td then 16 else 0 by rw [HCE.out]; rfl)
      have HTI3 := Lib.hid (HTI2.out (by first | trivial | rfl))
      have HBI3 := Lib.hid (fun wz h => HBI2.out wz h (by first | trivial | rfl))
      go_wp2_with fail
      refine (HAF2.out _ HB3.out).mono ?_
      rintro e w4 ⟨u, rfl, hr, hB⟩
      have HB4 := Lib.hid (btr HB3.out hB)
      obtain ⟨au, cu, hu⟩ := owns_form hr
      subst hu
      have HR := Lib.hid (show RdI w4 .i64 _ (nlI (aftM J)) from RdI.of_owns hr)
      clear hB hr g3 z3
      go_wp2_with fail
      refine (HBI3.out _ HB4.out).mono ?_
      rintro e w5 ⟨rfl, hw⟩
      subst hw
      go_wp2_with fail
      refine (HAR2.out _ S _ HR.out HSL.out).mono ?_
      rintro e w6 ⟨rfl, hw⟩
      subst hw
      rw [HTI3.out]
      cases td with
      | true =>
        have HC4 := Lib.hid (show C = 16 by rw [HC3.out]; rfl)
        have HVV := Lib.hid (show V = 0 by rw [HV.out, if_neg (by rw [HC4.out]; decide)])
        go_wp2_with fail
        go_ret2
        exact ⟨by rw [HVV.out, HC4.out]; rfl, HB4.out⟩
      | false =>
        have HC4 := Lib.hid (show C = 0 by rw [HC3.out]; rfl)
        have HVV := Lib.hid (show V = l.length by rw [HV.out, if_pos HC4.out])
        go_wp2_with fail
        go_ret2
        exact ⟨by rw [HVV.out, HC4.out]; rfl, HB4.out⟩
  · have t1 : (q != 0) = true := by simp [hq]
    have HCE := HC.out
    rw [if_neg hq] at HCE
    have HCE := Lib.hid HCE
    have HVV := Lib.hid (show V = 0 by rw [HV.out, if_neg (by rw [HCE.out]; exact hq)])
    clear HC HAF HBI HAR HTI hq
    go_wp2_with fail
    refine (HER.out _ HB2.out).mono ?_
    rintro e w3 ⟨rfl, hB⟩
    have HB3 := Lib.hid (btr HB2.out hB)
    clear hB
    go_wp2_with fail
    go_ret2
    exact ⟨by rw [HVV.out, HCE.out]; rfl, HB3.out⟩
end Go.Proofs.YteknehlkdgamjaaGreat

namespace Go.Proofs.YteknehlkdgamjaaGreat
open Go.RowKit Go.Shelf

set_option maxRecDepth 100000 in
set_option maxHeartbeats 6400000 in
theorem rcheckchain_any (v x : Value) (J : List Job) (l : List Int) (w : World) (hx0 : RdJ w v J) (hy0 : RdI w .i64 x l) (hl : l.length ≤ 1000) (hs : SmJ J) :
    Calls Tryz.prog 24 #[.agg #[v], x] w (RetP w (chainV J l) (chainC J l)) := by
  have HER := Lib.hid (fun wz (h : Below w.heap.size w wz) => error_any v J wz (hx0.mono h) hs)
  have HIS := Lib.hid (fun wz (h : Below w.heap.size w wz) => isjobs_any v x J l wz (hx0.mono h) (hy0.mono h) hl hs)
  have HDY := Lib.hid (fun high wz (h : Below w.heap.size w wz) => rdays_any v J high wz (hx0.mono h) (by have := hs.1; omega))
  have HSM := Lib.hid (fun high y wz (h : Below w.heap.size w wz) (hq : errC J = 0) (hj : isJ J.length l = true) (hr : RdI wz .i64 y (fnL (dayD J high) J.length)) => rsum_any x y l J.length (dayD J high) wz (hy0.mono h) hl ((isJ_iff _ _).1 hj) hr (fun i hi => dayD_bd (fine_err hq).1 high hi))
  have HJI := Lib.hid (isJ_iff J.length l)
  have HX := Lib.hid hx0; have HY := Lib.hid hy0
  have HC := Lib.hid (show chainC J l = if errC J = 0 then (if l.length = 0 then 6 else if isJ J.length l then (if chTo J l l.length then 0 else 16) else 3) else errC J from rfl)
  have HV := Lib.hid (show chainV J l = if chainC J l = 0 then (sumTo (loD J) l l.length, sumTo (hiD J) l l.length) else (0, 0) from rfl)
  have HSU := Lib.hid (chTo_succ J l); have HFA := Lib.hid (fun k m => chTo_false (J := J) (l := l) (k := k) (m := m))
  have HST := Lib.hid (fun i => show stepOk J l i = (i == 0 || (job J (elt l i).toNat).ws.contains (elt l (i - 1))) from rfl)
  have H01 := Lib.hid (show chTo J l 1 = true from rfl)
  have HWL := Lib.hid (fun i => hs.2 i)
  have HX1 := Lib.hid (show dayD J false = loD J from rfl); have HX2 := Lib.hid (show dayD J true = hiD J from rfl)
  have hsn := hs.1
  obtain ⟨a, c, rfl⟩ := hx0.sl
  obtain ⟨ax, cx, rfl, _⟩ := hy0.form
  clear hx0 hy0 hs
  obtain ⟨n, hn⟩ : ∃ n, n = J.length := ⟨_, rfl⟩
  have HN := Lib.hid hn
  rw [← hn] at HER HIS HDY HSM HJI HC hsn ⊢
  clear hn
  unfold RetP
  generalize chainC J l = C at *
  generalize chainV J l = V at *
  generalize errC J = q at *
  go_enter Tryz.func24, Tryz.ntmps24
  go_upto_region 1 with fail
  have gq : ((w.alloc (.cells #[.slice a n c] 24)).alloc (.cells #[.int .i64 0, .int .i64 0] 32)).cell? ⟨w.heap.size, 0, none⟩ = some (.slice a n c) := cal _ (cnew rfl rfl)
  have hr1 : ((w.alloc (.cells #[.slice a n c] 24)).alloc (.cells #[.int .i64 0, .int .i64 0] 32)).heap[w.heap.size + 1]? = some (.cells #[.int .i64 0, .int .i64 0] 32 (0, 0)) := by
    have := heap_alloc_new (w.alloc (.cells #[.slice a n c] 24)) (.cells #[.int .i64 0, .int .i64 0] 32)
    rwa [World.size_alloc] at this
  have HB1 := Lib.hid (bal (bal (bz w) (.cells #[.slice a n c] 24)) (.cells #[.int .i64 0, .int .i64 0] 32))
  have zq : w.heap.size < ((w.alloc (.cells #[.slice a n c] 24)).alloc (.cells #[.int .i64 0, .int .i64 0] 32)).heap.size := by simp; omega
  generalize (w.alloc (.cells #[.slice a n c] 24)).alloc (.cells #[.int .i64 0, .int .i64 0] 32) = w1 at *
  have HRB := Lib.hid (fun (wz : World) (h : Below w1.heap.size w1 wz) => (h.block (w.heap.size + 1) (Array.getElem?_eq_some_iff.1 hr1).1).trans hr1)
  have HGQ := Lib.hid (fun (wz : World) (h : Below w1.heap.size w1 wz) => (⟨(h.cell (p := ⟨w.heap.size, 0, none⟩) zq).trans gq, Nat.lt_of_lt_of_le zq h.size⟩ : wz.cell? ⟨w.heap.size, 0, none⟩ = some (.slice a n c) ∧ w.heap.size < wz.heap.size))
  clear hr1
  go_wp2_with fail
  refine (HER.out _ HB1.out).mono ?_
  rintro e w2 ⟨rfl, hB⟩
  have HB2 := Lib.hid hB; have HW2 := Lib.hid (btr HB1.out hB)
  clear hB gq zq
  by_cases hq : q = 0
  · have HCE := HC.out
    rw [if_pos hq] at HCE
    have HCE := Lib.hid HCE
    have HSM2 := Lib.hid (fun high y wz h => HSM.out high y wz h hq)
    clear HC HSM
    subst hq
    by_cases h0 : l.length = 0
    · have t1 : ((l.length : Int) == 0) = true := by simp [h0]
      have t2 : (l.length == 0) = true := by simp [h0]
      have HC3 := Lib.hid (show C = 6 by rw [HCE.out, if_pos h0])
      have HVV := Lib.hid (show V = (0, 0) by rw [HV.out, if_neg (by rw [HC3.out]; decide)])
      have hz5 := HRB.out _ HB2.out
      obtain ⟨c0, c1, f0, f1⟩ := pair_cells hz5
      have hz6 := (Array.getElem?_eq_some_iff.1 hz5).1
      have HZ5 := Lib.hid hz5
      clear hz5 h0
      go_wp2_with fail
      exact bodyPost_ret (results_cell_tmp rfl rfl rfl (load_range (pair_set HZ5.out _ _))) rfl ⟨by rw [HVV.out, HC3.out]; rfl, pair_below HW2.out (by omega) _ _⟩
    · have t1 : ((l.length : Int) == 0) = false := by simp [h0]
      have t2 : (l.length == 0) = false := by simp [h0]
      have HCE2 := Lib.hid (show C = if isJ n l then (if chTo J l l.length then 0 else 16) else 3 by rw [HCE.out, if_neg h0])
      have hpos : 1 ≤ l.length := by omega
      obtain ⟨g2, z2⟩ := HGQ.out _ HB2.out
      clear h0 HCE
      go_wp2_with fail
      refine (HIS.out _ HW2.out).mono ?_
      rintro e w3 ⟨rfl, hB⟩
      have HB3 := Lib.hid (btr HB2.out hB); have HW3 := Lib.hid (btr HW2.out hB)
      clear hB g2 z2 t1 t2
      generalize hij : isJ n l = ij at *
      have HIJ := Lib.hid hij
      clear hij
      cases ij with
      | false =>
        have HC3 := Lib.hid (show C = 3 by rw [HCE2.out]; rfl)
        have HVV := Lib.hid (show V = (0, 0) by rw [HV.out, if_neg (by rw [HC3.out]; decide)])
        have hz5 := HRB.out _ HB3.out
        obtain ⟨c0, c1, f0, f1⟩ := pair_cells hz5
        have hz6 := (Array.getElem?_eq_some_iff.1 hz5).1
        have HZ5 := Lib.hid hz5
        clear hz5
        go_wp2_with fail
        exact bodyPost_ret (results_cell_tmp rfl rfl rfl (load_range (pair_set HZ5.out _ _))) rfl ⟨by rw [HVV.out, HC3.out]; rfl, pair_below HW3.out (by omega) _ _⟩
      | true =>
        have HC3 := Lib.hid (show C = if chTo J l l.length then 0 else 16 by rw [HCE2.out]; rfl)
        have HJV := Lib.hid (HJI.out.1 (by first | trivial | rfl))
        go_wp2_with fail
        go_loopw [6] (fun s6 wr => ∃ i : Nat, 1 ≤ i ∧ i ≤ l.length ∧ s6 = .int .i64 i ∧ chTo J l i = true ∧ Below w1.heap.size w1 wr) (fun s6 _ => l.length - (intOf s6).toNat)
        case atStart => exact ⟨1, Nat.le_refl _, hpos, rfl, H01.out, HB3.out⟩
        case round =>
          obtain ⟨i, hi1, hi, rfl, ht, hB⟩ := hrel
          rename World => wO
          have HT := Lib.hid ht; have HBO := Lib.hid hB; have HWO := Lib.hid (btr HB1.out hB)
          clear ht hB
          by_cases hlt : i < l.length
          · obtain ⟨x1, x2⟩ := HJV.out i hlt
            obtain ⟨p, hp⟩ := Int.eq_ofNat_of_zero_le x1
            have hpn : p < n := by omega
            obtain ⟨bx, ox, e, hbx, hcx⟩ := (HY.out.mono HWO.out).get (by omega)
            cases e
            have gx := hcx i hlt
            have gy := hcx (i - 1) (by omega)
            obtain ⟨b, o, a', c', e, hb, _, _, g3, hr⟩ := (HX.out.mono HWO.out).get p (by rw [← HN.out]; exact hpn)
            cases e
            obtain ⟨gq, zq⟩ := HGQ.out _ HBO.out
            have HSTP := Lib.hid (HST.out i)
            have HSUI := Lib.hid (HSU.out i)
            have hwl := HWL.out p
            rw [hp] at gx HSTP
            rw [Int.toNat_natCast] at HSTP
            have hi0 : (i == 0) = false := by simp; omega
            rw [hi0, Bool.false_or] at HSTP
            have HRR := Lib.hid hr
            have HFI := Lib.hid (fun h => HFA.out (i + 1) l.length h hlt)
            have hidx : (0 : Int) ≤ (i : Int) - 1 ∧ (i : Int) - 1 < l.length := by omega
            have hw1 : IntKind.i64.wrap ((i : Int) - 1) = ((i - 1 : Nat) : Int) := by rw [IntWalk.i64_in _ (by omega)]; omega
            clear hcx hr x1 x2 hp hi0
            generalize elt l (i - 1) = y at *
            generalize (job J p).ws = ws at *
            go_upto_region 10 with fail
            refine wp_region_flow [] [([0, 1, 2, 3, 4, 5, 6, 7, 8, 9, 10, 11, 12, 13], 14, true)] [15] (by kernel_rfl) (by kernel_rfl) ?_
            intro wc hBc hh
            clear hh
            have HBC := Lib.hid (btr HBO.out hBc)
            have hL := @Later.cell wc
            have k1 := (hBc.cell (p := ⟨bx, _, none⟩) hbx).trans gx
            have k2 := (hBc.cell (p := ⟨bx, _, none⟩) hbx).trans gy
            have k3 := (hBc.cell (p := ⟨b, _, none⟩) hb).trans g3
            have k4 := (hBc.cell (p := ⟨w.heap.size, 0, none⟩) zq).trans gq
            have z1 := Nat.lt_of_lt_of_le hbx hBc.size
            have z3 := Nat.lt_of_lt_of_le hb hBc.size
            have z4 := Nat.lt_of_lt_of_le zq hBc.size
            have HRC := Lib.hid (HRR.out.mono hBc)
            clear hBc gx gy g3 gq hbx hb zq
            simp only [flowP, flow, pickL, List.getElem?_cons_succ, List.getElem?_cons_zero]
            refine wpQuiet_nil ?_
            repeat (go_big_quiet_step (fail))
            refine wpQuiet_nil ?_
            clear k1 k2 k3 k4 z1 z3 z4
            go_wp2_with fail
            refine (has_any _ ws y wc HRC.out (by omega)).mono ?_
            rintro e w' ⟨rfl, hw⟩
            subst hw
            generalize hct : ws.contains y = ct
            have HCT := Lib.hid hct
            clear hct
            go_wp2
            refine seg_grow ⟨⟨_, bz _⟩, rfl⟩ ?_
            cases ct with
            | true =>
              have HS2 := Lib.hid (show chTo J l (i + 1) = true by rw [HSUI.out, HT.out, HSTP.out, HCT.out]; rfl)
              repeat (go_big_quiet_step (fail))
              refine wpQuiet_nil ?_
              refine only_done ?_
              clear hL
              go_wp2_with fail
              go_roundw
              case rel => exact ⟨i + 1, by omega, by omega, by go_num, HS2.out, HBC.out⟩
              case measure => simp [intOf]; omega
            | false =>
              have HCH := Lib.hid (HFI.out (by rw [HSUI.out, HSTP.out, HCT.out, Bool.and_false]))
              have HC4 := Lib.hid (show C = 16 by rw [HC3.out, HCH.out]; rfl)
              have HVV := Lib.hid (show V = (0, 0) by rw [HV.out, if_neg (by rw [HC4.out]; decide)])
              repeat (go_big_quiet_step (fail))
              refine wpQuiet_nil ?_
              refine only_done ?_
              clear hL
              have hz5 := HRB.out _ HBC.out
              obtain ⟨c0, c1, f0, f1⟩ := pair_cells hz5
              have hz6 := (Array.getElem?_eq_some_iff.1 hz5).1
              have HZ5 := Lib.hid hz5
              clear hz5
              go_wp2_with fail
              exact bodyPost_ret (results_cell_tmp rfl rfl rfl (load_range (pair_set HZ5.out _ _))) rfl ⟨by rw [HVV.out, HC4.out]; rfl, pair_below (btr HB1.out HBC.out) (by omega) _ _⟩
          · have hie : i = l.length := by omega
            have HC4 := Lib.hid (show C = 0 by rw [HC3.out, ← hie, HT.out]; rfl)
            have HVV := Lib.hid (show V = (sumTo (loD J) l l.length, sumTo (hiD J) l l.length) by rw [HV.out, if_pos HC4.out])
            obtain ⟨gq, zq⟩ := HGQ.out _ HBO.out
            have HSM3 := Lib.hid (fun high y wz h hr => HSM2.out high y wz h (by first | trivial | rfl) hr)
            clear hie
            go_upto_region 12 with fail
            refine wp_region_flow [] [([0, 1, 4, 5], 2, true), ([], 3, true), ([], 6, true), ([], 7, true), ([8], 9, false), ([], 10, false)] [] (by kernel_rfl) (by kernel_rfl) ?_
            intro wc hBc hh
            clear hh
            have HBC := Lib.hid (btr HBO.out hBc); have HWC := Lib.hid (btr HWO.out hBc)
            have k1 := (hBc.cell (p := ⟨w.heap.size, 0, none⟩) zq).trans gq
            have z1 := Nat.lt_of_lt_of_le zq hBc.size
            have hL := @Later.cell wc
            clear hBc gq zq
            simp only [flowP, flow, pickL, List.getElem?_cons_succ, List.getElem?_cons_zero]
            refine wpQuiet_nil ?_
            repeat (go_big_quiet_step (fail))
            refine wpQuiet_nil ?_
            clear k1 z1
            go_wp2_with fail
            refine (HDY.out false _ HWC.out).mono ?_
            rintro e w4 ⟨u4, rfl, hr4, hB4⟩
            have HS4 := Lib.hid hB4; have HR4 := Lib.hid hr4.rd
            clear hB4 hr4
            go_wp2
            refine seg_grow ⟨⟨_, HS4.out⟩, rfl⟩ ?_
            refine wpQuiet_nil ?_
            go_wp2_with fail
            refine (HSM3.out false u4 _ (btr HWC.out HS4.out) HR4.out).mono ?_
            rintro e w5 ⟨rfl, hw⟩
            subst hw
            go_wp2
            refine seg_grow ⟨⟨_, HS4.out⟩, rfl⟩ ?_
            refine wpQuiet_nil ?_
            go_wp2_with fail
            refine (HDY.out true _ (btr HWC.out HS4.out)).mono ?_
            rintro e w6 ⟨u6, rfl, hr6, hB6⟩
            have HS6 := Lib.hid (btr HS4.out hB6); have HR6 := Lib.hid hr6.rd
            clear hB6 hr6
            go_wp2
            refine seg_grow ⟨⟨_, HS6.out⟩, rfl⟩ ?_
            refine wpQuiet_nil ?_
            go_wp2_with fail
            refine (HSM3.out true u6 _ (btr HWC.out HS6.out) HR6.out).mono ?_
            rw [HX1.out, HX2.out]
            rintro e w7 ⟨rfl, hw⟩
            subst hw
            go_wp2
            refine seg_grow ⟨⟨_, HS6.out⟩, rfl⟩ ?_
            have hz5 := HRB.out _ (btr HBC.out HS6.out)
            obtain ⟨c0, c1, f0, f1⟩ := pair_cells hz5
            have hz6 := (Array.getElem?_eq_some_iff.1 hz5).1
            have HZ5 := Lib.hid hz5
            clear hz5
            generalize sumTo (loD J) l l.length = s1 at *
            generalize sumTo (hiD J) l l.length = s2 at *
            repeat (go_big_quiet_step (fail))
            refine wpQuiet_nil ?_
            go_wp2
            refine seg_write ?_
            refine wpQuiet_nil ?_
            go_wp2
            refine seg_write ?_
            refine wpQuiet_nil ?_
            refine only_done ?_
            clear hL
            go_wp2_with fail
            exact bodyPost_ret (results_cell_tmp rfl rfl rfl (load_range (pair_set HZ5.out _ _))) rfl ⟨by rw [HVV.out, HC4.out]; rfl, pair_below (btr HWC.out HS6.out) (by omega) _ _⟩
  · have t1 : (q != 0) = true := by simp [hq]
    have HCE := HC.out
    rw [if_neg hq] at HCE
    have HCE := Lib.hid HCE
    have HVV := Lib.hid (show V = (0, 0) by rw [HV.out, if_neg (by rw [HCE.out]; exact hq)])
    obtain ⟨g2, z2⟩ := HGQ.out _ HB2.out
    clear HC hq
    go_wp2_with fail
    refine (HER.out _ HW2.out).mono ?_
    rintro e w3 ⟨rfl, hB⟩
    have HB3 := Lib.hid (btr HB2.out hB); have HW3 := Lib.hid (btr HW2.out hB)
    have hz5 := HRB.out _ HB3.out
    obtain ⟨c0, c1, f0, f1⟩ := pair_cells hz5
    have hz6 := (Array.getElem?_eq_some_iff.1 hz5).1
    have HZ5 := Lib.hid hz5
    clear hB hz5
    go_wp2_with fail
    exact bodyPost_ret (results_cell_tmp rfl rfl rfl (load_range (pair_set HZ5.out _ _))) rfl ⟨by rw [HVV.out, HCE.out]; rfl, pair_below HW3.out (by omega) _ _⟩
end Go.Proofs.YteknehlkdgamjaaGreat

namespace Go.Proofs.YteknehlkdgamjaaGreat
open Go.RowKit Go.Shelf

section
variable {w w' : World} {B C : Nat → Prop} {v : Value} {R : List (List Int)} {vs : List Value}
/-- 'append' of a row to rows: many rows; the block is the same, or a new one. -/
theorem LL.push3 {e : Value} {xs : List Int} {ops : Array Oper} {rest : List Oper} {o : Oper} {a : Act} {Q : Exit → Act → World → Prop} (h : LL w B v R vs) (he : rowI w 0 e xs) (heB : ∀ k, e.ownBlock = some k → B k) (hap : ∀ (j : Nat) (f : Value), vs[j]? = some f → apartV f e) (hgd : o.guard = none) (s x : Operand)
    (ho : o.op = .call { callee := .builtin .append, args := #[s, x], argTypes := #[70, 70] }) (hs : a.eval s = v) {nb : Nat} (hx : a.eval x = .slice (some ⟨nb, 0, none⟩) 1 1) (hnb : nb = w.heap.size) (hl : R.length ≤ 1000000000000) (hB : ∀ k, w.heap.size ≤ k → B k)
    (H : ∀ v' w', LL w' B v' (R ++ [xs]) (vs ++ [e]) → Fr w w' B → (∀ k, k < w.heap.size → v.ownBlock ≠ some k → w'.heap[k]? = w.heap[k]?) → (∀ k, v'.ownBlock = some k → v.ownBlock = some k ∨ w.heap.size ≤ k) → wpList Tryz.prog ops Q rest (a.put o.dst v') w') :
    wpList Tryz.prog ops Q (o :: rest) a (w.alloc (.cells #[e] 41)) := by
  subst hnb
  obtain ⟨i0, hi, hz0, hz1, hz2⟩ := info_parts infoI
  have hlen := h.len
  have he1 : e.oneCell' = true := by
    obtain ⟨_, _, rfl⟩ := owns_form he
    rfl
  refine wpList_append_own_at _ hgd s x 70 ho 0 41 i0 (.slice none 0 0) 1 24 Tryz.underlying70 hi hz0 hz1 hz2 rfl (by decide) _ _ _ hs (World.ownsRow.alloc h.out _) ⟨w.heap.size, 0, none⟩ 1 1 [e] hx rfl (fun j u hj => ?_) (fun u hu => by simp at hu; subst hu; exact he1)
    (by simp only [maxLen]; omega) (by omega) (by omega) ?_
  · match j, hj with
    | 0, hj => simp at hj; subst hj; rw [Go.WideShapes.add_plain]; simp
  · intro v' w' h1 h2 _ h4
    have hF : Fr w w' B := (Fr.grown (World.grownBy_alloc w _ none) (fun j e => by cases e)).trans (Fr.grown h2 fun j ej => h.outB j ej)
    have hk : ∀ f ys, rowI w 0 f ys → rowI w' 0 f ys := fun f ys hf => (World.ownsRow.alloc hf _).kept h2 (own_ne hf h.out (by decide))
    have hsplit : ∀ (j : Nat) (f : Value), (vs ++ [e])[j]? = some f → (j < vs.length ∧ vs[j]? = some f) ∨ (j = vs.length ∧ f = e) := fun j f hf => by
      rcases Nat.lt_or_ge j vs.length with hj | hj
      · rw [List.getElem?_append_left hj] at hf; exact .inl ⟨hj, hf⟩
      · have hj2 : j = vs.length := by have := (List.getElem?_eq_some_iff.1 hf).1; simp at this; omega
        subst hj2
        simp at hf
        exact .inr ⟨rfl, hf.symm⟩
    refine H v' w' ⟨by simp [hlen], by rw [List.length_append]; exact h1, fun k ek => ?_, fun j f hf => ?_, fun j f hf => ?_, fun j k f g hjk hf hg => ?_⟩ hF (fun k hk hne => (h2.block k (by simp; omega) (fun e => hne e.symm)).trans (Below.heap_alloc w _ k hk)) (fun k ek => ?_)
    · rcases h4 with h4 | h4
      · rw [h4] at ek; exact h.outB k ek
      · rw [h4] at ek; cases ek; exact hB _ (by simp)
    · rw [row_snoc]
      rcases hsplit j f hf with ⟨hj, hf⟩ | ⟨hj, rfl⟩
      · rw [if_neg (by omega)]; exact hk _ _ (h.el j f hf)
      · rw [if_pos (by omega)]; exact hk _ _ he
    · rcases hsplit j f hf with ⟨hj, hf⟩ | ⟨hj, rfl⟩
      · exact h.elB j f hf
      · exact heB
    · rcases hsplit j f hf with ⟨hj, hf'⟩ | ⟨hj, e1⟩ <;> rcases hsplit k g hg with ⟨hk', hg'⟩ | ⟨hk', e2⟩
      · exact h.ap j k f g hjk hf' hg'
      · rw [e2]; exact hap j f hf'
      · rw [e1]; exact (hap k g hg').symm
      · omega
    · rcases h4 with h4 | h4
      · rw [h4] at ek; exact .inl ek
      · rw [h4] at ek; cases ek; exact .inr (by simp)
end
/-- One row of one number. -/
theorem ll_one (w : World) (i : Int) : LL ((w.alloc (.cells #[.int .i64 i] 3)).alloc (.cells #[.slice (some ⟨w.heap.size, 0, none⟩) 1 1] 41)) (fun k => w.heap.size ≤ k) (.slice (some ⟨w.heap.size + 1, 0, none⟩) 1 1) [[i]] [.slice (some ⟨w.heap.size, 0, none⟩) 1 1] := by
  have hz : (w.alloc (.cells #[.int .i64 i] 3)).heap.size = w.heap.size + 1 := by simp
  have h1 := heap_alloc_new w (.cells #[.int .i64 i] 3)
  have h2 := heap_alloc_new (w.alloc (.cells #[.int .i64 i] 3)) (.cells #[.slice (some ⟨w.heap.size, 0, none⟩) 1 1] 41)
  rw [hz] at h2
  have h3 := (Below.heap_alloc (w.alloc (.cells #[.int .i64 i] 3)) (.cells #[.slice (some ⟨w.heap.size, 0, none⟩) 1 1] 41) w.heap.size (by omega)).trans h1
  refine ⟨rfl, ⟨rfl, .inr ⟨_, 1, _, rfl, Nat.zero_le _, h2, Nat.le_refl _, by unfold maxLen; omega, rfl, rfl⟩⟩, fun k e => ?_, fun j e he => ?_, fun j e he k ek => ?_, fun j k e f hjk he hf => ?_⟩
  · simp [Value.ownBlock] at e; omega
  · match j, he with
    | 0, he =>
      simp at he; subst he
      exact ⟨rfl, .inr ⟨_, 1, _, rfl, Nat.zero_le _, h3, Nat.le_refl _, by unfold maxLen; omega, rfl, rfl⟩⟩
    | j + 1, he => simp at he
  · match j, he with
    | 0, he => simp at he; subst he; simp [Value.ownBlock] at ek; omega
    | j + 1, he => simp at he
  · match j, k, he, hf with
    | 0, 0, _, _ => exact absurd rfl hjk
    | 0, k + 1, _, hf => simp at hf
    | j + 1, _, he, _ => simp at he
def chnI (J : List Job) (i : Nat) : List (List Int) := (chn J i).map ints
/-- The chains over the first t jobs that come next. -/
def upI (J : List Job) (i t : Nat) : List (List Int) := ((nxt J i).take t).flatMap fun k => (chnI J k).map fun l => (i : Int) :: l
theorem upI_all {J : List Job} (hJ : FineJ J) (hc : cir J = false) {i : Nat} (hi : i < J.length) (hn : nxt J i ≠ []) : upI J i (nxt J i).length = chnI J i := by
  unfold upI chnI
  rw [List.take_length, chn_eq hJ hc hi, if_neg hn, List.map_flatMap]
  refine flatMap_same fun k _ => ?_
  rw [List.map_map, List.map_map]
  rfl
theorem upI_succ {J : List Job} {i t k : Nat} (ht : t < (nxt J i).length) (hk : (nxt J i)[t] = k) : upI J i (t + 1) = upI J i t ++ (chnI J k).map fun l => (i : Int) :: l := by
  unfold upI
  rw [List.take_succ_eq_append_getElem ht, List.flatMap_append, hk]
  simp
theorem chnI_nil {J : List Job} (hJ : FineJ J) (hc : cir J = false) {i : Nat} (hi : i < J.length) (hn : nxt J i = []) : chnI J i = [[(i : Int)]] := by
  unfold chnI
  rw [chn_eq hJ hc hi, if_pos hn]; rfl
theorem chnI_len {J : List Job} (h9 : J.length ≤ 9) (i : Nat) : (chnI J i).length ≤ 5159780352 := by
  unfold chnI chn
  rw [List.length_map]
  have h1 := chnF_len (J := J) (by omega) J.length i
  have h2 : 12 ^ J.length ≤ 12 ^ 9 := Nat.pow_le_pow_right (by omega) h9
  omega
theorem upI_len {J : List Job} (_hJ : FineJ J) (_hc : cir J = false) (h9 : J.length ≤ 9) {i : Nat} (_hi : i < J.length) (t : Nat) : (upI J i t).length ≤ 5159780352 * 9 := by
  unfold upI
  have h1 := flatMap_len (f := fun k => (chnI J k).map fun l => (i : Int) :: l) (c := 5159780352) (l := (nxt J i).take t) (fun k _ => by rw [List.length_map]; exact chnI_len h9 k)
  have h2 : ((nxt J i).take t).length ≤ 9 := by
    rw [List.length_take]
    have := nxtTo_le J i J.length
    rw [← nxt_to] at this
    omega
  have h3 := Nat.mul_le_mul_right 5159780352 h2
  omega
theorem chn_rows {J : List Job} (hJ : FineJ J) (hc : cir J = false) {k q : Nat} (hk : k < J.length) (hq : q < (chnI J k).length) : 1 ≤ (row (chnI J k) q).length ∧ (row (chnI J k) q).length ≤ 12 := by
  rw [row_lt hq]
  unfold chnI at hq ⊢
  rw [List.length_map] at hq
  rw [List.getElem_map, ints_len]
  have h1 := (chn_mem hJ hc _ hk (Nat.le_refl _) _).1 (List.getElem_mem hq)
  have h2 := h1.2.1.length hJ hc
  have h3 := hJ.n12
  refine ⟨?_, by omega⟩
  have h4 := h1.1
  cases hl : (chn J k)[q] with
  | nil => rw [hl] at h4; cases h4
  | cons a l => simp
theorem field_work (u : Value) (w : World) : (Instr.field 24 (.agg #[u]) 0).run Tryz.prog w = .ok u w := by kernel_rfl
def ChnOut (J : List Job) (i : Nat) (w : World) (e : Ending) (w' : World) : Prop := ∃ u vs, e = .returned u ∧ LL w' (fun k => w.heap.size ≤ k) u (chnI J i) vs ∧ Below w.heap.size w w'
set_option maxRecDepth 100000 in
set_option maxHeartbeats 6400000 in
theorem chains_go (J : List Job) (hJ : FineJ J) (hc : cir J = false) (h9 : J.length ≤ 9) (i : Nat) (hi : i < J.length) (IH : ∀ k, edg J i k = true → ∀ v w, RdJ w v J → Calls Tryz.prog 72 #[.agg #[v], .int .i64 (k : Int)] w (ChnOut J k w))
    (v : Value) (w : World) (hx0 : RdJ w v J) : Calls Tryz.prog 72 #[.agg #[v], .int .i64 (i : Int)] w (ChnOut J i w) := by
  have HTU := Lib.hid (fun wz (h : Below w.heap.size w wz) => rturned_any v J wz (hx0.mono h) hJ)
  have HIH := Lib.hid (fun k (h1 : edg J i k = true) wz (h : Below w.heap.size w wz) => IH k h1 v wz (hx0.mono h))
  have HNIL := Lib.hid (fun h => chnI_nil hJ hc hi h)
  have HALL := Lib.hid (fun h => upI_all hJ hc hi h)
  have HSU := Lib.hid (fun t k => upI_succ (J := J) (i := i) (t := t) (k := k))
  have HULE := Lib.hid (upI_len hJ hc h9 hi)
  have HCLE := Lib.hid (chnI_len (J := J) h9)
  have HROW := Lib.hid (fun k q (hk : k < J.length) => chn_rows hJ hc (k := k) (q := q) hk)
  have HMEM := Lib.hid (fun k => nxt_mem (J := J) (i := i) (k := k))
  have HWS := Lib.hid (show (job (turnJ J) i).ws = ints (nxt J i) from by rw [turn_at hi]; rfl)
  have HTL := Lib.hid (turn_len J)
  have HNL := Lib.hid (show (nxt J i).length ≤ 9 from by have := nxtTo_le J i J.length; rw [← nxt_to] at this; omega)
  obtain ⟨a, c, rfl⟩ := hx0.sl
  clear hx0 IH hJ hc
  obtain ⟨n, hn⟩ : ∃ n, n = J.length := ⟨_, rfl⟩
  have HN := Lib.hid hn
  rw [← hn] at HTU HIH h9 hi ⊢
  clear hn
  unfold ChnOut at *
  have HB0 := Lib.hid (bal (bz w) (.cells #[.slice a n c] 24))
  have gq : (w.alloc (.cells #[.slice a n c] 24)).cell? ⟨w.heap.size, 0, none⟩ = some (.slice a n c) := cnew rfl rfl
  have zq : w.heap.size < (w.alloc (.cells #[.slice a n c] 24)).heap.size := by simp
  go_enter Tryz.func72, Tryz.ntmps72
  go_wp2_with fail
  generalize w.alloc (.cells #[.slice a n c] 24) = w1 at *
  refine (HTU.out _ HB0.out).mono ?_
  rintro e w2 ⟨u2, rfl, hr2, hB⟩
  have HB2 := Lib.hid (btr HB0.out hB)
  have HGQ := Lib.hid (fun (wz : World) (h : Below w2.heap.size w2 wz) => (⟨(h.cell (p := ⟨w.heap.size, 0, none⟩) (Nat.lt_of_lt_of_le zq hB.size)).trans ((hB.cell (p := ⟨w.heap.size, 0, none⟩) zq).trans gq), Nat.lt_of_lt_of_le (Nat.lt_of_lt_of_le zq hB.size) h.size⟩ : wz.cell? ⟨w.heap.size, 0, none⟩ = some (.slice a n c) ∧ w.heap.size < wz.heap.size))
  obtain ⟨a2, c2, hu2⟩ := hr2.sl
  subst hu2
  rw [HTL.out, ← HN.out] at hr2 ⊢
  obtain ⟨b2, o2, a3, c3, e, hb2, _, _, g23, hr3⟩ := hr2.get i (by rw [HTL.out, ← HN.out]; exact hi)
  cases e
  rw [HWS.out] at g23 hr3
  have HR3 := Lib.hid hr3
  have hfd := field_work (.slice (some ⟨b2, o2, none⟩) n c2) w2
  clear hB gq zq hr2 hr3
  obtain ⟨nl, hnl⟩ : ∃ x, x = (nxt J i).length := ⟨_, rfl⟩
  have hnl9 : nl ≤ 9 := by rw [hnl]; exact HNL.out
  rw [ints_len, ← hnl] at g23 HR3
  have HNX := Lib.hid hnl
  clear hnl
  by_cases h0 : nl = 0
  · have t1 : ((nl : Int) == 0) = true := by simp [h0]
    have t2 : (nl == 0) = true := by simp [h0]
    have HCE := Lib.hid (HNIL.out (List.eq_nil_of_length_eq_zero (by rw [← HNX.out, h0])))
    have HLL := Lib.hid (ll_one w2 (i : Int))
    clear h0
    go_wp2_with fail
    go_ret
    exact ⟨_, _, rfl, by rw [HCE.out]; exact HLL.out.mono fun j _ hj => Nat.le_trans HB2.out.size hj, btr HB2.out (bal (bal (bz w2) _) _)⟩
  · have t1 : ((nl : Int) == 0) = false := by simp [h0]
    have t2 : (nl == 0) = false := by simp [h0]
    have HCE := Lib.hid (HALL.out (fun h => h0 (by rw [HNX.out, h]; rfl)))
    clear h0
    go_wp2_with fail
    clear t1 t2 g23 hb2 hfd
    go_loopw [5, 7] (fun s5 s7 wr => ∃ (t : Nat) (vs : List Value), t ≤ nl ∧ s7 = .int .i64 t ∧ LL wr (fun j => w2.heap.size ≤ j) s5 (upI J i t) vs ∧ Below w2.heap.size w2 wr) (fun _ s7 _ => nl - (intOf s7).toNat)
    case atStart => exact ⟨0, [], Nat.zero_le _, rfl, LL.nil _ _, bz w2⟩
    case round =>
      obtain ⟨t, vs, ht, rfl, hll, hB⟩ := hrel
      rename World => wO
      have HLL := Lib.hid hll; have HBO := Lib.hid hB
      obtain ⟨ao, co, hvo⟩ := hll.form
      subst hvo
      clear hll hB
      by_cases hlt : t < nl
      · obtain ⟨k, hk⟩ : ∃ k, k = (nxt J i)[t]'(by rw [← HNX.out]; exact hlt) := ⟨_, rfl⟩
        have HSUC := Lib.hid (HSU.out t k (by rw [← HNX.out]; exact hlt) hk.symm)
        have HED := Lib.hid ((HMEM.out k).1 (by rw [hk]; exact List.getElem_mem _))
        have HKJ := Lib.hid (edg_lt HED.out)
        obtain ⟨bx, ox, e, hbx, hcx⟩ := (HR3.out.mono HBO.out).get (by rw [ints_len, ← HNX.out]; omega)
        cases e
        have gx := hcx t (by rw [ints_len, ← HNX.out]; exact hlt)
        rw [ints_at (by rw [← HNX.out]; exact hlt), ← hk] at gx
        obtain ⟨gq, zq⟩ := HGQ.out _ HBO.out
        have HUL := Lib.hid (HULE.out t); have HCL := Lib.hid (HCLE.out k)
        have HRWK := Lib.hid (fun q => HROW.out k q HKJ.out)
        have HIK := Lib.hid (HIH.out k HED.out)
        clear hcx hk
        obtain ⟨U, hU⟩ : ∃ U, U = upI J i t := ⟨_, rfl⟩
        obtain ⟨U1, hU1⟩ : ∃ U, U = upI J i (t + 1) := ⟨_, rfl⟩
        have HU1 := Lib.hid hU1
        rw [← hU] at HLL HUL HSUC ⊢
        rw [← hU1] at HSUC
        clear hU hU1
        generalize chnI J k = L at *
        go_upto_region 8 with fail
        refine wp_region_flow [] [([0, 1, 2, 3, 4], 5, true)] [6] (by kernel_rfl) (by kernel_rfl) ?_
        intro wc hBc hh
        clear hh
        have HBC := Lib.hid (btr HBO.out hBc)
        have hL := @Later.cell wc
        have k1 := (hBc.cell (p := ⟨bx, _, none⟩) hbx).trans gx
        have k2 := (hBc.cell (p := ⟨w.heap.size, 0, none⟩) zq).trans gq
        have z1 := Nat.lt_of_lt_of_le hbx hBc.size
        have z2 := Nat.lt_of_lt_of_le zq hBc.size
        have HLC := Lib.hid (HLL.out.later hBc)
        clear hBc gx gq hbx zq
        simp only [flowP, flow, pickL, List.getElem?_cons_succ, List.getElem?_cons_zero]
        refine wpQuiet_nil ?_
        repeat (go_big_quiet_step (fail))
        refine wpQuiet_nil ?_
        clear k1 k2 z1 z2
        go_wp2_with fail
        refine (HIK.out _ (btr HB2.out HBC.out)).mono ?_
        rintro e w5 ⟨u5, vl, rfl, hl5, hB5⟩
        obtain ⟨al, cl, hvl⟩ := hl5.form
        subst hvl
        have HB5 := Lib.hid hB5
        have HL5 := Lib.hid (show LL w5 (fun j => wc.heap.size ≤ j ∧ j < w5.heap.size) _ L vl from hl5.bound)
        have HO5 := Lib.hid (HLC.out.later hB5)
        have HW5 := Lib.hid (btr HBC.out hB5)
        have HOWN : Hid (∀ j, (Value.slice ao U.length co).ownBlock = some j → ¬ (wc.heap.size ≤ j ∧ j < w5.heap.size)) := Lib.hid (fun j e hj => by have := (World.ownsRow.lt HLC.out.out j e).2; omega)
        clear hl5 hB5
        go_wp2
        refine seg_grow ⟨⟨_, HB5.out⟩, rfl⟩ ?_
        repeat (go_big_quiet_step (fail))
        refine wpQuiet_nil ?_
        refine only_done ?_
        clear hL
        go_wp2_with fail
        go_loopw [5, 9] (fun s5 s9 wr => ∃ (q : Nat) (vs : List Value), q ≤ L.length ∧ s9 = .int .i64 q ∧ LL wr (fun j => w2.heap.size ≤ j) s5 (U ++ (L.take q).map fun l => (i : Int) :: l) vs ∧ LL wr (fun j => wc.heap.size ≤ j ∧ j < w5.heap.size) (.slice al L.length cl) L vl ∧ (∀ j, s5.ownBlock = some j → ¬ (wc.heap.size ≤ j ∧ j < w5.heap.size)) ∧ Below w2.heap.size w2 wr ∧ w5.heap.size ≤ wr.heap.size) (fun _ s9 _ => L.length - (intOf s9).toNat)
        case atStart => exact ⟨0, vs, Nat.zero_le _, rfl, by rw [List.take_zero, List.map_nil, List.append_nil]; exact HO5.out, HL5.out, HOWN.out, HW5.out, Nat.le_refl _⟩
        case round =>
          clear HL5 HO5 HOWN HLC
          obtain ⟨q, vq, hq, rfl, ho, hl, hown, hB, hz⟩ := hrel
          rename World => wI
          have HO := Lib.hid ho; have HLI := Lib.hid hl; have HOW := Lib.hid hown; have HBI := Lib.hid hB; have HZI := Lib.hid hz
          obtain ⟨aq, cq, hvq⟩ := ho.form
          subst hvq
          clear ho hl hown hB hz
          by_cases hql : q < L.length
          · obtain ⟨g, cg, e, he, hgz, _, hve, gce, _, hre⟩ := HLI.out.get q hql
            cases he
            obtain ⟨hr1, hr2⟩ := HRWK.out q hql
            have HTK := Lib.hid (show (U ++ (L.take q).map fun l => (i : Int) :: l) ++ [[(i : Int)] ++ row L q] = U ++ (L.take (q + 1)).map fun l => (i : Int) :: l from by
              rw [List.take_succ_eq_append_getElem hql, List.map_append, List.append_assoc, row_lt hql]; rfl)
            obtain ⟨ae, ce, hee⟩ := owns_form hre
            subst hee
            have HRE := Lib.hid (RdI.of_owns hre)
            have hUQ : (U ++ (L.take q).map fun l => (i : Int) :: l).length ≤ 1000000000000 := by
              rw [List.length_append, List.length_map, List.length_take]
              have := HUL.out; have := HCL.out; omega
            clear hre hve
            generalize row L q = rl at *
            obtain ⟨UQ, hUQe⟩ : ∃ x, x = (U ++ (L.take q).map fun l => (i : Int) :: l) := ⟨_, rfl⟩
            rw [← hUQe] at HO HTK HOW hUQ ⊢
            clear hUQe
            have HO1 := Lib.hid (show rowI (wI.alloc (.cells #[.int .i64 (i : Int)] 3)) wI.heap.size (.slice (some ⟨wI.heap.size, 0, none⟩) 1 1) [(i : Int)] from rowI_one wI (Nat.le_refl _) i)
            have HRE1 := Lib.hid (HRE.out.mono (bal (bz wI) (.cells #[.int .i64 (i : Int)] 3)))
            go_wp2_with (at_builtin; refine wpList_append_any (ys := rl) rfl _ _ rfl HO1.out (by simp) rfl rfl HRE1.out (by simp) (by omega) ?_)
            intro v6 w6 hr6 hg6
            have hB6 : Below wI.heap.size wI w6 := append_below (bal (bz wI) _) HO1.out hg6 (Nat.le_refl _)
            have HB6 := Lib.hid hB6
            have HR6 := Lib.hid (owns_base hr6 (Nat.zero_le _))
            have HE6 := Lib.hid (fun k (e : v6.ownBlock = some k) => (World.ownsRow.lt hr6 k e).1)
            have HO6 := Lib.hid (HO.out.later hB6)
            have HLI6 := Lib.hid (HLI.out.later hB6)
            have HAP := Lib.hid (fun (j : Nat) (f : Value) (hf : vq[j]? = some f) => show apartV f v6 from by
              unfold apartV
              cases hfb : f.ownBlock with
              | none => exact .inl rfl
              | some k =>
                refine .inr fun e => ?_
                have h1 := (World.ownsRow.lt (HO.out.el j f hf) k hfb).2
                have h2 := HE6.out k e.symm
                omega)
            have HZ6 := Lib.hid (show w2.heap.size ≤ w6.heap.size from Nat.le_trans HBI.out.size hB6.size)
            have HEB := Lib.hid (fun k (e : v6.ownBlock = some k) => show w2.heap.size ≤ k from Nat.le_trans HBI.out.size (HE6.out k e))
            obtain ⟨a6, c6, hv6⟩ := owns_form hr6
            clear hr6 hg6 hB6 gce hgz
            subst hv6
            go_wp2_with (at_builtin; refine LL.push3 HO6.out HR6.out HEB.out HAP.out rfl _ _ rfl rfl rfl rfl hUQ (fun k hk => Nat.le_trans HZ6.out hk) ?_)
            intro v7 w7 h7 hF7 hk7 ho7
            have HB7 := Lib.hid (show Below w2.heap.size w2 w7 from hF7.below (btr HBI.out HB6.out) (fun _ h => h))
            have HO7 := Lib.hid (show LL w7 (fun j => w2.heap.size ≤ j) v7 (U ++ (L.take (q + 1)).map fun l => (i : Int) :: l) _ from by rw [← HTK.out]; exact h7)
            have HL7 := Lib.hid (HLI6.out.fr (C := fun j => (Value.slice aq UQ.length cq).ownBlock = some j) ⟨hF7.os, hF7.tape, hF7.output, hF7.size, fun k hk hne => hk7 k hk hne⟩ (fun k _ h e => HOW.out k e h))
            have HW7 : Hid (∀ j, v7.ownBlock = some j → ¬ (wc.heap.size ≤ j ∧ j < w5.heap.size)) := Lib.hid (fun j e hj => by
              rcases ho7 j e with h | h
              · exact HOW.out j h hj
              · have := HZI.out; have := HB6.out.size; omega)
            have HZ7 := Lib.hid (Nat.le_trans HZI.out (Nat.le_trans HB6.out.size hF7.size))
            have hcl := HCL.out
            clear h7 hF7 hk7 ho7
            go_wp2_with fail
            go_roundw
            case rel => exact ⟨q + 1, _, by omega, by go_num, HO7.out, HL7.out, HW7.out, HB7.out, HZ7.out⟩
            case measure => simp [intOf]; omega
          · have hqe : q = L.length := by omega
            have hoe : ∀ R', R' = (U ++ (L.take q).map fun l => (i : Int) :: l) → LL wI (fun j => w2.heap.size ≤ j) (.slice aq (U ++ (L.take q).map fun l => (i : Int) :: l).length cq) R' vq := fun R' e => by rw [e]; exact HO.out
            have HOE := Lib.hid (hoe (upI J i (t + 1)) (by rw [← HU1.out, HSUC.out, hqe, List.take_length]))
            clear hoe
            clear hqe
            go_wp2_with fail
            go_roundw
            case rel => exact ⟨t + 1, _, by omega, by go_num, HOE.out, HBI.out⟩
            case measure => simp [intOf]; omega
      · have hte : t = nl := by omega
        have HE := Lib.hid (show upI J i t = chnI J i by rw [hte, HNX.out, HCE.out])
        clear hte
        go_wp2_with fail
        go_ret
        exact ⟨_, _, rfl, by rw [← HE.out]; exact HLL.out.mono fun j _ hj => Nat.le_trans HB2.out.size hj, btr HB2.out HBO.out⟩
theorem rchains_any {J : List Job} (hJ : FineJ J) (hc : cir J = false) (h9 : J.length ≤ 9) : ∀ (m i : Nat), i < J.length → suc J i ≤ m → ∀ (v : Value) (w : World), RdJ w v J → Calls Tryz.prog 72 #[.agg #[v], .int .i64 (i : Int)] w (ChnOut J i w)
  | 0, i, hi, hm, v, w, hx => chains_go J hJ hc h9 i hi (fun k he => by have := suc_lt hJ hc he; omega) v w hx
  | m + 1, i, hi, hm, v, w, hx => chains_go J hJ hc h9 i hi (fun k he v w hx => rchains_any hJ hc h9 m k (edg_lt he) (by have := suc_lt hJ hc he; omega) v w hx) v w hx
end Go.Proofs.YteknehlkdgamjaaGreat

namespace Go.Proofs.YteknehlkdgamjaaGreat
open Go.RowKit Go.Shelf

theorem onD_onB (J : List Job) (l : List Nat) (j : Nat) : onD J (chD J l) j = onB J j l := by
  unfold onD onB
  rw [Bool.eq_iff_iff, beq_iff_eq, decide_eq_true_iff]
theorem chD_set {J : List Job} {l : List Nat} {q : Nat} (hq : q < l.length) (hl : l[q] < J.length) : (fnL (chD J (l.take q)) J.length).set l[q] (hiD J l[q]) = fnL (chD J (l.take (q + 1))) J.length := by
  refine list_ext (by rw [List.length_set, fnL_len, fnL_len]) fun i hi => ?_
  rw [List.length_set, fnL_len] at hi
  rw [elt_set (by rw [fnL_len]; exact hl), fnL_at _ hi, fnL_at _ hi]
  have hm : i ∈ l.take (q + 1) ↔ i ∈ l.take q ∨ i = l[q] := by
    rw [List.take_succ_eq_append_getElem hq, List.mem_append, List.mem_singleton]
  split
  · rename_i e
    rw [chD_in (hm.2 (.inr e)), e]
  · rename_i e
    by_cases h : i ∈ l.take q
    · rw [chD_in h, chD_in (hm.2 (.inl h))]
    · rw [chD_out h, chD_out (fun hc => (hm.1 hc).elim h e)]
theorem chD_nil (J : List Job) : fnL (chD J []) J.length = fnL (loD J) J.length := rfl
def aB (J : List Job) (j : Nat) (pre : List (List Nat)) : Bool := pre.all (onB J j)
def mB (J : List Job) (j : Nat) (pre : List (List Nat)) : Bool := pre.any (onB J j)
theorem aB_snoc (J : List Job) (j : Nat) (pre : List (List Nat)) (l : List Nat) : aB J j (pre ++ [l]) = (aB J j pre && onB J j l) := by unfold aB; rw [List.all_append]; simp
theorem mB_snoc (J : List Job) (j : Nat) (pre : List (List Nat)) (l : List Nat) : mB J j (pre ++ [l]) = (mB J j pre || onB J j l) := by unfold mB; rw [List.any_append]; simp
theorem kindR_of (J : List Job) (j : Nat) : kindR J j = if aB J j (chs J) then 2 else if mB J j (chs J) then 1 else 0 := by
  unfold kindR
  have h1 : offN J j (chs J) = 0 ↔ aB J j (chs J) = true := by rw [off_zero]; unfold aB; rw [List.all_eq_true]
  have h2 : onN J j (chs J) = 0 ↔ mB J j (chs J) = false := by
    rw [on_zero]; unfold mB; rw [List.any_eq_false]
    exact ⟨fun h l hl => by rw [h l hl]; simp, fun h l hl => by have := h l hl; simpa using this⟩
  by_cases ha : aB J j (chs J) = true
  · rw [if_pos (h1.2 ha), if_pos ha]
  · rw [if_neg (fun h => ha (h1.1 h)), if_neg ha]
    cases hm : mB J j (chs J) with
    | false => rw [if_pos (h2.2 hm)]; simp
    | true => rw [if_neg (fun h => by rw [h2.1 h] at hm; cases hm)]; simp
theorem chsTo_take {J : List Job} (i q : Nat) (hq : q < (chn J i).length) : chsTo J i ++ (chn J i).take (q + 1) = (chsTo J i ++ (chn J i).take q) ++ [(chn J i)[q]] := by
  rw [List.take_succ_eq_append_getElem hq, List.append_assoc]
set_option maxRecDepth 100000 in
set_option maxHeartbeats 12800000 in
theorem rkind_any (v : Value) (J : List Job) (j : Int) (w : World) (hx0 : RdJ w v J) (hs : SmJ J) (h9 : errC J = 0 → J.length ≤ 9) :
    Calls Tryz.prog 32 #[.agg #[v], .int .i64 j] w (RetN w (kindV J j) (kindC J j)) := by
  have HER := Lib.hid (fun wz (h : Below w.heap.size w wz) => error_any v J wz (hx0.mono h) hs)
  have HCH := Lib.hid (fun i wz (h : Below w.heap.size w wz) (hq : errC J = 0) (hi : i < J.length) => rchains_any (fine_err hq).1 (fine_err hq).2 (h9 hq) _ i hi (Nat.le_refl _) v wz (hx0.mono h))
  have HDY := Lib.hid (fun wz (h : Below w.heap.size w wz) (_ : errC J = 0) => rdays_any v J false wz (hx0.mono h) (by have := hs.1; omega))
  have HON := Lib.hid (fun y l (n q : Nat) (hn : n = J.length) wz (h : Below w.heap.size w wz) (hq : errC J = 0) (hy : RdI wz .i64 y (fnL (chD J l) n)) (hj : q < n) => ron_any v y J (chD J l) q n hn wz (hx0.mono h) (fine_err hq).1 (fine_err hq).2 hy (fun i hi => chD_bd (fine_err hq).1 l (by omega)) hj)
  have HX := Lib.hid hx0
  have HFI := Lib.hid (fun hq => fine_err (J := J) hq)
  have HMEM := Lib.hid (fun (hq : errC J = 0) i (hi : i < J.length) l => chn_mem (fine_err hq).1 (fine_err hq).2 _ hi (Nat.le_refl _) l)
  have HLE := Lib.hid (chnI_len (J := J))
  have HSR := Lib.hid (chsTo_succ J)
  have HKR := Lib.hid (fun j => kindR_of J j)
  have H9 := Lib.hid h9
  have HC := Lib.hid (show kindC J j = if errC J = 0 then (if outB 0 ((J.length : Int) - 1) j then 3 else 0) else errC J from rfl)
  have HV := Lib.hid (show kindV J j = if kindC J j = 0 then kindR J j.toNat else 0 from rfl)
  have HDL := Lib.hid (show fnL (dayD J false) J.length = fnL (chD J []) J.length from rfl)
  have hsn := hs.1
  obtain ⟨a, c, rfl⟩ := hx0.sl
  clear hx0 hs h9
  obtain ⟨n, hn⟩ : ∃ n, n = J.length := ⟨_, rfl⟩
  have HN := Lib.hid hn
  rw [← hn] at HER HCH HDY HON HMEM HC H9 HDL hsn ⊢
  clear hn
  have HB0 := Lib.hid (bal (bz w) (.cells #[.slice a n c] 24))
  have gq : (w.alloc (.cells #[.slice a n c] 24)).cell? ⟨w.heap.size, 0, none⟩ = some (.slice a n c) := cnew rfl rfl
  have zq : w.heap.size < (w.alloc (.cells #[.slice a n c] 24)).heap.size := by simp
  unfold RetN
  generalize kindC J j = C at *
  generalize kindV J j = V at *
  generalize errC J = q at *
  go_enter Tryz.func32, Tryz.ntmps32
  go_wp2_with fail
  generalize w.alloc (.cells #[.slice a n c] 24) = w1 at *
  have HGQ := Lib.hid (fun (wz : World) (h : Below w1.heap.size w1 wz) => (⟨(h.cell (p := ⟨w.heap.size, 0, none⟩) zq).trans gq, Nat.lt_of_lt_of_le zq h.size⟩ : wz.cell? ⟨w.heap.size, 0, none⟩ = some (.slice a n c) ∧ w.heap.size < wz.heap.size))
  refine (HER.out _ HB0.out).mono ?_
  rintro e w2 ⟨rfl, hB⟩
  have HB2 := Lib.hid hB; have HW2 := Lib.hid (btr HB0.out hB)
  clear hB gq zq
  obtain ⟨g2, z2⟩ := HGQ.out _ HB2.out
  by_cases hq : q = 0
  · have hce := HC.out
    rw [if_pos hq] at hce
    have HCE := Lib.hid hce
    clear hce
    have HFI2 := Lib.hid (HFI.out hq); have H92 := Lib.hid (H9.out hq); have HMEM2 := Lib.hid (HMEM.out hq)
    have HCH2 := Lib.hid (fun i wz h => HCH.out i wz h hq); have HDY2 := Lib.hid (fun wz h => HDY.out wz h hq); have HON2 := Lib.hid (fun y l q wz h => HON.out y l n q rfl wz h hq)
    clear HC HFI H9 HMEM HCH HDY HON
    subst hq
    have hn9 : n ≤ 9 := H92.out
    by_cases hj0 : j < 0
    · have t1 : decide (j < 0) = true := decide_eq_true hj0
      have HC3 := Lib.hid (show C = 3 by rw [HCE.out, if_pos (by unfold outB; rw [decide_eq_true_iff]; exact .inl hj0)])
      have HVV := Lib.hid (show V = 0 by rw [HV.out, if_neg (by rw [HC3.out]; decide)])
      clear hj0
      go_wp2_with fail
      go_ret2
      exact ⟨by rw [HVV.out, HC3.out]; rfl, HW2.out⟩
    · have t1 : decide (j < 0) = false := decide_eq_false hj0
      by_cases hjn : (n : Int) ≤ j
      · have t2 : decide ((n : Int) ≤ j) = true := decide_eq_true hjn
        have HC3 := Lib.hid (show C = 3 by rw [HCE.out, if_pos (by unfold outB; rw [decide_eq_true_iff]; omega)])
        have HVV := Lib.hid (show V = 0 by rw [HV.out, if_neg (by rw [HC3.out]; decide)])
        clear hjn
        go_wp2_with fail
        go_ret2
        exact ⟨by rw [HVV.out, HC3.out]; rfl, HW2.out⟩
      · obtain ⟨p, hp⟩ := Int.eq_ofNat_of_zero_le (show 0 ≤ j by omega)
        have HC3 := Lib.hid (show C = 0 by rw [HCE.out, if_neg (by unfold outB; rw [decide_eq_true_iff]; omega)])
        have HV2 := Lib.hid (show V = kindR J p by rw [HV.out, if_pos HC3.out, hp, Int.toNat_natCast])
        subst hp
        have hpn : p < n := by omega
        have HKP := Lib.hid (HKR.out p)
        have t2 : decide ((n : Int) ≤ (p : Int)) = false := decide_eq_false (by omega)
        have t3 : decide (n ≤ p) = false := decide_eq_false (by omega)
        clear hj0 hjn HKR HCE HV
        go_wp2_with fail
        clear t1 t2 t3
        go_loopw [6, 7, 8] (fun s6 s7 s8 wr => ∃ i : Nat, i ≤ n ∧ s8 = .int .i64 i ∧ s6 = .bool (aB J p (chsTo J i)) ∧ s7 = .bool (mB J p (chsTo J i)) ∧ Below w1.heap.size w1 wr) (fun _ _ s8 _ => n - (intOf s8).toNat)
        case atStart => exact ⟨0, Nat.zero_le _, rfl, rfl, rfl, HB2.out⟩
        case round =>
          obtain ⟨i, hi, rfl, rfl, rfl, hB⟩ := hrel
          rename World => wO
          have HBO := Lib.hid hB; have HWO := Lib.hid (btr HB0.out hB)
          obtain ⟨g2, z2⟩ := HGQ.out _ hB
          clear hB
          by_cases hin : i < n
          · obtain ⟨bJ, oJ, aJ, cJ, e, hb, _, _, g3, hr⟩ := (HX.out.mono HWO.out).get i (by rw [← HN.out]; exact hin)
            subst e
            have HSRI := Lib.hid (HSR.out i)
            have hsb : srcB J i = ((job J i).ws.length == 0) := rfl
            rw [hsb] at HSRI
            clear hr hsb
            obtain ⟨nw, hnw⟩ : ∃ x, x = (job J i).ws.length := ⟨_, rfl⟩
            rw [← hnw] at g3 HSRI
            clear hnw
            by_cases hw0 : 0 < nw
            · have t1 : decide ((0 : Int) < (nw : Int)) = true := decide_eq_true (by omega)
              have t2 : decide (0 < nw) = true := decide_eq_true hw0
              have hsr := HSRI.out
              rw [show (nw == 0) = false from by simp; omega, if_neg (by simp), List.append_nil] at hsr
              have HS1 := Lib.hid hsr
              clear hsr hw0
              go_wp2_with fail
              go_roundw
              case rel => exact ⟨i + 1, by omega, by go_num, by rw [HS1.out], by rw [HS1.out], HBO.out⟩
              case measure => simp [intOf]; omega
            · have t1 : decide ((0 : Int) < (nw : Int)) = false := decide_eq_false (by omega)
              have t2 : decide (0 < nw) = false := decide_eq_false hw0
              have hsr := HSRI.out
              rw [show (nw == 0) = true from by simp; omega, if_pos rfl] at hsr
              have HS1 := Lib.hid hsr
              clear hsr hw0
              go_wp2_with fail
              refine (HCH2.out i _ HWO.out hin).mono ?_
              rintro e w5 ⟨u5, vl, rfl, hl5, hB5⟩
              obtain ⟨al, cl, hvl⟩ := hl5.form
              subst hvl
              have HL5 := Lib.hid hl5.rd
              have HB5 := Lib.hid (btr HBO.out hB5); have HW5 := Lib.hid (btr HWO.out hB5)
              have HLC := Lib.hid (HLE.out (by rw [← HN.out]; exact H92.out) i)
              have HCI := Lib.hid (show chnI J i = (chn J i).map ints from rfl)
              have HLEN := Lib.hid (show (chnI J i).length = (chn J i).length from by unfold chnI; rw [List.length_map])
              have HTK := Lib.hid (fun q hq => chsTo_take (J := J) i q hq)
              have HTA := Lib.hid (show (chn J i).take (chnI J i).length = chn J i from by rw [HLEN.out, List.take_length])
              have HMI := Lib.hid (HMEM2.out i hin)
              have HSN1 := Lib.hid (aB_snoc J p); have HSN2 := Lib.hid (mB_snoc J p)
              clear hl5 hB5 t1 t2 g3 hb
              go_wp2_with fail
              go_loopw [6, 7, 10] (fun s6 s7 s10 wr => ∃ k : Nat, k ≤ (chnI J i).length ∧ s10 = .int .i64 k ∧ s6 = .bool (aB J p (chsTo J i ++ (chn J i).take k)) ∧ s7 = .bool (mB J p (chsTo J i ++ (chn J i).take k)) ∧ Below w5.heap.size w5 wr) (fun _ _ s10 _ => (chnI J i).length - (intOf s10).toNat)
              case atStart => exact ⟨0, Nat.zero_le _, rfl, by rw [List.take_zero, List.append_nil], by rw [List.take_zero, List.append_nil], bz w5⟩
              case round =>
                obtain ⟨k, hk, rfl, rfl, rfl, hB⟩ := hrel
                rename World => w6
                have HB6 := Lib.hid (btr HB5.out hB); have HW6 := Lib.hid (btr HW5.out hB); have HB56 := Lib.hid hB
                obtain ⟨g2, z2⟩ := HGQ.out _ HB6.out
                clear hB
                by_cases hkl : k < (chnI J i).length
                · have hkc : k < (chn J i).length := by rw [← HLEN.out]; exact hkl
                  obtain ⟨l, hl⟩ : ∃ l, l = (chn J i)[k] := ⟨_, rfl⟩
                  have HUP := Lib.hid ((HMI.out l).1 (by rw [hl]; exact List.getElem_mem _))
                  have HLL := Lib.hid (fun x hx => HUP.out.2.1.lt HFI2.out.1 x hx)
                  have hl12 : l.length ≤ 12 := by have h1 := HUP.out.2.1.length HFI2.out.1 HFI2.out.2; have := HN.out; omega
                  have HROW := Lib.hid (show row (chnI J i) k = ints l from by rw [HCI.out, row_map hkc, hl])
                  have HT1 := Lib.hid (show aB J p (chsTo J i ++ (chn J i).take (k + 1)) = (aB J p (chsTo J i ++ (chn J i).take k) && onB J p l) from by rw [HTK.out k hkc, HSN1.out, hl])
                  have HT2 := Lib.hid (show mB J p (chsTo J i ++ (chn J i).take (k + 1)) = (mB J p (chsTo J i ++ (chn J i).take k) || onB J p l) from by rw [HTK.out k hkc, HSN2.out, hl])
                  clear hl
                  generalize aB J p (chsTo J i ++ (chn J i).take k) = ba at *
                  generalize mB J p (chsTo J i ++ (chn J i).take k) = bm at *
                  have hll : (chnI J i).length ≤ 5159780352 := HLC.out
                  have HCG := Lib.hid (fun (wz : World) (h : Below w5.heap.size w5 wz) => (HL5.out.mono h).get k hkl)
                  rw [HROW.out] at HCG
                  go_wp2_with fail
                  refine (HDY2.out _ HW6.out).mono ?_
                  rintro e w7 ⟨u7, rfl, hr7, hB7⟩
                  obtain ⟨a7, c7, e7⟩ := owns_form hr7
                  rw [fnL_len] at e7
                  subst e7
                  rw [HDL.out] at hr7
                  obtain ⟨g7, hg7⟩ : ∃ g, a7 = some ⟨g, 0, none⟩ := by
                    rcases hr7.2 with ⟨e, h0⟩ | ⟨g, cap, cur, e, _⟩
                    · rw [fnL_len] at h0; omega
                    · rw [Value.slice.injEq] at e; exact ⟨g, e.1⟩
                  subst hg7
                  have HG7 := Lib.hid (show w6.heap.size ≤ g7 from (World.ownsRow.lt hr7 g7 rfl).1)
                  have HR7 := Lib.hid (show rowL w7 g7 (.slice (some ⟨g7, 0, none⟩) n c7) (fnL (chD J (l.take 0)) n) from by
                    rw [List.take_zero]
                    refine ⟨hr7.1, ?_⟩
                    rcases hr7.2 with ⟨e, _⟩ | ⟨g, cap, cur, e, h1, h2⟩
                    · rw [Value.slice.injEq] at e; exact absurd e.1 (by simp)
                    · refine .inr ⟨g, cap, cur, e, ?_, h2⟩
                      rw [Value.slice.injEq, Option.some.injEq, Addr.mk.injEq] at e; omega)
                  have HB67 := Lib.hid hB7
                  clear hr7 hB7 g2 z2
                  go_wp2_with fail
                  have hln : (ints l).length = l.length := ints_len l
                  rw [hln] at HCG
                  clear hln
                  go_loopw [12] (fun s12 wr => ∃ q : Nat, q ≤ l.length ∧ s12 = .int .i64 q ∧ rowL wr g7 (.slice (some ⟨g7, 0, none⟩) n c7) (fnL (chD J (l.take q)) n) ∧ Below w6.heap.size w6 wr) (fun s12 _ => l.length - (intOf s12).toNat)
                  case atStart => exact ⟨0, Nat.zero_le _, rfl, HR7.out, HB67.out⟩
                  case round =>
                    clear HR7
                    obtain ⟨q, hq, rfl, hr, hB⟩ := hrel
                    rename World => w8
                    have HR8 := Lib.hid hr; have HB8 := Lib.hid hB
                    have HB58 := Lib.hid (btr HB56.out hB); have HW8 := Lib.hid (btr HW6.out hB)
                    obtain ⟨b, o, a', c', e, hb, g1, hrw⟩ := HCG.out w8 HB58.out
                    cases e
                    have HRW := Lib.hid hrw
                    clear hr hB hrw
                    by_cases hql : q < l.length
                    · obtain ⟨x, hx⟩ : ∃ x, x = l[q] := ⟨_, rfl⟩
                      have hxn : x < n := by rw [HN.out]; exact HLL.out x (by rw [hx]; exact List.getElem_mem _)
                      obtain ⟨bx, ox, e, hbx, hcx⟩ := HRW.out.get (by rw [ints_len]; omega)
                      cases e
                      have gx := hcx q (by rw [ints_len]; exact hql)
                      rw [ints_at hql, ← hx] at gx
                      obtain ⟨bj, oj, aj, cj, e, hbj, _, gh, _, _⟩ := (HX.out.mono HW8.out).get x (by rw [← HN.out]; exact hxn)
                      cases e
                      obtain ⟨gz, gd, fd⟩ := HR8.out.at x (by rw [fnL_len]; exact hxn)
                      obtain ⟨gq, zq⟩ := HGQ.out _ (btr HB6.out HB8.out)
                      have HSET := Lib.hid (show (fnL (chD J (l.take q)) n).set x (hiD J x) = fnL (chD J (l.take (q + 1))) n from by rw [hx, HN.out]; exact chD_set hql (by rw [← hx, ← HN.out]; exact hxn))
                      have HHI := Lib.hid (show hiD J x = (job J x).hi from rfl)
                      clear hcx hx
                      generalize (job J x).hi = hh at *
                      generalize elt (fnL (chD J (l.take q)) n) x = dx at *
                      go_upto_region 18 with fail
                      refine wp_region_flow [] [([0, 1, 2, 3, 4, 5, 6, 7, 8, 9, 10, 11, 12, 13, 14, 15, 16, 17, 18, 19, 20, 21], 22, false)] [] (by kernel_rfl) (by kernel_rfl) ?_
                      intro wc hBc hh2
                      clear hh2
                      have HBC := Lib.hid (btr HB8.out hBc)
                      have hL := @Later.cell wc
                      have k1 := (hBc.cell (p := ⟨b, _, none⟩) hb).trans g1
                      have k2 := (hBc.cell (p := ⟨bx, _, none⟩) hbx).trans gx
                      have k3 := (hBc.cell (p := ⟨bJ, _, none⟩) hbj).trans gh
                      have k4 := (hBc.cell (p := ⟨w.heap.size, 0, none⟩) zq).trans gq
                      have k5 := (hBc.cell (p := ⟨g7, _, none⟩) gz).trans gd
                      have f5 := (hBc.frozen (p := ⟨g7, x, none⟩) gz).trans fd
                      have z1 := Nat.lt_of_lt_of_le hb hBc.size
                      have z2 := Nat.lt_of_lt_of_le hbx hBc.size
                      have z3 := Nat.lt_of_lt_of_le hbj hBc.size
                      have z4 := Nat.lt_of_lt_of_le zq hBc.size
                      have z5 := Nat.lt_of_lt_of_le gz hBc.size
                      have HRC := Lib.hid (show rowL wc g7 (.slice (some ⟨g7, 0, none⟩) n c7) (fnL (chD J (l.take q)) n) from owns_kept HR8.out hBc)
                      clear hBc g1 gx gh gq gd fd hb hbx hbj zq gz
                      simp only [flowP, flow, pickL, List.getElem?_cons_succ, List.getElem?_cons_zero]
                      refine wpQuiet_nil ?_
                      repeat (go_big_quiet_step (fail))
                      refine wpQuiet_nil ?_
                      go_wp2
                      refine seg_write ?_
                      refine wpQuiet_nil ?_
                      refine only_done ?_
                      clear hL k1 k2 k3 k4 k5 f5 z1 z2 z3 z4 z5
                      go_wp2_with fail
                      go_roundw
                      case rel => exact ⟨q + 1, by omega, by go_num, by rw [← HSET.out, HHI.out]; exact HRC.out.stored x _, bset HBC.out (p := ⟨g7, x, none⟩) HG7.out _⟩
                      case measure => simp [intOf]; omega
                    · have hqe : q = l.length := by omega
                      have HRE := Lib.hid (show RdI w8 .i64 (.slice (some ⟨g7, 0, none⟩) n c7) (fnL (chD J l) n) from by have h := HR8.out.rd; rwa [hqe, List.take_length] at h)
                      obtain ⟨gq, zq⟩ := HGQ.out _ (btr HB6.out HB8.out)
                      clear hqe
                      go_wp2_with fail
                      refine (HON2.out _ l p w8 HW8.out HRE.out hpn).mono ?_
                      rintro e w9 ⟨rfl, hB9⟩
                      have HB9 := Lib.hid (btr HB58.out hB9)
                      rw [onD_onB]
                      generalize onB J p l = on at *
                      clear hB9 gq zq g1 hb
                      cases ba <;> cases bm <;> cases on <;>
                      · go_wp2_with fail
                        go_roundw
                        case rel => exact ⟨k + 1, by omega, by go_num, by rw [HT1.out]; rfl, by rw [HT2.out]; rfl, HB9.out⟩
                        case measure => simp [intOf]; omega
                · have hke : k = (chnI J i).length := by omega
                  have HS2 := Lib.hid (show chsTo J (i + 1) = chsTo J i ++ (chn J i).take k from by rw [HS1.out, hke, HTA.out])
                  clear hke
                  have hll : (chnI J i).length ≤ 5159780352 := HLC.out
                  go_wp2_with fail
                  go_roundw
                  case rel => exact ⟨i + 1, by omega, by go_num, by rw [HS2.out], by rw [HS2.out], HB6.out⟩
                  case measure => simp [intOf]; omega
          · have hie : i = n := by omega
            have HCS := Lib.hid (show chsTo J i = chs J from by rw [hie, HN.out]; rfl)
            rw [← HCS.out] at HKP
            clear hie
            generalize aB J p (chsTo J i) = ba at *
            generalize mB J p (chsTo J i) = bm at *
            cases ba with
            | true =>
              have HVV := Lib.hid (show V = 2 by rw [HV2.out, HKP.out]; rfl)
              go_wp2_with fail
              go_ret2
              exact ⟨by rw [HVV.out, HC3.out]; rfl, HWO.out⟩
            | false =>
              cases bm with
              | true =>
                have HVV := Lib.hid (show V = 1 by rw [HV2.out, HKP.out]; rfl)
                go_wp2_with fail
                go_ret2
                exact ⟨by rw [HVV.out, HC3.out]; rfl, HWO.out⟩
              | false =>
                have HVV := Lib.hid (show V = 0 by rw [HV2.out, HKP.out]; rfl)
                go_wp2_with fail
                go_ret2
                exact ⟨by rw [HVV.out, HC3.out]; rfl, HWO.out⟩
  · have t1 : (q != 0) = true := by simp [hq]
    have hce := HC.out
    rw [if_neg hq] at hce
    have HCE := Lib.hid hce
    clear hce
    have HVV := Lib.hid (show V = 0 by rw [HV.out, if_neg (by rw [HCE.out]; exact hq)])
    clear HC HCH HDY HON hq
    go_wp2_with fail
    refine (HER.out _ HW2.out).mono ?_
    rintro e w3 ⟨rfl, hB⟩
    have HB3 := Lib.hid (btr HW2.out hB)
    clear hB
    go_wp2_with fail
    go_ret2
    exact ⟨by rw [HVV.out, HCE.out]; rfl, HB3.out⟩
end Go.Proofs.YteknehlkdgamjaaGreat
