/- The document's CheckGroup. -/
import Derived.Test.YtooddicegkiiiaaR8
namespace Go.Proofs.Ytooddicegkiiiaa
open Go.RowKit Go.Shelf

theorem okv_map {V : List (Int × Int)} (hV : OkV V) {s : List Nat} (hs : ∀ i ∈ s, i < V.length) : OkV (s.map (pin V)) := by
  intro x hx
  obtain ⟨i, hi, rfl⟩ := List.mem_map.1 hx
  exact hV _ (pin_mem (hs i hi))
/-- The least index that may come next. -/
def lowN (g : List Int) (k : Nat) : Int := if k = 0 then 0 else g[k - 1]?.getD 0 + 1
set_option maxRecDepth 100000 in
set_option maxHeartbeats 2000000 in
theorem rcheckgroup_any (x y : Value) (V : List (Int × Int)) (g : List Int) (w : World) (hx0 : RdP w x V) (hy0 : RdI w .i64 y g) (hl : V.length ≤ 1000) (hg : g.length ≤ 1000) :
    Calls Try.prog 38 #[x, y] w fun e w' => e = .returned (.int .i64 (cgE V g)) ∧ Below w.heap.size w w' := by
  obtain ⟨a, ca, rfl, hca, hca2, _⟩ := hx0.form
  obtain ⟨ay, cy, rfl, hcy, hcy2, hy⟩ := hy0.form
  clear hca2 hcy2
  have HK := Lib.hid (fun w' hx => rcheck_any (.slice a V.length ca) V w' hx hl)
  have HX0 := Lib.hid hx0; have HY0 := Lib.hid hy0
  clear hx0 hy0
  by_cases hc : checkP V = 0
  · have hV := okPins_of hc
    have h1 := hV.l1; have h5 := hV.l5
    have e1 : cgE V g = if incB V.length 0 g then (if Grp V (ixs g) then 0 else 21) else 2 := by unfold cgE; rw [if_neg (by simpa using hc)]
    rw [hc] at HK
    have E1 := Lib.hid e1; clear e1 hc
    have HV := Lib.hid hV; clear hV
    go_enter Try.func38, Try.ntmps38
    go_wp2_with fail
    refine (HK.out _ HX0.out).mono ?_
    rintro e w2 ⟨rfl, hB2⟩
    have HB2 := Lib.hid hB2; clear hB2
    go_wp2_with fail
    go_loopw [5] (fun i wr => ∃ k : Nat, k ≤ g.length ∧ i = .int .i64 k ∧ 0 ≤ lowN g k ∧ incB V.length 0 g = incB V.length (lowN g k) (g.drop k) ∧ Below w2.heap.size w2 wr) (fun i _ => g.length - (intOf i).toNat)
    case atStart => exact ⟨0, Nat.zero_le _, rfl, Int.le_refl _, by rw [List.drop_zero]; rfl, bz _⟩
    case round =>
      obtain ⟨k, hk, rfl, hlo, hI, hB⟩ := hrel
      by_cases hlt : k < g.length
      · obtain ⟨by', oy, rfl, hby, hcell⟩ := hy (by omega)
        have gk := ((btr HB2.out hB).cell (p := ⟨by', oy + k, none⟩) hby).trans (hcell k hlt)
        have hd : g.drop k = (g[k]?.getD 0) :: g.drop (k + 1) := by
          rw [List.drop_eq_getElem_cons hlt]; simp [hlt]
        rw [hd] at hI
        simp only [incB] at hI
        have hlo2 : lowN g (k + 1) = g[k]?.getD 0 + 1 := by simp [lowN]
        have HLO2 := Lib.hid hlo2
        have HB := Lib.hid hB
        have hbz : by' < wr.heap.size := Nat.lt_of_lt_of_le hby (btr HB2.out hB).size
        clear hd hB hlo2
        have hbad : ∀ b, outB (lowN g k) ((V.length : Int) - 1) (g[k]?.getD 0) = b → incB V.length 0 g = (!b && incB V.length (lowN g (k + 1)) (g.drop (k + 1))) := fun b hb => by rw [hI, hb, HLO2.out]
        have HBAD := Lib.hid hbad; clear hbad hI
        rcases Nat.eq_zero_or_pos k with rfl | hk0
        · rw [show lowN g 0 = 0 from rfl] at HBAD hlo
          clear hy hcell
          have HLO : Hid (0 ≤ (g[0]?.getD 0 : Int) → 0 ≤ lowN g (0 + 1)) := Lib.hid (fun h => by rw [HLO2.out]; omega)
          generalize g[0]?.getD 0 = p at *
          simp only [Nat.add_zero] at gk
          by_cases hgd : 0 ≤ p ∧ p < V.length
          · obtain ⟨c1, c2⟩ := hgd
            have HBD := Lib.hid (HBAD.out false (by simp [outB]; omega))
            rw [Bool.not_false, Bool.true_and] at HBD
            replace HLO := Lib.hid (HLO.out c1)
            have t1 : decide (p < 0) = false := by simp; omega
            have t2 : decide ((V.length : Int) ≤ p) = false := by simp; omega
            go_wp2_with fail
            refine wp_region_flow [] [] [0, 1, 2, 3, 4, 5, 6, 7, 8, 9, 10, 11, 12, 13, 14, 15, 16, 17, 18, 19, 20, 21, 22, 23, 24, 25, 26, 27, 28, 29] (by kernel_rfl) (by kernel_rfl) ?_
            intro wc hBc hh
            have d0 := (hBc.cell hbz).trans gk
            have zc : by' < wc.heap.size := Nat.lt_of_lt_of_le hbz hBc.size
            have hL := @Later.cell wc
            have HBc := Lib.hid hBc
            clear hh hBc gk
            simp only [flowP, flow, pickL, List.getElem?_cons_succ, List.getElem?_cons_zero]
            refine wpQuiet_nil ?_
            repeat (go_big_quiet_step (fail))
            refine wpQuiet_nil ?_
            refine only_done ?_
            clear d0 hL
            go_wp2_with fail
            go_roundw
            case rel => exact ⟨0 + 1, by omega, by go_num, HLO.out, HBD.out, btr HB.out HBc.out⟩
            case measure => simp [intOf]; omega
          · have HBD := Lib.hid (HBAD.out true (by simp [outB]; omega))
            rcases (show decide (p < 0) = true ∨ (decide (p < 0) = false ∧ decide ((V.length : Int) ≤ p) = true) by simp only [decide_eq_true_eq, decide_eq_false_iff_not]; omega) with t1 | ⟨t1, t2⟩
            all_goals
              go_wp2_with fail
              refine wp_region_flow [] [] [0, 1, 2, 3, 4, 5, 6, 7, 8, 9, 10, 11, 12, 13, 14, 15, 16, 17, 18, 19, 20, 21, 22, 23, 24, 25, 26, 27, 28, 29] (by kernel_rfl) (by kernel_rfl) ?_
              intro wc hBc hh
              have d0 := (hBc.cell hbz).trans gk
              have zc : by' < wc.heap.size := Nat.lt_of_lt_of_le hbz hBc.size
              have hL := @Later.cell wc
              have HBc := Lib.hid hBc
              clear hh hBc gk
              simp only [flowP, flow, pickL, List.getElem?_cons_succ, List.getElem?_cons_zero]
              refine wpQuiet_nil ?_
              repeat (go_big_quiet_step (fail))
              refine wpQuiet_nil ?_
              refine only_done ?_
              clear d0 hL
              go_wp2_with fail
              go_ret
              refine ⟨ret_int ?_, btr HB2.out (btr HB.out HBc.out)⟩
              rw [E1.out, HBD.out]; rfl
        · obtain ⟨j, rfl⟩ : ∃ j, k = j + 1 := ⟨k - 1, by omega⟩
          have gj := ((btr HB2.out HB.out).cell (p := ⟨by', oy + j, none⟩) hby).trans (hcell j (by omega))
          rw [show lowN g (j + 1) = g[j]?.getD 0 + 1 by simp [lowN]] at HBAD hlo
          clear hy hcell hk0
          have HLO : Hid (0 ≤ (g[j + 1]?.getD 0 : Int) → 0 ≤ lowN g (j + 1 + 1)) := Lib.hid (fun h => by rw [HLO2.out]; omega)
          generalize g[j + 1]?.getD 0 = p at *
          generalize g[j]?.getD 0 = q at *
          have wj : IntKind.i64.wrap (((j + 1 : Nat) : Int) - 1) = (j : Int) := by rw [show ((j + 1 : Nat) : Int) - 1 = (j : Int) by omega]; exact IntWalk.i64_in _ (by omega)
          by_cases hgd : q < p ∧ p < V.length
          · obtain ⟨c1, c2⟩ := hgd
            have c0 : 0 ≤ p := by omega
            have HBD := Lib.hid (HBAD.out false (by simp [outB]; omega))
            rw [Bool.not_false, Bool.true_and] at HBD
            replace HLO := Lib.hid (HLO.out c0)
            have t1 : decide (p < 0) = false := by simp; omega
            have t2 : decide ((V.length : Int) ≤ p) = false := by simp; omega
            have t3 : decide (0 < ((j + 1 : Nat) : Int)) = true := decide_eq_true (by omega)
            have t5 : decide ((0 : Int) < (j : Int) + 1) = true := decide_eq_true (by omega)
            have t4 : decide (p ≤ q) = false := by simp; omega
            go_wp2_with fail
            refine wp_region_flow [] [] [0, 1, 2, 3, 4, 5, 6, 7, 8, 9, 10, 11, 12, 13, 14, 15, 16, 17, 18, 19, 20, 21, 22, 23, 24, 25, 26, 27, 28, 29] (by kernel_rfl) (by kernel_rfl) ?_
            intro wc hBc hh
            have d0 := (hBc.cell hbz).trans gk
            have d1 := (hBc.cell hbz).trans gj
            have zc : by' < wc.heap.size := Nat.lt_of_lt_of_le hbz hBc.size
            have hL := @Later.cell wc
            have HBc := Lib.hid hBc
            clear hh hBc gk
            simp only [flowP, flow, pickL, List.getElem?_cons_succ, List.getElem?_cons_zero]
            refine wpQuiet_nil ?_
            repeat (go_big_quiet_step (fail))
            refine wpQuiet_nil ?_
            refine only_done ?_
            clear d0 hL
            go_wp2_with fail
            go_roundw
            case rel => exact ⟨j + 1 + 1, by omega, by go_num, HLO.out, HBD.out, btr HB.out HBc.out⟩
            case measure => simp [intOf]; omega
          · have HBD := Lib.hid (HBAD.out true (by simp [outB]; omega))
            have t3 : decide (0 < ((j + 1 : Nat) : Int)) = true := decide_eq_true (by omega)
            have t5 : decide ((0 : Int) < (j : Int) + 1) = true := decide_eq_true (by omega)
            rcases (show decide (p < 0) = true ∨ (decide (p < 0) = false ∧ decide ((V.length : Int) ≤ p) = true) ∨ (decide (p < 0) = false ∧ decide ((V.length : Int) ≤ p) = false ∧ decide (p ≤ q) = true) by simp only [decide_eq_true_eq, decide_eq_false_iff_not]; omega) with t1 | ⟨t1, t2⟩ | ⟨t1, t2, t4⟩
            all_goals
              go_wp2_with fail
              refine wp_region_flow [] [] [0, 1, 2, 3, 4, 5, 6, 7, 8, 9, 10, 11, 12, 13, 14, 15, 16, 17, 18, 19, 20, 21, 22, 23, 24, 25, 26, 27, 28, 29] (by kernel_rfl) (by kernel_rfl) ?_
              intro wc hBc hh
              have d0 := (hBc.cell hbz).trans gk
              have d1 := (hBc.cell hbz).trans gj
              have zc : by' < wc.heap.size := Nat.lt_of_lt_of_le hbz hBc.size
              have hL := @Later.cell wc
              have HBc := Lib.hid hBc
              clear hh hBc gk
              simp only [flowP, flow, pickL, List.getElem?_cons_succ, List.getElem?_cons_zero]
              refine wpQuiet_nil ?_
              repeat (go_big_quiet_step (fail))
              refine wpQuiet_nil ?_
              refine only_done ?_
              clear d0 hL
              go_wp2_with fail
              go_ret
              refine ⟨ret_int ?_, btr HB2.out (btr HB.out HBc.out)⟩
              rw [E1.out, HBD.out]; rfl
      · have hkl : k = g.length := by omega
        have hI' : incB V.length 0 g = true := by rw [hI, hkl, List.drop_length]; rfl
        obtain ⟨i1, i2⟩ := incB_inc hI'
        have hil := i2.len
        have HI := Lib.hid hI'
        have HS := Lib.hid (fun w' hx (hy : RdI w' .i64 (.slice ay g.length cy) g) => some_any (.slice a V.length ca) (.slice ay g.length cy) V (ixs g) w' hx (by rw [i1]; exact hy) i2.2 (by omega))
        have HOU := Lib.hid (okv_map HV.out.v i2.2)
        have HJ := Lib.hid (fun x w' hx => rjoin_any x ((ixs g).map (pin V)) w' hx HOU.out (by rw [List.length_map]; omega))
        have hq : jO ((ixs g).map (pin V)) = decide (Grp V (ixs g)) := by
          have h := (jO_free HOU.out).trans grp_free.symm
          cases hj : jO ((ixs g).map (pin V))
          · rw [hj] at h; simp at h; simp [h]
          · rw [hj] at h; simp at h; simp [h]
        rw [hq] at HJ
        have HB := Lib.hid hB
        clear hI hI' i1 i2 hkl hq hB hy hlo
        generalize jA ((ixs g).map (pin V)) = jA' at *
        generalize jB ((ixs g).map (pin V)) = jB' at *
        generalize hq : decide (Grp V (ixs g)) = q at *
        have HQ := Lib.hid hq; clear hq
        go_wp2_with fail
        refine (HS.out _ (HX0.out.mono (btr HB2.out HB.out)) (HY0.out.mono (btr HB2.out HB.out))).mono ?_
        rintro e w3 ⟨sv, rfl, hsv, hB3⟩
        go_wp2_with fail
        refine (HJ.out _ _ hsv).mono ?_
        rintro e w4 ⟨rfl, hB4⟩
        have HB4 := Lib.hid (btr HB2.out (btr HB.out (btr hB3 hB4)))
        clear hsv hB3 hB4
        cases q
        · go_wp2_with fail
          go_ret
          refine ⟨ret_int ?_, HB4.out⟩
          rw [E1.out, HI.out, if_pos rfl, if_neg (by have := HQ.out; simpa using this)]
        · go_wp2_with fail
          go_ret
          refine ⟨ret_int ?_, HB4.out⟩
          rw [E1.out, HI.out, if_pos rfl, if_pos (by have := HQ.out; simpa using this)]
  · have e1 : cgE V g = checkP V := by unfold cgE; rw [if_pos (by simpa using hc)]
    rw [e1]; clear e1
    have hcb : (checkP V != 0) = true := by simpa using hc
    have hce : (checkP V == 0) = false := by simpa using hc
    clear hc hy
    generalize checkP V = q at *
    go_enter Try.func38, Try.ntmps38
    go_wp2_with fail
    refine (HK.out _ HX0.out).mono ?_
    rintro e w2 ⟨rfl, hB2⟩
    go_wp2_with fail
    refine (HK.out _ (HX0.out.mono hB2)).mono ?_
    rintro e w3 ⟨rfl, hB3⟩
    go_wp2_with fail
    go_ret
    exact ⟨rfl, btr hB2 hB3⟩
end Go.Proofs.Ytooddicegkiiiaa
