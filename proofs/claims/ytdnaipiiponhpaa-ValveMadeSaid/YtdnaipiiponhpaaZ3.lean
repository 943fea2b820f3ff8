/- The document's ImagesOf and Images; valid rows, and all. -/
import Derived.Test.YtdnaipiiponhpaaOwn2
namespace Go.Proofs.Ytdnaipiiponhpaa
open Go.RowKit Go.Shelf

/-- What comes out of the first t patterns, each once. -/
def rimgs (p : Nat) (V : List (Int × Int)) (t : Nat) : List (List Int) := once ((List.range t).map fun s => runV V (bitsOf p s))
theorem rimgs_succ (p : Nat) (V : List (Int × Int)) (t : Nat) : rimgs p V (t + 1) = if runV V (bitsOf p t) ∈ rimgs p V t then rimgs p V t else rimgs p V t ++ [runV V (bitsOf p t)] := by
  unfold rimgs; rw [List.range_succ, List.map_append, List.map_cons, List.map_nil, once_snoc]
theorem rimgs_le (p : Nat) (V : List (Int × Int)) (t : Nat) : (rimgs p V t).length ≤ t := by
  have := once_le ((List.range t).map fun s => runV V (bitsOf p s)); simpa [rimgs] using this
theorem rimgs_len (p : Nat) (V : List (Int × Int)) (t : Nat) : ∀ l ∈ rimgs p V t, l.length = p := by
  intro l hl
  unfold rimgs at hl
  rw [mem_once] at hl
  obtain ⟨s, _, rfl⟩ := List.mem_map.1 hl
  rw [runV_length]; simp [bitsOf]
theorem any_take (Os : List (List Int)) (x : List Int) (k : Nat) (hk : k < Os.length) : ((Os.take (k + 1)).any fun o => decide (o = x)) = (((Os.take k).any fun o => decide (o = x)) || decide (Os[k]?.getD [] = x)) := by
  rw [List.take_succ_eq_append_getElem hk, List.any_append, List.getElem?_eq_getElem hk]; simp only [List.any_cons, List.any_nil, Bool.or_false, Option.getD_some]

set_option maxRecDepth 100000 in
set_option maxHeartbeats 4000000 in
theorem imagesof_any (p : Nat) (x : Value) (V : List (Int × Int)) (w : World) (hx0 : RdP w x V) (hV : OkRow p V) :
    Calls Try.prog 67 #[.agg #[.int .i64 p, x]] w fun e w' => e = .returned (.int .i64 ((rimgs p V (2 ^ p)).length : Nat)) ∧ Below w.heap.size w w' := by
  have hp1 := hV.p1; have hp8 := hV.p8; have h40 := hV.len
  obtain ⟨a, ca, rfl, _, _, _⟩ := hx0.form
  have h256 := pow_le_8 p (by omega)
  obtain ⟨m, hm⟩ : ∃ m, m = 2 ^ p := ⟨_, rfl⟩
  have hwp : wrap64 ((2 : Int) ^ p) = (m : Int) := by
    have e : (2 : Int) ^ p = ((2 ^ p : Nat) : Int) := by simp
    rw [e, ← hm]
    unfold wrap64
    omega
  rw [← hm] at h256 ⊢
  have HM := Lib.hid hm; clear hm
  go_enter Try.func67, Try.ntmps67
  go_wp2
  go_loopw [3, 4, 5, 6, 7, 8, 9, 10, 11, 12, 13, 14, 15, 16, 17, 18, 19, 20, 21, 22, 23, 24, 25, 26, 27, 28, 29, 30, 31, 32, 33, 34, 35, 36, 37, 38, 39, 40, 41, 42] (fun v i _ _ _ _ _ _ _ _ _ _ _ _ _ _ _ _ _ _ _ _ _ _ _ _ _ _ _ _ _ _ _ _ _ _ _ _ _ _ wr => ∃ t vs, t ≤ m ∧ i = .int .i64 (t : Nat) ∧ Below w.heap.size w wr ∧ w.heap.size < wr.heap.size ∧ wr.cell? ⟨w.heap.size, 0, none⟩ = some (.int .i64 p) ∧ wr.cell? ⟨w.heap.size, 1, none⟩ = some (.slice a V.length ca) ∧ OwnLL wr (w.heap.size + 1) v p (rimgs p V t) vs) (fun v i _ _ _ _ _ _ _ _ _ _ _ _ _ _ _ _ _ _ _ _ _ _ _ _ _ _ _ _ _ _ _ _ _ _ _ _ _ _ _ => m - (intOf i).toNat)
  case atStart => exact ⟨0, [], Nat.zero_le _, rfl, bal (bz _) _, by simp, cnew rfl rfl, cnew rfl rfl, ⟨World.ownsRow_nil _ _ _ _, fun i e h => by simp at h⟩⟩
  case round =>
    obtain ⟨t, vs, ht, rfl, hB, hz, c0, c1, hO⟩ := hrel
    have HO := Lib.hid hO; clear hO
    have hle := rimgs_le p V t
    by_cases htp : t < m
    · have htp2 : (t : Int) < (m : Int) := by omega
      go_wp2
      refine wp_region_flow [] [([0, 1, 2, 3, 4], 5, true), ([], 6, true)] [7] (by kernel_rfl) (by kernel_rfl) ?_
      intro wc hBc hh
      clear hh
      have d0 := (hBc.cell (p := ⟨w.heap.size, 0, none⟩) hz).trans c0
      have d1 := (hBc.cell (p := ⟨w.heap.size, 1, none⟩) hz).trans c1
      have hzc : w.heap.size < wc.heap.size := Nat.lt_of_lt_of_le hz hBc.size
      have hL := @Later.cell wc
      have HB := Lib.hid (btr hB hBc)
      have HO2 := Lib.hid (HO.out.later hBc)
      clear c0 c1 HO hBc hB
      simp only [flowP, flow, pickL, List.getElem?_cons_succ, List.getElem?_cons_zero]
      refine wpQuiet_nil ?_
      repeat (go_big_quiet_step (fail))
      refine wpQuiet_nil ?_
      go_wp2_with fail
      refine (patterned_any p t wc (by omega) (by omega)).mono ?_
      rintro e w2 ⟨v2, rfl, hown, hB2⟩
      have hbl : (bitsOf p t).length = p := by simp [bitsOf]
      have HRD := Lib.hid (RdI.of_owns (w := w2) (k := .i64) (xs := bitsOf p t) hown)
      have HB2 := Lib.hid hB2
      clear hown hB2
      go_wp2
      refine seg_grow ⟨⟨_, HB2.out⟩, rfl⟩ ?_
      refine wpQuiet_nil ?_
      go_wp2_with fail
      refine (runof_any _ _ V (bitsOf p t) w2 (hx0.mono (btr HB.out HB2.out)) HRD.out (by omega) (by omega) (by omega) (fun v hv => by obtain ⟨h1, h2, h3⟩ := hV.ok v hv; omega)).mono ?_
      rintro e w3 ⟨v3, rfl, hown3, hB3⟩
      have hlr : (runV V (bitsOf p t)).length = p := by rw [runV_length]; exact hbl
      rw [hbl] at hown3
      have hO3 := HO2.out.later (btr HB2.out hB3)
      have hB4 := btr HB2.out hB3
      have hown4 : w3.ownsRow (w.heap.size + 1) 2 1 v3 p ((runV V (bitsOf p t)).map (Value.int .i64)) := by
        refine ⟨hown3.1, ?_⟩
        rcases hown3.2 with h | ⟨g, cap, cur, h1, h2, h3⟩
        · exact .inl h
        · exact .inr ⟨g, cap, cur, h1, by have := HB2.out.size; omega, h3⟩
      obtain ⟨a3, d3, hv3⟩ := owns_form hown4
      subst hv3
      have HW4 := Lib.hid hown4; have HB4 := Lib.hid hB4; have HO4 := Lib.hid hO3
      clear hown3 hB3 hO3 hB4 hown4 HO2 HRD
      go_wp2
      refine seg_grow ⟨⟨_, HB4.out⟩, rfl⟩ ?_
      repeat (go_big_quiet_step (fail))
      refine wpQuiet_nil ?_
      refine only_done ?_
      have g0 := (HB4.out.cell (p := ⟨w.heap.size, 0, none⟩) hzc).trans d0
      have g1 := (HB4.out.cell (p := ⟨w.heap.size, 1, none⟩) hzc).trans d1
      have z3 : w.heap.size < w3.heap.size := Nat.lt_of_lt_of_le hzc HB4.out.size
      have HB5 := Lib.hid (btr HB.out HB4.out)
      have HST := Lib.hid (rimgs_succ p V t)
      have HLL := Lib.hid (rimgs_len p V t)
      clear hL d0 d1 hzc HB2 HB4 HB
      generalize hX : runV V (bitsOf p t) = X at *
      generalize hOs : rimgs p V t = Os at *
      have HX := Lib.hid hX; have HOS := Lib.hid hOs
      clear hX hOs
      obtain ⟨a9, c9, hv9⟩ := owns_form HO4.out.own
      subst hv9
      go_wp2
      go_loopw [6, 7, 22, 23, 24, 25, 26, 27, 28, 29, 30, 31, 32, 33, 34, 35, 36] (fun f i _ _ _ _ _ _ _ _ _ _ _ _ _ _ _ wr => ∃ k, k ≤ Os.length ∧ i = .int .i64 (k : Nat) ∧ f = .bool ((Os.take k).any fun o => decide (o = X)) ∧ Below w3.heap.size w3 wr) (fun f i _ _ _ _ _ _ _ _ _ _ _ _ _ _ _ _ => Os.length - (intOf i).toNat)
      case atStart => exact ⟨0, Nat.zero_le _, rfl, by simp, bz _⟩
      case round =>
        obtain ⟨k, hk, rfl, rfl, hBr⟩ := hrel
        have HBR := Lib.hid hBr
        by_cases hkO : k < Os.length
        · obtain ⟨g, c, e, ae, de, hve, hg, hce, hee, hoe⟩ := (HO4.out.later hBr).get k hkO
          simp only [Value.slice.injEq, true_and] at hve
          obtain ⟨rfl, rfl⟩ := hve
          subst hee
          have HEL := Lib.hid (RdI.of_owns hoe)
          have HST2 := Lib.hid (any_take Os X k hkO)
          have hel : (Os[k]?.getD []).length = p := HLL.out _ (by simp [hkO])
          have HXR := Lib.hid (RdI.of_owns (owns_kept HW4.out hBr))
          clear hoe hBr
          generalize Os[k]?.getD [] = ek at *
          generalize hb : ((Os.take k).any fun o => decide (o = X)) = b at *
          have HBB := Lib.hid hb; clear hb
          cases b
          · go_wp2_with fail
            refine (rsame_any _ _ _ _ _ HEL.out HXR.out (by omega) (by omega)).mono ?_
            rintro e w5 ⟨rfl, hB5⟩
            have HB6 := Lib.hid (btr HBR.out hB5)
            clear hB5
            go_wp2
            refine ⟨⟨k + 1, by omega, by go_num, by rw [HST2.out]; simp, HB6.out⟩, by simp [intOf]; omega⟩
          · go_wp2
            refine ⟨⟨k + 1, by omega, by go_num, by rw [HST2.out]; simp, HBR.out⟩, by simp [intOf]; omega⟩
        · obtain rfl : k = Os.length := by omega
          have hO6 := HO4.out.later hBr
          have hW6 := owns_kept HW4.out hBr
          have y0 := (hBr.cell (p := ⟨w.heap.size, 0, none⟩) z3).trans g0
          have y1 := (hBr.cell (p := ⟨w.heap.size, 1, none⟩) z3).trans g1
          have z6 : w.heap.size < wr.heap.size := Nat.lt_of_lt_of_le z3 hBr.size
          have HB7 := Lib.hid (btr HB5.out hBr)
          have HO6 := Lib.hid hO6; have HW6 := Lib.hid hW6
          clear hO6 hW6 hBr HBR HO4 HW4 g0 g1
          rw [List.take_length]
          have hmem : (Os.any fun o => decide (o = X)) = decide (X ∈ Os) := by
            rw [Bool.eq_iff_iff]; simp
          rw [hmem]
          clear hmem
          by_cases hin : X ∈ Os
          · have HS2 : Hid (rimgs p V (t + 1) = Os) := Lib.hid (by rw [HST.out, if_pos hin])
            rw [decide_eq_true hin]
            clear hin
            go_wp2
            refine ⟨⟨t + 1, vs, by omega, by go_num, HB7.out, z6, y0, y1, by rw [HS2.out]; exact HO6.out⟩, by simp [intOf]; omega⟩
          · have HS2 : Hid (rimgs p V (t + 1) = Os ++ [X]) := Lib.hid (by rw [HST.out, if_neg hin])
            rw [decide_eq_false hin]
            clear hin
            go_wp2_with (at_builtin; refine wpList_append_list rfl _ _ rfl HO6.out _ rfl rfl rfl (by omega) (by omega) ?_)
            intro v' w' hown' hgrow
            have hP := HO6.out.push HW6.out hown' hgrow
            have hB8 : Below w.heap.size w w' := append_below (bal HB7.out _) (HO6.out.own.alloc _) hgrow (by omega)
            have hz8 : wr.heap.size ≤ w'.heap.size := by have := hgrow.size; simp at this; omega
            have hne : ∀ r, r < w.heap.size + 1 → w'.heap[r]? = wr.heap[r]? := fun r hr => (append_keep (HO6.out.own.alloc _) hgrow hr (by simp; omega)).trans (Below.heap_alloc _ _ _ (by omega))
            have y0' : w'.cell? ⟨w.heap.size, 0, none⟩ = some (.int .i64 p) := (World.cell?_of_block (hne _ (by simp))).trans y0
            have y1' : w'.cell? ⟨w.heap.size, 1, none⟩ = some (.slice a V.length ca) := (World.cell?_of_block (hne _ (by simp))).trans y1
            have HP := Lib.hid hP; have HB8 := Lib.hid hB8
            clear hown' hgrow hP hB8 hne y0 y1
            go_wp2
            refine ⟨⟨t + 1, _, by omega, by go_num, HB8.out, by omega, y0', y1', by rw [HS2.out]; exact HP.out⟩, by simp [intOf]; omega⟩
    · obtain rfl : t = m := by omega
      have HB := Lib.hid hB
      have hO := HO.out
      obtain ⟨a9, c9, hv9⟩ := owns_form hO.own
      subst hv9
      clear hO
      go_wp2
      go_ret
      exact ⟨rfl, HB.out⟩

def rimgE (p : Int) (V : List (Int × Int)) : Int := if checkR p V = 0 then ((rimgs p.toNat V (2 ^ p.toNat)).length : Nat) else 0
set_option maxRecDepth 100000 in
set_option maxHeartbeats 1000000 in
theorem rimages_any (p : Int) (x : Value) (V : List (Int × Int)) (w : World) (hx0 : RdP w x V) (hl : V.length ≤ 1000) :
    Calls Try.prog 26 #[.agg #[.int .i64 p, x]] w fun e w' => e = .returned (.tuple #[.int .i64 (rimgE p V), .int .i64 (checkR p V)]) ∧ Below w.heap.size w w' := by
  obtain ⟨a, ca, rfl, _, _, _⟩ := hx0.form
  unfold rimgE
  have H0 := Lib.hid fun w1 (hB : Below w.heap.size w w1) => rcheck_any p _ V w1 (hx0.mono hB) hl
  by_cases h : checkR p V = 0
  · obtain ⟨n, rfl, hV⟩ := cond_row h
    rw [if_pos h, h, show ((n : Nat) : Int).toNat = n by omega]
    rw [h] at H0
    clear h
    go_enter Try.func26, Try.ntmps26
    go_wp2_with fail
    refine (H0.out _ (bal (bz _) _)).mono ?_
    rintro e w2 ⟨rfl, hB2⟩
    have c0 : w2.cell? ⟨w.heap.size, 0, none⟩ = some (.int .i64 n) := (hB2.cell (by simp)).trans (cnew rfl rfl)
    have c1 : w2.cell? ⟨w.heap.size, 1, none⟩ = some (.slice a V.length ca) := (hB2.cell (by simp)).trans (cnew rfl rfl)
    have hB3 := btr (bal (bz w) _) hB2
    go_wp2_with fail
    refine (imagesof_any n _ V w2 (hx0.mono hB3) hV).mono ?_
    rintro e w3 ⟨rfl, hB4⟩
    go_wp2
    go_ret2
    exact ⟨rfl, btr hB3 hB4⟩
  · rw [if_neg h]
    generalize checkR p V = c at *
    have e0 : (c != 0) = true := by simpa using h
    clear h
    go_enter Try.func26, Try.ntmps26
    go_wp2_with fail
    refine (H0.out _ (bal (bz _) _)).mono ?_
    rintro e w2 ⟨rfl, hB2⟩
    have hB3 := btr (bal (bz w) _) hB2
    have c0 : w2.cell? ⟨w.heap.size, 0, none⟩ = some (.int .i64 p) := (hB2.cell (by simp)).trans (cnew rfl rfl)
    have c1 : w2.cell? ⟨w.heap.size, 1, none⟩ = some (.slice a V.length ca) := (hB2.cell (by simp)).trans (cnew rfl rfl)
    go_wp2_with fail
    refine (H0.out _ hB3).mono ?_
    rintro e w3 ⟨rfl, hB4⟩
    go_wp2
    go_ret2
    exact ⟨rfl, btr hB3 hB4⟩
end Go.Proofs.Ytdnaipiiponhpaa
