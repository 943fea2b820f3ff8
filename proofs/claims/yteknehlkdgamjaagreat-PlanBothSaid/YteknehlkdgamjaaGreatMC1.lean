/- CheckCover of the document. -/
import Derived.Test.YteknehlkdgamjaaGreatMGH
namespace Go.Proofs.YteknehlkdgamjaaGreat
open Go.RowKit Go.Shelf

theorem isJ_rows {n : Nat} {R : List (List Int)} (h : ∀ i, i < R.length → isJ n (row R i) = true) : isJ n R.flatten = true := by
  rw [isJ_all]
  intro x hx
  obtain ⟨l, hl, hxl⟩ := List.mem_flatten.1 hx
  obtain ⟨i, hi, rfl⟩ := List.getElem_of_mem hl
  have := h i hi
  rw [row_lt hi, isJ_all] at this
  exact this x hxl
theorem isJ_rowf {n : Nat} {R : List (List Int)} {i : Nat} (hi : i < R.length) (h : isJ n (row R i) = false) : isJ n R.flatten = false := by
  cases hf : isJ n R.flatten with
  | false => rfl
  | true =>
    have : isJ n (row R i) = true := by
      rw [isJ_all] at hf ⊢
      intro x hx
      refine hf x (List.mem_flatten.2 ⟨row R i, ?_, hx⟩)
      rw [row_lt hi]; exact List.getElem_mem hi
    rw [h] at this; cases this
theorem flat_split {R : List (List Int)} {i k : Nat} (hi : i < R.length) (hk : k < (row R i).length) : ∃ rest, R.flatten = ((R.take i).flatten ++ (row R i).take k) ++ elt (row R i) k :: rest := by
  refine ⟨(row R i).drop (k + 1) ++ (R.drop (i + 1)).flatten, ?_⟩
  have h1 : R = R.take i ++ row R i :: R.drop (i + 1) := by rw [row_lt hi, ← List.drop_eq_getElem_cons hi, List.take_append_drop]
  have h2 : row R i = (row R i).take k ++ elt (row R i) k :: (row R i).drop (k + 1) := by rw [elt_lt hk, ← List.drop_eq_getElem_cons hk, List.take_append_drop]
  calc R.flatten = (R.take i ++ row R i :: R.drop (i + 1)).flatten := by rw [← h1]
    _ = (R.take i).flatten ++ (row R i ++ (R.drop (i + 1)).flatten) := by rw [List.flatten_append, List.flatten_cons]
    _ = (R.take i).flatten ++ (((row R i).take k ++ elt (row R i) k :: (row R i).drop (k + 1)) ++ (R.drop (i + 1)).flatten) := by rw [← h2]
    _ = _ := by simp only [List.append_assoc, List.cons_append]
theorem flat_dup {R : List (List Int)} {i k : Nat} (hi : i < R.length) (hk : k < (row R i).length) (h : ((R.take i).flatten ++ (row R i).take k).contains (elt (row R i) k) = true) : ¬ R.flatten.Nodup := by
  obtain ⟨rest, e⟩ := flat_split hi hk
  rw [e, List.nodup_append]
  intro hn
  exact hn.2.2 _ (List.contains_iff_mem.1 h) _ List.mem_cons_self rfl
theorem flat_new {R : List (List Int)} {i k : Nat} (hk : k < (row R i).length) (hn : ((R.take i).flatten ++ (row R i).take k).Nodup) (h : ((R.take i).flatten ++ (row R i).take k).contains (elt (row R i) k) = false) :
    ((R.take i).flatten ++ (row R i).take (k + 1)).Nodup ∧ (R.take i).flatten ++ (row R i).take (k + 1) = ((R.take i).flatten ++ (row R i).take k) ++ [elt (row R i) k] := by
  have e : (R.take i).flatten ++ (row R i).take (k + 1) = ((R.take i).flatten ++ (row R i).take k) ++ [elt (row R i) k] := by
    rw [List.take_succ_eq_append_getElem hk, elt_lt hk, List.append_assoc]
  refine ⟨?_, e⟩
  rw [e, List.nodup_append]
  refine ⟨hn, by simp, fun a ha b hb e => ?_⟩
  rw [List.mem_singleton] at hb
  subst e; subst hb
  rw [List.contains_iff_mem.2 ha] at h; cases h
theorem rows_any {R : List (List Int)} {i : Nat} (hi : i < R.length) (h : (row R i).length = 0) : R.any noneL = true := by
  rw [List.any_eq_true]
  exact ⟨row R i, by rw [row_lt hi]; exact List.getElem_mem hi, by unfold noneL; rw [h]; rfl⟩
theorem rows_none {R : List (List Int)} (h : ∀ i, i < R.length → (row R i).length ≠ 0) : R.any noneL = false := by
  rw [List.any_eq_false]
  intro l hl
  obtain ⟨i, hi, rfl⟩ := List.getElem_of_mem hl
  have := h i hi
  rw [row_lt hi] at this
  unfold noneL
  simpa using this
theorem aft_test {J : List Job} {p q : Nat} (hp : p < J.length) (hq : q < J.length) : bits .and .i64 ((nel (aftM J) p : Int) / 2 ^ q) 1 = if aft J p q then 1 else 0 := by
  rw [i64_and1, shr_bit, aftM_bit hp hq]
set_option maxRecDepth 100000 in
set_option maxHeartbeats 6400000 in
theorem rcheckcover_any (v x : Value) (J : List Job) (R : List (List Int)) (w : World) (hx0 : RdJ w v J) (hy0 : RdLL w x R) (hs : SmJ J) (hR : Sml R) :
    Calls Tryz.prog 48 #[.agg #[v], x] w (RetN w (coverV J R) (coverC J R)) := by
  have HER := Lib.hid (fun wz (h : Below w.heap.size w wz) => error_any v J wz (hx0.mono h) hs)
  have HIS := Lib.hid (fun y l wz (h : Below w.heap.size w wz) (hy : RdI wz .i64 y l) (hl : l.length ≤ 1000) => isjobs_any v y J l wz (hx0.mono h) hy hl hs)
  have HAF := Lib.hid (fun wz (h : Below w.heap.size w wz) (hq : errC J = 0) => after_any v J wz (hx0.mono h) (fine_err hq).1)
  have HY := Lib.hid hy0
  have hR1 := hR.1
  have HR2 := Lib.hid hR.2
  have HFL := Lib.hid (flat_len hR.2)
  obtain ⟨a, c, rfl⟩ := hx0.sl
  obtain ⟨ax, cx, rfl⟩ := hy0.sl
  have hsn := hs.1
  clear hx0 hs hy0 hR
  obtain ⟨n, hn⟩ : ∃ n, n = J.length := ⟨_, rfl⟩
  have HN := Lib.hid hn
  have HC := Lib.hid (show coverC J R = if errC J = 0 then (if isJ J.length R.flatten then (if eqB J.length R then (if rusTo J R R.length then 0 else 16) else 15) else 3) else errC J from rfl)
  have HV := Lib.hid (show coverV J R = if coverC J R = 0 then (R.length : Int) else 0 from rfl)
  have HEQ := Lib.hid (show eqB J.length R = (decide (R.flatten.length = J.length) && decide R.flatten.Nodup && !R.any noneL) from rfl)
  have HIR := Lib.hid (fun h k q => isJ_row (n := J.length) (R := R) h (k := k) (q := q))
  have HIY := Lib.hid (isJ_rows (n := J.length) (R := R))
  have HIF := Lib.hid (fun i => isJ_rowf (n := J.length) (R := R) (i := i))
  have HTE := Lib.hid (fun p q => aft_test (J := J) (p := p) (q := q))
  have HLN : Hid ((nlI (aftM J)).length = J.length) := Lib.hid (by rw [nlI_len, aftM_len])
  rw [← hn] at HER HIS HAF HC hsn HEQ HIR HIY HIF HTE HLN ⊢
  clear hn
  have gq : (w.alloc (.cells #[.slice a n c] 24)).cell? ⟨w.heap.size, 0, none⟩ = some (.slice a n c) := cnew rfl rfl
  have zq : w.heap.size < (w.alloc (.cells #[.slice a n c] 24)).heap.size := by simp
  have HB0 := Lib.hid (bal (bz w) (.cells #[.slice a n c] 24))
  unfold RetN
  generalize hq0 : errC J = q at *
  have HQ := Lib.hid hq0
  clear hq0
  generalize coverC J R = C at *
  generalize coverV J R = V at *
  generalize eqB n R = eb at *
  go_enter Tryz.func48, Tryz.ntmps48
  go_wp2_with fail
  generalize w.alloc (.cells #[.slice a n c] 24) = w3 at *
  refine (HER.out _ HB0.out).mono ?_
  rintro e w4 ⟨rfl, hB⟩
  have HB4 := Lib.hid (btr HB0.out hB)
  have g4 := (hB.cell (p := ⟨w.heap.size, 0, none⟩) zq).trans gq
  have z4 := Nat.lt_of_lt_of_le zq hB.size
  clear hB gq zq
  by_cases hq : q = 0
  · subst hq
    rw [if_pos rfl] at HC
    have HFI := Lib.hid (fine_err HQ.out)
    have h12 : n ≤ 12 := by have := HFI.out.1.n12; have := HN.out; omega
    have HGQ := Lib.hid (fun wz (h : Below w4.heap.size w4 wz) => (⟨(h.cell (p := ⟨w.heap.size, 0, none⟩) z4).trans g4, Nat.lt_of_lt_of_le z4 h.size⟩ : wz.cell? ⟨w.heap.size, 0, none⟩ = some (.slice a n c) ∧ w.heap.size < wz.heap.size))
    clear g4 z4
    go_wp2_with fail
    go_loopw [6] (fun s6 wr => ∃ i : Nat, i ≤ R.length ∧ s6 = .int .i64 i ∧ (∀ j, j < i → isJ n (row R j) = true) ∧ Below w4.heap.size w4 wr) (fun s6 _ => R.length - (intOf s6).toNat)
    case atStart => exact ⟨0, Nat.zero_le _, rfl, fun j h => by omega, bz w4⟩
    case round =>
      obtain ⟨i, hi, rfl, ht, hB⟩ := hrel
      rename World => w5
      have HT := Lib.hid ht; have HB5 := Lib.hid hB; have HBW5 := Lib.hid (btr HB4.out hB)
      obtain ⟨gq, zq⟩ := HGQ.out _ hB
      clear ht hB
      by_cases hlt : i < R.length
      · obtain ⟨b, o, a', c', e, hb, g1, hr⟩ := (HY.out.mono HBW5.out).get i hlt
        subst e
        have hrl := HR2.out i
        have HRR := Lib.hid hr
        have HIFI := Lib.hid (HIF.out i hlt)
        have HNX : Hid (isJ n (row R i) = true → ∀ j, j < i + 1 → isJ n (row R j) = true) := Lib.hid (fun h j hj => by
          by_cases e : j = i
          · subst e; exact h
          · exact HT.out j (by omega))
        have HCALL := Lib.hid (fun y wz (h : Below w.heap.size w wz) (hy : RdI wz .i64 y (row R i)) => HIS.out y (row R i) wz h hy (by omega))
        clear hr HT
        generalize isJ n (row R i) = ij at *
        generalize row R i = l at *
        go_upto_region 6 with fail
        refine wp_region_flow [] [([0, 1, 2, 3, 4], 5, true)] [6] (by kernel_rfl) (by kernel_rfl) ?_
        intro wc hBc hh
        clear hh
        have HBC := Lib.hid hBc
        have hL := @Later.cell wc
        have k1 := (hBc.cell (p := ⟨b, _, none⟩) hb).trans g1
        have k2 := (hBc.cell (p := ⟨w.heap.size, 0, none⟩) zq).trans gq
        have z1 := Nat.lt_of_lt_of_le hb hBc.size
        have z2 := Nat.lt_of_lt_of_le zq hBc.size
        have HRC := Lib.hid (HRR.out.mono hBc)
        clear hBc g1 gq hb zq
        simp only [flowP, flow, pickL, List.getElem?_cons_succ, List.getElem?_cons_zero]
        refine wpQuiet_nil ?_
        repeat (go_big_quiet_step (fail))
        refine wpQuiet_nil ?_
        clear hL k1 k2 z1 z2
        go_wp2_with fail
        refine (HCALL.out _ _ (btr HBW5.out HBC.out) HRC.out).mono ?_
        rintro e w6 ⟨rfl, hB6⟩
        have HB6 := Lib.hid hB6
        have HB56 := Lib.hid (btr HB5.out (btr HBC.out hB6))
        clear hB6
        go_wp2
        refine seg_grow ⟨⟨_, HB6.out⟩, rfl⟩ ?_
        cases ij with
        | true =>
          have HNX1 := Lib.hid (HNX.out rfl)
          repeat (go_big_quiet_step (fail))
          refine wpQuiet_nil ?_
          refine only_done ?_
          go_wp2_with fail
          go_roundw
          case rel => exact ⟨i + 1, by omega, by go_num, HNX1.out, HB56.out⟩
          case measure => simp [intOf]; omega
        | false =>
          have HC3 := Lib.hid (show C = 3 by rw [HC.out, HIFI.out rfl]; rfl)
          have HVV := Lib.hid (show V = 0 by rw [HV.out, if_neg (by rw [HC3.out]; decide)])
          repeat (go_big_quiet_step (fail))
          refine wpQuiet_nil ?_
          refine only_done ?_
          go_wp2_with fail
          go_ret2
          exact ⟨by rw [HVV.out, HC3.out]; rfl, btr HB4.out HB56.out⟩
      · have HIJ := Lib.hid (HIY.out (fun j hj => HT.out j (by omega)))
        have HC2 := Lib.hid (show C = if eb then (if rusTo J R R.length then 0 else 16) else 15 by rw [HC.out, HIJ.out]; rfl)
        clear HT gq zq
        go_wp2_with fail
        clear hi hlt
        go_loopw [7, 8] (fun s7 s8 wr => ∃ i : Nat, i ≤ R.length ∧ s8 = .int .i64 i ∧ (∀ j, j < i → (row R j).length ≠ 0) ∧ (R.take i).flatten.Nodup ∧ rowI wr w4.heap.size s7 (R.take i).flatten ∧ Below w4.heap.size w4 wr) (fun _ s8 _ => R.length - (intOf s8).toNat)
        case atStart => exact ⟨0, Nat.zero_le _, rfl, fun j h => by omega, by simp, by rw [List.take_zero]; exact World.ownsRow_nil _ _ _ _, HB5.out⟩
        case round =>
          clear HB5 HBW5
          obtain ⟨i, hi, rfl, ht, hnd, hrw, hB⟩ := hrel
          rename World => w6
          have HT := Lib.hid ht; have HND := Lib.hid hnd; have HRW := Lib.hid hrw; have HB6 := Lib.hid hB; have HBW6 := Lib.hid (btr HB4.out hB)
          clear ht hnd hrw hB
          by_cases hlt : i < R.length
          · obtain ⟨b, o, a', c', e, hb0, g10, hr0⟩ := (HY.out.mono HB4.out).get i hlt
            subst e
            have hrl := HR2.out i
            have HRA := Lib.hid (rows_any hlt)
            have HRR := Lib.hid (fun (wz : World) (h : Below w4.heap.size w4 wz) => hr0.mono h)
            have hcl := HFL.out i (by omega)
            have HDU := Lib.hid (fun k (hk : k < (row R i).length) => flat_dup hlt hk)
            have HNW := Lib.hid (fun k (hk : k < (row R i).length) => flat_new (R := R) (i := i) hk)
            have HFT := Lib.hid (show ((R.take i).flatten ++ (row R i).take (row R i).length) = (R.take (i + 1)).flatten by rw [List.take_length, flat_take R i hlt])
            have HGC := Lib.hid (fun (wz : World) (h : Below w4.heap.size w4 wz) => (⟨(h.cell (p := ⟨b, _, none⟩) hb0).trans g10, Nat.lt_of_lt_of_le hb0 h.size⟩ : wz.cell? ⟨b, o + i, none⟩ = some (.slice a' (row R i).length c') ∧ b < wz.heap.size))
            clear hr0 hb0 g10
            obtain ⟨g1, hb⟩ := HGC.out _ HB6.out
            by_cases h0 : (row R i).length = 0
            · have HNN := Lib.hid (HRA.out h0)
              have HEB := Lib.hid (show eb = false by rw [HEQ.out, HNN.out]; simp)
              have HC3 := Lib.hid (show C = 15 by rw [HC2.out, HEB.out]; rfl)
              have HVV := Lib.hid (show V = 0 by rw [HV.out, if_neg (by rw [HC3.out]; decide)])
              have t1 : (((row R i).length : Int) == 0) = true := by simp [h0]
              have t2 : ((row R i).length == 0) = true := by simp [h0]
              clear h0
              go_wp2_with fail
              go_ret2
              exact ⟨by rw [HVV.out, HC3.out]; rfl, HBW6.out⟩
            · have t1 : (((row R i).length : Int) == 0) = false := by simp [h0]
              have t2 : ((row R i).length == 0) = false := by simp [h0]
              have HTN : Hid (∀ j, j < i + 1 → (row R j).length ≠ 0) := Lib.hid (fun j hj => by
                by_cases e : j = i
                · subst e; exact h0
                · exact HT.out j (by omega))
              clear h0 HT
              have HND0 := Lib.hid (show ((R.take i).flatten ++ (row R i).take 0).Nodup by rw [List.take_zero, List.append_nil]; exact HND.out)
              have HRW0 := Lib.hid (show rowI w6 w4.heap.size _ ((R.take i).flatten ++ (row R i).take 0) by rw [List.take_zero, List.append_nil]; exact HRW.out)
              clear HND HRW HRA
              obtain ⟨A1, hA1⟩ : ∃ x, x = (R.take (i + 1)).flatten := ⟨_, rfl⟩
              rw [← hA1] at HFT
              have HA1 := Lib.hid hA1
              clear hA1
              generalize (R.take i).flatten = A at *
              generalize row R i = l at *
              go_wp2_with fail
              clear t1 t2 g1 hb
              go_loopw [7, 9] (fun s7 s9 wr => ∃ k : Nat, k ≤ l.length ∧ s9 = .int .i64 k ∧ (A ++ l.take k).Nodup ∧ rowI wr w4.heap.size s7 (A ++ l.take k) ∧ Below w4.heap.size w4 wr) (fun _ s9 _ => l.length - (intOf s9).toNat)
              case atStart => exact ⟨0, Nat.zero_le _, rfl, HND0.out, HRW0.out, HB6.out⟩
              case round =>
                clear HND0 HRW0
                obtain ⟨k, hk, rfl, hnd, hrw, hB⟩ := hrel
                rename World => w7
                have HND := Lib.hid hnd; have HRW := Lib.hid hrw; have HB7 := Lib.hid hB; have HBW7 := Lib.hid (btr HB4.out hB)
                obtain ⟨g1, hb⟩ := HGC.out _ hB
                obtain ⟨av, cv, hve⟩ := owns_form hrw
                subst hve
                clear hnd hrw hB
                have HAK := Lib.hid (show (A ++ l.take k).length ≤ 1000 by rw [List.length_append, List.length_take]; omega)
                by_cases hlk : k < l.length
                · obtain ⟨bx, ox, e, hbx, hcx⟩ := (HRR.out w7 HB7.out).get (by omega)
                  cases e
                  have gx := hcx k hlk
                  have HDUK := Lib.hid (HDU.out k hlk)
                  have HNWK := Lib.hid (HNW.out k hlk HND.out)
                  clear hcx
                  generalize elt l k = xk at *
                  obtain ⟨lk1, hlk1⟩ : ∃ x, x = l.take (k + 1) := ⟨_, rfl⟩
                  rw [← hlk1] at HNWK
                  have HLK1 := Lib.hid hlk1
                  clear hlk1
                  generalize A ++ l.take k = AK at *
                  go_wp2_with fail
                  refine (has_any _ AK xk w7 (RdI.of_owns HRW.out) HAK.out).mono ?_
                  rintro e w' ⟨rfl, hw⟩
                  subst hw
                  cases hco : AK.contains xk with
                  | true =>
                    have HNN := Lib.hid (decide_eq_false (HDUK.out hco))
                    have HEB := Lib.hid (show eb = false by rw [HEQ.out, HNN.out]; simp)
                    have HC3 := Lib.hid (show C = 15 by rw [HC2.out, HEB.out]; rfl)
                    have HVV := Lib.hid (show V = 0 by rw [HV.out, if_neg (by rw [HC3.out]; decide)])
                    clear hco
                    go_wp2_with fail
                    go_ret2
                    exact ⟨by rw [HVV.out, HC3.out]; rfl, HBW7.out⟩
                  | false =>
                    have HNK := Lib.hid (HNWK.out hco)
                    have hak := HAK.out
                    clear hco
                    go_wp2_with (at_builtin; refine wpList_append_num rfl _ _ rfl Tryz.underlying41 num3 HRW.out xk rfl rfl rfl hak HB7.out.size ?_)
                    intro v' w' hO' hg'
                    have HO' := Lib.hid (show rowI w' w4.heap.size v' (A ++ lk1) by rw [HNK.out.2]; unfold rowI; rw [List.length_append, List.map_append]; exact hO')
                    have HB' := Lib.hid (append_below (bal HB7.out _) (World.ownsRow.alloc HRW.out _) hg' (Nat.le_refl _))
                    clear hO' hg'
                    go_wp2_with fail
                    go_roundw
                    case rel => rw [HLK1.out] at HNK HO'; exact ⟨k + 1, by omega, by go_num, HNK.out.1, HO'.out, HB'.out⟩
                    case measure => simp [intOf]; omega
                · have hke : k = l.length := by omega
                  have HND1 := Lib.hid (show A1.Nodup by rw [← HFT.out, ← hke]; exact HND.out)
                  have HRW1 := Lib.hid (show rowI w7 w4.heap.size _ A1 by rw [← HFT.out, ← hke]; exact HRW.out)
                  clear hke
                  go_wp2_with fail
                  go_roundw
                  case rel => rw [HA1.out] at HND1 HRW1; exact ⟨i + 1, by omega, by go_num, HTN.out, HND1.out, HRW1.out, HB7.out⟩
                  case measure => simp [intOf]; omega
          · have hie : i = R.length := by omega
            have HNN := Lib.hid (rows_none (R := R) (fun j hj => HT.out j (by omega)))
            have HNF := Lib.hid (show R.flatten.Nodup by have h := HND.out; rwa [hie, List.take_length] at h)
            have HRF := Lib.hid (show rowI w6 w4.heap.size _ R.flatten by have h := HRW.out; rwa [hie, List.take_length] at h)
            obtain ⟨av, cv, hve⟩ := owns_form HRF.out
            subst hve
            obtain ⟨gq, zq⟩ := HGQ.out _ HB6.out
            have HPOS := Lib.hid (fun j (hj : j < R.length) => (Nat.pos_of_ne_zero (HT.out j (by omega)) : 0 < (row R j).length))
            clear HT HND HRW hie
            generalize R.flatten = F at *
            by_cases hFl : F.length = n
            · have d1 : ((F.length : Int) != (n : Int)) = false := by simp [hFl]
              have d2 : (F.length != n) = false := by simp [hFl]
              have HEB := Lib.hid (show eb = true by rw [HEQ.out, HNN.out, decide_eq_true hFl, decide_eq_true HNF.out]; rfl)
              have HC3 := Lib.hid (show C = if rusTo J R R.length then 0 else 16 by rw [HC2.out, HEB.out]; rfl)
              clear hFl
              go_wp2_with fail
              refine (HAF.out w6 HBW6.out (by first | trivial | rfl)).mono ?_
              rintro e w7 ⟨u7, rfl, hr7, hB7⟩
              obtain ⟨a7, c7, e7⟩ := owns_form hr7
              subst e7
              have HR7 := Lib.hid (show RdI w7 .i64 _ (nlI (aftM J)) from RdI.of_owns hr7)
              have HBW7 := Lib.hid (btr HBW6.out hB7)
              have HEL := Lib.hid (nlI_elt (aftM J))
              rw [HLN.out] at HR7 ⊢
              clear hr7 hB7 gq zq d1 d2 hlt
              generalize nlI (aftM J) = L at *
              generalize nel (aftM J) = ne at *
              go_wp2_with fail
              go_loopw [11] (fun s11 wr => ∃ k : Nat, k ≤ R.length ∧ s11 = .int .i64 k ∧ rusTo J R k = true ∧ Below w7.heap.size w7 wr) (fun s11 _ => R.length - (intOf s11).toNat)
              case atStart => exact ⟨0, Nat.zero_le _, rfl, rfl, bz w7⟩
              case round =>
                obtain ⟨k, hk, rfl, ht, hB⟩ := hrel
                have HT := Lib.hid ht; have HBR := Lib.hid hB
                rename World => wO
                clear ht hB
                by_cases hlt : k < R.length
                · obtain ⟨b, o, a', c', e, hb0, g10, hr⟩ := (HY.out.mono HBW7.out).get k hlt
                  subst e
                  have hrl := HR2.out k
                  have HRS2 := Lib.hid (fun (wz : World) (h : Below w7.heap.size w7 wz) => hr.mono h)
                  have HST := Lib.hid (show rusTo J R (k + 1) = ruTo J (row R k) (row R k).length by rw [rusTo_succ, HT.out, Bool.true_and])
                  have HFA := Lib.hid (fun h : ruTo J (row R k) (row R k).length = false => rusTo_false (J := J) (R := R) (k := k + 1) (m := R.length) (by rw [rusTo_succ, h, Bool.and_false]) hlt)
                  have HRW := Lib.hid (fun q (hq : q < (row R k).length) => HIR.out HIJ.out k q hlt hq)
                  have HRU := Lib.hid (ruTo_succ J (row R k))
                  have HRF := Lib.hid (fun q (h : ruTo J (row R k) (q + 1) = false) (hq : q < (row R k).length) => ruTo_false h hq)
                  have HR1 := Lib.hid (show ruTo J (row R k) 1 = true from rfl)
                  have hpos : 1 ≤ (row R k).length := HPOS.out k hlt
                  have HGC := Lib.hid (fun (wz : World) (h : Below w7.heap.size w7 wz) => (⟨(h.cell (p := ⟨b, _, none⟩) hb0).trans g10, Nat.lt_of_lt_of_le hb0 h.size⟩ : wz.cell? ⟨b, o + k, none⟩ = some (.slice a' (row R k).length c') ∧ b < wz.heap.size))
                  clear hr hb0 g10
                  generalize row R k = l at *
                  go_wp2_with fail
                  go_loopw [12] (fun s12 wr => ∃ q : Nat, 1 ≤ q ∧ q ≤ l.length ∧ s12 = .int .i64 q ∧ ruTo J l q = true ∧ Below w7.heap.size w7 wr) (fun s12 _ => l.length - (intOf s12).toNat)
                  case atStart => exact ⟨1, Nat.le_refl _, hpos, rfl, HR1.out, HBR.out⟩
                  case round =>
                    clear HBR
                    obtain ⟨q, hq1, hq, rfl, ht, hB⟩ := hrel
                    have HT2 := Lib.hid ht; have HBQ := Lib.hid hB
                    rename World => wI
                    obtain ⟨g1, hb⟩ := HGC.out _ hB
                    clear ht hB
                    by_cases hql : q < l.length
                    · obtain ⟨x1, x2⟩ := HRW.out q hql
                      obtain ⟨y1, y2⟩ := HRW.out (q - 1) (by omega)
                      obtain ⟨p, hp⟩ := Int.eq_ofNat_of_zero_le y1
                      obtain ⟨m, hm⟩ := Int.eq_ofNat_of_zero_le x1
                      have hpn : p < n := by omega
                      have hmn : m < n := by omega
                      obtain ⟨bx, ox, e, hbx, hcx⟩ := (HRS2.out wI HBQ.out).get (by omega)
                      cases e
                      have gx := hcx q hql
                      have gy := hcx (q - 1) (by omega)
                      obtain ⟨bz, oz, e, hbz, hcz⟩ := (HR7.out.mono HBQ.out).get (by rw [HLN.out]; omega)
                      cases e
                      have gz := hcz p (by rw [HLN.out]; exact hpn)
                      rw [HEL.out] at gz
                      have hte := HTE.out p m hpn hmn
                      have HSTP := Lib.hid (HRU.out q)
                      rw [hp, hm, Int.toNat_natCast, Int.toNat_natCast] at HSTP
                      rw [hp] at gy
                      rw [hm] at gx
                      have hq0 : (q == 0) = false := by simp; omega
                      rw [hq0, Bool.false_or, HT2.out, Bool.true_and] at HSTP
                      have HFQ := Lib.hid (fun h => HRF.out q h hql)
                      clear hcx hcz x1 x2 y1 y2 hp hm hq0
                      generalize ne p = sp at *
                      have hi1 : (0 : Int) ≤ (q : Int) - 1 ∧ (q : Int) - 1 < l.length := by omega
                      have hw1 : IntKind.i64.wrap ((q : Int) - 1) = ((q - 1 : Nat) : Int) := by rw [IntWalk.i64_in _ (by omega)]; omega
                      go_upto_region 29 with fail
                      refine wp_region_flow [] [] [0, 1, 2, 3, 4, 5, 6, 7, 8, 9, 10, 11, 12, 13, 14, 15, 16, 17, 18, 19, 20] (by kernel_rfl) (by kernel_rfl) ?_
                      intro wc hBc hh
                      clear hh
                      have HBC := Lib.hid (btr HBQ.out hBc)
                      have hL := @Later.cell wc
                      have k1 := (hBc.cell (p := ⟨b, _, none⟩) hb).trans g1
                      have k2 := (hBc.cell (p := ⟨bx, _, none⟩) hbx).trans gx
                      have k3 := (hBc.cell (p := ⟨bx, _, none⟩) hbx).trans gy
                      have k4 := (hBc.cell (p := ⟨bz, _, none⟩) hbz).trans gz
                      have z1 := Nat.lt_of_lt_of_le hb hBc.size
                      have z2 := Nat.lt_of_lt_of_le hbx hBc.size
                      have z4 := Nat.lt_of_lt_of_le hbz hBc.size
                      clear hBc g1 gx gy gz hb hbx hbz
                      simp only [flowP, flow, pickL, List.getElem?_cons_succ, List.getElem?_cons_zero]
                      refine wpQuiet_nil ?_
                      cases hap : aft J p m with
                      | true =>
                        rw [hap] at hte
                        simp only [if_true] at hte
                        have HS2 := Lib.hid (show ruTo J l (q + 1) = true by rw [HSTP.out, hap])
                        clear hap
                        repeat (go_big_quiet_step (fail))
                        refine wpQuiet_nil ?_
                        refine only_done ?_
                        clear hL k1 k2 k3 k4 z1 z2 z4
                        go_wp2_with fail
                        go_roundw
                        case rel => exact ⟨q + 1, by omega, by omega, by go_num, HS2.out, HBC.out⟩
                        case measure => simp [intOf]; omega
                      | false =>
                        rw [hap] at hte
                        simp only [Bool.false_eq_true, if_false] at hte
                        have HRB := Lib.hid (HFA.out (HFQ.out (by rw [HSTP.out, hap])))
                        have HC4 := Lib.hid (show C = 16 by rw [HC3.out, HRB.out]; rfl)
                        have HVV := Lib.hid (show V = 0 by rw [HV.out, if_neg (by rw [HC4.out]; decide)])
                        clear hap
                        repeat (go_big_quiet_step (fail))
                        refine wpQuiet_nil ?_
                        refine only_done ?_
                        clear hL k1 k2 k3 k4 z1 z2 z4
                        go_wp2_with fail
                        go_ret2
                        exact ⟨by rw [HVV.out, HC4.out]; rfl, btr HBW7.out HBC.out⟩
                    · have hqe : q = l.length := by omega
                      have HS2 := Lib.hid (show rusTo J R (k + 1) = true by rw [HST.out, ← hqe]; exact HT2.out)
                      clear hqe
                      go_wp2_with fail
                      go_roundw
                      case rel => exact ⟨k + 1, by omega, by go_num, HS2.out, HBQ.out⟩
                      case measure => simp [intOf]; omega
                · have hke : k = R.length := by omega
                  have HC4 := Lib.hid (show C = 0 by rw [HC3.out, ← hke, HT.out]; rfl)
                  have HVV := Lib.hid (show V = R.length by rw [HV.out, if_pos HC4.out])
                  clear hke
                  go_wp2_with fail
                  go_ret2
                  exact ⟨by rw [HVV.out, HC4.out]; rfl, btr HBW7.out HBR.out⟩
            · have d1 : ((F.length : Int) != (n : Int)) = true := by simp; omega
              have d2 : (F.length != n) = true := by simp; omega
              have HEB := Lib.hid (show eb = false by rw [HEQ.out, decide_eq_false hFl]; rfl)
              have HC3 := Lib.hid (show C = 15 by rw [HC2.out, HEB.out]; rfl)
              have HVV := Lib.hid (show V = 0 by rw [HV.out, if_neg (by rw [HC3.out]; decide)])
              clear hFl
              go_wp2_with fail
              go_ret2
              exact ⟨by rw [HVV.out, HC3.out]; rfl, HBW6.out⟩
  · have t1 : (q != 0) = true := by simp [hq]
    rw [if_neg hq] at HC
    have HVV := Lib.hid (show V = 0 by rw [HV.out, if_neg (by rw [HC.out]; exact hq)])
    clear hq
    go_wp2_with fail
    refine (HER.out _ HB4.out).mono ?_
    rintro e w5 ⟨rfl, hB⟩
    have HB5 := Lib.hid (btr HB4.out hB)
    clear hB
    go_wp2_with fail
    go_ret2
    exact ⟨by rw [HVV.out, HC.out]; rfl, HB5.out⟩
end Go.Proofs.YteknehlkdgamjaaGreat
