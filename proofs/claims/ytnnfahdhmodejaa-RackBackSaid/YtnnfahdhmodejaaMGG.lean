/- Merged texts: shape, Read, CheckRising, CheckFalls, Hooks, Count. -/
import Derived.Test.YtnnfahdhmodejaaMGF
import Derived.Laws.Rows
import Derived.Laws.Tables
namespace Go.Proofs.Ytnnfahdhmodejaa
open Go.RowKit Go.Shelf

theorem Try.array91 : Try.prog.underlying 91 = some (.array 13 3) := by kernel_rfl
theorem Try.size91 : (Try.prog.info? 91).map (·.size) = some 13 := by kernel_rfl
def padS (R : List (List Int)) : List Int := (List.range 13).map fun i => ((row R i).length : Int)
/-- The first k lengths, then zeros. -/
def padK (R : List (List Int)) (k : Nat) : Array Value := (Array.range 13).map fun i => .int .i64 (if i < k then ((row R i).length : Int) else 0)
theorem padK_size (R : List (List Int)) (k : Nat) : (padK R k).size = 13 := by simp [padK]
theorem padK_zero (R : List (List Int)) : padK R 0 = Array.replicate 13 (.int .i64 0) := by
  apply Array.ext
  · simp [padK]
  · intro i h1 h2
    simp [padK]
theorem padK_get (R : List (List Int)) (k : Nat) (h : k < 13) : (padK R k)[k]? = some (.int .i64 0) := by
  rw [Array.getElem?_eq_getElem (by rw [padK_size]; exact h)]
  simp [padK]
theorem padK_set (R : List (List Int)) (k : Nat) : (padK R k).setIfInBounds k (.int .i64 ((row R k).length : Int)) = padK R (k + 1) := by
  apply Array.ext
  · simp [padK]
  · intro i h1 h2
    simp only [padK, Array.size_map, Array.size_range, Array.size_setIfInBounds] at h1 h2
    rw [Array.getElem_setIfInBounds (by simpa [padK] using h1)]
    simp only [padK, Array.getElem_map, Array.getElem_range]
    by_cases e : k = i
    · subst e; simp
    · rw [if_neg e]
      by_cases e2 : i < k
      · rw [if_pos e2, if_pos (by omega)]
      · rw [if_neg e2, if_neg (by omega)]
theorem padK_all (R : List (List Int)) {k : Nat} (h : R.length ≤ k) : padK R k = ((padS R).map (Value.int .i64)).toArray := by
  apply Array.ext
  · simp [padK, padS]
  · intro i h1 h2
    simp only [padK, Array.size_map, Array.size_range] at h1
    simp only [padK, padS, Array.getElem_map, Array.getElem_range, List.getElem_toArray, List.getElem_map, List.getElem_range]
    by_cases e2 : i < k
    · rw [if_pos e2]
    · rw [if_neg e2, row_ge (by omega)]; rfl
theorem padK_one (R : List (List Int)) (k : Nat) : (padK R k).all (·.oneCell') = true := by
  rw [Array.all_eq_true]
  intro i h
  simp [padK, Value.oneCell']
theorem rep_set (m o : Nat) (z : Value) : (Array.replicate m z).setIfInBounds o z = Array.replicate m z := by
  apply Array.ext
  · simp
  · intro i h1 h2
    rw [Array.getElem_setIfInBounds (by simpa using h2)]
    simp
theorem setCells_zero (g m : Nat) (t : TypeId) : ∀ (n o : Nat) (w : World), w.heap[g]? = some (.cells (Array.replicate m (.int .i64 0)) t (0, 0)) → (w.setCells g o (List.replicate n (.int .i64 0))).heap[g]? = some (.cells (Array.replicate m (.int .i64 0)) t (0, 0)) ∧ w.grownBy (w.setCells g o (List.replicate n (.int .i64 0))) (some g)
  | 0, o, w, h => ⟨h, ⟨rfl, rfl, rfl, Nat.le_refl _, fun _ _ _ => rfl⟩⟩
  | n + 1, o, w, h => by
    have h1 := heap_setCell_same w g o _ t (.int .i64 0) h
    rw [rep_set] at h1
    obtain ⟨h2, h3⟩ := setCells_zero g m t n (o + 1) _ h1
    have h4 := grownBy_set w ⟨g, o, none⟩ (.int .i64 0)
    exact ⟨h2, ⟨h3.os.trans h4.os, h3.tape.trans h4.tape, h3.output.trans h4.output, Nat.le_trans h4.size h3.size, fun k hk hne => (h3.block k (Nat.lt_of_lt_of_le hk h4.size) hne).trans (h4.block k hk hne)⟩⟩
theorem shape_start (w : World) (box : Array Value) : ∃ W', (∀ ty, (Builtin.clear_ #[31] ty #[.slice (some ⟨w.heap.size + 1 + 1, 0, none⟩) 13 13]).run Try.prog (((w.alloc (.cells box 83)).alloc (.cells (Array.replicate 13 (.int .i64 0)) 91)).alloc (.cells (Array.replicate 13 (.int .i64 0)) 91)) = .ok (.tuple #[]) W') ∧
    W'.heap[w.heap.size + 1 + 1]? = some (.cells (Array.replicate 13 (.int .i64 0)) 91 (0, 0)) ∧ W'.heap[w.heap.size + 1]? = some (.cells (Array.replicate 13 (.int .i64 0)) 91 (0, 0)) ∧ W'.heap[w.heap.size]? = some (.cells box 83 (0, 0)) ∧ Below w.heap.size w W' := by
  generalize hz : Array.replicate 13 (Value.int .i64 0) = z
  generalize h1 : w.alloc (.cells box 83) = w1
  have z1 : w1.heap.size = w.heap.size + 1 := by rw [← h1]; simp
  have a1 : w1.heap[w.heap.size]? = some (.cells box 83 (0, 0)) := by rw [← h1]; exact heap_alloc_new _ _
  have b1 : Below w.heap.size w w1 := by rw [← h1]; exact bal (bz w) _
  clear h1
  generalize h2 : w1.alloc (.cells z 91) = w2
  have z2 : w2.heap.size = w.heap.size + 1 + 1 := by rw [← h2]; simp [z1]
  have a2 : w2.heap[w.heap.size + 1]? = some (.cells z 91 (0, 0)) := by rw [← h2, ← z1]; exact heap_alloc_new _ _
  have b2 : Below w1.heap.size w1 w2 := by rw [← h2]; exact bal (bz w1) _
  clear h2
  generalize h3 : w2.alloc (.cells z 91) = w3
  have a3 : w3.heap[w.heap.size + 1 + 1]? = some (.cells z 91 (0, 0)) := by rw [← h3, ← z2]; exact heap_alloc_new _ _
  have b3 : Below w2.heap.size w2 w3 := by rw [← h3]; exact bal (bz w2) _
  clear h3
  subst hz
  obtain ⟨c1, c2⟩ := setCells_zero _ 13 91 13 0 _ a3
  refine ⟨_, fun ty => Lib.run_clear_slice _ 31 3 ty (.int .i64 0) Try.underlying31 (fun w => by kernel_rfl) rfl rfl (w.heap.size + 1 + 1) 0 13 13 (by omega) (fun j hj => ?_) (fun j hj => frozen_of_row _ _ _ _ _ a3), c1, ?_, ?_, bgr (btr (btr b1 b2) b3) c2 (fun k e => by cases e; omega)⟩
  · rw [cell_of_row _ _ _ _ _ _ a3]; simp; omega
  · exact (c2.block _ (by have := b3.size; omega) (by simp)).trans ((b3.block _ (by omega)).trans a2)
  · exact (c2.block _ (by have := b3.size; omega) (by simp; omega)).trans ((b3.block _ (by omega)).trans ((b2.block _ (by omega)).trans a1))
set_option maxRecDepth 100000 in
set_option maxHeartbeats 800000 in
theorem pshape_any (v : Value) (R : List (List Int)) (w : World) (hx0 : RdLL w v R) (hs : Sml R) (h13 : R.length ≤ 13) :
    Calls Try.prog 74 #[.agg #[v]] w fun e w' => e = .returned (.agg ((padS R).map (Value.int .i64)).toArray) ∧ Below w.heap.size w w' := by
  obtain ⟨a, ca, rfl⟩ := hx0.sl
  have HX := Lib.hid hx0; have HS := Lib.hid hs.2
  clear hx0 hs
  obtain ⟨W0, hcl, q1, q2, q3, q4⟩ := shape_start w #[.slice a R.length ca]
  rw [← padK_zero R] at q1 q2
  have Q1 := Lib.hid q1; have Q2 := Lib.hid q2; have Q3 := Lib.hid q3; have Q4 := Lib.hid q4
  rw [show Array.replicate 13 (Value.int .i64 0) = #[.int .i64 0, .int .i64 0, .int .i64 0, .int .i64 0, .int .i64 0, .int .i64 0, .int .i64 0, .int .i64 0, .int .i64 0, .int .i64 0, .int .i64 0, .int .i64 0, .int .i64 0] from rfl] at hcl
  have k3 : W0.cell? ⟨w.heap.size, 0, none⟩ = some (.slice a R.length ca) := by rw [cell_of_row _ _ _ _ _ _ q3]; rfl
  have kz := (Array.getElem?_eq_some_iff.1 q3).1
  clear q1 q2 q3 q4
  go_enter Try.func74, Try.ntmps74
  go_wp2_with (rw [hcl])
  go_wp2
  clear hcl
  go_loopw [4, 5, 10] (fun _ _ s10 wr => ∃ k : Nat, k ≤ R.length ∧ s10 = .int .i64 k ∧ wr.heap[w.heap.size + 1 + 1]? = some (.cells (padK R k) 91 (0, 0)) ∧ wr.heap[w.heap.size + 1]? = some (.cells (padK R 0) 91 (0, 0)) ∧ Below w.heap.size w wr) (fun _ _ s10 _ => R.length - (intOf s10).toNat)
  case atStart => exact ⟨0, Nat.zero_le _, rfl, Q1.out, Q2.out, Q4.out⟩
  case round =>
    obtain ⟨k, hk, rfl, hr1, hr2, hB⟩ := hrel
    have HR1 := Lib.hid hr1; have HR2 := Lib.hid hr2; have HB := Lib.hid hB
    have zr := (Array.getElem?_eq_some_iff.1 hr1).1
    clear hr1 hr2 hB
    by_cases hlt : k < R.length
    · obtain ⟨bb, off, a', c', rfl, hbb, hc, hr⟩ := (HX.out.mono HB.out).get k hlt
      have h1 := HS.out k
      have hcell : wr.cell? ⟨w.heap.size + 1 + 1, k, none⟩ = some (.int .i64 0) := by rw [cell_of_row _ _ _ _ _ _ HR1.out]; exact padK_get R k (by omega)
      have hfr := frozen_of_row wr (w.heap.size + 1 + 1) k _ _ HR1.out
      have HN := Lib.hid (heap_setCell_same wr (w.heap.size + 1 + 1) k _ _ (.int .i64 ((row R k).length : Int)) HR1.out)
      rw [padK_set R k] at HN
      have HO := Lib.hid (heap_setCell_other wr ⟨w.heap.size + 1 + 1, k, none⟩ (w.heap.size + 1) (.int .i64 ((row R k).length : Int)) (by simp))
      have HB2 := Lib.hid (bset HB.out (p := ⟨w.heap.size + 1 + 1, k, none⟩) (by simp; omega) (.int .i64 ((row R k).length : Int)))
      have hk13 : (k : Int) < 13 := by omega
      clear hr
      generalize (row R k).length = n at *
      go_wp2_with fail
      go_roundw
      case rel => exact ⟨k + 1, by omega, by go_num, HN.out, HO.out.trans HR2.out, HB2.out⟩
      case measure => simp [intOf]; omega
    · have hke : R.length ≤ k := by omega
      have HP := Lib.hid (padK_all R hke)
      clear hke
      go_wp2_with (first
        | (refine wpList_load_row rfl 91 (.tmp 3) rfl (w.heap.size + 1 + 1) rfl 91 (padK R k) (0, 0) _ HR1.out Try.array91 rfl (by rw [padK_size]; exact Try.size91) ?_)
        | (refine wpList_store_row rfl 91 (.tmp 2) (.tmp 20) rfl (w.heap.size + 1) (padK R k) rfl rfl 91 _ HR2.out (by rw [padK_size]; exact Try.size91) (by rw [padK_size, padK_size]) (padK_one R k) ?_))
      refine bodyPost_ret (results_cell_row rfl _ _ (w.heap.size + 1) 91 (padK R k) (0, 0) _ rfl (setRow_heap _ _ _ _ _ _ HR2.out) Try.array91 rfl (by rw [padK_size]; exact Try.size91)) rfl ⟨by rw [HP.out], ?_⟩
      exact HB.out.trans ⟨rfl, rfl, rfl, by simp, fun t ht => setRow_other _ _ _ _ (by omega)⟩
end Go.Proofs.Ytnnfahdhmodejaa

namespace Go.Proofs.Ytnnfahdhmodejaa
open Go.RowKit Go.Shelf

structure Cell1 (b : Nat) (t : Int) where
  val : World
  c0 : val.cell? ⟨b, 0, none⟩ = some (.int .i64 t)
  z0 : b < val.heap.size
theorem orderC_sh {R : List (List Int)} (h : orderC R = 0) : ShTo R R.length := by
  unfold orderC at h
  split at h
  · omega
  · split at h
    · omega
    · split at h
      · omega
      · split at h
        · rename_i a b c d
          rw [Bool.and_eq_true] at d
          exact (shapedB_iff R).1 d.1
        · omega
theorem sh_len {R : List (List Int)} (h : ShTo R R.length) : R.length ≤ R.flatten.length := by
  have : ∀ (n : Nat), n ≤ R.length → n ≤ (R.take n).flatten.length := by
    intro n
    induction n with
    | zero => intro _; exact Nat.zero_le _
    | succ n ih =>
      intro hn
      have h1 := ih (by omega)
      have h2 := (h n (by omega)).1
      rw [flat_take R n (by omega), List.length_append]
      omega
  have := this R.length (Nat.le_refl _)
  rwa [List.take_length] at this
theorem padS_get (R : List (List Int)) (i : Nat) (h : i < 13) : (padS R)[i]? = some ((row R i).length : Int) := by
  unfold padS
  rw [List.getElem?_map, List.getElem?_range h]; rfl
theorem padS_len (R : List (List Int)) : (padS R).length = 13 := by simp [padS]
theorem padS_eq {R O : List (List Int)} (h1 : ShTo R R.length) (h2 : ShTo O O.length) (l1 : R.length ≤ 12) (l2 : O.length ≤ 12) : padS O = padS R ↔ shpI R = shpI O := by
  constructor
  · intro h
    have hr : ∀ i, i < 13 → (row O i).length = (row R i).length := fun i hi => by
      have e1 := padS_get O i hi
      rw [h, padS_get R i hi] at e1
      simp only [Option.some.injEq] at e1
      omega
    have hl : O.length = R.length := by
      rcases Nat.lt_trichotomy O.length R.length with hlt | he | hlt
      · have := (h1 O.length hlt).1
        rw [← hr O.length (by omega), row_ge (Nat.le_refl _)] at this
        simp at this
      · exact he
      · have := (h2 R.length hlt).1
        rw [hr R.length (by omega), row_ge (Nat.le_refl _)] at this
        simp at this
    apply List.ext_getElem?
    intro i
    rcases Nat.lt_or_ge i R.length with hi | hi
    · rw [shpI_row hi, shpI_row (by omega), hr i (by omega)]
    · rw [List.getElem?_eq_none (by rw [shpI_len]; exact hi), List.getElem?_eq_none (by rw [shpI_len]; omega)]
  · intro h
    obtain ⟨_, h3⟩ := shpI_eq h
    unfold padS
    exact List.map_congr_left fun i _ => by rw [h3]
set_option maxRecDepth 100000 in
set_option maxHeartbeats 4000000 in
theorem pread_any (x y : Value) (R O : List (List Int)) (w : World) (hx0 : RdLL w x R) (hy0 : RdLL w y O) (hR : Sml R) (hO : Sml O) : Calls Try.prog 29 #[x, y] w (Post2I w (readE R O)) := by
  have HX := Lib.hid hx0; have HY := Lib.hid hy0
  obtain ⟨a, ca, rfl⟩ := hx0.sl
  obtain ⟨b, cb, rfl⟩ := hy0.sl
  have HC := Lib.hid (open_any (.slice a R.length ca) R w hx0 hR)
  have HD := Lib.hid (fun wz h => order_any (.slice b O.length cb) O wz h hO)
  have HNS := Lib.hid (fun wz h => newstand_any (.slice b O.length cb) O wz h hO)
  have HCO := Lib.hid (fun wz h => concat_any (.slice b O.length cb) O wz h hO)
  have HSR := Lib.hid hR; have HSO := Lib.hid hO
  have ho20 := hO.1
  have hfl := sml_flat hO
  clear hx0 hy0 hR hO
  by_cases hc : rackC R = 0
  · have t1 : (rackC R != 0) = false := by simp [hc]
    have HH : Hid (readE R O = if orderC O ≠ 0 then ([], orderC O) else if shpI R = shpI O then (readR O R.flatten.length R [], 0) else ([], 15)) := Lib.hid (by unfold readE; rw [if_neg (by simp [hc])])
    have HOKC := Lib.hid (fun h2 h3 => readOk_codes (O := O) hc h2 h3)
    have HPS := Lib.hid (fun h2 => padS_eq (O := O) (rackC_sh hc) h2 (Nat.le_trans (sh_len (rackC_sh hc)) (rackC_zero hc).1))
    have HR12 := Lib.hid (Nat.le_trans (sh_len (rackC_sh hc)) (rackC_zero hc).1)
    have HCC := Lib.hid hc
    clear hc
    generalize rackC R = q at *
    generalize readE R O = L at *
    go_enter Try.func29, Try.ntmps29
    go_wp2_with fail
    refine HC.out.mono ?_
    rintro e w2 ⟨p, rfl, hp, hB⟩
    obtain ⟨sb, rfl, hw⟩ := hp HCC.out
    have HW := Lib.hid hw; have HB2 := Lib.hid hB
    clear hp hw hB HC
    go_wp2_with fail
    refine (HD.out _ (HY.out.mono HB2.out)).mono ?_
    rintro e w3 ⟨rfl, hB⟩
    have HB3 := Lib.hid (btr HB2.out hB)
    have HW3 := Lib.hid (HW.out.weak hB (fun _ _ h => h))
    clear hB HW
    by_cases hd : orderC O = 0
    · have t2 : (orderC O != 0) = false := by simp [hd]
      have HOK2 := Lib.hid (HOKC.out hd)
      have HOS := Lib.hid (orderC_sh hd)
      have HO12 := Lib.hid (Nat.le_trans (sh_len (orderC_sh hd)) (orderC_zero hd).1)
      rw [if_neg (by simp [hd])] at HH
      clear hd HOKC
      generalize orderC O = p at *
      go_upto_region 7 with fail
      refine wp_region_flow [] [([0, 6, 7, 8, 9], 1, true), ([], 2, true), ([], 3, true), ([], 4, true), ([], 5, true), ([], 10, true)] [11] (by kernel_rfl) (by kernel_rfl) ?_
      intro wc hBc hh
      clear hh
      have HBC := Lib.hid (btr HB3.out hBc)
      have HWC := Lib.hid (HW3.out.weak hBc (fun _ _ h => h))
      clear hBc HW3
      obtain ⟨ar, cr, hrr, hrc⟩ := HWC.out.si.read
      have HRR := Lib.hid hrr
      have hzs : sb < wc.heap.size := World.block_lt_of_cell? _ _ hrc
      have hL := @Later.cell wc
      clear hrr
      simp only [flowP, flow, pickL, List.getElem?_cons_succ, List.getElem?_cons_zero]
      refine wpQuiet_nil ?_
      repeat (go_big_quiet_step (fail))
      refine wpQuiet_nil ?_
      go_wp2_with fail
      refine (HNS.out _ (HY.out.mono HBC.out)).mono ?_
      rintro e w4 ⟨so, rfl, hwo, hB⟩
      have HBw4 := Lib.hid hB
      have HB4 := Lib.hid (btr HBC.out hB)
      have HW4 := Lib.hid (HWC.out.weak hB (fun _ _ h => h))
      have HRR4 := Lib.hid (HRR.out.mono hB)
      obtain ⟨ao, co, hor, hoc⟩ := hwo.si.read
      have HOR := Lib.hid hor
      have hzo : so < w4.heap.size := World.block_lt_of_cell? _ _ hoc
      clear hB hwo hor HRR HWC hrc hL
      go_wp2
      refine seg_grow ⟨⟨_, HBw4.out⟩, rfl⟩ ?_
      refine wpQuiet_nil ?_
      go_wp2
      refine seg_grow ⟨⟨_, HBw4.out⟩, rfl⟩ ?_
      refine wpQuiet_nil ?_
      go_wp2
      refine seg_grow ⟨⟨_, HBw4.out⟩, rfl⟩ ?_
      refine wpQuiet_nil ?_
      go_wp2
      refine seg_grow ⟨⟨_, HBw4.out⟩, rfl⟩ ?_
      refine wpQuiet_nil ?_
      go_wp2_with fail
      refine (pshape_any _ O w4 HOR.out HSO.out (Nat.le_succ_of_le HO12.out)).mono ?_
      rintro e w5 ⟨rfl, hB⟩
      have HBw5 := Lib.hid (btr HBw4.out hB)
      have HB5 := Lib.hid (btr HB4.out hB)
      have HW5 := Lib.hid (HW4.out.weak hB (fun _ _ h => h))
      have HRR5 := Lib.hid (HRR4.out.mono hB)
      clear hB HRR4 HW4 hoc hzo
      go_wp2
      refine seg_grow ⟨⟨_, HBw5.out⟩, rfl⟩ ?_
      refine wpQuiet_nil ?_
      go_wp2_with fail
      refine (pshape_any _ R w5 HRR5.out HSR.out (Nat.le_succ_of_le HR12.out)).mono ?_
      rintro e w6 ⟨rfl, hB⟩
      have HBw6 := Lib.hid (btr HBw5.out hB)
      have HB6 := Lib.hid (btr HB5.out hB)
      have HW6 := Lib.hid (HW5.out.weak hB (fun _ _ h => h))
      clear hB HRR5 HW5 hzs
      obtain ⟨i3, hi3, -⟩ := info_parts num3
      have hne : ∀ w' : World, (binOp .neq 91 (.agg ((padS O).map (Value.int .i64)).toArray) (.agg ((padS R).map (Value.int .i64)).toArray)).run Try.prog w' = .ok (.bool (!decide (padS O = padS R))) w' := fun w' => run_neq_arr (P := Try.prog) w' 91 3 13 .i64 i3 Try.array91 hi3 (by kernel_rfl) Try.underlying3 (padS O) (padS R) (padS_len O) (padS_len R)
      have HPE := Lib.hid (HPS.out HOS.out HO12.out)
      go_wp2
      refine seg_grow ⟨⟨_, HBw6.out⟩, rfl⟩ ?_
      generalize hdd : decide (padS O = padS R) = dd at hne
      have HDD := Lib.hid hdd
      clear hdd
      repeat (go_big_quiet_step (fail))
      refine wpQuiet_nil ?_
      refine only_done ?_
      clear hne
      cases dd with
      | false =>
        have hns : ¬ shpI R = shpI O := fun h => by
          have := HDD.out
          rw [decide_eq_false_iff_not] at this
          exact this (HPE.out.2 h)
        rw [if_neg hns] at HH
        clear hns
        go_wp2_with fail
        go_ret2
        exact post2I_mk HH.out (rdI_nil _ _) HB6.out
      | true =>
        have hys : shpI R = shpI O := HPE.out.1 (of_decide_eq_true HDD.out)
        rw [if_pos hys] at HH
        have HOK := Lib.hid (HOK2.out hys)
        have HFE := Lib.hid (flat_eq hys)
        clear hys
        go_wp2_with fail
        refine (HCO.out _ (HY.out.mono HB6.out)).mono ?_
        rintro e w7 ⟨u7, rfl, hu7, hB⟩
        obtain ⟨a7, c7, rfl⟩ := owns_form hu7
        have HB7 := Lib.hid (btr HB6.out hB)
        have HW7 := Lib.hid (HW6.out.weak hB (fun _ _ h => h))
        clear hu7 hB HB6 HW6 HBw6 HBw5 HBw4 HDD HPE
        have hON := HFE.out
        have hxl : R.flatten.length ≤ 400 := by rw [HFE.out]; exact hfl
        generalize hF : readR O R.flatten.length R [] = FIN at HH
        have HF := Lib.hid hF
        clear hF HFE
        generalize R.flatten.length = N at *
        rw [← hON]
        clear hON
        go_wp2_with (at_make; refine wpList_make_ints rfl _ _ rfl N rfl rfl (by omega) ?_)
        intro w8 hO8 hg8
        have HO8 := Lib.hid hO8
        have HB8 := Lib.hid (bgr HB7.out hg8 (fun k h => by cases h))
        have hz7 := HB7.out.size
        have hlt8 : w7.heap.size < w8.heap.size := (hO8.lt (k := w7.heap.size) rfl).2
        obtain ⟨B0, hB0⟩ : ∃ B0 : Nat → Prop, (fun k => w.heap.size ≤ k ∧ k < w7.heap.size) = B0 := ⟨_, rfl⟩
        have HS8 : Hid (SI w8 B0 sb R) := Lib.hid (by
          rw [← hB0]
          exact ((HW7.out.weak (C := fun k => w.heap.size ≤ k ∧ k < w7.heap.size) (bz w7) (fun j hj h => ⟨h, hj⟩)).si).fr (C := fun _ => False) (Fr.grown hg8 (fun k h => by cases h)) (fun _ _ _ h => h))
        have HN0 : Hid (¬ B0 w7.heap.size ∧ ¬ B0 w8.heap.size ∧ ∀ k, B0 k → w.heap.size ≤ k) := Lib.hid (by
          rw [← hB0]
          exact ⟨fun h => by have := h.2; omega, fun h => by have := h.2; omega, fun k h => h.1⟩)
        clear hO8 hg8 hB0 HW7
        generalize w7.heap.size = g at *
        go_wp2_with fail
        go_loopw [10, 11] (fun s10 _ wr => ∃ (n bx : Nat) (R' : List (List Int)) (acc : List Int) (B : Nat → Prop), s10 = .pointer (some ⟨bx, 0, none⟩) ∧ wr.cell? ⟨bx, 0, none⟩ = some (.int .i64 n) ∧ wr.frozen? ⟨bx, 0, none⟩ = false ∧ bx < wr.heap.size ∧ w.heap.size ≤ bx ∧ bx ≠ g ∧ ¬ B bx ∧ n + acc.length = N ∧ SI wr B sb R' ∧ rowI wr w.heap.size (.slice (some ⟨g, 0, none⟩) N N) (zeros n ++ acc) ∧ ¬ B g ∧ (∀ k, B k → w.heap.size ≤ k) ∧ Below w.heap.size w wr ∧ readR O n R' acc = FIN ∧ ReadOk O n R' ∧ Sml R') (fun s10 _ wr => match s10 with | .pointer (some ⟨bx, 0, none⟩) => (intOf ((wr.cell? ⟨bx, 0, none⟩).getD (.int .i64 0))).toNat | _ => 0)
        case atStart =>
          exact ⟨N, w8.heap.size, R, [], B0, rfl, cnew rfl rfl, fnew rfl, by simp, by have := HB8.out.size; omega, by omega, HN0.out.2.1, by simp, HS8.out.fr (C := fun _ => False) (Fr.of_below (bal (bz w8) _)) (fun _ _ _ h => h), by rw [List.append_nil]; exact owns_kept (HO8.out.base hz7) (bal (bz w8) _), HN0.out.1, HN0.out.2.2, bal HB8.out _, HF.out, HOK.out, HSR.out⟩
        case round =>
          clear HS8 HN0 HB8 HO8 HF HOK HSR
          obtain ⟨n, bx, R', acc, B, rfl, h1, h2, h3, h4, h5, h6, hn, hS, hO, hng, hBb, hB, hf, hok, hsm⟩ := hrel
          have HS := Lib.hid hS; have HO := Lib.hid hO; have HNG := Lib.hid hng; have HBB := Lib.hid hBb; have HB := Lib.hid hB; have HF := Lib.hid hf; have HOK := Lib.hid hok; have HSM := Lib.hid hsm; have HN := Lib.hid hn; have HNB := Lib.hid h6
          have hz := HB.out.size
          have hnx : n ≤ N := by omega
          clear hS hO hng hBb hB hf hok hsm hn h6
          rcases n with _ | n
          · rw [show ((0 : Nat) : Int) = 0 by rfl] at h1
            have hE := HF.out
            unfold readR at hE
            have HO2 : Hid (rowI wr w.heap.size (.slice (some ⟨g, 0, none⟩) N N) FIN) := Lib.hid (by have h := HO.out; rw [← hE]; simpa [zeros] using h)
            have HFL := Lib.hid (congrArg List.length hE)
            have hlN : N = FIN.length := by have := HN.out; rw [← hE]; omega
            clear hE HF HO
            go_wp2_with fail
            go_ret2
            exact post2I_mk HH.out (RdI.of_owns (by have := HO2.out; exact this)) HB.out
          · rw [show ((n + 1 : Nat) : Int) = (n : Int) + 1 by omega] at h1
            obtain ⟨o1, o2, o3, o4⟩ := HOK.out
            have HOK2 := Lib.hid o4
            have HF2 : Hid (readR O n (takeR R' (rowOf O ((n : Int) + 1))).1 ((takeR R' (rowOf O ((n : Int) + 1))).2 :: acc) = FIN) := Lib.hid HF.out
            obtain ⟨B1, hB1⟩ : ∃ B1 : Nat → Prop, (fun k => (B k ∧ k < wr.heap.size) ∨ wr.heap.size ≤ k) = B1 := ⟨_, rfl⟩
            have HS1 : Hid (SI wr B1 sb R') := Lib.hid (by rw [← hB1]; exact HS.out.mono fun j hj hB => .inl ⟨hB, hj⟩)
            have hgw : g < wr.heap.size := (HO.out.lt (k := g) rfl).2
            have hgw0 : w.heap.size ≤ g := (HO.out.lt (k := g) rfl).1
            have HBN : Hid ((∀ k, wr.heap.size ≤ k → B1 k) ∧ ¬ B1 g ∧ ¬ B1 bx ∧ ∀ k, B1 k → w.heap.size ≤ k) := Lib.hid (by
              rw [← hB1]
              exact ⟨fun k hk => .inr hk, fun h => h.elim (fun h => HNG.out h.1) (fun h => by omega), fun h => h.elim (fun h => HNB.out h.1) (fun h => by omega), fun k h => h.elim (fun h => HBB.out k h.1) (fun h => by omega)⟩)
            have HTK := Lib.hid (fun wz h hB => take_any sb R' (rowOf O ((n : Int) + 1)) (takeR R' (rowOf O ((n : Int) + 1))) wz B1 h HSM.out (takeOk o2 o3) hB)
            have HSM2 : Hid (Sml (takeR R' (rowOf O ((n : Int) + 1))).1) := Lib.hid (by
              obtain ⟨h1, h2⟩ := take_size o2 o3
              exact ⟨Nat.le_trans h1 HSM.out.1, fun i => Nat.le_trans (h2 i) (HSM.out.2 i)⟩)
            have HIR := Lib.hid (indexrow_any (.slice b O.length cb) O ((n : Int) + 1) bx wr (HY.out.mono HB.out) HSO.out h1 o1)
            clear o1 o2 o3 o4 HOK HF hB1 HS
            generalize takeR R' (rowOf O ((n : Int) + 1)) = res at *
            generalize rowOf O ((n : Int) + 1) = r at *
            have hge : decide ((0:Int) < (n : Int) + 1) = true := by rw [decide_eq_true_eq]; omega
            have hge2 : (0:Int) < (n : Int) + 1 := by omega
            go_wp2_with fail
            refine HIR.out.mono ?_
            rintro e w9 ⟨rfl, rfl⟩
            go_upto_region 14 with fail
            have CW := Lib.hid (fun wx (h : Below wr.heap.size wr wx) => (show ∃ x : Cell1 bx ((n : Int) + 1), wx = x.val from ⟨⟨wx, (h.cell (p := ⟨bx, 0, none⟩) h3).trans h1, Nat.lt_of_lt_of_le h3 h.size⟩, rfl⟩))
            haveI : Nonempty (Cell1 bx ((n : Int) + 1)) := by obtain ⟨x, _⟩ := CW.out wr (bz wr); exact ⟨x⟩
            refine wp_region_flowS (fun w2 => ∃ x : Cell1 bx ((n : Int) + 1), w2 = x.val) [] [([0, 1, 2, 3, 4], 5, true), ([6], 7, false)] [] (by kernel_rfl) (by kernel_rfl) (fun wx h _ => CW.out wx h) ?_
            intro wd hBd hh
            clear hh
            have HBD := Lib.hid hBd
            have HBd := Lib.hid (btr HB.out hBd)
            have HSD := Lib.hid (HS1.out.fr (C := fun _ => False) (Fr.of_below hBd) (fun _ _ _ h => h))
            have HOD := Lib.hid (show rowI wd w.heap.size (.slice (some ⟨g, 0, none⟩) N N) (zeros (n + 1) ++ acc) from owns_kept HO.out hBd)
            have k1 := (hBd.cell (p := ⟨bx, 0, none⟩) h3).trans h1
            have k2 := (hBd.frozen (p := ⟨bx, 0, none⟩) h3).trans h2
            have K1 := Lib.hid k1; have K2 := Lib.hid k2
            have hzd := hBd.size
            have hx0 := fun l : Cell1 bx ((n : Int) + 1) => l.c0
            have hx1 := fun l : Cell1 bx ((n : Int) + 1) => l.z0
            have HM1 := Lib.hid h1
            clear hBd h1 h2 HO HS1 CW HIR k1 k2
            simp only [flowP, flow, pickL, List.getElem?_cons_succ, List.getElem?_cons_zero]
            refine wpQuiet_nil ?_
            repeat (go_big_quiet_step (fail))
            refine wpQuiet_nil ?_
            clear hx0 hx1
            go_wp2_with fail
            refine (HTK.out wd HSD.out (fun k hk => HBN.out.1 k (by omega))).mono ?_
            rintro e w6 ⟨rfl, hs6, hF6⟩
            have HS6 := Lib.hid hs6
            have HF6 := Lib.hid hF6
            have HB6 := Lib.hid (hF6.below HBd.out HBN.out.2.2.2)
            have hO6 : rowI w6 w.heap.size (.slice (some ⟨g, 0, none⟩) N N) (zeros (n + 1) ++ acc) := owns_fr HOD.out hF6 (fun k e => by cases e; exact HBN.out.2.1)
            have kc1 := (hF6.cell (p := ⟨bx, 0, none⟩) (by simp only; omega) HBN.out.2.2.1).trans K1.out
            have kc2 := (hF6.frozen (p := ⟨bx, 0, none⟩) (by simp only; omega) HBN.out.2.2.1).trans K2.out
            have kz6 := hF6.size
            have CW6 := Lib.hid (show ∃ x : Cell1 bx ((n : Int) + 1), w6 = x.val from ⟨⟨w6, kc1, by omega⟩, rfl⟩)
            obtain ⟨g2, c2, e2, gz, gc, gf⟩ := hO6.get n (by rw [List.length_append, zeros_len]; omega)
            simp only [Value.slice.injEq, Option.some.injEq, Addr.mk.injEq, and_true] at e2
            obtain ⟨rfl, e2, e3⟩ := e2
            have HST := Lib.hid (hO6.stored n res.2)
            rw [zeros_set] at HST
            generalize elt (zeros (n + 1) ++ acc) n = old at *
            have HS7 := Lib.hid (HS6.out.fr (C := fun k => k = g) (Fr.set (B := fun k => k = g) (p := ⟨g, n, none⟩) rfl (.int .i64 res.2)) (fun k _ hk e => by subst e; exact HBN.out.2.1 hk))
            have HB7 := Lib.hid (bset HB6.out (p := ⟨g, n, none⟩) hgw0 (.int .i64 res.2))
            have kd1 : (w6.setCell ⟨g, n, none⟩ (.int .i64 res.2)).cell? ⟨bx, 0, none⟩ = some (.int .i64 ((n : Int) + 1)) := (World.cell?_setCell_other _ _ _ _ (fun e => by simp only [Addr.mk.injEq] at e; omega)).trans kc1
            have kd2 : (w6.setCell ⟨g, n, none⟩ (.int .i64 res.2)).frozen? ⟨bx, 0, none⟩ = false := by simpa using kc2
            clear hs6 hF6 hO6 e2 e3
            go_wp2
            refine seg_grow CW6.out ?_
            repeat (go_big_quiet_step (fail))
            refine wpQuiet_nil ?_
            go_wp2
            refine seg_write ?_
            refine wpQuiet_nil ?_
            refine only_done ?_
            clear gc gf kc1 kc2
            have kz7 : w6.heap.size = (w6.setCell ⟨g, n, none⟩ (.int .i64 res.2)).heap.size := by simp
            generalize w6.setCell ⟨g, n, none⟩ (.int .i64 res.2) = X7 at *
            have HBX := Lib.hid (bal HB7.out (.cells #[.int .i64 n] 3))
            have HSX : Hid (SI (X7.alloc (.cells #[.int .i64 n] 3)) (fun k => B1 k ∧ k < X7.heap.size) sb res.1) := Lib.hid ((HS7.out.mono (C := fun k => B1 k ∧ k < X7.heap.size) (fun k hk h => ⟨h, hk⟩)).fr (C := fun _ => False) (Fr.of_below (bal (bz X7) _)) (fun _ _ _ h => h))
            have HOX : Hid (rowI (X7.alloc (.cells #[.int .i64 n] 3)) w.heap.size (.slice (some ⟨g, 0, none⟩) N N) (zeros n ++ res.2 :: acc)) := Lib.hid (owns_kept HST.out (bal (bz X7) _))
            have gg : g < X7.heap.size := by omega
            go_wp2_with fail
            go_roundw
            case rel =>
              exact ⟨n, X7.heap.size, res.1, res.2 :: acc, fun k => B1 k ∧ k < X7.heap.size, rfl, cnew rfl rfl, fnew rfl, by simp, by have := HB7.out.size; omega, by omega, fun h => by have := h.2; omega, by have := HN.out; simp; omega, HSX.out, HOX.out, fun h => HBN.out.2.1 h.1, fun k h => HBN.out.2.2.2 k h.1, HBX.out, HF2.out, HOK2.out, HSM2.out⟩
            case measure => simp [intOf, HM1.out]
    · have t2 : (orderC O != 0) = true := by simp [hd]
      rw [if_pos hd] at HH
      clear hd HOKC
      generalize orderC O = p at *
      go_wp2_with fail
      go_ret2
      exact post2I_mk HH.out (rdI_nil _ _) HB3.out
  · have t1 : (rackC R != 0) = true := by simp [hc]
    have HH : Hid (readE R O = ([], rackC R)) := Lib.hid (by unfold readE; rw [if_pos hc])
    clear hc
    generalize rackC R = q at *
    generalize readE R O = L at *
    go_enter Try.func29, Try.ntmps29
    go_wp2_with fail
    refine HC.out.mono ?_
    rintro e w2 ⟨p, rfl, _, hB⟩
    have HB2 := Lib.hid hB
    clear hB HC
    go_wp2_with fail
    go_ret2
    exact post2I_mk HH.out (rdI_nil _ _) HB2.out
end Go.Proofs.Ytnnfahdhmodejaa

namespace Go.Proofs.Ytnnfahdhmodejaa
open Go.RowKit Go.Shelf

/-- The least number that may come next. -/
def leastZ (l : List Int) (k : Nat) : Int := if k = 0 then 0 else elt l (k - 1) + 1
theorem lisTo_next {l : List Int} {n : Int} {k : Nat} (h : LisTo l n k) (h1 : leastZ l k ≤ elt l k) (h2 : elt l k ≤ n - 1) : LisTo l n (k + 1) := fun i hi => by
  by_cases e : i = k
  · subst e
    unfold leastZ at h1
    by_cases e0 : i = 0
    · subst e0; simp only [if_true] at h1; exact ⟨h1, by omega, fun h => by omega⟩
    · rw [if_neg e0] at h1
      have := (h (i - 1) (by omega)).1
      exact ⟨by omega, by omega, fun _ => by omega⟩
  · exact h i (by omega)
theorem lisTo_need {l : List Int} {n : Int} {k : Nat} (h : LisTo l n (k + 1)) : leastZ l k ≤ elt l k ∧ elt l k ≤ n - 1 := by
  obtain ⟨h1, h2, h3⟩ := h k (by omega)
  refine ⟨?_, by omega⟩
  unfold leastZ
  split
  · exact h1
  · have := h3 (by omega); omega
theorem leastZ_bd {l : List Int} {n : Int} {k : Nat} (h : LisTo l n k) (hn : 0 ≤ n) : 0 ≤ leastZ l k ∧ leastZ l k ≤ n := by
  unfold leastZ
  split
  · omega
  · obtain ⟨h1, h2, _⟩ := h (k - 1) (by omega)
    omega
set_option maxRecDepth 100000 in
set_option maxHeartbeats 800000 in
theorem prising_any (x : Value) (l : List Int) (n : Nat) (w : World) (hx0 : RdI w .i64 x l) (hl : l.length ≤ 1000) (hn : n ≤ 1000) :
    Calls Try.prog 86 #[x, .int .i64 n] w fun e w' => e = .returned (.bool (lisB l n)) ∧ Below w.heap.size w w' := by
  obtain ⟨a, ca, rfl, _, hcm, hx⟩ := hx0.form
  have HLI := Lib.hid (lisB_iff l n)
  clear hx0 hcm
  generalize lisB l n = g at *
  go_enter Try.func86, Try.ntmps86
  go_wp2_with fail
  go_loopw [5, 7, 10] (fun s5 _ s10 wr => ∃ k : Nat, k ≤ l.length ∧ s10 = .int .i64 k ∧ s5 = .int .i64 (leastZ l k) ∧ LisTo l n k ∧ Below w.heap.size w wr) (fun _ _ s10 _ => l.length - (intOf s10).toNat)
  case atStart => exact ⟨0, Nat.zero_le _, rfl, rfl, fun i h => by omega, bz w⟩
  case round =>
    obtain ⟨k, hk, rfl, rfl, ht, hB⟩ := hrel
    have HT := Lib.hid ht; have HB := Lib.hid hB
    have hbd := leastZ_bd ht (by omega)
    clear ht hB
    by_cases hlt : k < l.length
    · obtain ⟨bx, ox, rfl, hbx, hcx⟩ := hx (by omega)
      have gx := (HB.out.cell (p := ⟨bx, ox + k, none⟩) hbx).trans (hcx k hlt)
      have zx := Nat.lt_of_lt_of_le hbx HB.out.size
      have HE : Hid (elt l k = l[k]?.getD 0) := Lib.hid rfl
      have HNX := Lib.hid (fun h1 h2 => lisTo_next HT.out h1 h2)
      have HNO := Lib.hid (fun (h : g = true) => lisTo_need (k := k) (fun i hi => (HLI.out.1 h) i (by omega)))
      have HLS : Hid (leastZ l (k + 1) = elt l k + 1) := Lib.hid rfl
      rw [HE.out] at HNX HNO HLS
      clear hx hcx
      generalize l[k]?.getD 0 = q at *
      generalize leastZ l k = z at *
      go_wp2_with fail
      have HO := Lib.hid (rdI_one wr q)
      have HB2 := Lib.hid (bal HB.out (.cells #[.int .i64 q] 3))
      clear gx zx
      generalize wr.alloc (.cells #[.int .i64 q] 3) = w2 at *
      refine (within_any _ [q] z ((n : Int) - 1) w2 HO.out (by simp)).mono ?_
      rintro e w3 ⟨rfl, hB⟩
      have HB3 := Lib.hid (btr HB2.out hB)
      clear hB
      simp only [List.any_cons, List.any_nil, Bool.or_false]
      cases ho : outB z ((n : Int) - 1) q with
      | true =>
        have hg : g = false := by
          cases hg : g with
          | false => rfl
          | true =>
            have := HNO.out hg
            unfold outB at ho
            rw [decide_eq_true_eq] at ho
            omega
        subst hg
        go_wp2_with fail
        go_ret
        exact ⟨rfl, HB3.out⟩
      | false =>
        have hq : z ≤ q ∧ q ≤ (n : Int) - 1 := by
          unfold outB at ho
          rw [decide_eq_false_iff_not] at ho
          omega
        have HT2 := Lib.hid (HNX.out hq.1 hq.2)
        go_wp2_with fail
        go_roundw
        case rel => exact ⟨k + 1, by omega, by go_num, by rw [HLS.out], HT2.out, HB3.out⟩
        case measure => simp [intOf]; omega
    · have hg : g = true := HLI.out.2 (fun i hi => HT.out i (by omega))
      subst hg
      go_wp2_with fail
      go_ret
      exact ⟨rfl, HB.out⟩
theorem seqC_num {s : List Int} (h : seqC s = 0) (i : Nat) (hi : i < s.length) : 1 ≤ elt s i ∧ elt s i ≤ 99 := by
  unfold seqC at h
  split at h
  · omega
  · split at h
    · omega
    · rename_i h2
      rw [List.any_eq_true] at h2
      refine Classical.byContradiction fun hc => h2 ⟨elt s i, elt_mem hi, ?_⟩
      unfold outB
      rw [decide_eq_true_eq]
      omega
/-- The taper that came last. -/
def lastZ (s run : List Int) (k : Nat) : Int := if k = 0 then 0 else elt s (elt run (k - 1)).toNat
set_option maxRecDepth 100000 in
set_option maxHeartbeats 800000 in
theorem pcheckrising_any (x y : Value) (s run : List Int) (w : World) (hx0 : RdI w .i64 x s) (hy0 : RdI w .i64 y run) (hs : s.length ≤ 1000) (hr : run.length ≤ 1000) :
    Calls Try.prog 45 #[x, y] w (Post2N w (risE s run)) := by
  have HX := Lib.hid hx0; have HY := Lib.hid hy0
  have HC := Lib.hid (pseq_any x s w hx0 hs)
  have HLS := Lib.hid (fun wz h => prising_any y run s.length wz h hr hs)
  obtain ⟨a, ca, rfl, _, hcm, hx⟩ := hx0.form
  obtain ⟨b, cb, rfl, _, hcm2, hy⟩ := hy0.form
  clear hx0 hy0 hcm hcm2 hx hy
  by_cases hc : seqC s = 0
  · have t1 : (seqC s != 0) = false := by simp [hc]
    have HH : Hid (risE s run = if !lisB run s.length then (0, 3) else if risB s run then ((run.length : Int), 0) else (0, 22)) := Lib.hid (by unfold risE; rw [if_neg (by simp [hc])])
    have HSN := Lib.hid (seqC_num hc)
    clear hc
    generalize seqC s = q at *
    generalize risE s run = L at *
    go_enter Try.func45, Try.ntmps45
    go_wp2_with fail
    refine HC.out.mono ?_
    rintro e w2 ⟨rfl, hB⟩
    have HB2 := Lib.hid hB
    clear hB HC
    go_wp2_with fail
    refine (HLS.out _ (HY.out.mono HB2.out)).mono ?_
    rintro e w3 ⟨rfl, hB⟩
    have HB3 := Lib.hid (btr HB2.out hB)
    clear hB HLS
    cases hlb : lisB run s.length with
    | false =>
      rw [hlb, if_pos (by rfl)] at HH
      go_wp2_with fail
      go_ret2
      exact post2N_mk HH.out HB3.out
    | true =>
      have HLT := Lib.hid ((lisB_iff run s.length).1 hlb)
      rw [hlb, if_neg (by simp)] at HH
      have HS : Hid (risB s run = true ↔ RisTo s run run.length) := Lib.hid (risB_iff s run)
      generalize risB s run = sb at *
      clear hlb
      obtain ⟨a', ca', e', _, hcm, hx⟩ := (HX.out.mono HB3.out).form
      cases e'
      obtain ⟨b', cb', e', _, hcm2, hy⟩ := (HY.out.mono HB3.out).form
      cases e'
      clear hcm hcm2
      go_wp2_with fail
      go_loop [7, 9, 24] (fun s7 _ s24 => ∃ k : Nat, k ≤ run.length ∧ s24 = .int .i64 k ∧ s7 = .int .i64 (lastZ s run k) ∧ RisTo s run k) (fun _ _ s24 => run.length - (intOf s24).toNat)
      case atStart => exact ⟨0, Nat.zero_le _, rfl, rfl, fun i h1 h2 => by omega⟩
      case round =>
        obtain ⟨k, hk, rfl, rfl, ht⟩ := hrel
        have HT := Lib.hid ht; clear ht
        by_cases hlt : k < run.length
        · obtain ⟨v1, v2, _⟩ := HLT.out k hlt
          obtain ⟨by', oy, rfl, hby, hcy⟩ := hy (by omega)
          have gy := hcy k hlt
          have HE : Hid (elt run k = run[k]?.getD 0) := Lib.hid rfl
          have HZ : Hid (lastZ s run (k + 1) = elt s (elt run k).toNat) := Lib.hid rfl
          have HNX := Lib.hid (fun h => risTo_succ HT.out h)
          have HNO : Hid (sb = true → lastZ s run k ≤ elt s (elt run k).toNat) := Lib.hid (fun h => by
            unfold lastZ
            split
            · have := (HSN.out (elt run k).toNat (by omega)).1; omega
            · exact HS.out.1 h k (by omega) hlt)
          have HYES : Hid (lastZ s run k ≤ elt s (elt run k).toNat → RisTo s run (k + 1)) := Lib.hid (fun h => HNX.out (fun h0 => by
            unfold lastZ at h
            rwa [if_neg (by omega)] at h))
          rw [HE.out] at HZ HNO HYES v1 v2
          clear hy hcy HNX
          generalize run[k]?.getD 0 = q2 at *
          obtain ⟨j, rfl⟩ := Int.eq_ofNat_of_zero_le v1
          have hj : j < s.length := by omega
          obtain ⟨bx, ox, rfl, hbx, hcx⟩ := hx (by omega)
          have gx := hcx j hj
          rw [show ((j : Int)).toNat = j by simp] at HZ HNO HYES
          have HE2 : Hid (elt s j = s[j]?.getD 0) := Lib.hid rfl
          rw [HE2.out] at HZ HNO HYES
          clear hx hcx
          generalize s[j]?.getD 0 = q3 at *
          generalize lastZ s run k = z at *
          by_cases hz : q3 < z
          · have d1 : decide (q3 < z) = true := decide_eq_true hz
            have hsb : sb = false := by
              cases hsb : sb with
              | false => rfl
              | true => have := HNO.out hsb; omega
            rw [hsb, if_neg (by simp)] at HH
            go_wp2_with fail
            go_ret2
            exact post2N_mk HH.out HB3.out
          · have d1 : decide (q3 < z) = false := decide_eq_false hz
            have HT2 := Lib.hid (HYES.out (by omega))
            go_wp2_with fail
            go_round
            case rel => exact ⟨k + 1, by omega, by go_num, by rw [HZ.out], HT2.out⟩
            case measure => simp [intOf]; omega
        · have hsb : sb = true := HS.out.2 (fun i h1 h2 => HT.out i h1 (by omega))
          rw [hsb, if_pos rfl] at HH
          go_wp2_with fail
          go_ret2
          exact post2N_mk HH.out HB3.out
  · have t1 : (seqC s != 0) = true := by simp [hc]
    have HH : Hid (risE s run = (0, seqC s)) := Lib.hid (by unfold risE; rw [if_pos hc])
    clear hc
    generalize seqC s = q at *
    generalize risE s run = L at *
    go_enter Try.func45, Try.ntmps45
    go_wp2_with fail
    refine HC.out.mono ?_
    rintro e w2 ⟨rfl, hB⟩
    have HB2 := Lib.hid hB
    clear hB HC
    go_wp2_with fail
    go_ret2
    exact post2N_mk HH.out HB2.out
end Go.Proofs.Ytnnfahdhmodejaa

namespace Go.Proofs.Ytnnfahdhmodejaa
open Go.RowKit Go.Shelf

def FalLT (s l : List Int) (k : Nat) : Prop := ∀ i, 0 < i → i < k → elt l (i - 1) < elt l i ∧ elt s (elt l i).toNat < elt s (elt l (i - 1)).toNat
open Classical in
noncomputable def falL (s l : List Int) : Bool := decide (FalLT s l l.length)
theorem falL_iff (s l : List Int) : falL s l = true ↔ FalLT s l l.length := by unfold falL; exact @decide_eq_true_iff _ (Classical.propDecidable _)
theorem falLT_succ {s l : List Int} {k : Nat} (h : FalLT s l k) (h1 : 0 < k → elt l (k - 1) < elt l k ∧ elt s (elt l k).toNat < elt s (elt l (k - 1)).toNat) : FalLT s l (k + 1) := fun i h0 hi => by
  by_cases e : i = k
  · subst e; exact h1 h0
  · exact h i h0 (by omega)
set_option maxRecDepth 100000 in
set_option maxHeartbeats 1600000 in
theorem falls_any (x y : Value) (s l : List Int) (w : World) (hx0 : RdI w .i64 x s) (hy0 : RdI w .i64 y l) (hs : s.length ≤ 1000) (hl : l.length ≤ 1000) (hix : ∀ i, i < l.length → 0 ≤ elt l i ∧ elt l i < (s.length : Int)) :
    Calls Try.prog 90 #[x, y] w fun e w' => e = .returned (.bool (falL s l)) ∧ Below w.heap.size w w' := by
  have HX := Lib.hid hx0; have HY := Lib.hid hy0
  obtain ⟨a, ca, rfl, _, _, _⟩ := hx0.form
  obtain ⟨b, cb, rfl, _, _, _⟩ := hy0.form
  have HIX := Lib.hid hix
  have HF := Lib.hid (falL_iff s l)
  clear hx0 hy0 hix
  generalize falL s l = g at *
  go_enter Try.func90, Try.ntmps90
  go_wp2_with fail
  go_loopw [5] (fun s5 wr => ∃ k : Nat, 1 ≤ k ∧ (k ≤ l.length ∨ k = 1) ∧ s5 = .int .i64 k ∧ FalLT s l k ∧ Below w.heap.size w wr) (fun s5 _ => l.length - (intOf s5).toNat)
  case atStart => exact ⟨1, Nat.le_refl _, .inr rfl, rfl, fun i h1 h2 => by omega, bz w⟩
  case round =>
    obtain ⟨k, hk1, hk, rfl, ht, hB⟩ := hrel
    have HB := Lib.hid hB; have HT := Lib.hid ht; clear hB ht
    by_cases hlt : k < l.length
    · obtain ⟨j, rfl⟩ : ∃ j, k = j + 1 := ⟨k - 1, by omega⟩
      obtain ⟨v1, v2⟩ := HIX.out (j + 1) hlt
      obtain ⟨v3, v4⟩ := HIX.out j (by omega)
      obtain ⟨by', oy, rfl, hby, hcy⟩ := (HY.out.mono HB.out).get (by omega)
      have gy1 := hcy (j + 1) hlt
      have gy2 := hcy j (by omega)
      have HNO : Hid (g = true → elt l j < elt l (j + 1) ∧ elt s (elt l (j + 1)).toNat < elt s (elt l j).toNat) := Lib.hid (fun h => HF.out.1 h (j + 1) (by omega) hlt)
      have HYES : Hid (elt l j < elt l (j + 1) → elt s (elt l (j + 1)).toNat < elt s (elt l j).toNat → FalLT s l (j + 1 + 1)) := Lib.hid (fun h1 h2 => falLT_succ HT.out (fun _ => ⟨h1, h2⟩))
      clear hcy
      generalize elt l (j + 1) = q1 at *
      generalize elt l j = q2 at *
      obtain ⟨i1, rfl⟩ := Int.eq_ofNat_of_zero_le v1
      obtain ⟨i2, rfl⟩ := Int.eq_ofNat_of_zero_le v3
      obtain ⟨bx, ox, rfl, hbx, hcx⟩ := (HX.out.mono HB.out).get (by omega)
      have gx1 := hcx i1 (by omega)
      have gx2 := hcx i2 (by omega)
      rw [show ((i1 : Int)).toNat = i1 by simp, show ((i2 : Int)).toNat = i2 by simp] at HNO HYES
      clear hcx
      generalize elt s i1 = r1 at *
      generalize elt s i2 = r2 at *
      rw [show ((j + 1 : Nat) : Int) = (j : Int) + 1 by omega]
      by_cases h1 : (i1 : Int) ≤ i2
      · have d1 : decide ((i1 : Int) ≤ (i2 : Int)) = true := decide_eq_true h1
        have d1' : decide (i1 ≤ i2) = true := decide_eq_true (by omega)
        have hg : g = false := by
          cases hg : g with
          | false => rfl
          | true => have := HNO.out hg; omega
        subst hg
        go_upto_region 4 with fail
        go_quiet (fail)
        go_wp2_with fail
        go_ret
        exact ⟨rfl, Below.drewN' _ HB.out⟩
      · have d1 : decide ((i1 : Int) ≤ (i2 : Int)) = false := decide_eq_false h1
        have d1' : decide (i1 ≤ i2) = false := decide_eq_false (by omega)
        by_cases h2 : r2 ≤ r1
        · have d2 : decide (r2 ≤ r1) = true := decide_eq_true h2
          have hg : g = false := by
            cases hg : g with
            | false => rfl
            | true => have := HNO.out hg; omega
          subst hg
          go_upto_region 4 with fail
          go_quiet (fail)
          go_wp2_with fail
          go_ret
          exact ⟨rfl, Below.drewN' _ HB.out⟩
        · have d2 : decide (r2 ≤ r1) = false := decide_eq_false h2
          have HT2 := Lib.hid (HYES.out (by omega) (by omega))
          go_upto_region 4 with fail
          go_quiet (fail)
          go_wp2_with fail
          go_roundw
          case rel => exact ⟨j + 1 + 1, by omega, by omega, by go_num, HT2.out, Below.drewN' _ HB.out⟩
          case measure => simp [intOf]; omega
    · have hg : g = true := HF.out.2 (fun i h0 hi => HT.out i h0 (by omega))
      subst hg
      go_wp2_with fail
      go_ret
      exact ⟨rfl, HB.out⟩
set_option maxRecDepth 100000 in
theorem empty_any (y : Value) (l : List Int) (w : World) (hy0 : RdI w .i64 y l) (_hl : l.length ≤ 1000) :
    Calls Try.prog 87 #[y] w fun e w' => e = .returned (.bool (decide (l.length = 0))) ∧ Below w.heap.size w w' := by
  obtain ⟨b, cb, rfl, _, _, _⟩ := hy0.form
  clear hy0
  have HT : Hid (((l.length : Int) == 0) = decide (l.length = 0)) := Lib.hid (by rw [Bool.eq_iff_iff, beq_iff_eq, decide_eq_true_eq]; omega)
  generalize l.length = n at *
  go_enter Try.func87, Try.ntmps87
  go_wp2_with fail
  go_ret
  exact ⟨ret_bool (by first | exact HT.out | (have h := HT.out; simp at h ⊢; try exact h)), bz w⟩
set_option maxRecDepth 100000 in
theorem nofall_any (x y : Value) (s l : List Int) (b : Nat) (w : World) (hx0 : RdI w .i64 x s) (hy0 : RdI w .i64 y l) (hs : s.length ≤ 1000) (hl : l.length ≤ 1000) (hix : ∀ i, i < l.length → 0 ≤ elt l i ∧ elt l i < (s.length : Int)) (hb : w.cell? ⟨b, 0, none⟩ = some x) :
    Calls Try.prog 89 #[y, .pointer (some ⟨b, 0, none⟩)] w fun e w' => e = .returned (.bool (!falL s l)) ∧ Below w.heap.size w w' := by
  have HC := Lib.hid (falls_any x y s l w hx0 hy0 hs hl hix)
  obtain ⟨a, ca, rfl, _, _, _⟩ := hx0.form
  obtain ⟨b', cb, rfl, _, _, _⟩ := hy0.form
  clear hx0 hy0 hix
  generalize falL s l = g at *
  go_enter Try.func89, Try.ntmps89
  go_wp2_with fail
  refine HC.out.mono ?_
  rintro e w2 ⟨rfl, hB⟩
  have HB := Lib.hid hB
  clear hB
  go_wp2_with fail
  go_ret
  exact ⟨rfl, HB.out⟩
set_option maxRecDepth 100000 in
set_option maxHeartbeats 800000 in
theorem indexempty_any (v : Value) (R : List (List Int)) (w : World) (hx0 : RdLL w v R) (hs : Sml R) :
    Calls Try.prog 75 #[v, .func (.func 87) #[] #[]] w fun e w' => e = .returned (.int .i64 (idxOf (fun l => decide (l.length = 0)) R)) ∧ Below w.heap.size w w' := by
  obtain ⟨a, ca, rfl⟩ := hx0.sl
  have HX := Lib.hid hx0; have HS := Lib.hid hs.2
  have h20 := hs.1
  clear hx0 hs
  obtain ⟨z, hz⟩ : ∃ z, idxOf (fun l => decide (l.length = 0)) R = z := ⟨_, rfl⟩
  rw [hz]
  have HZ := Lib.hid hz
  clear hz
  go_enter Try.func75, Try.ntmps75
  go_wp2_with fail
  go_loopw [5, 8] (fun _ i wr => ∃ k : Nat, k ≤ R.length ∧ i = .int .i64 k ∧ (∀ i, i < k → (fun l => decide (l.length = 0)) (R[i]?.getD []) = false) ∧ Below w.heap.size w wr) (fun _ i _ => R.length - (intOf i).toNat)
  case atStart => exact ⟨0, Nat.zero_le _, rfl, by intro i h; omega, bz w⟩
  case round =>
    obtain ⟨k, hk, rfl, ht, hB⟩ := hrel
    have HT := Lib.hid ht; have HB := Lib.hid hB
    clear ht hB
    by_cases hlt : k < R.length
    · obtain ⟨bb, off, a', c', rfl, hbb, hc, hr⟩ := (HX.out.mono HB.out).get k hlt
      have hk20 := HS.out k
      have HCL := Lib.hid (empty_any _ (row R k) wr hr (by omega))
      have HFS := Lib.hid (fun h => find_none_step (d := []) (p := fun l => decide (l.length = 0)) HT.out hlt h)
      have HNX : Hid ((fun l => decide (l.length = 0)) (R[k]?.getD []) = false → ∀ i, i < k + 1 → (fun l => decide (l.length = 0)) (R[i]?.getD []) = false) := Lib.hid (fun h i hi => by
        by_cases e : i = k
        · subst e; exact h
        · exact HT.out i (by omega))
      have HRE : Hid (row R k = R[k]?.getD []) := Lib.hid rfl
      clear hr
      rw [← HRE.out] at HFS HNX
      simp only at HFS HNX
      generalize hgg : decide ((row R k).length = 0) = g at *
      have HGG := Lib.hid hgg
      clear hgg
      generalize (row R k).length = m at *
      cases g with
      | false =>
        go_wp2_with fail
        refine HCL.out.mono ?_
        rintro e w2 ⟨rfl, hB⟩
        have HB2 := Lib.hid (btr HB.out hB)
        clear hB
        go_wp2_with fail
        go_roundw
        case rel => exact ⟨k + 1, by omega, by go_num, HNX.out trivial, HB2.out⟩
        case measure => simp [intOf]; omega
      | true =>
        go_wp2_with fail
        refine HCL.out.mono ?_
        rintro e w2 ⟨rfl, hB⟩
        have HB2 := Lib.hid (btr HB.out hB)
        clear hB
        go_wp2_with fail
        go_ret
        exact ⟨ret_int ((HFS.out trivial).symm.trans HZ.out), HB2.out⟩
    · have HFN := Lib.hid (find_none (d := []) (p := fun l => decide (l.length = 0)) fun i hi => HT.out i (by omega))
      go_wp2_with fail
      go_ret
      exact ⟨ret_int (HFN.out.symm.trans HZ.out), HB.out⟩
set_option maxRecDepth 100000 in
set_option maxHeartbeats 800000 in
theorem indexnofall_any (v : Value) (R : List (List Int)) (x : Value) (s : List Int) (b : Nat) (w : World) (hx0 : RdLL w v R) (hs : Sml R) (hxs : RdI w .i64 x s) (hss : s.length ≤ 1000) (hix : ∀ i k, k < (row R i).length → 0 ≤ num R i k ∧ num R i k < (s.length : Int)) (hb : w.cell? ⟨b, 0, none⟩ = some x) (hbz : b < w.heap.size) :
    Calls Try.prog 75 #[v, .func (.func 89) #[] #[.pointer (some ⟨b, 0, none⟩)]] w fun e w' => e = .returned (.int .i64 (idxOf (fun l => !falL s l) R)) ∧ Below w.heap.size w w' := by
  obtain ⟨a, ca, rfl⟩ := hx0.sl
  have HX := Lib.hid hx0; have HS := Lib.hid hs.2
  have h20 := hs.1
  clear hx0 hs
  obtain ⟨z, hz⟩ : ∃ z, idxOf (fun l => !falL s l) R = z := ⟨_, rfl⟩
  rw [hz]
  have HZ := Lib.hid hz
  clear hz
  have HXS := Lib.hid hxs; have HIX := Lib.hid hix; have HCB := Lib.hid hb
  clear hxs hix hb
  go_enter Try.func75, Try.ntmps75
  go_wp2_with fail
  go_loopw [5, 8] (fun _ i wr => ∃ k : Nat, k ≤ R.length ∧ i = .int .i64 k ∧ (∀ i, i < k → (fun l => !falL s l) (R[i]?.getD []) = false) ∧ Below w.heap.size w wr) (fun _ i _ => R.length - (intOf i).toNat)
  case atStart => exact ⟨0, Nat.zero_le _, rfl, by intro i h; omega, bz w⟩
  case round =>
    obtain ⟨k, hk, rfl, ht, hB⟩ := hrel
    have HT := Lib.hid ht; have HB := Lib.hid hB
    clear ht hB
    by_cases hlt : k < R.length
    · obtain ⟨bb, off, a', c', rfl, hbb, hc, hr⟩ := (HX.out.mono HB.out).get k hlt
      have hk20 := HS.out k
      have HCL := Lib.hid (nofall_any x _ s (row R k) b wr (HXS.out.mono HB.out) hr hss (by omega) (fun i hi => HIX.out k i hi) ((HB.out.cell (p := ⟨b, 0, none⟩) hbz).trans HCB.out))
      have HFS := Lib.hid (fun h => find_none_step (d := []) (p := fun l => !falL s l) HT.out hlt h)
      have HNX : Hid ((fun l => !falL s l) (R[k]?.getD []) = false → ∀ i, i < k + 1 → (fun l => !falL s l) (R[i]?.getD []) = false) := Lib.hid (fun h i hi => by
        by_cases e : i = k
        · subst e; exact h
        · exact HT.out i (by omega))
      have HRE : Hid (row R k = R[k]?.getD []) := Lib.hid rfl
      clear hr
      rw [← HRE.out] at HFS HNX
      simp only at HFS HNX
      generalize hgg : (!falL s (row R k)) = g at *
      have HGG := Lib.hid hgg
      clear hgg
      generalize (row R k).length = m at *
      cases g with
      | false =>
        go_wp2_with fail
        refine HCL.out.mono ?_
        rintro e w2 ⟨rfl, hB⟩
        have HB2 := Lib.hid (btr HB.out hB)
        clear hB
        go_wp2_with fail
        go_roundw
        case rel => exact ⟨k + 1, by omega, by go_num, HNX.out trivial, HB2.out⟩
        case measure => simp [intOf]; omega
      | true =>
        go_wp2_with fail
        refine HCL.out.mono ?_
        rintro e w2 ⟨rfl, hB⟩
        have HB2 := Lib.hid (btr HB.out hB)
        clear hB
        go_wp2_with fail
        go_ret
        exact ⟨ret_int ((HFS.out trivial).symm.trans HZ.out), HB2.out⟩
    · have HFN := Lib.hid (find_none (d := []) (p := fun l => !falL s l) fun i hi => HT.out i (by omega))
      go_wp2_with fail
      go_ret
      exact ⟨ret_int (HFN.out.symm.trans HZ.out), HB.out⟩
end Go.Proofs.Ytnnfahdhmodejaa

namespace Go.Proofs.Ytnnfahdhmodejaa
open Go.RowKit Go.Shelf

theorem any_full (R : List (List Int)) : (R.any fun l => decide (l.length = 0)) = !fullB R := by
  have h := fullB_iff R
  cases hf : fullB R with
  | true =>
    have h2 := h.1 hf
    rw [Bool.not_true, List.any_eq_false]
    intro l hl
    obtain ⟨i, hi, rfl⟩ := List.getElem_of_mem hl
    have := h2 i hi
    rw [row_lt hi] at this
    simpa using this
  | false =>
    have h2 : ¬ NilTo R R.length := fun h3 => by rw [h.2 h3] at hf; cases hf
    rw [Bool.not_false, List.any_eq_true]
    refine Classical.byContradiction fun hc => h2 fun i hi h0 => hc ⟨R[i], List.getElem_mem hi, ?_⟩
    rw [row_lt hi] at h0
    simpa using h0
theorem any_fal (s : List Int) (R : List (List Int)) : (R.any fun l => !falL s l) = !falB s R := by
  have h := falB_iff s R
  have key : Fal s R ↔ ∀ l ∈ R, falL s l = true := by
    constructor
    · intro hf l hl
      obtain ⟨p, hp, rfl⟩ := List.getElem_of_mem hl
      rw [falL_iff]
      intro i h0 hi
      have := hf p hp i (by rw [row_lt hp]; exact hi) h0
      unfold num at this
      rw [row_lt hp] at this
      exact this
    · intro hf p hp q hq h0
      have := (falL_iff s _).1 (hf R[p] (List.getElem_mem hp)) q h0 (by rw [row_lt hp] at hq; exact hq)
      unfold num
      rw [row_lt hp]
      exact this
  cases hf : falB s R with
  | true =>
    rw [Bool.not_true, List.any_eq_false]
    intro l hl
    simp [key.1 (h.1 hf) l hl]
  | false =>
    have h2 : ¬ Fal s R := fun h3 => by rw [h.2 h3] at hf; cases hf
    rw [Bool.not_false, List.any_eq_true]
    refine Classical.byContradiction fun hc => h2 (key.2 fun l hl => ?_)
    cases hb : falL s l with
    | true => rfl
    | false => exact absurd ⟨l, hl, by simp [hb]⟩ hc
theorem lis_sorted {xs : List Int} {n : Nat} (h : xs.any (outB 0 ((n : Int) - 1)) = false) : lisB (sorted xs) n = decide xs.Nodup := by
  have hp := List.pairwise_iff_getElem.1 (sorted_le xs)
  have hb : ∀ i, (hi : i < (sorted xs).length) → 0 ≤ (sorted xs)[i] ∧ (sorted xs)[i] ≤ (n : Int) - 1 := fun i hi => by
    have := List.any_eq_false.1 h _ ((sorted_perm xs).mem_iff.1 (List.getElem_mem hi))
    unfold outB at this
    rw [decide_eq_true_eq] at this
    omega
  rw [Bool.eq_iff_iff, lisB_iff, decide_eq_true_eq, ← (sorted_perm xs).nodup_iff]
  constructor
  · intro hl
    refine List.pairwise_iff_getElem.2 fun i j hi hj hij e => ?_
    have h1 := (hl j hj).2.2 (by omega)
    rw [elt_lt (by omega), elt_lt hj] at h1
    by_cases e2 : i = j - 1
    · subst e2; omega
    · have := hp i (j - 1) hi (by omega) (by omega)
      omega
  · intro hn i hi
    have h2 := hb i hi
    rw [elt_lt hi]
    refine ⟨h2.1, by omega, fun h0 => ?_⟩
    rw [elt_lt (by omega)]
    have h3 := hp (i - 1) i (by omega) hi (by omega)
    have h4 := List.pairwise_iff_getElem.1 hn (i - 1) i (by omega) hi (by omega)
    omega
set_option maxRecDepth 100000 in
theorem hasempty_any (v : Value) (R : List (List Int)) (w : World) (hx0 : RdLL w v R) (hs : Sml R) :
    Calls Try.prog 88 #[v, .func (.func 87) #[] #[]] w fun e w' => e = .returned (.bool (!fullB R)) ∧ Below w.heap.size w w' := by
  have HI := Lib.hid (indexempty_any v R w hx0 hs)
  have HQ := Lib.hid (idxOf_any (fun l : List Int => decide (l.length = 0)) R)
  rw [any_full] at HQ
  obtain ⟨a, ca, rfl⟩ := hx0.sl
  clear hx0
  generalize idxOf (fun l : List Int => decide (l.length = 0)) R = q at *
  generalize (!fullB R) = g at *
  go_enter Try.func88, Try.ntmps88
  go_wp2_with fail
  refine HI.out.mono ?_
  rintro e w2 ⟨rfl, hB⟩
  have HB := Lib.hid hB; clear hB
  go_wp2_with fail
  go_ret
  exact ⟨ret_bool HQ.out, HB.out⟩
set_option maxRecDepth 100000 in
theorem hasnofall_any (v : Value) (R : List (List Int)) (x : Value) (s : List Int) (b : Nat) (w : World) (hx0 : RdLL w v R) (hs : Sml R) (hxs : RdI w .i64 x s) (hss : s.length ≤ 1000) (hix : ∀ i k, k < (row R i).length → 0 ≤ num R i k ∧ num R i k < (s.length : Int)) (hb : w.cell? ⟨b, 0, none⟩ = some x) (hbz : b < w.heap.size) :
    Calls Try.prog 88 #[v, .func (.func 89) #[] #[.pointer (some ⟨b, 0, none⟩)]] w fun e w' => e = .returned (.bool (!falB s R)) ∧ Below w.heap.size w w' := by
  have HI := Lib.hid (indexnofall_any v R x s b w hx0 hs hxs hss hix hb hbz)
  have HQ := Lib.hid (idxOf_any (fun l : List Int => !falL s l) R)
  rw [any_fal] at HQ
  obtain ⟨a, ca, rfl⟩ := hx0.sl
  clear hx0 hxs hix hb
  generalize idxOf (fun l : List Int => !falL s l) R = q at *
  generalize (!falB s R) = g at *
  go_enter Try.func88, Try.ntmps88
  go_wp2_with fail
  refine HI.out.mono ?_
  rintro e w2 ⟨rfl, hB⟩
  have HB := Lib.hid hB; clear hB
  go_wp2_with fail
  go_ret
  exact ⟨ret_bool HQ.out, HB.out⟩
set_option maxRecDepth 100000 in
set_option maxHeartbeats 1600000 in
theorem pfalls_any (x y : Value) (s : List Int) (R : List (List Int)) (w : World) (hx0 : RdI w .i64 x s) (hy0 : RdLL w y R) (hs : s.length ≤ 1000) (hR : Sml R) :
    Calls Try.prog 46 #[x, y] w (Post2N w (falE s R)) := by
  have HX := Lib.hid hx0; have HY := Lib.hid hy0
  have HC := Lib.hid (fun wz h => pseq_any x s wz h hs)
  have HALL := Lib.hid (fun wz h => concat_any y R wz h hR)
  have HSR := Lib.hid hR
  have hfl := sml_flat hR
  have r20 := hR.1
  obtain ⟨a, ca, rfl, _, _, _⟩ := hx0.form
  obtain ⟨b, cb, rfl⟩ := hy0.sl
  have HEM := Lib.hid (fun wz h => hasempty_any (.slice b R.length cb) R wz h hR)
  clear hx0 hy0 hR
  have HH : Hid (falE s R = if seqC s ≠ 0 then (0, seqC s) else if R.flatten.any (outB 0 ((s.length : Int) - 1)) then (0, 3) else if fullB R && decide R.flatten.Nodup && decide (R.flatten.length = s.length) then (if falB s R then ((R.length : Int), 0) else (0, 22)) else (0, 15)) := Lib.hid rfl
  have HIX : Hid (R.flatten.any (outB 0 ((s.length : Int) - 1)) = false → ∀ i k, k < (row R i).length → 0 ≤ num R i k ∧ num R i k < (s.length : Int)) := Lib.hid (fun h i k hk => by
    have h1 := List.any_eq_false.1 h (num R i k) (flat_mem (elt_mem hk))
    have := outB_bd (by simpa using h1)
    omega)
  have HNF := Lib.hid (fun hix c wz h h1 h2 h3 => hasnofall_any (.slice b R.length cb) R (.slice a s.length ca) s c wz h HSR.out h1 hs hix h2 h3)
  have HLS := Lib.hid (fun h => lis_sorted (xs := R.flatten) (n := s.length) h)
  generalize R.flatten = xs at *
  generalize fullB R = fb at *
  generalize falB s R = sb at *
  generalize falE s R = L at *
  generalize seqC s = q at *
  go_enter Try.func46, Try.ntmps46
  have c0 : (w.alloc (.cells #[.slice a s.length ca] 31)).cell? ⟨w.heap.size, 0, none⟩ = some (.slice a s.length ca) := cnew rfl rfl
  have HB1 := Lib.hid (bal (bz w) (.cells #[.slice a s.length ca] 31))
  have HC0 := Lib.hid c0
  have z0 : w.heap.size < (w.alloc (.cells #[.slice a s.length ca] 31)).heap.size := by simp
  clear c0
  go_wp2_with fail
  generalize w.alloc (.cells #[.slice a s.length ca] 31) = w1 at *
  refine (HC.out w1 (HX.out.mono HB1.out)).mono ?_
  rintro e w2 ⟨rfl, hB⟩
  have HB2 := Lib.hid (btr HB1.out hB)
  have HC2 := Lib.hid ((hB.cell (p := ⟨w.heap.size, 0, none⟩) z0).trans HC0.out)
  have z2 := Nat.lt_of_lt_of_le z0 hB.size
  clear hB z0 HC0 HC
  go_wp2_with fail
  refine (HALL.out w2 (HY.out.mono HB2.out)).mono ?_
  rintro e w3 ⟨u, rfl, hu, hB⟩
  have HB3 := Lib.hid (btr HB2.out hB)
  have HC3 := Lib.hid ((hB.cell (p := ⟨w.heap.size, 0, none⟩) z2).trans HC2.out)
  have z3 := Nat.lt_of_lt_of_le z2 hB.size
  have HU := Lib.hid hu
  obtain ⟨au, cu, rfl⟩ := owns_form hu
  clear hB HC2 hu HALL
  by_cases hc : q = 0
  · have t1 : (q != 0) = false := by simp [hc]
    rw [if_neg (by simp [hc])] at HH
    clear hc
    have k3 := HC3.out
    go_wp2_with fail
    refine (within_any _ xs 0 ((s.length : Int) - 1) w3 (RdI.of_owns HU.out) (by omega)).mono ?_
    rintro e w4 ⟨rfl, hB⟩
    have HB4 := Lib.hid (btr HB3.out hB)
    have HC4 := Lib.hid ((hB.cell (p := ⟨w.heap.size, 0, none⟩) z3).trans HC3.out)
    have z4 := Nat.lt_of_lt_of_le z3 hB.size
    have HU4 := Lib.hid (show rowI w4 w2.heap.size _ xs from owns_kept HU.out hB)
    clear hB k3 HC3 HU
    cases hany : xs.any (outB 0 ((s.length : Int) - 1)) with
    | true =>
      rw [hany, if_pos rfl] at HH
      go_wp2_with fail
      go_ret2
      exact post2N_mk HH.out HB4.out
    | false =>
      have HIX2 := Lib.hid (HIX.out hany)
      have HLS2 := Lib.hid (HLS.out hany)
      rw [hany, if_neg (by simp)] at HH
      clear hany HIX HLS
      go_wp2_with fail
      refine (sort_any _ xs w4 _ HU4.out (by omega)).mono ?_
      rintro e w5 ⟨rfl, hu5, hB5⟩
      have HB5 := Lib.hid (HB4.out.trans (hB5.mono HB2.out.size))
      have HC5 := Lib.hid ((hB5.cell (p := ⟨w.heap.size, 0, none⟩) z2).trans HC4.out)
      have z5 := Nat.lt_of_lt_of_le z4 hB5.size
      have HU5 := Lib.hid hu5
      have HL : Hid ((sorted xs).length = xs.length) := Lib.hid (sorted_perm xs).length_eq
      clear hB5 hu5 HU4 HC4
      have k5 := HC5.out
      go_wp2_with fail
      refine (prising_any _ (sorted xs) s.length w5 (RdI.of_owns HU5.out) (by rw [HL.out]; omega) hs).mono ?_
      rintro e w6 ⟨rfl, hB⟩
      have HB6 := Lib.hid (btr HB5.out hB)
      have HC6 := Lib.hid ((hB.cell (p := ⟨w.heap.size, 0, none⟩) z5).trans HC5.out)
      have z6 := Nat.lt_of_lt_of_le z5 hB.size
      clear hB k5 HC5
      rw [HLS2.out]
      have k6 := HC6.out
      cases hnd : decide xs.Nodup with
      | false =>
        rw [hnd, Bool.and_false, Bool.false_and, if_neg (by simp)] at HH
        go_wp2_with fail
        all_goals first | (rename_i h _; simp [undef] at h; done) | skip
        go_ret2
        exact post2N_mk HH.out HB6.out
      | true =>
        rw [hnd, Bool.and_true] at HH
        by_cases hle : xs.length = s.length
        · have d1 : ((xs.length : Int) != (s.length : Int)) = false := by simp [hle]
          have d1' : (xs.length != s.length) = false := by simp [hle]
          rw [decide_eq_true hle, Bool.and_true] at HH
          clear hle
          go_wp2_with fail
          all_goals first | (rename_i h _; simp [undef] at h; done) | skip
          refine (HEM.out w6 (HY.out.mono HB6.out)).mono ?_
          rintro e w7 ⟨rfl, hB⟩
          have HB7 := Lib.hid (btr HB6.out hB)
          have HC7 := Lib.hid ((hB.cell (p := ⟨w.heap.size, 0, none⟩) z6).trans HC6.out)
          have z7 := Nat.lt_of_lt_of_le z6 hB.size
          clear hB k6 HC6
          have k7 := HC7.out
          cases fb with
          | false =>
            rw [if_neg (by simp)] at HH
            go_wp2_with fail
            all_goals first | (rename_i h _; simp [undef] at h; done) | skip
            go_ret2
            exact post2N_mk HH.out HB7.out
          | true =>
            rw [if_pos rfl] at HH
            go_wp2_with fail
            all_goals first | (rename_i h _; simp [undef] at h; done) | skip
            refine (HNF.out HIX2.out w.heap.size w7 (HY.out.mono HB7.out) (HX.out.mono HB7.out) HC7.out z7).mono ?_
            rintro e w8 ⟨rfl, hB⟩
            have HB8 := Lib.hid (btr HB7.out hB)
            clear hB
            cases sb with
            | false =>
              rw [if_neg (by simp)] at HH
              go_wp2_with fail
              go_ret2
              exact post2N_mk HH.out HB8.out
            | true =>
              rw [if_pos rfl] at HH
              go_wp2_with fail
              go_ret2
              exact post2N_mk HH.out HB8.out
        · have d1 : ((xs.length : Int) != (s.length : Int)) = true := by simp; omega
          have d1' : (xs.length != s.length) = true := by simp; omega
          rw [decide_eq_false hle, Bool.and_false, if_neg (by simp)] at HH
          clear hle
          go_wp2_with fail
          all_goals first | (rename_i h _; simp [undef] at h; done) | skip
          go_ret2
          exact post2N_mk HH.out HB6.out
  · have t1 : (q != 0) = true := by simp [hc]
    rw [if_pos hc] at HH
    clear hc
    go_wp2_with fail
    go_ret2
    exact post2N_mk HH.out HB3.out
end Go.Proofs.Ytnnfahdhmodejaa

namespace Go.Proofs.Ytnnfahdhmodejaa
open Go.RowKit Go.Shelf

theorem decTo_succ {l : List Int} {k : Nat} (h : DecTo l k) (h1 : 0 < k → elt l k ≤ elt l (k - 1)) : DecTo l (k + 1) := fun i h0 hi => by
  by_cases e : i = k
  · subst e; exact h1 h0
  · exact h i h0 (by omega)
set_option maxRecDepth 100000 in
set_option maxHeartbeats 1600000 in
theorem pcheckshape_any (x : Value) (l : List Int) (w : World) (hx0 : RdI w .i64 x l) (hl : l.length ≤ 1000) :
    Calls Try.prog 80 #[x] w fun e w' => e = .returned (.int .i64 (shapeC l)) ∧ Below w.heap.size w w' := by
  have HX := Lib.hid hx0
  obtain ⟨a, ca, rfl, _, hcm, hx⟩ := hx0.form
  clear hx0 hcm hx
  have HH : Hid (shapeC l = if l.any (outB 1 12) then 3 else if 12 < sumL l then 6 else if decB l then 0 else 22) := Lib.hid rfl
  have HDB := Lib.hid (decB_iff l)
  have HBD : Hid (l.any (outB 1 12) = false → ∀ i, i < l.length → 0 ≤ elt l i ∧ elt l i ≤ 12) := Lib.hid (fun h i hi => by
    have h1 := List.any_eq_false.1 h _ (elt_mem hi)
    unfold outB at h1
    rw [decide_eq_true_eq] at h1
    omega)
  generalize shapeC l = g at *
  generalize decB l = db at *
  go_enter Try.func80, Try.ntmps80
  go_wp2_with fail
  refine (within_any _ l 1 12 w HX.out hl).mono ?_
  rintro e w2 ⟨rfl, hB⟩
  have HB := Lib.hid hB
  clear hB
  cases hany : l.any (outB 1 12) with
  | true =>
    rw [hany, if_pos rfl] at HH
    go_wp2_with fail
    go_ret
    exact ⟨ret_int HH.out.symm, HB.out⟩
  | false =>
    have HBD2 := Lib.hid (HBD.out hany)
    rw [hany, if_neg (by simp)] at HH
    clear hany HBD
    have HX2 := Lib.hid (HX.out.mono HB.out)
    go_wp2_with fail
    go_loop [3, 5, 13] (fun s3 _ i => ∃ k : Nat, k ≤ l.length ∧ i = .int .i64 k ∧ s3 = .int .i64 (sumL (l.take k))) (fun _ _ i => l.length - (intOf i).toNat)
    case atStart => exact ⟨0, Nat.zero_le _, rfl, rfl⟩
    case round =>
      obtain ⟨k, hk, rfl, rfl⟩ := hrel
      have hsb := sumL_bd (m := 12) (by omega) HBD2.out k hk
      by_cases hlt : k < l.length
      · obtain ⟨bx, ox, rfl, hbx, hcx⟩ := HX2.out.get (by omega)
        have gx := hcx k hlt
        have HS := Lib.hid (sumL_take l k hlt)
        have hb := HBD2.out k hlt
        clear hcx
        generalize elt l k = q at *
        generalize sumL (l.take k) = sm at *
        go_wp2_with fail
        go_round
        case rel => exact ⟨k + 1, by omega, by go_num, by rw [HS.out]⟩
        case measure => simp [intOf]; omega
      · have hke : k = l.length := by omega
        subst hke
        rw [List.take_length] at *
        generalize sumL l = sm at *
        by_cases h12 : 12 < sm
        · have d1 : decide (12 < sm) = true := decide_eq_true h12
          rw [if_pos h12] at HH
          go_wp2_with fail
          go_ret
          exact ⟨ret_int HH.out.symm, HB.out⟩
        · have d1 : decide (12 < sm) = false := decide_eq_false h12
          rw [if_neg h12] at HH
          go_wp2_with fail
          go_loop [6, 7, 25] (fun _ _ i => ∃ k : Nat, k ≤ l.length ∧ i = .int .i64 k ∧ DecTo l k) (fun _ _ i => l.length - (intOf i).toNat)
          case atStart => exact ⟨0, Nat.zero_le _, rfl, fun i h1 h2 => by omega⟩
          case round =>
            clear hk hlt
            obtain ⟨k, hk, rfl, ht⟩ := hrel
            have HT := Lib.hid ht; clear ht
            by_cases hlt : k < l.length
            · obtain ⟨bx, ox, rfl, hbx, hcx⟩ := HX2.out.get (by omega)
              have gx := hcx k hlt
              have HDS := Lib.hid (fun h => decTo_succ HT.out h)
              rcases Nat.eq_zero_or_pos k with h0 | h0
              · subst h0
                have HD1 := Lib.hid (HDS.out (fun h => by omega))
                clear hcx HDS
                rw [Nat.add_zero] at gx
                generalize elt l 0 = q at *
                go_wp2_with fail
                all_goals first | (rename_i h _; simp [undef] at h; done) | skip
                go_round
                case rel => exact ⟨1, by omega, rfl, HD1.out⟩
                case measure => simp [intOf]; omega
              · obtain ⟨j, rfl⟩ : ∃ j, k = j + 1 := ⟨k - 1, by omega⟩
                have gx2 := hcx j (by omega)
                have HNO : Hid (db = true → elt l (j + 1) ≤ elt l j) := Lib.hid (fun h => HDB.out.1 h (j + 1) (by omega) hlt)
                rw [Nat.add_sub_cancel] at HDS
                have t0 : decide ((0 : Int) < (j : Int) + 1) = true := decide_eq_true (by omega)
                have t1 : decide (0 < j + 1) = true := decide_eq_true (by omega)
                rw [show ((j + 1 : Nat) : Int) = (j : Int) + 1 by omega]
                clear hcx
                generalize elt l (j + 1) = q at *
                generalize elt l j = q2 at *
                by_cases hq : q2 < q
                · have d2 : decide (q2 < q) = true := decide_eq_true hq
                  have hdb : db = false := by
                    cases hdb : db with
                    | false => rfl
                    | true => have := HNO.out hdb; omega
                  rw [hdb, if_neg (by simp)] at HH
                  go_wp2_with fail
                  all_goals first | (rename_i h _; simp [undef] at h; done) | skip
                  go_ret
                  exact ⟨ret_int HH.out.symm, HB.out⟩
                · have d2 : decide (q2 < q) = false := decide_eq_false hq
                  have HD1 := Lib.hid (HDS.out (fun _ => by omega))
                  go_wp2_with fail
                  all_goals first | (rename_i h _; simp [undef] at h; done) | skip
                  go_round
                  case rel => exact ⟨j + 1 + 1, by omega, by go_num, HD1.out⟩
                  case measure => simp [intOf]; omega
            · have hdb : db = true := HDB.out.2 (fun i h1 h2 => HT.out i h1 (by omega))
              rw [hdb, if_pos rfl] at HH
              go_wp2_with fail
              go_ret
              exact ⟨ret_int HH.out.symm, HB.out⟩
end Go.Proofs.Ytnnfahdhmodejaa

namespace Go.Proofs.Ytnnfahdhmodejaa
open Go.RowKit Go.Shelf

theorem Shp.ge {l : List Int} (h : Shp l) {i : Nat} (hi : i < l.length) : ∀ j, j ≤ i → elt l i ≤ elt l j := by
  induction i with
  | zero => intro j hj; rw [show j = 0 by omega]; exact Int.le_refl _
  | succ i ih =>
    intro j hj
    by_cases e : j = i + 1
    · subst e; exact Int.le_refl _
    · have h1 := ih (by omega) j (by omega)
      have h2 := h.dec (i + 1) (by omega) hi
      rw [Nat.add_sub_cancel] at h2
      omega
theorem cnt_drop {l : List Int} (h : Shp l) {i k : Nat} (hi : i < l.length) (hk : (k : Int) < elt l i) : cntGt l k = (i : Int) + 1 + cntGt (l.drop (i + 1)) k := by
  have h1 : (l.take (i + 1)).filter (fun x => decide ((k : Int) < x)) = l.take (i + 1) := by
    rw [List.filter_eq_self]
    intro x hx
    obtain ⟨j, hj, rfl⟩ := List.getElem_of_mem hx
    rw [List.length_take] at hj
    rw [List.getElem_take]
    have := h.ge hi j (by omega)
    rw [elt_lt (by omega : j < l.length)] at this
    exact decide_eq_true (by omega)
  have h2 : (l.filter fun x => decide ((k : Int) < x)) = (l.take (i + 1)).filter (fun x => decide ((k : Int) < x)) ++ (l.drop (i + 1)).filter (fun x => decide ((k : Int) < x)) := by
    rw [← List.filter_append, List.take_append_drop]
  unfold cntGt
  rw [h2, h1, List.length_append, List.length_take]
  push_cast
  omega
theorem set_mid (A Z : List Int) (k : Nat) (c v : Int) (h : A.length = k) : (A ++ c :: Z).set k v = A ++ v :: Z := by
  subst h
  rw [List.set_append_right _ _ (Nat.le_refl _), Nat.sub_self]; rfl
theorem elt_mid (A Z : List Int) (k : Nat) (c : Int) (h : A.length = k) : elt (A ++ c :: Z) k = c := by
  subst h
  unfold elt
  rw [List.getElem?_append_right (Nat.le_refl _), Nat.sub_self]; rfl
set_option maxRecDepth 100000 in
set_option maxHeartbeats 4000000 in
theorem phooks_any (x : Value) (l : List Int) (w : World) (hx0 : RdI w .i64 x l) (hl : l.length ≤ 1000) : Calls Try.prog 34 #[x] w (Post2LL w (hooksE l)) := by
  have HX := Lib.hid hx0
  have HC := Lib.hid (pcheckshape_any x l w hx0 hl)
  obtain ⟨a, ca, rfl, hca, hcm, hx⟩ := hx0.form
  clear hx0 hcm hx
  by_cases hc : shapeC l = 0
  · have t1 : (shapeC l != 0) = false := by simp [hc]
    have HH : Hid (hooksE l = (hooksL l, 0)) := Lib.hid (by unfold hooksE; rw [if_neg (by simp [hc])])
    have hs := shapeC_zero hc
    have h12 := hs.len
    have HS := Lib.hid hs
    have HE : Hid (hooksL l = (List.range l.length).map (hookRow l)) := Lib.hid rfl
    clear hc hs
    generalize shapeC l = q0 at *
    generalize hooksE l = L at *
    generalize hooksL l = H at *
    go_enter Try.func34, Try.ntmps34
    go_wp2_with fail
    refine HC.out.mono ?_
    rintro e w2 ⟨rfl, hB⟩
    have HB2 := Lib.hid hB
    clear hB HC
    go_wp2_with fail
    go_loopw [5, 6, 7, 8, 9, 11, 19, 28, 42] (fun s5 _ _ _ _ _ s19 _ _ wr => ∃ (i : Nat) (u : Value) (vs : List Value), i ≤ l.length ∧ u = s5 ∧ s19 = .int .i64 i ∧ LL wr (fun k => w2.heap.size ≤ k) u ((List.range i).map (hookRow l)) vs ∧ Below w2.heap.size w2 wr) (fun _ _ _ _ _ _ s19 _ _ _ => l.length - (intOf s19).toNat)
    case atStart => exact ⟨0, _, _, Nat.zero_le _, rfl, rfl, LL.nil _ _, bz w2⟩
    case round =>
      obtain ⟨i, u, vs, hi, rfl, rfl, hO, hB⟩ := hrel
      have HO := Lib.hid hO; have HB := Lib.hid hB; clear hO hB
      by_cases hlt : i < l.length
      · obtain ⟨q1, q2⟩ := HS.out.at hlt
        have q3 := HS.out.le0 i hlt
        obtain ⟨q, hq⟩ := Int.eq_ofNat_of_zero_le (show 0 ≤ elt l i by omega)
        obtain ⟨bx, ox, rfl, hbx, hcx⟩ := HX.out.get (by omega)
        have HGA := Lib.hid (fun wz (hz : Below w2.heap.size w2 wz) j (hj : j < l.length) => ((btr HB2.out hz).cell (p := ⟨bx, ox + j, none⟩) hbx).trans (hcx j hj))
        have HZI := Lib.hid (fun wz (hz : Below w2.heap.size w2 wz) => Nat.lt_of_lt_of_le hbx (btr HB2.out hz).size)
        have gx := HGA.out _ HB.out i hlt
        have zx := HZI.out _ HB.out
        have HRT := Lib.hid (hooks_take l i)
        have HKT := Lib.hid (fun k => hookRow_take l i k)
        have HHR : Hid (hookRow l i = (List.range q).map (hookAt l i)) := Lib.hid (by unfold hookRow; rw [hq]; rfl)
        have HHA : Hid (∀ k, k < q → hookAt l i k = (q : Int) - k + cntGt (l.drop (i + 1)) k) := Lib.hid (fun k hk => by
          unfold hookAt
          rw [hq, exch_at (by omega), cnt_drop HS.out hlt (by omega)]
          omega)
        have hq12 : 1 ≤ q ∧ q ≤ 12 := by omega
        have hrl : ((List.range i).map (hookRow l)).length ≤ 1000 := by simp; omega
        obtain ⟨ad, hsl, had⟩ := run_cutFromI bx ox l.length ca (i + 1) (by omega) hca
        rw [hq] at gx
        clear hcx q1 q2 q3 hq
        generalize (List.range i).map (hookRow l) = RR at *
        generalize hookRow l i = hrow at *
        generalize hookAt l i = ha at *
        have HSL := Lib.hid hsl
        rw [show ((i + 1 : Nat) : Int) = (i : Int) + 1 by omega] at hsl
        rename World => wO
        go_wp2_with (at_make; refine wpList_make_ints rfl _ _ rfl q rfl rfl (by omega) ?_)
        intro w3 hO3 hg3
        have HO3 := Lib.hid hO3
        have HB3 : Hid (Below wO.heap.size wO w3) := Lib.hid (bgr (bz wO) hg3 (fun k h => by cases h))
        clear hO3 hg3 gx zx
        have HZ0 := Lib.hid HB.out.size
        generalize hgo : wO.heap.size = g at HO3
        have HGO := Lib.hid hgo
        clear hgo
        go_wp2_with fail
        go_loopw [9, 11, 28, 42] (fun _ _ s28 _ wr => ∃ (k m : Nat), k + m = q ∧ s28 = .int .i64 k ∧ rowI wr wO.heap.size (.slice (some ⟨g, 0, none⟩) q q) ((List.range k).map ha ++ zeros m) ∧ Below wO.heap.size wO wr) (fun _ _ s28 _ _ => q - (intOf s28).toNat)
        case atStart => exact ⟨0, q, by omega, rfl, by rw [HGO.out]; exact HO3.out, HB3.out⟩
        case round =>
          obtain ⟨k, m, hkm, rfl, hR, hB⟩ := hrel
          have HR := Lib.hid hR; have HBm := Lib.hid hB; clear hR hB HO3 HB3
          have hal : ((List.range k).map ha).length = k := by simp
          by_cases hkl : k < q
          · obtain ⟨m, rfl⟩ : ∃ m', m = m' + 1 := ⟨m - 1, by omega⟩
            obtain ⟨g2, c2, e2, gz, gc, gf⟩ := HR.out.get k (by rw [List.length_append, hal, zeros_len]; omega)
            simp only [Value.slice.injEq, Option.some.injEq, Addr.mk.injEq, and_true] at e2
            obtain ⟨rfl, e2, e3⟩ := e2
            rename World => wm
            have HS1 := Lib.hid (HR.out.stored k ((q : Int) - k))
            rw [show (List.range k).map ha ++ zeros (m + 1) = (List.range k).map ha ++ 0 :: zeros m from rfl, set_mid _ _ _ _ _ hal] at HS1
            have hgO : wO.heap.size ≤ g := (HR.out.lt (k := g) rfl).1
            have HB1 := Lib.hid (bset HBm.out (p := ⟨g, k, none⟩) hgO (.int .i64 ((q : Int) - k)))
            have HV := Lib.hid (HHA.out k hkl)
            have HK2 := Lib.hid (HKT.out k)
            have hDl : (l.drop (i + 1)).length = l.length - (i + 1) := List.length_drop
            have HEL : Hid (∀ t, elt (l.drop (i + 1)) t = elt l (i + 1 + t)) := Lib.hid (fun t => by unfold elt; rw [List.getElem?_drop])
            have HCT := Lib.hid (fun t ht => cnt_take (l.drop (i + 1)) k t ht)
            have HCB := Lib.hid (fun t => cnt_bd ((l.drop (i + 1)).take t) k)
            have HTA : Hid ((l.drop (i + 1)).take (l.length - (i + 1)) = l.drop (i + 1)) := Lib.hid (List.take_of_length_le (by omega))
            have HC0 : Hid (cntGt ((l.drop (i + 1)).take 0) k = 0) := Lib.hid (by simp [cntGt])
            clear HR e2 e3
            generalize l.drop (i + 1) = D at *
            generalize elt ((List.range k).map ha ++ zeros (m + 1)) k = old at *
            generalize (List.range k).map ha = A at *
            go_wp2_with fail
            clear gc gf
            generalize wm.setCell ⟨g, k, none⟩ (.int .i64 ((q : Int) - k)) = w4 at *
            go_loopw [11, 42] (fun _ s42 wr => ∃ t : Nat, t ≤ l.length - (i + 1) ∧ s42 = .int .i64 t ∧ rowI wr wO.heap.size (.slice (some ⟨g, 0, none⟩) q q) (A ++ ((q : Int) - k + cntGt (D.take t) k) :: zeros m) ∧ Below wO.heap.size wO wr) (fun _ s42 _ => l.length - (i + 1) - (intOf s42).toNat)
            case atStart => exact ⟨0, Nat.zero_le _, rfl, by rw [HC0.out, Int.add_zero]; exact HS1.out, HB1.out⟩
            case round =>
              clear HS1 HB1
              obtain ⟨t, ht, rfl, hR, hB⟩ := hrel
              have HR := Lib.hid hR; have HBn := Lib.hid hB; clear hR hB
              by_cases htl : t < l.length - (i + 1)
              · have gl := HGA.out _ (btr HB.out HBn.out) (i + 1 + t) (by omega)
                have zl := HZI.out _ (btr HB.out HBn.out)
                have had2 := had (by omega)
                subst had2
                rw [← HEL.out t] at gl
                have HCT2 := Lib.hid (HCT.out t (by omega))
                have hcb := HCB.out t
                have hcl : (D.take t).length ≤ 12 := by rw [List.length_take]; omega
                obtain ⟨g2, c2, e2, gz2, gc, gf⟩ := HR.out.get k (by rw [List.length_append, hal]; simp)
                rw [elt_mid _ _ _ _ hal] at gc
                simp only [Value.slice.injEq, Option.some.injEq, Addr.mk.injEq, and_true] at e2
                obtain ⟨rfl, e2, e3⟩ := e2
                have HS2 := Lib.hid (HR.out.stored k ((q : Int) - k + cntGt (D.take t) k + 1))
                rw [set_mid _ _ _ _ _ hal] at HS2
                have HB2' := Lib.hid (bset HBn.out (p := ⟨g, k, none⟩) hgO (.int .i64 ((q : Int) - k + cntGt (D.take t) k + 1)))
                rw [show ox + (i + 1 + t) = ox + (i + 1) + t by omega] at gl
                clear e2 e3
                generalize elt D t = y at *
                generalize cntGt (D.take t) k = c at *
                by_cases hy : (k : Int) < y
                · have d1 : decide ((k : Int) < y) = true := decide_eq_true hy
                  rw [if_pos hy] at HCT2
                  clear HR
                  go_wp2_with fail
                  go_roundw
                  case rel => exact ⟨t + 1, by omega, by go_num, by rw [HCT2.out, ← Int.add_assoc]; exact HS2.out, HB2'.out⟩
                  case measure => simp [intOf]; omega
                · have d1 : decide ((k : Int) < y) = false := decide_eq_false hy
                  rw [if_neg hy] at HCT2
                  clear HS2 HB2'
                  go_wp2_with fail
                  go_roundw
                  case rel => exact ⟨t + 1, by omega, by go_num, by rw [HCT2.out, Int.add_zero]; exact HR.out, HBn.out⟩
                  case measure => simp [intOf]; omega
              · have hte : t = l.length - (i + 1) := by omega
                subst hte
                rw [HTA.out, ← HV.out] at HR
                go_wp2_with fail
                go_roundw
                case rel => exact ⟨k + 1, m, by omega, by go_num, by rw [HK2.out, List.append_assoc]; exact HR.out, HBn.out⟩
                case measure => simp [intOf]; omega
          · have hke : k = q := by omega
            have hm0 : m = 0 := by omega
            subst hke
            subst hm0
            have HRO : Hid (rowI wr wO.heap.size (.slice (some ⟨g, 0, none⟩) k k) hrow) := Lib.hid (by rw [HHR.out]; have := HR.out; simpa [zeros] using this)
            have HO1 := Lib.hid (HO.out.later HBm.out)
            have HAP := Lib.hid (fun j f hf => apart_fresh HO.out HRO.out j f hf)
            have hz1 := (btr HB.out HBm.out).size
            have HZ1 := Lib.hid (HRO.out.base (Nat.zero_le _))
            clear HR
            go_wp2_with (at_builtin; refine LL.push HO1.out HZ1.out (fun k ek => Nat.le_trans HZ0.out (HRO.out.lt ek).1) HAP.out rfl _ _ rfl rfl rfl rfl hrl (fun k hk => Nat.le_trans hz1 hk) ?_)
            intro u2 w5 hO5 hF5
            have HO5 := Lib.hid hO5
            have HB5 := Lib.hid (hF5.below (btr HB.out HBm.out) (fun _ h => h))
            clear hO5 hF5
            go_wp2_with fail
            go_roundw
            case rel => exact ⟨i + 1, _, _, by omega, rfl, by go_num, by rw [HRT.out]; exact HO5.out, HB5.out⟩
            case measure => simp [intOf]; omega
      · have hie : i = l.length := by omega
        have HO2 : Hid (RdLL wr u H) := by have h := HO.out.rd; rw [hie, ← HE.out] at h; exact Lib.hid h
        obtain ⟨au, cu, rfl⟩ := HO.out.form
        clear HO
        go_wp2_with fail
        go_ret2
        exact post2LL_mk HH.out HO2.out (btr HB2.out HB.out)
  · have t1 : (shapeC l != 0) = true := by simp [hc]
    have HH : Hid (hooksE l = ([], shapeC l)) := Lib.hid (by unfold hooksE; rw [if_pos hc])
    clear hc
    generalize shapeC l = q at *
    generalize hooksE l = L at *
    go_enter Try.func34, Try.ntmps34
    go_wp2_with fail
    refine HC.out.mono ?_
    rintro e w2 ⟨rfl, hB⟩
    have HB1 := Lib.hid hB; clear hB
    go_wp2_with fail
    go_ret2
    exact post2LL_mk HH.out (rdLL_nil _) HB1.out
end Go.Proofs.Ytnnfahdhmodejaa

namespace Go.Proofs.Ytnnfahdhmodejaa
open Go.RowKit Go.Shelf

theorem prod_take (l : List Int) (k : Nat) (h : k < l.length) : prodZ (l.take (k + 1)) = prodZ (l.take k) * elt l k := by
  unfold prodZ
  rw [List.take_succ_eq_append_getElem h, List.foldl_append, elt_lt h]; rfl
theorem prod_bd {l : List Int} (h : ∀ i, i < l.length → 1 ≤ elt l i ∧ elt l i ≤ 12) : ∀ k, k ≤ l.length → 1 ≤ prodZ (l.take k) ∧ prodZ (l.take k) ≤ (12 : Int) ^ k
  | 0, _ => by simp [prodZ]
  | k + 1, hk => by
    rw [prod_take l k (by omega)]
    obtain ⟨h1, h2⟩ := prod_bd h k (by omega)
    obtain ⟨h3, h4⟩ := h k (by omega)
    refine ⟨?_, ?_⟩
    · have := Int.mul_le_mul h1 h3 (by omega) (by omega)
      omega
    · rw [Int.pow_succ]
      exact Int.mul_le_mul h2 h4 (by omega) (by omega)
theorem pow_bd : ∀ k, k ≤ 12 → (12 : Int) ^ k ≤ 8916100448256 := by
  intro k hk
  have : (List.range 13).all (fun k => decide ((12 : Int) ^ k ≤ 8916100448256)) = true := by decide +kernel
  have := List.all_eq_true.1 this k (List.mem_range.2 (by omega))
  simpa using this
theorem hooks_sml {l : List Int} (h : Shp l) : Sml (hooksL l) := by
  have h12 := h.len
  have hlen : (hooksL l).length = l.length := by simp [hooksL]
  refine ⟨by omega, fun i => ?_⟩
  rcases Nat.lt_or_ge i l.length with hi | hi
  · have h1 := h.at hi
    rw [row_lt (by omega)]
    simp [hooksL, hookRow]
    omega
  · rw [row_ge (by omega)]; simp
set_option maxRecDepth 100000 in
set_option maxHeartbeats 1600000 in
theorem pcount_any (x : Value) (l : List Int) (w : World) (hx0 : RdI w .i64 x l) (hl : l.length ≤ 1000) : Calls Try.prog 36 #[x] w (Post2N w (countE l)) := by
  have HX := Lib.hid hx0
  have HC := Lib.hid (phooks_any x l w hx0 hl)
  obtain ⟨a, ca, rfl, hca, hcm, hx⟩ := hx0.form
  clear hx0 hcm hx
  by_cases hc : shapeC l = 0
  · have t1 : (shapeC l != 0) = false := by simp [hc]
    have HH : Hid (countE l = (pC l, 0)) := Lib.hid (by unfold countE; rw [if_neg (by simp [hc])])
    have hs := shapeC_zero hc
    have hall := hs.all
    have HE : Hid (hooksE l = (hooksL l, 0)) := Lib.hid (by unfold hooksE; rw [if_neg (by simp [hc])])
    have HSM := Lib.hid (hooks_sml hs)
    have hl12 : (hooksL l).flatten.length ≤ 12 := by rw [hall.len]; have := hs.sum; omega
    have HP : Hid (pC l = facZ (hooksL l).flatten.length / prodZ (hooksL l).flatten) := Lib.hid rfl
    have HB : Hid (∀ i, i < (hooksL l).flatten.length → 1 ≤ elt (hooksL l).flatten i ∧ elt (hooksL l).flatten i ≤ 12) := Lib.hid (fun i hi => hall.hook _ (elt_mem hi))
    rw [HE.out] at HC
    have HCO := Lib.hid (fun u wz h => concat_any u (hooksL l) wz h HSM.out)
    clear hc hs hall
    generalize shapeC l = q0 at *
    generalize countE l = L at *
    generalize pC l = pc at *
    unfold Post2LL at HC
    simp only at HC
    generalize hooksL l = H at *
    generalize H.flatten = xs at *
    go_enter Try.func36, Try.ntmps36
    go_wp2_with fail
    refine HC.out.mono ?_
    rintro e w2 ⟨u, rfl, hu, hB⟩
    have HU := Lib.hid hu; have HB2 := Lib.hid hB
    obtain ⟨au, cu, rfl⟩ := hu.sl
    clear hu hB HC
    go_wp2_with fail
    refine (HCO.out _ w2 HU.out).mono ?_
    rintro e w3 ⟨v, rfl, hv, hB⟩
    have HV := Lib.hid (RdI.of_owns hv); have HB3 := Lib.hid (btr HB2.out hB)
    obtain ⟨av, cv, rfl⟩ := owns_form hv
    clear hv hB HCO
    go_wp2_with fail
    go_loop [6, 7, 8, 9, 21] (fun s6 s7 _ _ s21 => ∃ k : Nat, k ≤ xs.length ∧ s21 = .int .i64 k ∧ s6 = .int .i64 (facZ k) ∧ s7 = .int .i64 (prodZ (xs.take k))) (fun _ _ _ _ s21 => xs.length - (intOf s21).toNat)
    case atStart => exact ⟨0, Nat.zero_le _, rfl, rfl, rfl⟩
    case round =>
      obtain ⟨k, hk, rfl, rfl, rfl⟩ := hrel
      obtain ⟨f1, f2⟩ := fac_bd k (by omega)
      obtain ⟨p1, p2⟩ := prod_bd HB.out k hk
      have p3 := pow_bd k (by omega)
      by_cases hlt : k < xs.length
      · obtain ⟨bx, ox, e1, hbx, hcx⟩ := HV.out.get (by omega)
        subst e1
        have gx := hcx k hlt
        obtain ⟨f3, f4⟩ := fac_bd (k + 1) (by omega)
        obtain ⟨p4, p5⟩ := prod_bd HB.out (k + 1) hlt
        have p6 := pow_bd (k + 1) (by omega)
        have HF : Hid (facZ (k + 1) = facZ k * ((k : Int) + 1)) := Lib.hid rfl
        have HPT := Lib.hid (prod_take xs k hlt)
        rw [HF.out] at f3 f4
        rw [HPT.out] at p4 p5
        clear hcx
        generalize elt xs k = y at *
        generalize prodZ (xs.take k) = pr at *
        generalize facZ k = fk at *
        have hm1 : IntKind.i64.wrap (fk * ((k : Int) + 1)) = fk * ((k : Int) + 1) := IntWalk.i64_in _ (by omega)
        have hm2 : IntKind.i64.wrap (pr * y) = pr * y := IntWalk.i64_in _ (by omega)
        clear p2 p3 p5 p6
        go_wp2_with fail
        go_round
        case rel => exact ⟨k + 1, by omega, by go_num, by rw [HF.out], by rw [HPT.out]⟩
        case measure => simp [intOf]; omega
      · have hke : k = xs.length := by omega
        subst hke
        rw [List.take_length] at *
        have hq : facZ xs.length / prodZ xs = (facZ xs.length).tdiv (prodZ xs) := (Int.tdiv_eq_ediv_of_nonneg (by omega)).symm
        have hb1 : 0 ≤ facZ xs.length / prodZ xs := Int.ediv_nonneg (by omega) (by omega)
        have hb2 : facZ xs.length / prodZ xs ≤ facZ xs.length := Int.ediv_le_self _ (by omega)
        rw [hq] at hb1 hb2 HP
        clear hq p2 p3
        generalize facZ xs.length = fk at *
        generalize prodZ xs = pr at *
        have hm1 : IntKind.i64.wrap (fk.tdiv pr) = fk.tdiv pr := IntWalk.i64_in _ (by omega)
        have hpr : ¬ pr = 0 := by omega
        have hpr2 : (pr == 0) = false := by rw [beq_eq_false_iff_ne]; exact hpr
        go_wp2_with fail
        go_ret2
        exact post2N_mk (by rw [HH.out, HP.out]) HB3.out
  · have t1 : (shapeC l != 0) = true := by simp [hc]
    have HH : Hid (countE l = (0, shapeC l)) := Lib.hid (by unfold countE; rw [if_pos hc])
    have HE : Hid (hooksE l = ([], shapeC l)) := Lib.hid (by unfold hooksE; rw [if_pos hc])
    rw [HE.out] at HC
    clear hc HE
    unfold Post2LL at HC
    simp only at HC
    generalize shapeC l = q at *
    generalize countE l = L at *
    go_enter Try.func36, Try.ntmps36
    go_wp2_with fail
    refine HC.out.mono ?_
    rintro e w2 ⟨u, rfl, hu, hB⟩
    obtain ⟨au, cu, rfl⟩ := hu.sl
    have HB1 := Lib.hid hB; clear hB hu
    go_wp2_with fail
    go_ret2
    exact post2N_mk HH.out HB1.out
end Go.Proofs.Ytnnfahdhmodejaa
