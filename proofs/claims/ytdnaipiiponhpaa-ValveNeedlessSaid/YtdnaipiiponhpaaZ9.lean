/- The document's Ends. -/
import Derived.Test.YtdnaipiiponhpaaZ8
import Derived.Test.YtdnaipiiponhpaaZ6
namespace Go.Proofs.Ytdnaipiiponhpaa
open Go.RowKit Go.Shelf

def dblL (l : List Int) (j : Nat) : List Int := (List.range l.length).map fun i => if i < j then 2 * (l[i]?.getD 0) else l[i]?.getD 0
theorem dblL_len (l : List Int) (j : Nat) : (dblL l j).length = l.length := by simp [dblL]
theorem dblL_zero (l : List Int) : dblL l 0 = l := by
  apply List.ext_getElem
  · simp [dblL]
  · intro i h1 h2; simp [dblL, h2]
theorem dblL_get (l : List Int) (j : Nat) (hj : j < l.length) : (dblL l j)[j]?.getD 0 = l[j]?.getD 0 := by
  simp [dblL, hj]
theorem dblL_step (l : List Int) (j : Nat) : (dblL l j).set j (2 * (l[j]?.getD 0)) = dblL l (j + 1) := by
  apply List.ext_getElem
  · simp [dblL]
  · intro i h1 h2
    have hi : i < l.length := by simpa [dblL] using h2
    rw [List.getElem_set]
    simp only [dblL, List.getElem_map, List.getElem_range]
    by_cases e : j = i
    · subst e; simp
    · rw [if_neg e]
      by_cases h3 : i < j
      · rw [if_pos h3, if_pos (by omega)]
      · rw [if_neg h3, if_neg (by omega)]
theorem dblL_all (l : List Int) : dblL l l.length = l.map fun x => 2 * x := by
  apply List.ext_getElem
  · simp [dblL]
  · intro i h1 h2
    have hi : i < l.length := by simpa using h2
    simp [dblL, hi]
/-- The values: 1 in the place, 0 or 2 in the others; what comes of them. -/
def endX (p : Nat) (V : List (Int × Int)) (place t : Nat) : List Int := runV V (((bitsOf p t).map fun x => 2 * x).set place 1)
def hitB (p : Nat) (V : List (Int × Int)) (place t i : Nat) : Bool := decide ((endX p V place t)[i]?.getD 0 = 1)
def thereL (p : Nat) (V : List (Int × Int)) (place t : Nat) : List Bool := (List.range p).map fun i => (List.range t).any fun s => hitB p V place s i
def thereK (p : Nat) (V : List (Int × Int)) (place t j : Nat) : List Bool := (List.range p).map fun i => if i < j then ((List.range (t + 1)).any fun s => hitB p V place s i) else (List.range t).any fun s => hitB p V place s i
theorem thereL_zero (p : Nat) (V : List (Int × Int)) (place : Nat) : thereL p V place 0 = List.replicate p false := by
  apply List.ext_getElem
  · simp [thereL]
  · intro i h1 h2; simp [thereL]
theorem thereK_len (p : Nat) (V : List (Int × Int)) (place t j : Nat) : (thereK p V place t j).length = p := by simp [thereK]
theorem thereL_len (p : Nat) (V : List (Int × Int)) (place t : Nat) : (thereL p V place t).length = p := by simp [thereL]
theorem thereK_zero (p : Nat) (V : List (Int × Int)) (place t : Nat) : thereK p V place t 0 = thereL p V place t := by
  simp [thereK, thereL]
theorem thereK_all (p : Nat) (V : List (Int × Int)) (place t : Nat) : thereK p V place t p = thereL p V place (t + 1) := by
  apply List.ext_getElem
  · simp [thereK, thereL]
  · intro i h1 h2
    have hi : i < p := by simpa [thereL] using h2
    simp [thereK, thereL, hi]
theorem thereK_get (p : Nat) (V : List (Int × Int)) (place t j : Nat) (hj : j < p) : (thereK p V place t j)[j]?.getD false = (List.range t).any fun s => hitB p V place s j := by
  simp [thereK, hj]
theorem thereK_step (p : Nat) (V : List (Int × Int)) (place t j : Nat) : (thereK p V place t j).set j (((List.range t).any fun s => hitB p V place s j) || hitB p V place t j) = thereK p V place t (j + 1) := by
  apply List.ext_getElem
  · simp [thereK]
  · intro i h1 h2
    rw [List.getElem_set]
    simp only [thereK, List.getElem_map, List.getElem_range]
    by_cases e : j = i
    · subst e; simp [List.range_succ]
    · rw [if_neg e]
      by_cases h3 : i < j
      · rw [if_pos h3, if_pos (by omega)]
      · rw [if_neg h3, if_neg (by omega)]
def rendsB (p : Nat) (V : List (Int × Int)) (place i : Nat) : Bool := (List.range (2 ^ p)).any fun s => hitB p V place s i
def rendsK (p : Nat) (V : List (Int × Int)) (place k : Nat) : List Int := ((List.range k).filter (rendsB p V place)).map fun i => ((i : Nat) : Int)
theorem rendsK_succ (p : Nat) (V : List (Int × Int)) (place k : Nat) : rendsK p V place (k + 1) = if rendsB p V place k then rendsK p V place k ++ [(k : Int)] else rendsK p V place k := by
  unfold rendsK
  rw [List.range_succ, List.filter_append, List.map_append]
  cases h : rendsB p V place k <;> simp [h]
theorem rendsK_le (p : Nat) (V : List (Int × Int)) (place k : Nat) : (rendsK p V place k).length ≤ k := by
  unfold rendsK; rw [List.length_map]; have := List.length_filter_le (rendsB p V place) (List.range k); simpa using this
theorem bits_bd (p t j : Nat) : 0 ≤ (bitsOf p t)[j]?.getD 0 ∧ (bitsOf p t)[j]?.getD 0 ≤ 1 := by
  rcases Nat.lt_or_ge j p with h | h
  · simp [bitsOf, h]; omega
  · rw [List.getElem?_eq_none (by simp [bitsOf]; exact h)]; simp
theorem info4 : (Try.prog.info? 4).map (fun i => (i.zero, i.size, i.bytes)) = some (some (.bool false), 1, 1) := by kernel_rfl
theorem made_false (n : Nat) : (madeCells #[Value.bool false] n).toList = (List.replicate n false).map Value.bool := by
  apply List.ext_getElem
  · simp [madeCells]
  · intro i h1 h2; simp [madeCells, Nat.mod_one]

set_option maxRecDepth 100000 in
set_option maxHeartbeats 8000000 in
theorem rends_ok (n pl : Nat) (x : Value) (V : List (Int × Int)) (w : World) (hx0 : RdP w x V) (hV : OkRow n V) (hpl : pl < n) :
    Calls Try.prog 40 #[.agg #[.int .i64 n, x], .int .i64 pl] w fun e w' => ∃ v, e = .returned (.tuple #[v, .int .i64 0]) ∧ RdI w' .i64 v (rendsK n V pl n) ∧ Below w.heap.size w w' := by
  obtain ⟨a, ca, rfl, hca1, hca2, hca3⟩ := hx0.form
  clear hca1 hca2 hca3
  have H0 := Lib.hid fun w1 (hB : Below w.heap.size w w1) => rcheck_any n _ V w1 (hx0.mono hB) (by have := hV.len; omega)
  rw [check_of_ok hV] at H0
  have hp1 := hV.p1; have hp8 := hV.p8; have h40 := hV.len
  have h256 := pow_le_8 n (by omega)
  obtain ⟨m, hm⟩ : ∃ m, m = 2 ^ n := ⟨_, rfl⟩
  have hwp : wrap64 ((2 : Int) ^ n) = (m : Int) := by
    have e : (2 : Int) ^ n = ((2 ^ n : Nat) : Int) := by simp
    rw [e, ← hm]
    unfold wrap64
    omega
  rw [← hm] at h256
  have HM := Lib.hid hm; clear hm
  obtain ⟨i4, hi4, hz0, hz1, hz2⟩ := info_parts info4
  go_enter Try.func40, Try.ntmps40
  go_wp2_with fail
  refine (H0.out _ (bal (bz _) _)).mono ?_
  rintro e w2 ⟨rfl, hB2⟩
  have c0 : w2.cell? ⟨w.heap.size, 0, none⟩ = some (.int .i64 n) := (hB2.cell (by simp)).trans (cnew rfl rfl)
  have c1 : w2.cell? ⟨w.heap.size, 1, none⟩ = some (.slice a V.length ca) := (hB2.cell (by simp)).trans (cnew rfl rfl)
  have z2 := World.block_lt_of_cell? w2 _ c0
  simp only at z2
  have HB3 := Lib.hid (btr (bal (bz w) _) hB2)
  clear hB2
  have hpln : (pl : Int) < (n : Int) := by omega
  have hpl0 : (0 : Int) ≤ (pl : Int) := by omega
  go_wp2_with (at_make; refine wpList_make_full _ rfl _ _ 95 rfl w2.heap.size 4 i4 (.bool false) 1 Try.underlying95 hi4 hz0 hz1 _ _ _ _ n rfl rfl rfl rfl (by rw [hz2]; omega) (by simp only [maxLen]; omega) (Nat.le_refl _) ?_)
  intro w1 hown hgrow
  have hBm := bgr (bz _) hgrow (fun k h => by cases h)
  rw [made_false, ← thereL_zero n V pl] at hown
  have d0 := (hBm.cell (p := ⟨w.heap.size, 0, none⟩) z2).trans c0
  have d1 := (hBm.cell (p := ⟨w.heap.size, 1, none⟩) z2).trans c1
  have HO := Lib.hid hown; have HBm := Lib.hid hBm
  clear hgrow hown hBm c0 c1
  go_wp2
  go_loopw [7, 8, 9, 10, 29, 30, 31, 32, 33, 34, 35, 36, 37, 38, 39, 40, 41, 42, 43, 44, 45, 46, 47, 48, 49, 50, 51, 52, 53, 54, 55, 56, 57, 58, 59, 60, 61, 62, 63, 64, 65, 66, 67, 68, 69, 70, 71, 72, 73, 74, 75, 76, 77, 78, 79, 80] (fun i _ _ _ _ _ _ _ _ _ _ _ _ _ _ _ _ _ _ _ _ _ _ _ _ _ _ _ _ _ _ _ _ _ _ _ _ _ _ _ _ _ _ _ _ _ _ _ _ _ _ _ _ _ _ _ wr => ∃ t : Nat, t ≤ m ∧ i = .int .i64 t ∧ Below w2.heap.size w2 wr ∧ wr.cell? ⟨w.heap.size, 0, none⟩ = some (.int .i64 n) ∧ wr.cell? ⟨w.heap.size, 1, none⟩ = some (.slice a V.length ca) ∧ wr.ownsRow w2.heap.size 4 1 (.slice (some ⟨w2.heap.size, 0, none⟩) n n) n ((thereL n V pl t).map Value.bool)) (fun i _ _ _ _ _ _ _ _ _ _ _ _ _ _ _ _ _ _ _ _ _ _ _ _ _ _ _ _ _ _ _ _ _ _ _ _ _ _ _ _ _ _ _ _ _ _ _ _ _ _ _ _ _ _ _ _ => m - (intOf i).toNat)
  case atStart => exact ⟨0, Nat.zero_le _, rfl, HBm.out, d0, d1, HO.out⟩
  case round =>
    obtain ⟨t, ht, rfl, hB, e0, e1, hO⟩ := hrel
    have HB := Lib.hid hB; have HO1 := Lib.hid hO
    clear hB hO HO HBm d0 d1
    have hzr := HB.out.size
    have zr : w.heap.size < wr.heap.size := by omega
    have zg := (HO1.out.lt w2.heap.size rfl).2
    by_cases htm : t < m
    · have htm2 : (t : Int) < (m : Int) := by omega
      go_wp2_with fail
      refine (patterned_any n t wr (by omega) (by omega)).mono ?_
      rintro e w3 ⟨v3, rfl, hown3, hB3⟩
      obtain ⟨a3, d3, hv3⟩ := owns_form hown3
      obtain ⟨g3, hg3⟩ : ∃ g, a3 = some ⟨g, 0, none⟩ := by
        rcases hown3.2 with ⟨h, hn⟩ | ⟨g, cap, cur, h, _⟩
        · omega
        · rw [hv3] at h; simp at h; exact ⟨g, h.1⟩
      subst hg3
      subst hv3
      have hgb := hown3.lt g3 rfl
      have y0 := (hB3.cell (p := ⟨w.heap.size, 0, none⟩) zr).trans e0
      have y1 := (hB3.cell (p := ⟨w.heap.size, 1, none⟩) zr).trans e1
      rw [← dblL_zero (bitsOf n t)] at hown3
      have HO3 := Lib.hid hown3; have HB3b := Lib.hid hB3
      have hbl : (bitsOf n t).length = n := by simp [bitsOf]
      have HBD := Lib.hid (bits_bd n t)
      clear hown3 hB3 e0 e1
      have hz3 := HB3b.out.size
      obtain ⟨wo, rfl⟩ : ∃ wo : World, wo = wr := ⟨_, rfl⟩
      go_wp2
      go_loopw [9, 40, 41, 42, 43, 44, 45, 46, 47, 48, 49, 50, 51, 52, 53] (fun i _ _ _ _ _ _ _ _ _ _ _ _ _ _ wr => ∃ j : Nat, j ≤ n ∧ i = .int .i64 j ∧ Below wo.heap.size wo wr ∧ wr.cell? ⟨w.heap.size, 0, none⟩ = some (.int .i64 n) ∧ wr.cell? ⟨w.heap.size, 1, none⟩ = some (.slice a V.length ca) ∧ wr.ownsRow wo.heap.size 2 1 (.slice (some ⟨g3, 0, none⟩) n d3) n ((dblL (bitsOf n t) j).map (Value.int .i64))) (fun i _ _ _ _ _ _ _ _ _ _ _ _ _ _ _ => n - (intOf i).toNat)
      case atStart => exact ⟨0, Nat.zero_le _, rfl, HB3b.out, y0, y1, HO3.out⟩
      case round =>
        obtain ⟨j, hj, rfl, hB4, e0, e1, hO4⟩ := hrel
        have z4 := World.block_lt_of_cell? wr _ e0
        simp only at z4
        by_cases hjn : j < n
        · have cf := hO4.frozenAt j
          have cc := hO4.cellAt j (by omega)
          have hlj : j < (dblL (bitsOf n t) j).length := by rw [dblL_len, hbl]; exact hjn
          rw [List.getElem?_map, List.getElem?_eq_getElem hlj, Option.map_some] at cc
          have hge : (dblL (bitsOf n t) j)[j] = (bitsOf n t)[j]?.getD 0 := by
            have := dblL_get (bitsOf n t) j (by omega)
            rw [List.getElem?_eq_getElem hlj] at this; simpa using this
          rw [hge] at cc
          have hbd := HBD.out j
          have HST := Lib.hid (dblL_step (bitsOf n t) j)
          clear hge hlj
          generalize hbj : (bitsOf n t)[j]?.getD 0 = bj at *
          have HO4 := Lib.hid hO4; have HB4 := Lib.hid hB4
          have hwb : IntKind.i64.wrap (2 * bj) = 2 * bj := IntWalk.i64_in _ (by omega)
          clear hO4 hB4 hbj y0 y1
          have hne : w.heap.size ≠ g3 := by omega
          go_wp2
          refine ⟨⟨j + 1, by omega, by go_num, bset HB4.out hgb.1 _, ?_, ?_, ?_⟩, by simp [intOf]; omega⟩
          · rw [World.cell?_setCell_other _ _ _ _ (by simp)]; exact e0
          · rw [World.cell?_setCell_other _ _ _ _ (by simp)]; exact e1
          · have := (HO4.out.stored j (.int .i64 (2 * bj))).1
            rw [← List.map_set, HST.out] at this
            exact this
        · obtain rfl : j = n := by omega
          have cf := hO4.frozenAt pl
          have cc := hO4.cellAt pl (by omega)
          rw [show dblL (bitsOf j t) j = (bitsOf j t).map fun x => 2 * x by have := dblL_all (bitsOf j t); rwa [hbl] at this] at hO4 cc
          rw [List.getElem?_map, List.getElem?_map, List.getElem?_eq_getElem (show pl < (bitsOf j t).length by rw [hbl]; exact hpl), Option.map_some, Option.map_some] at cc
          generalize (bitsOf j t)[pl]'(by rw [hbl]; exact hpl) = old at *
          have hst := (hO4.stored pl (.int .i64 1)).1
          rw [← List.map_set] at hst
          have x0 : (wr.setCell ⟨g3, pl, none⟩ (.int .i64 1)).cell? ⟨w.heap.size, 0, none⟩ = some (.int .i64 j) := by rw [World.cell?_setCell_other _ _ _ _ (by simp)]; exact e0
          have x1 : (wr.setCell ⟨g3, pl, none⟩ (.int .i64 1)).cell? ⟨w.heap.size, 1, none⟩ = some (.slice a V.length ca) := by rw [World.cell?_setCell_other _ _ _ _ (by simp)]; exact e1
          have HS := Lib.hid hst; have HBS := Lib.hid (bset hB4 hgb.1 (p := ⟨g3, pl, none⟩) (.int .i64 1))
          have HX0 := Lib.hid x0; have HX1 := Lib.hid x1
          clear hO4 hB4 hst x0 x1 y0 y1
          have hlx : (((bitsOf j t).map fun x => 2 * x).set pl 1).length = j := by simp [bitsOf]
          have HEX : Hid (runV V (((bitsOf j t).map fun x => 2 * x).set pl 1) = endX j V pl t) := Lib.hid rfl
          have HHB : Hid (∀ i, hitB j V pl t i = decide ((endX j V pl t)[i]?.getD 0 = 1)) := Lib.hid fun _ => rfl
          have hle : (endX j V pl t).length = j := by unfold endX; rw [runV_length]; exact hlx
          go_wp2_with fail
          have hq0 := HX0.out; have hq1 := HX1.out
          generalize hws : wr.setCell ⟨g3, pl, none⟩ (.int .i64 1) = ws at *
          clear hws e0 e1 cf cc
          refine (runof_any _ _ V _ ws (hx0.mono (btr (btr HB3.out HB.out) HBS.out)) (RdI.of_owns (owns_base HS.out (Nat.zero_le _)) : RdI ws .i64 _ (((bitsOf j t).map fun x => 2 * x).set pl 1)) (by omega) (by omega) (by omega) (fun v hv => by obtain ⟨h1, h2, h3⟩ := hV.ok v hv; omega)).mono ?_
          rintro e w5 ⟨v5, rfl, hown5, hB5⟩
          rw [hlx, HEX.out] at hown5
          have zs := World.block_lt_of_cell? ws _ hq0
          simp only at zs
          have u0 := (hB5.cell (p := ⟨w.heap.size, 0, none⟩) zs).trans hq0
          have u1 := (hB5.cell (p := ⟨w.heap.size, 1, none⟩) zs).trans hq1
          have HT5 := Lib.hid (owns_kept (owns_kept HO1.out HBS.out) hB5)
          have HO5 := Lib.hid (owns_base hown5 (Nat.zero_le _))
          have HB5 := Lib.hid (btr HB.out (btr HBS.out hB5))
          obtain ⟨a5, d5, hv5⟩ := owns_form HO5.out
          obtain ⟨g5, hg5⟩ : ∃ g, a5 = some ⟨g, 0, none⟩ := by
            rcases HO5.out.2 with ⟨h, hn⟩ | ⟨g, cap, cur, h, _⟩
            · omega
            · rw [hv5] at h; simp at h; exact ⟨g, h.1⟩
          subst hg5
          subst hv5
          have hT := HT5.out
          rw [← thereK_zero j V pl t] at hT
          have HTK := Lib.hid hT
          clear hown5 hB5 hq0 hq1 HS HBS HX0 HX1 HO1 HT5 hT
          obtain ⟨wp, rfl⟩ : ∃ wp : World, wp = w5 := ⟨_, rfl⟩
          go_wp2
          go_loopw [10, 61, 62, 63, 64, 65, 66, 67, 68, 69, 70, 71, 72, 73, 74, 75, 76, 77, 78, 79, 80] (fun i10 _ _ _ _ _ _ _ _ _ _ _ _ _ _ _ _ _ _ _ _ wr => ∃ i : Nat, i ≤ j ∧ i10 = .int .i64 i ∧ Below w2.heap.size w2 wr ∧ wr.cell? ⟨w.heap.size, 0, none⟩ = some (.int .i64 j) ∧ wr.cell? ⟨w.heap.size, 1, none⟩ = some (.slice a V.length ca) ∧ wr.ownsRow w2.heap.size 4 1 (.slice (some ⟨w2.heap.size, 0, none⟩) j j) j ((thereK j V pl t i).map Value.bool) ∧ wr.ownsRow 0 2 1 (.slice (some ⟨g5, 0, none⟩) j d5) j ((endX j V pl t).map (Value.int .i64))) (fun i10 _ _ _ _ _ _ _ _ _ _ _ _ _ _ _ _ _ _ _ _ _ => j - (intOf i10).toNat)
          case atStart => exact ⟨0, Nat.zero_le _, rfl, HB5.out, u0, u1, HTK.out, HO5.out⟩
          case round =>
            obtain ⟨i, hi, rfl, hB6, e0, e1, hT6, hO6⟩ := hrel
            have z6 := World.block_lt_of_cell? wr _ e0
            simp only at z6
            by_cases hij : i < j
            · have cf := hT6.frozenAt i
              have cc := hT6.cellAt i (by omega)
              have cx := hO6.cellAt i (by omega)
              have zt := (hT6.lt w2.heap.size rfl).2
              have zx := (hO6.lt g5 rfl).2
              rw [List.getElem?_map, List.getElem?_eq_getElem (by rw [thereK_len]; exact hij), Option.map_some] at cc
              have hge : (thereK j V pl t i)[i]'(by rw [thereK_len]; exact hij) = ((List.range t).any fun s => hitB j V pl s i) := by
                have := thereK_get j V pl t i hij
                rw [List.getElem?_eq_getElem (by rw [thereK_len]; exact hij)] at this; simpa using this
              rw [hge] at cc
              rw [List.getElem?_map, List.getElem?_eq_getElem (by rw [hle]; exact hij), Option.map_some] at cx
              have hgx : (endX j V pl t)[i]'(by rw [hle]; exact hij) = (endX j V pl t)[i]?.getD 0 := by rw [List.getElem?_eq_getElem (by rw [hle]; exact hij)]; rfl
              rw [hgx] at cx
              have HST := Lib.hid (thereK_step j V pl t i)
              have hhb := HHB.out i
              clear hge hgx
              generalize ((List.range t).any fun s => hitB j V pl s i) = b at *
              generalize hitB j V pl t i = hb at *
              generalize (endX j V pl t)[i]?.getD 0 = xi at *
              have HT6 := Lib.hid hT6; have HO6 := Lib.hid hO6; have HB6 := Lib.hid hB6
              clear hT6 hO6 hB6 u0 u1
              have fin : ∀ r : Bool, r = (b || hb) → Below w2.heap.size w2 (wr.setCell ⟨w2.heap.size, i, none⟩ (.bool r)) ∧ (wr.setCell ⟨w2.heap.size, i, none⟩ (.bool r)).cell? ⟨w.heap.size, 0, none⟩ = some (.int .i64 j) ∧ (wr.setCell ⟨w2.heap.size, i, none⟩ (.bool r)).cell? ⟨w.heap.size, 1, none⟩ = some (.slice a V.length ca) ∧
                  (wr.setCell ⟨w2.heap.size, i, none⟩ (.bool r)).ownsRow w2.heap.size 4 1 (.slice (some ⟨w2.heap.size, 0, none⟩) j j) j ((thereK j V pl t (i + 1)).map Value.bool) ∧ (wr.setCell ⟨w2.heap.size, i, none⟩ (.bool r)).ownsRow 0 2 1 (.slice (some ⟨g5, 0, none⟩) j d5) j ((endX j V pl t).map (Value.int .i64)) := by
                rintro r rfl
                refine ⟨bset HB6.out (Nat.le_refl _) _, ?_, ?_, ?_, HO6.out.kept (grownBy_set wr _ _) (own_ne HO6.out HT6.out (by decide))⟩
                · rw [World.cell?_setCell_other _ _ _ _ (by simp)]; exact e0
                · rw [World.cell?_setCell_other _ _ _ _ (by simp)]; exact e1
                · have := (HT6.out.stored i (.bool (b || hb))).1
                  rw [← List.map_set, HST.out] at this
                  exact this
              have FIN := Lib.hid fin; clear fin
              cases b
              · by_cases hxi : xi = 1
                · subst hxi
                  have hbt : hb = true := by rw [hhb]; rfl
                  have F2 := Lib.hid (FIN.out true (by rw [hbt]; rfl))
                  clear hhb hbt
                  go_wp2
                  exact ⟨⟨i + 1, by omega, by go_num, F2.out⟩, by simp [intOf]; omega⟩
                · have hbf : hb = false := by rw [hhb]; simpa using hxi
                  have hxe : (xi == 1) = false := by simpa using hxi
                  have F2 := Lib.hid (FIN.out false (by rw [hbf]; rfl))
                  clear hhb hbf hxi
                  go_wp2
                  exact ⟨⟨i + 1, by omega, by go_num, F2.out⟩, by simp [intOf]; omega⟩
              · have F2 := Lib.hid (FIN.out true rfl)
                clear hhb
                go_wp2
                exact ⟨⟨i + 1, by omega, by go_num, F2.out⟩, by simp [intOf]; omega⟩
            · have hE : i = j := by omega
              rw [hE, thereK_all] at hT6
              have HT6 := Lib.hid hT6; have HB6 := Lib.hid hB6
              have hij2 : ¬ ((i : Int) < (j : Int)) := by omega
              have HE := Lib.hid hE
              clear hT6 hB6 hO6 u0 u1 hE hle hlx hbl hwp
              go_wp2
              exact ⟨⟨t + 1, by omega, by go_num, HB6.out, e0, e1, HT6.out⟩, by simp [intOf]; omega⟩
    · obtain rfl : t = m := by omega
      have hall : ∀ i, i < n → (thereL n V pl t)[i]?.getD false = rendsB n V pl i := by
        intro i hi; simp [thereL, hi, rendsB, HM.out]
      have HALL := Lib.hid hall; clear hall
      obtain ⟨wo, rfl⟩ : ∃ wo : World, wo = wr := ⟨_, rfl⟩
      go_wp2
      go_loopw [11, 12, 81, 82, 83, 84, 85, 86, 87, 88, 89, 90, 91, 92, 93, 94] (fun o i _ _ _ _ _ _ _ _ _ _ _ _ _ _ wr => ∃ k : Nat, k ≤ n ∧ i = .int .i64 k ∧ Below wo.heap.size wo wr ∧ wr.ownsRow wo.heap.size 3 1 o (rendsK n V pl k).length ((rendsK n V pl k).map (Value.int .i64))) (fun o i _ _ _ _ _ _ _ _ _ _ _ _ _ _ _ => n - (intOf i).toNat)
      case atStart => exact ⟨0, Nat.zero_le _, rfl, bz _, World.ownsRow_nil _ _ _ _⟩
      case round =>
        obtain ⟨k, hk, rfl, hB7, hO7⟩ := hrel
        have hz7 := hB7.size
        have f0 := (hB7.cell (p := ⟨w.heap.size, 0, none⟩) zr).trans e0
        have HST := Lib.hid (rendsK_succ n V pl k)
        have HLE := Lib.hid (rendsK_le n V pl k)
        have HO7 := Lib.hid hO7; have HB7 := Lib.hid hB7
        clear hwp hO7 hB7
        by_cases hkn : k < n
        · have hO8 := owns_kept HO1.out HB7.out
          have cc := hO8.cellAt k (by omega)
          have hlk : k < (thereL n V pl t).length := by rw [thereL_len]; exact hkn
          rw [List.getElem?_map, List.getElem?_eq_getElem hlk, Option.map_some] at cc
          have hge : (thereL n V pl t)[k] = rendsB n V pl k := by
            have := HALL.out k hkn
            rw [List.getElem?_eq_getElem hlk] at this; simpa using this
          rw [hge] at cc
          have zt := (hO8.lt w2.heap.size rfl).2
          clear hge hlk hO8
          generalize rendsB n V pl k = b at *
          cases b
          · go_wp2
            exact ⟨⟨k + 1, by omega, by go_num, HB7.out, by rw [HST.out]; exact HO7.out⟩, by simp [intOf]; omega⟩
          · go_wp2_with (at_builtin; refine wpList_append_num rfl _ _ rfl Try.underlying34 num3 HO7.out _ rfl rfl (by have := HLE.out; omega) (by omega) ?_)
            intro v' w' hown' hgrow
            have hB8 := append_below (bal HB7.out _) (HO7.out.alloc _) hgrow (Nat.le_refl _)
            have HP := Lib.hid hown'; have HB8 := Lib.hid hB8
            clear hown' hgrow hB8
            go_wp2
            refine ⟨⟨k + 1, by omega, by go_num, HB8.out, by rw [HST.out, if_pos trivial, List.length_append, List.map_append]; exact HP.out⟩, by simp [intOf]; omega⟩
        · obtain rfl : k = n := by omega
          have HBB := Lib.hid (btr HB3.out (btr HB.out HB7.out))
          go_wp2
          go_ret2
          exact ⟨_, rfl, RdI.of_owns HO7.out, HBB.out⟩

def rendsE (p : Int) (V : List (Int × Int)) (place : Int) : Int := if checkR p V ≠ 0 then checkR p V else if place < 0 ∨ p ≤ place then 2 else 0
def rendsR (p : Int) (V : List (Int × Int)) (place : Int) : List Int := if checkR p V ≠ 0 then [] else if place < 0 ∨ p ≤ place then [] else rendsK p.toNat V place.toNat p.toNat
set_option maxRecDepth 100000 in
set_option maxHeartbeats 4000000 in
theorem rends_any (p place : Int) (x : Value) (V : List (Int × Int)) (w : World) (hx0 : RdP w x V) (hl : V.length ≤ 1000) :
    Calls Try.prog 40 #[.agg #[.int .i64 p, x], .int .i64 place] w fun e w' => ∃ v, e = .returned (.tuple #[v, .int .i64 (rendsE p V place)]) ∧ RdI w' .i64 v (rendsR p V place) ∧ Below w.heap.size w w' := by
  unfold rendsE rendsR
  have H0 := Lib.hid fun w1 (hB : Below w.heap.size w w1) => rcheck_any p _ V w1 (hx0.mono hB) hl
  by_cases h : checkR p V = 0
  · obtain ⟨n, rfl, hV⟩ := cond_row h
    have hc0 : ¬ (checkR (n : Int) V ≠ 0) := by simpa using h
    simp only [if_neg hc0]
    by_cases hpl : place < 0 ∨ (n : Int) ≤ place
    · simp only [if_pos hpl]
      obtain ⟨a, ca, rfl, hca1, hca2, hca3⟩ := hx0.form
      rw [h] at H0
      clear hc0 h hca1 hca2 hca3
      have step : ∀ w2 : World, Below (w.alloc (.cells #[.int .i64 n, .slice a V.length ca] 24)).heap.size (w.alloc (.cells #[.int .i64 n, .slice a V.length ca] 24)) w2 → w2.cell? ⟨w.heap.size, 0, none⟩ = some (.int .i64 n) ∧ w2.cell? ⟨w.heap.size, 1, none⟩ = some (.slice a V.length ca) :=
        fun w2 hB2 => ⟨(hB2.cell (by simp)).trans (cnew rfl rfl), (hB2.cell (by simp)).trans (cnew rfl rfl)⟩
      have STEP := Lib.hid step; clear step
      by_cases hp0 : place < 0
      · clear hpl
        go_enter Try.func40, Try.ntmps40
        go_wp2_with fail
        refine (H0.out _ (bal (bz _) _)).mono ?_
        rintro e w2 ⟨rfl, hB2⟩
        obtain ⟨c0, c1⟩ := STEP.out w2 hB2
        go_wp2
        go_ret2
        exact ⟨_, rfl, rdI_nil _ _, btr (bal (bz w) _) hB2⟩
      · have hp1 : (n : Int) ≤ place := by omega
        clear hpl
        go_enter Try.func40, Try.ntmps40
        go_wp2_with fail
        refine (H0.out _ (bal (bz _) _)).mono ?_
        rintro e w2 ⟨rfl, hB2⟩
        obtain ⟨c0, c1⟩ := STEP.out w2 hB2
        go_wp2
        go_ret2
        exact ⟨_, rfl, rdI_nil _ _, btr (bal (bz w) _) hB2⟩
    · simp only [if_neg hpl]
      obtain ⟨q, rfl⟩ : ∃ q : Nat, place = q := ⟨place.toNat, by omega⟩
      rw [show ((n : Nat) : Int).toNat = n by omega, show ((q : Nat) : Int).toNat = q by omega]
      exact rends_ok n q x V w hx0 hV (by omega)
  · obtain ⟨a, ca, rfl, hca1, hca2, hca3⟩ := hx0.form
    clear hca1 hca2 hca3
    simp only [ne_eq, h, not_false_eq_true, if_true]
    generalize checkR p V = c at *
    have e0 : (c != 0) = true := by simpa using h
    clear h
    go_enter Try.func40, Try.ntmps40
    go_wp2_with fail
    refine (H0.out _ (bal (bz _) _)).mono ?_
    rintro e w2 ⟨rfl, hB2⟩
    have hB3 := btr (bal (bz w) _) hB2
    have c0 : w2.cell? ⟨w.heap.size, 0, none⟩ = some (.int .i64 p) := (hB2.cell (by simp)).trans (cnew rfl rfl)
    have c1 : w2.cell? ⟨w.heap.size, 1, none⟩ = some (.slice a V.length ca) := (hB2.cell (by simp)).trans (cnew rfl rfl)
    go_wp2_with fail
    refine (H0.out _ hB3).mono ?_
    rintro e w3 ⟨rfl, hB4⟩
    go_wp2
    go_ret2
    exact ⟨_, rfl, rdI_nil _ _, btr hB3 hB4⟩
end Go.Proofs.Ytdnaipiiponhpaa
