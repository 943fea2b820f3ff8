/- Merged texts: Ends, Rounds, Mirror, Bricks, Merge; the document's Run, Sorts, Pattern, CheckPattern. -/
import Derived.Test.YtdnaipiiponhpaaGB
namespace Go.Proofs.Ytdnaipiiponhpaa
open Go.RowKit Go.Shelf

/-- The places to which a value can come, up to a place. -/
def endsK (p : Nat) (V : List (Int × Int)) (place k : Nat) : List Int := ((List.range k).filter (endsB p V place)).map fun i => ((i : Nat) : Int)
theorem endsK_succ (p : Nat) (V : List (Int × Int)) (place k : Nat) : endsK p V place (k + 1) = if endsB p V place k then endsK p V place k ++ [(k : Int)] else endsK p V place k := by
  unfold endsK
  rw [List.range_succ, List.filter_append]
  cases h : endsB p V place k <;> simp [h]
theorem endsK_le (p : Nat) (V : List (Int × Int)) (place k : Nat) : (endsK p V place k).length ≤ k := by
  unfold endsK
  have := List.length_filter_le (endsB p V place) (List.range k)
  simp at this ⊢
  exact this
/-- Ends' answers. -/
def endsE (p : Int) (V : List (Int × Int)) (place : Int) : Int := if checkR p V ≠ 0 then checkR p V else if outB 0 (p - 1) place then 2 else 0
def endsL (p : Int) (V : List (Int × Int)) (place : Int) : List Int := if checkR p V ≠ 0 then [] else if outB 0 (p - 1) place then [] else endsK p.toNat V place.toNat p.toNat

set_option maxRecDepth 100000 in
set_option maxHeartbeats 1000000 in
theorem ends_any (p place : Int) (x : Value) (V : List (Int × Int)) (w : World) (hx0 : RdP w x V) (hl : V.length ≤ 1000) :
    Calls Try.prog 39 #[.agg #[.int .i64 p, x], .int .i64 place] w fun e w' => ∃ v, e = .returned (.tuple #[v, .int .i64 (endsE p V place)]) ∧ RdI w' .i64 v (endsL p V place) ∧ Below w.heap.size w w' := by
  obtain ⟨a, ca, rfl, hca, hca2, _⟩ := hx0.form
  unfold endsE endsL
  by_cases h : checkR p V = 0
  · have hc0 : ¬ (checkR p V ≠ 0) := by simpa using h
    simp only [if_neg hc0]
    clear hc0
    obtain ⟨n, rfl, hV⟩ := cond_row h
    clear h
    have hp1 := hV.p1; have hp8 := hV.p8; have h40 := hV.len
    have H0 := Lib.hid (open_ok n _ V _ (hx0.mono (bal (bz w) (.cells #[.int .i64 n, .slice a V.length ca] 24))) hV)
    have hw : IntKind.i64.wrap ((n : Int) - 1) = (n : Int) - 1 := IntWalk.i64_in _ (by omega)
    have HW : ∀ w2 : World, Calls Try.prog 62 #[.int .i64 0, .int .i64 ((n : Int) - 1), .slice (some ⟨w2.heap.size, 0, none⟩) 1 1] (w2.alloc (.cells #[.int .i64 place] 3)) fun e w' => e = .returned (.bool (!outB 0 ((n : Int) - 1) place)) ∧ Below (w2.alloc (.cells #[.int .i64 place] 3)).heap.size (w2.alloc (.cells #[.int .i64 place] 3)) w' := by
      intro w2
      have := within_any (.slice (some ⟨w2.heap.size, 0, none⟩) 1 1) [place] 0 ((n : Int) - 1) (w2.alloc (.cells #[.int .i64 place] 3)) (one_slice (cnew rfl rfl) (by simp)) (by simp)
      simpa using this
    have HWW := Lib.hid HW; clear HW
    cases ho : outB 0 ((n : Int) - 1) place
    · rw [if_neg (by simp), if_neg (by simp)]
      rw [ho] at HWW
      have hpl : 0 ≤ place ∧ place ≤ (n : Int) - 1 := by
        simp only [outB, decide_eq_false_iff_not] at ho; omega
      obtain ⟨q, rfl⟩ : ∃ q : Nat, place = q := ⟨place.toNat, by omega⟩
      have hqn : q < n := by omega
      rw [show ((n : Nat) : Int).toNat = n by omega, show ((q : Nat) : Int).toNat = q by omega]
      clear ho hpl
      obtain ⟨i0, hi, hz0, hz1, hz2⟩ := info_parts Try.info3'
      go_enter Try.func39, Try.ntmps39
      go_wp2_with fail
      refine H0.out.mono ?_
      rintro e w2 ⟨bb, rfl, hb0, hb, hB2⟩
      have hB3 : Below w.heap.size w w2 := btr (bal (bz _) _) hB2
      obtain ⟨q0, q1, q2⟩ := id hb
      go_wp2_with fail
      refine (HWW.out w2).mono ?_
      rintro e w3 ⟨rfl, hB4⟩
      have hB5 : Below w2.heap.size w2 w3 := btr (bal (bz _) _) hB4
      have hb3 := hb.mono hB5
      have hB6 := btr hB3 hB5
      have hx3 := hx0.mono hB6
      clear q0 q1 q2
      obtain ⟨q0, q1, q2⟩ := id hb3
      have hz6 := hB6.size
      go_wp2
      go_loopw [8, 9, 35, 36, 37, 38, 39, 40, 41, 42, 43, 44, 45, 46] (fun o _ i _ _ _ _ _ _ _ _ _ _ _ wr => ∃ k : Nat, k ≤ n ∧ i = .int .i64 k ∧ Below w3.heap.size w3 wr ∧ wr.ownsRow w3.heap.size 3 1 o (endsK n V q k).length ((endsK n V q k).map (Value.int .i64)))
        (fun _ _ i _ _ _ _ _ _ _ _ _ _ _ _ => ((n : Int) - intOf i).toNat)
      case atStart => exact ⟨0, Nat.zero_le _, rfl, bz _, World.ownsRow_nil _ _ _ _⟩
      case round =>
        obtain ⟨k, hk, rfl, hbr, hor⟩ := hrel
        have hkl := endsK_le n V q k
        have hO := Lib.hid hor; clear hor
        by_cases hkp : k < n
        · have hwz := hbr.size
          go_wp2_with fail
          refine (bends_any bb n _ V q k wr (hb3.mono hbr) (hx3.mono hbr) hV hqn hkp).mono ?_
          rintro e w4 ⟨rfl, hB4⟩
          have ho4 := owns_kept hO.out hB4
          have hB7 : Below w3.heap.size w3 w4 := btr hbr hB4
          have hz5 := hB7.size
          have hst := endsK_succ n V q k
          generalize hv : endsB n V q k = y at *
          have HO4 := Lib.hid ho4; clear ho4 hO
          cases y
          · rw [if_neg (by simp)] at hst
            have HST := Lib.hid hst; clear hst hv
            go_wp2
            exact ⟨⟨k + 1, by omega, by simp, hB7, by rw [HST.out]; exact HO4.out⟩, by simp [intOf]; omega⟩
          · rw [if_pos rfl] at hst
            have HST := Lib.hid hst; clear hst hv
            go_wp2_with (at_builtin; refine wpList_append_own _ rfl _ _ 34 rfl w3.heap.size 3 i0 (.int .i64 0) 1 8 Try.underlying34 hi hz0 hz1 hz2 rfl (by decide) _ _ _ rfl (HO4.out.alloc _) ⟨w4.heap.size, 0, none⟩ 1 1 [.int .i64 k] rfl rfl (cell_one_new _ _ _) (one_int _ _) (by simp only [maxLen]; omega) (by omega) (by simp; omega) ?_)
            intro v' w' hown' hgrow hnil
            have hB8 : Below w3.heap.size w3 w' := append_below (bal hB7 _) (HO4.out.alloc _) hgrow (Nat.le_refl _)
            have HOW := Lib.hid hown'; clear hown' hgrow hnil
            go_wp2
            refine ⟨⟨k + 1, by omega, by simp, hB8, ?_⟩, by simp [intOf]; omega⟩
            rw [HST.out, List.length_append, List.map_append]
            exact HOW.out
        · obtain rfl : k = n := by omega
          go_wp2
          go_ret2
          exact ⟨_, rfl, RdI.of_owns hO.out, btr hB6 hbr⟩
    · rw [if_pos rfl, if_pos rfl]
      rw [ho] at HWW
      clear ho
      go_enter Try.func39, Try.ntmps39
      go_wp2_with fail
      refine H0.out.mono ?_
      rintro e w2 ⟨bb, rfl, hb0, hb, hB2⟩
      have hB3 : Below w.heap.size w w2 := btr (bal (bz _) _) hB2
      obtain ⟨q0, q1, q2⟩ := id hb
      go_wp2_with fail
      refine (HWW.out w2).mono ?_
      rintro e w3 ⟨rfl, hB4⟩
      have hB5 : Below w2.heap.size w2 w3 := btr (bal (bz _) _) hB4
      go_wp2
      go_ret2
      exact ⟨_, rfl, rdI_nil _ _, btr hB3 hB5⟩
  · simp only [if_pos (show checkR p V ≠ 0 from h)]
    have H0 := Lib.hid (open_no p _ V _ (hx0.mono (bal (bz w) (.cells #[.int .i64 p, .slice a V.length ca] 24))) hl h)
    generalize checkR p V = c at *
    have e0 : (c != 0) = true := by simpa using h
    clear h
    go_enter Try.func39, Try.ntmps39
    go_wp2_with fail
    refine H0.out.mono ?_
    rintro e w2 ⟨rfl, hB2⟩
    go_wp2
    go_ret2
    exact ⟨_, rfl, rdI_nil _ _, btr (bal (bz _) _) hB2⟩
end Go.Proofs.Ytdnaipiiponhpaa

namespace Go.Proofs.Ytdnaipiiponhpaa
open Go.RowKit Go.Shelf

/-- One valve more: the last round of each place, and the rounds of all valves. -/
def stepR (s : List Int × List Int) (v : Int × Int) : List Int × List Int :=
  let n := 1 + (if s.1[v.1.toNat]?.getD 0 < s.1[v.2.toNat]?.getD 0 then s.1[v.2.toNat]?.getD 0 else s.1[v.1.toNat]?.getD 0)
  ((s.1.set v.1.toNat n).set v.2.toNat n, s.2 ++ [n])
def roundsS (V : List (Int × Int)) : List Int × List Int := V.foldl stepR (List.replicate 8 0, [])
theorem roundsS_snoc (V : List (Int × Int)) (k : Nat) (hk : k < V.length) : roundsS (V.take (k + 1)) = stepR (roundsS (V.take k)) (V[k]?.getD (0, 0)) := by
  unfold roundsS
  rw [List.take_succ_eq_append_getElem hk, List.foldl_append]
  simp [hk]
theorem roundsS_ok (V : List (Int × Int)) : ∀ k, k ≤ V.length → (roundsS (V.take k)).1.length = 8 ∧ (roundsS (V.take k)).2.length = k ∧ ∀ i : Nat, 0 ≤ (roundsS (V.take k)).1[i]?.getD 0 ∧ (roundsS (V.take k)).1[i]?.getD 0 ≤ k := by
  intro k
  induction k with
  | zero =>
    intro _
    refine ⟨rfl, rfl, fun i => ?_⟩
    show 0 ≤ (List.replicate 8 (0 : Int))[i]?.getD 0 ∧ (List.replicate 8 (0 : Int))[i]?.getD 0 ≤ ((0 : Nat) : Int)
    rw [List.getElem?_replicate]
    split <;> simp
  | succ k ih =>
    intro hk
    obtain ⟨h1, h2, h3⟩ := ih (by omega)
    rw [roundsS_snoc V k (by omega)]
    generalize V[k]?.getD (0, 0) = v
    generalize roundsS (V.take k) = s at *
    have ha := h3 v.1.toNat
    have hb := h3 v.2.toNat
    refine ⟨by simp [stepR, h1], by simp [stepR, h2], fun i => ?_⟩
    have key : ∀ (n : Int) (l : List Int) (j : Nat), 0 ≤ n ∧ n ≤ ((k + 1 : Nat) : Int) → (∀ i : Nat, 0 ≤ l[i]?.getD 0 ∧ l[i]?.getD 0 ≤ ((k + 1 : Nat) : Int)) → ∀ i : Nat, 0 ≤ (l.set j n)[i]?.getD 0 ∧ (l.set j n)[i]?.getD 0 ≤ ((k + 1 : Nat) : Int) := by
      intro n l j hn hl i
      rw [List.getElem?_set]
      split
      · split
        · exact hn
        · simp; omega
      · exact hl i
    unfold stepR
    simp only
    have hn : ∀ c : Prop, [Decidable c] → (0 ≤ 1 + (if c then s.1[v.2.toNat]?.getD 0 else s.1[v.1.toNat]?.getD 0) ∧ 1 + (if c then s.1[v.2.toNat]?.getD 0 else s.1[v.1.toNat]?.getD 0) ≤ ((k + 1 : Nat) : Int)) := by
      intro c _
      split <;> omega
    exact key _ _ _ (hn _) (key _ _ _ (hn _) fun i => by have := h3 i; omega) i
/-- Rounds' answers. -/
def roundsL (p : Int) (V : List (Int × Int)) : List Int := if checkR p V = 0 then (roundsS V).2 else []

set_option maxRecDepth 100000 in
set_option maxHeartbeats 400000 in
theorem best_any (x y : Int) (w : World) :
    Calls Try.prog 71 #[.int .i64 x, .int .i64 y, .func (.func 72) #[] #[]] w fun e w' => e = .returned (.int .i64 (if x < y then y else x)) ∧ Below w.heap.size w w' := by
  have H : ∀ w : World, Calls Try.prog 72 #[.int .i64 y, .int .i64 x] w fun e w' => e = .returned (.bool (decide (x < y))) ∧ w' = w := by
    intro w
    by_cases h : x < y
    · go_enter Try.func72, Try.ntmps72
      go_wp2
      go_ret
      exact ⟨ret_bool (by simp [h]), rfl⟩
    · go_enter Try.func72, Try.ntmps72
      go_wp2
      go_ret
      exact ⟨ret_bool (by simp [h]), rfl⟩
  by_cases h : x < y
  · rw [if_pos h]
    go_enter Try.func71, Try.ntmps71
    go_wp2_with (go_at_call 72; refine (H _).mono ?_; rintro e w2 ⟨rfl, rfl⟩)
    go_ret
    exact ⟨rfl, bz _⟩
  · rw [if_neg h]
    go_enter Try.func71, Try.ntmps71
    go_wp2_with (go_at_call 72; refine (H _).mono ?_; rintro e w2 ⟨rfl, rfl⟩)
    go_ret
    exact ⟨rfl, bz _⟩

set_option maxRecDepth 100000 in
set_option maxHeartbeats 1000000 in
theorem rounds_any (p : Int) (x : Value) (V : List (Int × Int)) (w : World) (hx0 : RdP w x V) (hl : V.length ≤ 1000) :
    Calls Try.prog 36 #[.agg #[.int .i64 p, x]] w fun e w' => ∃ v, e = .returned (.tuple #[v, .int .i64 (checkR p V)]) ∧ RdI w' .i64 v (roundsL p V) ∧ Below w.heap.size w w' := by
  obtain ⟨a, ca, rfl, hca, hca2, hxf⟩ := hx0.form
  unfold roundsL
  by_cases h : checkR p V = 0
  · simp only [if_pos h]
    obtain ⟨n, rfl, hV⟩ := cond_row h
    rw [h]
    clear h
    have hp1 := hV.p1; have hp8 := hV.p8; have h40 := hV.len
    have H0 := Lib.hid (open_ok n _ V _ (hx0.mono (bal (bz w) (.cells #[.int .i64 n, .slice a V.length ca] 24))) hV)
    obtain ⟨i0, hi, hz0, hz1, hz2⟩ := info_parts Try.info3'
    go_enter Try.func36, Try.ntmps36
    go_wp2_with fail
    refine H0.out.mono ?_
    rintro e w2 ⟨bb, rfl, hb0, hb, hB2⟩
    have hB3 : Below w.heap.size w w2 := btr (bal (bz _) _) hB2
    have hz3 := hB3.size
    obtain ⟨q0, q1, q2⟩ := id hb
    go_wp2
    go_loopw [7, 9, 10, 25, 26, 27, 28, 29, 30, 31, 32, 33, 34, 35, 36, 37, 38, 39, 40, 41, 42, 43, 44, 45, 46, 47, 48, 49, 50, 51] (fun o _ _ i _ _ _ _ _ _ _ _ _ _ _ _ _ _ _ _ _ _ _ _ _ _ _ _ _ _ wr => ∃ k : Nat, k ≤ V.length ∧ i = .int .i64 k ∧ Below w2.heap.size w2 wr ∧
        wr.heap[w2.heap.size]? = some (.cells (arrI (roundsS (V.take k)).1) 92 (0, 0)) ∧ wr.ownsRow (w2.heap.size + 1) 3 1 o k ((roundsS (V.take k)).2.map (Value.int .i64)))
      (fun _ _ _ i _ _ _ _ _ _ _ _ _ _ _ _ _ _ _ _ _ _ _ _ _ _ _ _ _ _ _ => ((V.length : Int) - intOf i).toNat)
    case atStart => exact ⟨0, Nat.zero_le _, rfl, bal (bz _) _, heap_alloc_new _ _, World.ownsRow_nil _ _ _ _⟩
    case round =>
      obtain ⟨k, hk, rfl, hbr, hrow, hor⟩ := hrel
      obtain ⟨s1, s2, s3⟩ := roundsS_ok V k hk
      by_cases hkp : k < V.length
      · obtain ⟨bx, ox, rfl, hbx, hcx⟩ := hxf (by omega)
        have hwz := hbr.size
        have hB9 := hB3.trans (hbr.mono hz3)
        have gx := (hB9.cell (p := ⟨bx, ox + k * 2, none⟩) hbx).trans (hcx k (by omega)).1
        have gy := (hB9.cell (p := ⟨bx, ox + k * 2 + 1, none⟩) hbx).trans (hcx k (by omega)).2
        have hbx' : bx < wr.heap.size := by omega
        have hgl := (Array.getElem?_eq_some_iff.1 hrow).1
        clear hxf hcx
        have hst := roundsS_snoc V k hkp
        have hm : V[k]?.getD (0, 0) ∈ V := by rw [List.getElem?_eq_getElem (by omega)]; exact List.getElem_mem _
        generalize V[k]?.getD (0, 0) = pr at *
        obtain ⟨q1', q2'⟩ := pr
        obtain ⟨o1, o2, o3⟩ := hV.ok _ hm
        simp only at o1 o2 o3 gx gy
        obtain ⟨i, rfl⟩ : ∃ i : Nat, q1' = i := ⟨q1'.toNat, by omega⟩
        obtain ⟨j, rfl⟩ : ∃ j : Nat, q2' = j := ⟨q2'.toNat, by omega⟩
        generalize roundsS (V.take k) = st at *
        obtain ⟨la, ou⟩ := st
        simp only at s1 s2 s3 hrow hor
        have ci := (cell_of_row wr w2.heap.size i _ _ _ hrow).trans (arrI_get la i (by omega))
        have cj := (cell_of_row wr w2.heap.size j _ _ _ hrow).trans (arrI_get la j (by omega))
        have fi := frozen_of_row wr w2.heap.size i _ _ hrow
        have fj := frozen_of_row wr w2.heap.size j _ _ hrow
        have bi := s3 i
        have bj := s3 j
        have hst2 : roundsS (V.take (k + 1)) = stepR (la, ou) ((i : Int), (j : Int)) := hst
        unfold stepR at hst2
        simp only [Int.toNat_natCast] at hst2
        have hi8 : (i : Int) < 8 := by omega
        have hj8 : (j : Int) < 8 := by omega
        have hO := Lib.hid hor; have hROW := Lib.hid hrow; have HS := Lib.hid hst2; have HS1 := Lib.hid s1
        clear hor hrow hst hst2 s3 hm
        have hmx : 0 ≤ (if la[i]?.getD 0 < la[j]?.getD 0 then la[j]?.getD 0 else la[i]?.getD 0) ∧ (if la[i]?.getD 0 < la[j]?.getD 0 then la[j]?.getD 0 else la[i]?.getD 0) ≤ k := by split <;> omega
        have hB := Lib.hid (fun w' => best_any (la[i]?.getD 0) (la[j]?.getD 0) w')
        generalize (if la[i]?.getD 0 < la[j]?.getD 0 then la[j]?.getD 0 else la[i]?.getD 0) = m at *
        have hwm : IntKind.i64.wrap (1 + m) = 1 + m := IntWalk.i64_in _ (by omega)
        generalize la[i]?.getD 0 = x1 at *
        generalize la[j]?.getD 0 = x2 at *
        go_wp2
        have zw : w2.heap.size < wr.heap.size := hgl
        have hb5 : Below wr.heap.size wr (wr.alloc (.cells #[.int .i64 (i : Int), .int .i64 (j : Int)] 59)) := bal (bz _) _
        have t0 : (wr.alloc (.cells #[.int .i64 (i : Int), .int .i64 (j : Int)] 59)).cell? ⟨wr.heap.size, 0, none⟩ = some (.int .i64 (i : Int)) := cnew rfl rfl
        have t1 : (wr.alloc (.cells #[.int .i64 (i : Int), .int .i64 (j : Int)] 59)).cell? ⟨wr.heap.size, 1, none⟩ = some (.int .i64 (j : Int)) := cnew rfl rfl
        have hz5 : wr.heap.size < (wr.alloc (.cells #[.int .i64 (i : Int), .int .i64 (j : Int)] 59)).heap.size := by simp
        generalize wr.alloc (.cells #[.int .i64 (i : Int), .int .i64 (j : Int)] 59) = w5 at *
        have ci5 := (hb5.cell (p := ⟨w2.heap.size, i, none⟩) zw).trans ci
        have cj5 := (hb5.cell (p := ⟨w2.heap.size, j, none⟩) zw).trans cj
        have zw5 : w2.heap.size < w5.heap.size := by omega
        have hC : ∀ l' : Later w5, Calls Try.prog 71 #[.int .i64 x1, .int .i64 x2, .func (.func 72) #[] #[]] l'.val fun e w'' => e = .returned (.int .i64 m) ∧ ∃ x : Later w5, w'' = x.val := fun l' => Calls.later (hB.out l'.val)
        have HC := Lib.hid hC; clear hC hB
        have hL := @Later.cell w5
        refine wp_region_later (by kernel_rfl) (by kernel_rfl) ?_
        repeat (quiet_step ((go_at_call 71; exact HC.out _)))
        refine wpQuiet_nil ?_
        intro w6 hw6
        have hL6 : Below w5.heap.size w5 w6 := by obtain ⟨⟨_, h⟩, rfl⟩ := hw6; exact h
        clear hw6 hL
        have hB6 : Below wr.heap.size wr w6 := btr hb5 hL6
        have hr6 := (hB6.block _ zw).trans hROW.out
        have HO6 := Lib.hid (owns_kept hO.out hB6)
        have u0 := (hL6.cell (p := ⟨wr.heap.size, 0, none⟩) hz5).trans t0
        have u1 := (hL6.cell (p := ⟨wr.heap.size, 1, none⟩) hz5).trans t1
        have ci6 := (hB6.cell (p := ⟨w2.heap.size, i, none⟩) zw).trans ci
        have cj6 := (hB6.cell (p := ⟨w2.heap.size, j, none⟩) zw).trans cj
        have fi6 := frozen_of_row w6 w2.heap.size i _ _ hr6
        have fj6 := frozen_of_row w6 w2.heap.size j _ _ hr6
        have HR6 := Lib.hid hr6
        have hB7 : Below w2.heap.size w2 w6 := btr hbr hB6
        have hz6 := hB6.size
        clear hr6 t0 t1 ci cj fi fj ci5 cj5 gx gy
        go_wp2
        go_region
        have hn1 := heap_setCell_same w6 w2.heap.size i _ _ (.int .i64 (1 + m)) HR6.out
        have hn2 := heap_setCell_same _ w2.heap.size j _ _ (.int .i64 (1 + m)) hn1
        rw [arrI_set, arrI_set] at hn2
        have apart : ∀ {W W' : World} {o : Value} {xs : List Value}, W.ownsRow (w2.heap.size + 1) 3 1 o k xs → W.grownBy W' (some w2.heap.size) → W'.ownsRow (w2.heap.size + 1) 3 1 o k xs := by
          intro W W' o xs h hg
          refine h.kept hg ?_
          cases hvv : o.ownBlock with
          | none => exact .inl rfl
          | some q => exact .inr (by intro e; cases e; have := (h.lt _ hvv).1; omega)
        have ho7 := (apart (apart HO6.out (grownBy_set w6 ⟨w2.heap.size, i, none⟩ (.int .i64 (1 + m)))) (grownBy_set _ ⟨w2.heap.size, j, none⟩ (.int .i64 (1 + m)))).drew
        have hB8 : Below w2.heap.size w2 ((w6.setCell ⟨w2.heap.size, i, none⟩ (.int .i64 (1 + m))).setCell ⟨w2.heap.size, j, none⟩ (.int .i64 (1 + m))).drew := Below.drewN' 1 (bset (bset hB7 (Nat.le_refl _) _) (Nat.le_refl _) _)
        have hn3 : (((w6.setCell ⟨w2.heap.size, i, none⟩ (.int .i64 (1 + m))).setCell ⟨w2.heap.size, j, none⟩ (.int .i64 (1 + m))).drew).heap[w2.heap.size]? = _ := hn2
        have hz7 : w2.heap.size < (((w6.setCell ⟨w2.heap.size, i, none⟩ (.int .i64 (1 + m))).setCell ⟨w2.heap.size, j, none⟩ (.int .i64 (1 + m))).drew).heap.size := by simp; omega
        clear hn1 hn2 u0 u1 ci6 cj6 fi6 fj6 apart
        generalize ((w6.setCell ⟨w2.heap.size, i, none⟩ (.int .i64 (1 + m))).setCell ⟨w2.heap.size, j, none⟩ (.int .i64 (1 + m))).drew = w7 at *
        have HO7 := Lib.hid ho7; have HN3 := Lib.hid hn3
        clear ho7 hn3
        go_wp2_with (at_builtin; refine wpList_append_own _ rfl _ _ 34 rfl (w2.heap.size + 1) 3 i0 (.int .i64 0) 1 8 Try.underlying34 hi hz0 hz1 hz2 rfl (by decide) _ _ _ rfl (HO7.out.alloc _) ⟨w7.heap.size, 0, none⟩ 1 1 [.int .i64 (1 + m)] rfl rfl (cell_one_new _ _ _) (one_int _ _) (by simp only [maxLen]; omega) (by omega) (by simp; omega) ?_)
        intro v' w' hown' hgrow hnil
        have hra := (append_keep (HO7.out.alloc _) hgrow (Nat.lt_succ_self _) (by simp; omega)).trans ((Below.heap_alloc _ _ _ hz7).trans HN3.out)
        have hB9 : Below w2.heap.size w2 w' := append_below (bal hB8 _) (HO7.out.alloc _) hgrow (by omega)
        have HOW := Lib.hid hown'; have HRA := Lib.hid hra; clear hown' hgrow hnil hra
        go_wp2
        refine ⟨⟨k + 1, by omega, by simp, hB9, ?_, ?_⟩, by simp [intOf]; omega⟩
        · rw [HS.out]; exact HRA.out
        · rw [HS.out, List.map_append]; exact HOW.out
      · obtain rfl : k = V.length := by omega
        rw [List.take_length] at hor
        rw [List.take_length] at s2
        have hrd := RdI.of_owns (n := V.length) hor
        have hO := Lib.hid hrd; clear hor hrow s1 s3 hrd
        go_wp2
        go_ret2
        exact ⟨_, rfl, hO.out, btr hB3 hbr⟩
  · simp only [if_neg h]
    have H0 := Lib.hid (open_no p _ V _ (hx0.mono (bal (bz w) (.cells #[.int .i64 p, .slice a V.length ca] 24))) hl h)
    generalize checkR p V = c at *
    have e0 : (c != 0) = true := by simpa using h
    clear h
    go_enter Try.func36, Try.ntmps36
    go_wp2_with fail
    refine H0.out.mono ?_
    rintro e w2 ⟨rfl, hB2⟩
    go_wp2
    go_ret2
    exact ⟨_, rfl, rdI_nil _ _, btr (bal (bz _) _) hB2⟩
end Go.Proofs.Ytdnaipiiponhpaa

namespace Go.Proofs.Ytdnaipiiponhpaa
open Go.RowKit Go.Shelf

/-- A valve from the other end. -/
def mirrorOne (p : Int) (v : Int × Int) : Int × Int := (p - 1 - v.2, p - 1 - v.1)
/-- The first k valves are turned, the others are not laid yet. -/
def mirrorK (p : Int) (V : List (Int × Int)) (k : Nat) : List (Int × Int) := (List.range V.length).map fun i => if i < k then mirrorOne p (V[i]?.getD (0, 0)) else (0, 0)
def mirrorL (p : Int) (V : List (Int × Int)) : List (Int × Int) := if checkR p V = 0 then V.map (mirrorOne p) else []
theorem mirrorK_all (p : Int) (V : List (Int × Int)) : mirrorK p V V.length = V.map (mirrorOne p) := by
  apply List.ext_getElem
  · simp [mirrorK]
  · intro i h1 h2
    have h3 : i < V.length := by simpa [mirrorK] using h1
    simp [mirrorK, h3]
theorem mirrorK_zero (p : Int) (V : List (Int × Int)) : mirrorK p V 0 = List.replicate V.length (0, 0) := by
  apply List.ext_getElem
  · simp [mirrorK]
  · intro i h1 h2; simp [mirrorK]
theorem mirrorK_succ (p : Int) (V : List (Int × Int)) (k : Nat) : mirrorK p V (k + 1) = (mirrorK p V k).set k (mirrorOne p (V[k]?.getD (0, 0))) := by
  apply List.ext_getElem
  · simp [mirrorK]
  · intro i h1 h2
    rw [List.getElem_set]
    by_cases e : k = i
    · subst e; simp [mirrorK]
    · simp only [mirrorK, List.getElem_map, List.getElem_range, if_neg e]
      by_cases h : i < k
      · rw [if_pos h, if_pos (by omega)]
      · rw [if_neg h, if_neg (by omega)]
theorem prs_set : ∀ (V : List (Int × Int)) (k : Nat) (v : Int × Int), k < V.length → prs (V.set k v) = ((prs V).set (k * 2) (.int .i64 v.1)).set (k * 2 + 1) (.int .i64 v.2) := by
  intro V
  induction V with
  | nil => intro k v hk; simp at hk
  | cons p V ih =>
    intro k v hk
    cases k with
    | zero => simp [prs]
    | succ k =>
      have := ih k v (by simpa using hk)
      have e1 : (k + 1) * 2 = k * 2 + 1 + 1 := by omega
      rw [e1]
      simp only [List.set_cons_succ, prs, List.flatMap_cons, List.cons_append, List.nil_append] at this ⊢
      rw [this]
theorem prs_zero (n : Nat) : prs (List.replicate n (0, 0)) = List.replicate (n * 2) (.int .i64 0) := by
  induction n with
  | zero => rfl
  | succ n ih => rw [List.replicate_succ, show (n + 1) * 2 = n * 2 + 1 + 1 by omega, List.replicate_succ, List.replicate_succ, ← ih]; rfl

theorem RdP.row {w : World} {g n : Nat} {t : TypeId} {V : List (Int × Int)} (hn : V.length = n) (h : w.heap[g]? = some (.cells (prs V).toArray t (0, 0))) (hm : n ≤ 1000000) : RdP w (.slice (some ⟨g, 0, none⟩) n n) V := by
  subst hn
  refine ⟨_, _, rfl, Nat.le_refl _, by unfold maxLen; omega, fun _ => ⟨g, 0, rfl, (Array.getElem?_eq_some_iff.1 h).1, fun j u hu => ?_⟩⟩
  rw [Nat.zero_add, cell_of_row w g j _ _ _ h, List.getElem?_toArray]
  exact hu

set_option maxRecDepth 100000 in
set_option maxHeartbeats 1000000 in
theorem mirror_any (p : Int) (x : Value) (V : List (Int × Int)) (w : World) (hx0 : RdP w x V) (hl : V.length ≤ 1000) :
    Calls Try.prog 41 #[.agg #[.int .i64 p, x]] w fun e w' => ∃ v, e = .returned (.tuple #[.agg #[.int .i64 (cutP p V), v], .int .i64 (checkR p V)]) ∧ RdP w' v (mirrorL p V) ∧ Below w.heap.size w w' := by
  obtain ⟨a, ca, rfl, hca, hca2, hxf⟩ := hx0.form
  have H0 := Lib.hid fun w1 (hB : Below w.heap.size w w1) => hx0.mono hB
  unfold cutP mirrorL
  by_cases h : checkR p V = 0
  · obtain ⟨n, rfl, hV⟩ := cond_row h
    simp only [if_pos h]
    rw [h]
    have hp1 := hV.p1; have hp8 := hV.p8; have h40 := hV.len
    have HO := Lib.hid (open_ok n _ V _ (hx0.mono (bal (bal (bz w) (.cells #[.int .i64 n, .slice a V.length ca] 24)) (.cells #[.int .i64 0, .slice none 0 0] 24))) hV)
    clear h
    obtain ⟨i0, hi, hz0, hz1, hz2⟩ := info_parts Try.info59
    have hmk : ∀ w : World, (Instr.makeSlice 22 (.int .i64 (V.length : Int)) (.int .i64 (V.length : Int))).run Try.prog w = .ok (.slice (some ⟨w.heap.size, 0, none⟩) V.length V.length) (w.alloc (.cells (madeCells #[.int .i64 0, .int .i64 0] (V.length * 2)) 59)) := by
      intro w
      have := run_makeSlice (P := Try.prog) (w := w) 22 59 i0 (.agg #[.int .i64 0, .int .i64 0]) Try.underlying22 hi hz0 .i64 .i64 (V.length : Int) (V.length : Int) (by omega) (by omega) (by rw [hz1]; omega) (by rw [hz2]; omega) (by omega)
      rw [hz1, Int.toNat_natCast] at this
      exact this
    go_enter Try.func41, Try.ntmps41
    go_wp2_with fail
    refine HO.out.mono ?_
    rintro e w2 ⟨bb, rfl, hb0, hb, hB2⟩
    have hB3 : Below w.heap.size w w2 := btr (bal (bal (bz _) _) _) hB2
    have hzz := hB2.size
    simp only [World.size_alloc] at hzz hb0
    obtain ⟨q0, q1, q2⟩ := id hb
    have hr0 : w2.heap[w.heap.size + 1]? = some (.cells #[.int .i64 0, .slice none 0 0] 24 (0, 0)) := by
      refine (hB2.block _ (by simp)).trans ?_
      have := heap_alloc_new (w.alloc (.cells #[.int .i64 n, .slice a V.length ca] 24)) (.cells #[.int .i64 0, .slice none 0 0] 24)
      rw [World.size_alloc] at this
      exact this
    have HR0 := Lib.hid hr0
    have hx3 := hx0.mono hB3
    clear hr0
    have hz : (madeCells #[Value.int .i64 0, Value.int .i64 0] (V.length * 2)) = (prs (mirrorK n V 0)).toArray := by
      rw [mirrorK_zero, prs_zero]
      apply Array.ext'
      apply List.ext_getElem
      · simp [madeCells]
      · intro i h1 h2
        simp only [madeCells]
        rcases Nat.mod_two_eq_zero_or_one i with e | e <;> simp [e]
    go_upto_region 4 with fail
    go_cut [6] (fun s6 wx => ∃ g s, s6 = .pointer (some ⟨g, 0, none⟩) ∧ w2.heap.size ≤ g ∧ w2.heap.size ≤ s ∧ g ≠ s ∧ wx.heap[g]? = some (.cells #[.int .i64 n, .slice (some ⟨s, 0, none⟩) V.length V.length] 24 (0, 0)) ∧
        wx.heap[s]? = some (.cells (prs (mirrorK n V 0)).toArray 59 (0, 0)) ∧ Below w2.heap.size w2 wx)
    case first =>
      rw [hz] at hmk
      have HZ := Lib.hid hz; clear hz
      go_region
      all_goals (go_wp2_with fail; go_meet)
      case rel =>
        refine ⟨w2.heap.size + 1, w2.heap.size, rfl, by omega, by omega, by omega, ?_, ?_, Below.drewN' 1 (bal (bal (bz _) _) _)⟩
        · have := heap_alloc_new (w2.alloc (.cells (prs (mirrorK (n : Int) V 0)).toArray 59)) (.cells #[.int .i64 n, .slice (some ⟨w2.heap.size, 0, none⟩) V.length V.length] 24)
          rw [World.size_alloc] at this
          exact this
        · exact (Below.heap_alloc _ _ _ (by simp)).trans (heap_alloc_new _ _)
      case rel =>
        refine ⟨w2.heap.size, w2.heap.size + 1, rfl, by omega, by omega, by omega, ?_, ?_, Below.drewN' 1 (bal (bal (bz _) _) _)⟩
        · exact (Below.heap_alloc _ _ _ (by simp)).trans (heap_alloc_new _ _)
        · have := heap_alloc_new (w2.alloc (.cells #[.int .i64 n, .slice (some ⟨w2.heap.size + 1, 0, none⟩) V.length V.length] 24)) (.cells (prs (mirrorK (n : Int) V 0)).toArray 59)
          rw [World.size_alloc] at this
          exact this
    case rest =>
      obtain ⟨g, s, rfl, hg1, hs1, hgs, hgr, hsr, hBc⟩ := hcut
      have hw1 : IntKind.i64.wrap ((n : Int) - 1) = (n : Int) - 1 := IntWalk.i64_in _ (by omega)
      have hbc := hb.mono hBc
      have hB4 := btr hB3 hBc
      clear q0 q1 q2
      obtain ⟨q0, q1, q2⟩ := id hbc
      have hgc := (Array.getElem?_eq_some_iff.1 hgr).1
      have hsc := (Array.getElem?_eq_some_iff.1 hsr).1
      have HGR := Lib.hid hgr; have HSR := Lib.hid hsr
      clear hmk hz hgr hsr
      go_wp2
      go_loopw [7, 8, 37, 38, 39, 40, 41, 42, 43, 44, 45, 46, 47, 48, 49, 50, 51, 52, 53, 54, 55, 56, 57, 58, 59, 60, 61, 62, 63, 64, 65] (fun _ _ i _ _ _ _ _ _ _ _ _ _ _ _ _ _ _ _ _ _ _ _ _ _ _ _ _ _ _ _ wr => ∃ k : Nat, k ≤ V.length ∧ i = .int .i64 k ∧ Below w2.heap.size w2 wr ∧ wc.heap.size ≤ wr.heap.size ∧
          wr.heap[g]? = some (.cells #[.int .i64 n, .slice (some ⟨s, 0, none⟩) V.length V.length] 24 (0, 0)) ∧ wr.heap[s]? = some (.cells (prs (mirrorK n V k)).toArray 59 (0, 0)))
        (fun _ _ i _ _ _ _ _ _ _ _ _ _ _ _ _ _ _ _ _ _ _ _ _ _ _ _ _ _ _ _ _ => ((V.length : Int) - intOf i).toNat)
      case atStart => exact ⟨0, Nat.zero_le _, rfl, hBc, Nat.le_refl _, HGR.out, HSR.out⟩
      case round =>
        obtain ⟨k, hk, rfl, hbr, hwz, hgr, hsr⟩ := hrel
        have hG := Lib.hid hgr; have hS := Lib.hid hsr; clear hgr hsr
        by_cases hkp : k < V.length
        · obtain ⟨bx, ox, rfl, hbx, hcx⟩ := hxf (by omega)
          have hwz2 := hbr.size
          have hB9 := btr hB3 hbr
          have gx := (hB9.cell (p := ⟨bx, ox + k * 2, none⟩) hbx).trans (hcx k (by omega)).1
          have gy := (hB9.cell (p := ⟨bx, ox + k * 2 + 1, none⟩) hbx).trans (hcx k (by omega)).2
          have hbx' : bx < wr.heap.size := by omega
          have hm : V[k]?.getD (0, 0) ∈ V := by rw [List.getElem?_eq_getElem (by omega)]; exact List.getElem_mem _
          obtain ⟨o1, o2, o3⟩ := hV.ok _ hm
          have hst := mirrorK_succ n V k
          generalize V[k]?.getD (0, 0) = pr at *
          obtain ⟨a1, a2⟩ := pr
          simp only at gx gy o1 o2 o3
          have HST := Lib.hid hst
          clear hxf hcx hst hm
          have q1' := (hbr.cell (p := ⟨bb, 0, none⟩) hb.1).trans hb.2.1
          have qb : bb < wr.heap.size := by have := hb.1; omega
          have zg : g < wr.heap.size := by omega
          have zs : s < wr.heap.size := by omega
          clear q0 q1 q2
          have hk1 : IntKind.i64.wrap ((n : Int) - 1 - a2) = (n : Int) - 1 - a2 := IntWalk.i64_in _ (by omega)
          have hk2 : IntKind.i64.wrap ((n : Int) - 1 - a1) = (n : Int) - 1 - a1 := IntWalk.i64_in _ (by omega)
          go_wp2
          have hb5 : Below wr.heap.size wr (wr.alloc (.cells #[.int .i64 a1, .int .i64 a2] 59)) := bal (bz _) _
          have t0 : (wr.alloc (.cells #[.int .i64 a1, .int .i64 a2] 59)).cell? ⟨wr.heap.size, 0, none⟩ = some (.int .i64 a1) := cnew rfl rfl
          have t1 : (wr.alloc (.cells #[.int .i64 a1, .int .i64 a2] 59)).cell? ⟨wr.heap.size, 1, none⟩ = some (.int .i64 a2) := cnew rfl rfl
          have hz5 : wr.heap.size < (wr.alloc (.cells #[.int .i64 a1, .int .i64 a2] 59)).heap.size := by simp
          generalize wr.alloc (.cells #[.int .i64 a1, .int .i64 a2] 59) = w5 at *
          have hg5 := (hb5.block g zg).trans hG.out
          have hs5 := (hb5.block s zs).trans hS.out
          have q5 := (hb5.cell (p := ⟨bb, 0, none⟩) qb).trans q1'
          have g1 : w5.cell? ⟨g, 1, none⟩ = some (.slice (some ⟨s, 0, none⟩) V.length V.length) := by rw [cell_of_row w5 g 1 _ _ _ hg5]; rfl
          have qb5 : bb < w5.heap.size := by omega
          have zg5 : g < w5.heap.size := by omega
          have zs5 : s < w5.heap.size := by omega
          have HG5 := Lib.hid hg5; have HS5 := Lib.hid hs5
          clear hg5 hs5 q1' gx gy
          have hL := @Later.cell w5
          refine wp_region_tail 23 (by kernel_rfl) (by kernel_rfl) ?_
          simp only [List.take_succ_cons, List.take_zero]
          repeat (quiet_step (fail))
          refine wpQuiet_nil ?_
          intro w6 hw6
          have hL6 : Below w5.heap.size w5 w6 := by obtain ⟨⟨_, h⟩, rfl⟩ := hw6; exact h
          clear hw6 hL
          have hB6 : Below wr.heap.size wr w6 := btr hb5 hL6
          have hs6 := (hL6.block s zs5).trans HS5.out
          have hg6 := (hL6.block g zg5).trans HG5.out
          have hpl : (prs (mirrorK (n : Int) V k)).length = V.length * 2 := by rw [prs_length]; simp [mirrorK]
          have s0 : (w6.cell? ⟨s, 0 + k * 2, none⟩).isSome = true := by
            rw [cell_of_row w6 s _ _ _ _ hs6, List.getElem?_toArray, List.getElem?_eq_getElem (by omega)]; rfl
          have s1 : (w6.cell? ⟨s, 0 + k * 2 + 1, none⟩).isSome = true := by
            rw [cell_of_row w6 s _ _ _ _ hs6, List.getElem?_toArray, List.getElem?_eq_getElem (by omega)]; rfl
          rw [Nat.zero_add] at s0 s1
          obtain ⟨y0, s0⟩ := Option.isSome_iff_exists.1 s0
          obtain ⟨y1, s1⟩ := Option.isSome_iff_exists.1 s1
          have f0 := frozen_of_row w6 s (k * 2) _ _ hs6
          have f1 := frozen_of_row w6 s (k * 2 + 1) _ _ hs6
          have hn2 := heap_setCell_same _ s (k * 2 + 1) _ _ (.int .i64 ((n : Int) - 1 - a1)) (heap_setCell_same w6 s (k * 2) _ _ (.int .i64 ((n : Int) - 1 - a2)) hs6)
          have hn3 : ((w6.setCell ⟨s, k * 2, none⟩ (.int .i64 ((n : Int) - 1 - a2))).setCell ⟨s, k * 2 + 1, none⟩ (.int .i64 ((n : Int) - 1 - a1))).heap[s]? = some (.cells (prs (mirrorK n V (k + 1))).toArray 59 (0, 0)) := by
            rw [HST.out, prs_set _ _ _ (by simp [mirrorK]; exact hkp)]
            simpa [mirrorOne] using hn2
          have HN := Lib.hid hn3
          have HG6 := Lib.hid hg6
          have hz6 := hB6.size
          clear hn2 hn3 hs6 hg6 t0 t1 q5 g1 hpl
          simp only [List.drop_succ_cons, List.drop_zero]
          go_wp2
          refine ⟨⟨k + 1, by omega, by simp, bset (bset (btr hbr hB6) hs1 _) hs1 _, by simp; omega, ?_, HN.out⟩, by simp [intOf]; omega⟩
          exact (Below.heap_setCell _ _ _ _ (by simpa using hgs)).trans ((Below.heap_setCell _ _ _ _ (by simpa using hgs)).trans HG6.out)
        · obtain rfl : k = V.length := by omega
          have hr1 := (hbr.block _ (by omega)).trans HR0.out
          have HR1 := Lib.hid hr1; clear hr1
          have hsz : (Try.prog.info? 24).map (·.size) = some 2 := by kernel_rfl
          have HSZ := Lib.hid hsz; clear hsz
          have hB9 := btr hB3 hbr
          have c0 : wr.cell? ⟨w.heap.size + 1, 0, none⟩ = some (.int .i64 0) := by rw [cell_of_row wr _ 0 _ _ _ HR1.out]; rfl
          have c1 : wr.cell? ⟨w.heap.size + 1, 1, none⟩ = some (.slice none 0 0) := by rw [cell_of_row wr _ 1 _ _ _ HR1.out]; rfl
          have f0 := frozen_of_row wr (w.heap.size + 1) 0 _ _ HR1.out
          have f1 := frozen_of_row wr (w.heap.size + 1) 1 _ _ HR1.out
          have d0 : wr.cell? ⟨g, 0, none⟩ = some (.int .i64 n) := by rw [cell_of_row wr _ 0 _ _ _ hG.out]; rfl
          have d1 : wr.cell? ⟨g, 1, none⟩ = some (.slice (some ⟨s, 0, none⟩) V.length V.length) := by rw [cell_of_row wr _ 1 _ _ _ hG.out]; rfl
          have hn2 := heap_setCell_same _ _ 1 _ _ (.slice (some ⟨s, 0, none⟩) V.length V.length) (heap_setCell_same wr (w.heap.size + 1) 0 _ _ (.int .i64 n) HR1.out)
          have HN2 := Lib.hid hn2; clear hn2
          have hs2 : ((wr.setCell ⟨w.heap.size + 1, 0, none⟩ (.int .i64 n)).setCell ⟨w.heap.size + 1, 1, none⟩ (.slice (some ⟨s, 0, none⟩) V.length V.length)).heap[s]? = _ :=
            (Below.heap_setCell _ _ _ _ (by simp; omega)).trans ((Below.heap_setCell _ _ _ _ (by simp; omega)).trans hS.out)
          rw [mirrorK_all] at hs2
          have HS2 := Lib.hid hs2; clear hs2
          go_wp2
          (try simp only [Exit.inBlock, Exit.then])
          refine bodyPost_ret (v := .tuple #[.agg #[.int .i64 n, .slice (some ⟨s, 0, none⟩) V.length V.length], .int .i64 0]) ?_ ?_ ?_
          · exact results_row_tmp rfl rfl rfl HN2.out Try.underlying24 rfl HSZ.out
          · rfl
          · exact ⟨_, rfl, RdP.row (by simp) HS2.out (by omega), bset (bset hB9 (by simp) _) (by simp) _⟩
  · simp only [if_neg h]
    have HO := Lib.hid (open_no p _ V _ (hx0.mono (bal (bal (bz w) (.cells #[.int .i64 p, .slice a V.length ca] 24)) (.cells #[.int .i64 0, .slice none 0 0] 24))) hl h)
    generalize checkR p V = c at *
    have e0 : (c != 0) = true := by simpa using h
    clear h
    go_enter Try.func41, Try.ntmps41
    go_wp2_with fail
    refine HO.out.mono ?_
    rintro e w2 ⟨rfl, hB2⟩
    have hB3 : Below w.heap.size w w2 := btr (bal (bal (bz _) _) _) hB2
    have hr : w2.heap[w.heap.size + 1]? = some (.cells #[.int .i64 0, .slice none 0 0] 24 (0, 0)) := by
      refine (hB2.block _ (by simp)).trans ?_
      have := heap_alloc_new (w.alloc (.cells #[.int .i64 p, .slice a V.length ca] 24)) (.cells #[.int .i64 0, .slice none 0 0] 24)
      rw [World.size_alloc] at this
      exact this
    have HR := Lib.hid hr; clear hr
    have hsz : (Try.prog.info? 24).map (·.size) = some 2 := by kernel_rfl
    have HSZ := Lib.hid hsz; clear hsz
    have c0 : w2.cell? ⟨w.heap.size + 1, 0, none⟩ = some (.int .i64 0) := by rw [cell_of_row w2 _ 0 _ _ _ HR.out]; rfl
    have c1 : w2.cell? ⟨w.heap.size + 1, 1, none⟩ = some (.slice none 0 0) := by rw [cell_of_row w2 _ 1 _ _ _ HR.out]; rfl
    have f0 := frozen_of_row w2 (w.heap.size + 1) 0 _ _ HR.out
    have f1 := frozen_of_row w2 (w.heap.size + 1) 1 _ _ HR.out
    have hn2 := heap_setCell_same _ _ 1 _ _ (.slice none 0 0) (heap_setCell_same w2 (w.heap.size + 1) 0 _ _ (.int .i64 0) HR.out)
    have HN2 := Lib.hid hn2; clear hn2
    go_wp2
    (try simp only [Exit.inBlock, Exit.then])
    refine bodyPost_ret (v := .tuple #[.agg #[.int .i64 0, .slice none 0 0], .int .i64 c]) ?_ ?_ ?_
    · exact results_row_tmp rfl rfl rfl HN2.out Try.underlying24 rfl HSZ.out
    · rfl
    · exact ⟨.slice none 0 0, rfl, rdP_nil _, bset (bset hB3 (by simp) _) (by simp) _⟩
end Go.Proofs.Ytdnaipiiponhpaa

namespace Go.Proofs.Ytdnaipiiponhpaa
open Go.RowKit Go.Shelf

/-- The valves that are added, up to a place. -/
def addK (p far odd k : Nat) : List (Int × Int) := ((List.range k).filter fun i => i / p % 2 == odd).map fun i => (((i : Nat) : Int), ((i + far : Nat) : Int))
theorem addK_succ (p far odd k : Nat) : addK p far odd (k + 1) = if k / p % 2 == odd then addK p far odd k ++ [(((k : Nat) : Int), ((k + far : Nat) : Int))] else addK p far odd k := by
  unfold addK
  rw [List.range_succ, List.filter_append]
  cases h : (k / p % 2 == odd) <;> simp [h]
theorem addK_le (p far odd k : Nat) : (addK p far odd k).length ≤ k := by
  unfold addK
  have := List.length_filter_le (fun i => i / p % 2 == odd) (List.range k)
  simp at this ⊢
  exact this

set_option maxRecDepth 100000 in
set_option maxHeartbeats 1000000 in
theorem add_any (g base n p far odd : Nat) (v : Value) (W : List (Int × Int)) (w : World) (hg : g < base) (hbw : base ≤ w.heap.size) (hrow : w.heap[g]? = some (.cells #[.int .i64 n, v] 73 (0, 0)))
    (hown : w.ownsRow base 59 2 v W.length (prs W)) (hn : n ≤ 8) (hp : 1 ≤ p) (hp8 : p ≤ 8) (hf : far ≤ 8) (ho : odd ≤ 1) (hW : W.length ≤ 1000) :
    Calls Try.prog 76 #[.pointer (some ⟨g, 0, none⟩), .int .i64 p, .int .i64 far, .int .i64 odd] w fun e w' => e = .returned (.tuple #[]) ∧ ∃ v', w'.heap[g]? = some (.cells #[.int .i64 n, v'] 73 (0, 0)) ∧
      w'.ownsRow base 59 2 v' (W ++ addK p far odd (n - far)).length (prs (W ++ addK p far odd (n - far))) ∧ Below g w w' := by
  obtain ⟨i0, hi, hz0, hz1, hz2⟩ := info_parts Try.info59
  have HR := Lib.hid hrow; have HO := Lib.hid hown
  have gl := (Array.getElem?_eq_some_iff.1 hrow).1
  have c0 : w.cell? ⟨g, 0, none⟩ = some (.int .i64 n) := by rw [cell_of_row w g 0 _ _ _ hrow]; rfl
  have hw0 : IntKind.i64.wrap ((n : Int) - (far : Int)) = (n : Int) - far := IntWalk.i64_in _ (by omega)
  clear hrow hown
  go_enter Try.func76, Try.ntmps76
  go_wp2
  go_loopw [8, 16, 17, 18, 19, 20, 21, 22, 23, 24, 25, 26, 27, 28, 29, 30, 31, 32, 33, 34, 35, 36, 37, 38, 39, 40, 41] (fun _ i _ _ _ _ _ _ _ _ _ _ _ _ _ _ _ _ _ _ _ _ _ _ _ _ _ wr => ∃ k v, k ≤ n - far ∧ i = .int .i64 (k : Nat) ∧ Below g w wr ∧ wr.heap[g]? = some (.cells #[.int .i64 n, v] 73 (0, 0)) ∧ wr.ownsRow base 59 2 v (W ++ addK p far odd k).length (prs (W ++ addK p far odd k)))
    (fun _ i _ _ _ _ _ _ _ _ _ _ _ _ _ _ _ _ _ _ _ _ _ _ _ _ _ _ => ((n : Int) - intOf i).toNat)
  case atStart => exact ⟨0, v, Nat.zero_le _, rfl, Below.refl _ _, HR.out, by simpa [addK] using HO.out⟩
  case round =>
    obtain ⟨k, v2, hk, rfl, hbr, hrow, hor⟩ := hrel
    have hwz := hbr.size
    by_cases hkp : (k : Int) < (n : Int) - far
    · have hst := addK_succ p far odd k
      have hkl := addK_le p far odd k
      have hln : (W ++ addK p far odd k).length ≤ 1010 := by rw [List.length_append]; omega
      have c1 : wr.cell? ⟨g, 1, none⟩ = some v2 := by rw [cell_of_row wr g 1 _ _ _ hrow]; rfl
      have f1 := frozen_of_row wr g 1 _ _ hrow
      have hgl := (Array.getElem?_eq_some_iff.1 hrow).1
      have hq : wrap64 ((k : Int) / (p : Int)) = ((k / p : Nat) : Int) := by
        rw [← Int.natCast_ediv]
        have h1 := Nat.div_le_self k p
        generalize k / p = d at h1 ⊢
        unfold wrap64
        omega
      have hq2 : (wrap64 ((k : Int) / (p : Int))).tmod 2 = ((k / p % 2 : Nat) : Int) := by
        rw [hq]
        have := (Int.ofNat_tmod (k / p) 2).symm
        simpa using this
      clear hq
      generalize k / p % 2 = r at *
      have hpz : ((p : Int) == 0) = false := by simp; omega
      have hROW := Lib.hid hrow; have hO := Lib.hid hor; have HLN := Lib.hid hln
      clear hrow hor hln
      by_cases hro : r = odd
      · subst hro
        rw [if_pos (by simp)] at hst
        have HST := Lib.hid hst; clear hst
        go_wp2_with (at_builtin; refine wpList_append_own _ rfl _ _ 22 rfl base 59 i0 (.agg #[.int .i64 0, .int .i64 0]) 2 16 Try.underlying22 hi hz0 hz1 hz2 rfl (by decide) _ _ _ rfl (hO.out.alloc _) ⟨wr.heap.size, 0, none⟩ 1 1 [.int .i64 k, .int .i64 ((k : Int) + far)] rfl rfl (cell_two_new _ _ _ _) (two_int _ _) (by have := HLN.out; simp only [maxLen]; omega) (by have := HLN.out; omega) (by simp; omega) ?_)
        intro v' w' hown' hgrow hnil
        have hra := (append_keep (hO.out.alloc _) hgrow hg (by simp; omega)).trans ((Below.heap_alloc _ _ _ hgl).trans hROW.out)
        have hB6 : Below g w w' := Below.grown (hbr.alloc (by omega) (.cells #[.int .i64 k, .int .i64 ((k : Int) + far)] 59)) hgrow (by simp; omega) (fun k' e => by have := ((hO.out.alloc (.cells #[.int .i64 k, .int .i64 ((k : Int) + far)] 59)).lt k' e).1; omega)
        have c1' : w'.cell? ⟨g, 1, none⟩ = some v2 := by rw [cell_of_row w' _ 1 _ _ _ hra]; rfl
        have f1' := frozen_of_row w' g 1 _ _ hra
        have hnew := heap_setCell_same w' g 1 _ _ v' hra
        have hkeep := (hown'.kept (w' := w'.setCell ⟨g, 1, none⟩ v') (grownBy_set w' _ _) (by
          cases hvv : v'.ownBlock with
          | none => exact .inl rfl
          | some q => exact .inr (by intro e; cases e; have := (hown'.lt _ hvv).1; simp only at this; omega)))
        have HNEW := Lib.hid hnew; have HKEEP := Lib.hid hkeep
        obtain ⟨a9, c9, hv9⟩ := owns_form hown'
        subst hv9
        have hgl' : g < w'.heap.size := (Array.getElem?_eq_some_iff.1 hra).1
        clear hown' hgrow hnil hra hnew hkeep c1 f1
        go_wp2
        refine ⟨⟨k + 1, _, by omega, by simp, Below.setCell hB6 (by simp) _, HNEW.out, ?_⟩, by simp [intOf]; omega⟩
        rw [HST.out, ← List.append_assoc, List.length_append, List.length_append, prs_append, Int.natCast_add]
        exact HKEEP.out
      · rw [if_neg (by simpa using hro)] at hst
        have hne : ((r : Int) == (odd : Int)) = false := by simp; omega
        have HST := Lib.hid hst; clear hst
        go_wp2
        exact ⟨⟨k + 1, v2, by omega, by simp, hbr, hROW.out, by rw [HST.out]; exact hO.out⟩, by simp [intOf]; omega⟩
    · have hkk : addK p far odd k = addK p far odd (n - far) := by
        rw [show k = n - far by omega]
      rw [hkk] at hor
      have hO := Lib.hid hor; have hROW := Lib.hid hrow
      clear hor hrow
      go_wp2
      refine bodyPost_end (results_none rfl _ _ _) rfl ⟨rfl, v2, hROW.out, by have := hO.out; rw [List.length_append] at this; exact this, hbr⟩
end Go.Proofs.Ytdnaipiiponhpaa

namespace Go.Proofs.Ytdnaipiiponhpaa
open Go.RowKit Go.Shelf

/-- The bricks of the first rounds. -/
def bricksK (p m : Nat) : List (Int × Int) := (List.range m).flatMap fun i => addK 1 1 (i % 2) (p - 1)
theorem bricksK_succ (p m : Nat) : bricksK p (m + 1) = bricksK p m ++ addK 1 1 (m % 2) (p - 1) := by
  unfold bricksK
  rw [List.range_succ, List.flatMap_append]
  simp
theorem bricksK_le (p m : Nat) : (bricksK p m).length ≤ m * (p - 1) := by
  induction m with
  | zero => simp [bricksK]
  | succ m ih =>
    rw [bricksK_succ, List.length_append, Nat.succ_mul]
    have := addK_le 1 1 (m % 2) (p - 1)
    omega
def bricksE (p : Int) : Int := if p < 1 ∨ 8 < p then 6 else 0
def bricksP (p : Int) : Int := if p < 1 ∨ 8 < p then 0 else p
def bricksL (p : Int) : List (Int × Int) := if p < 1 ∨ 8 < p then [] else bricksK p.toNat p.toNat

theorem within18 (p : Int) (w2 : World) (b : Nat) (hb : b = w2.heap.size) : Calls Try.prog 62 #[.int .i64 1, .int .i64 8, .slice (some ⟨b, 0, none⟩) 1 1] (w2.alloc (.cells #[.int .i64 p] 3)) fun e w' => e = .returned (.bool (!decide (p < 1 ∨ 8 < p))) ∧ Below (w2.alloc (.cells #[.int .i64 p] 3)).heap.size (w2.alloc (.cells #[.int .i64 p] 3)) w' := by
  subst hb
  have := within_any (.slice (some ⟨w2.heap.size, 0, none⟩) 1 1) [p] 1 8 (w2.alloc (.cells #[.int .i64 p] 3)) (one_slice (cnew rfl rfl) (by simp)) (by simp)
  simp only [List.any_cons, List.any_nil, Bool.or_false, outB] at this
  exact this

set_option maxRecDepth 100000 in
set_option maxHeartbeats 1000000 in
theorem bricks_any (p : Int) (w : World) :
    Calls Try.prog 43 #[.int .i64 p] w fun e w' => ∃ v, e = .returned (.tuple #[.agg #[.int .i64 (bricksP p), v], .int .i64 (bricksE p)]) ∧ RdP w' v (bricksL p) ∧ Below w.heap.size w w' := by
  have hsz : (Try.prog.info? 24).map (·.size) = some 2 := by kernel_rfl
  have HSZ := Lib.hid hsz; clear hsz
  unfold bricksP bricksE bricksL
  by_cases h : p < 1 ∨ 8 < p
  · simp only [if_pos h]
    have H0 := Lib.hid fun w2 b hb => within18 p w2 b hb
    have hd : (!decide (p < 1 ∨ 8 < p)) = false := by simp [h]
    rw [hd] at H0
    clear hd
    go_enter Try.func43, Try.ntmps43
    go_wp2_with fail
    refine (H0.out (w.alloc (.cells #[.int .i64 0, .slice none 0 0] 24)) _ (by simp)).mono ?_
    rintro e w2 ⟨rfl, hB2⟩
    have hB3 : Below w.heap.size w w2 := btr (bal (bal (bz _) _) _) hB2
    have hr : w2.heap[w.heap.size]? = some (.cells #[.int .i64 0, .slice none 0 0] 24 (0, 0)) := by
      refine (hB2.block _ (by simp; omega)).trans ((Below.heap_alloc _ _ _ (by simp)).trans (heap_alloc_new _ _))
    have HR := Lib.hid hr; clear hr
    have c0 : w2.cell? ⟨w.heap.size, 0, none⟩ = some (.int .i64 0) := by rw [cell_of_row w2 _ 0 _ _ _ HR.out]; rfl
    have c1 : w2.cell? ⟨w.heap.size, 1, none⟩ = some (.slice none 0 0) := by rw [cell_of_row w2 _ 1 _ _ _ HR.out]; rfl
    have f0 := frozen_of_row w2 w.heap.size 0 _ _ HR.out
    have f1 := frozen_of_row w2 w.heap.size 1 _ _ HR.out
    have hn2 := heap_setCell_same _ _ 1 _ _ (.slice none 0 0) (heap_setCell_same w2 w.heap.size 0 _ _ (.int .i64 0) HR.out)
    have HN2 := Lib.hid hn2; clear hn2
    go_wp2
    (try simp only [Exit.inBlock, Exit.then])
    refine bodyPost_ret (v := .tuple #[.agg #[.int .i64 0, .slice none 0 0], .int .i64 6]) ?_ ?_ ?_
    · exact results_row_tmp rfl rfl rfl HN2.out Try.underlying24 rfl HSZ.out
    · rfl
    · exact ⟨.slice none 0 0, rfl, rdP_nil _, bset (bset hB3 (by simp) _) (by simp) _⟩
  · simp only [if_neg h]
    obtain ⟨n, rfl⟩ : ∃ n : Nat, p = n := ⟨p.toNat, by omega⟩
    rw [show ((n : Nat) : Int).toNat = n by omega]
    have hp1 : 1 ≤ n := by omega
    have hp8 : n ≤ 8 := by omega
    have H0 := Lib.hid fun w2 b hb => within18 n w2 b hb
    have hd : (!decide ((n : Int) < 1 ∨ 8 < (n : Int))) = true := by simp; omega
    rw [hd] at H0
    clear hd h
    obtain ⟨i0, hi, hz0, hz1, hz2⟩ := info_parts Try.info59
    have hw0 : IntKind.i64.wrap ((n : Int) - 1) = (n : Int) - 1 := IntWalk.i64_in _ (by omega)
    go_enter Try.func43, Try.ntmps43
    go_wp2_with fail
    refine (H0.out (w.alloc (.cells #[.int .i64 0, .slice none 0 0] 24)) _ (by simp)).mono ?_
    rintro e w2 ⟨rfl, hB2⟩
    have hB3 : Below w.heap.size w w2 := btr (bal (bal (bz _) _) _) hB2
    have hr : w2.heap[w.heap.size]? = some (.cells #[.int .i64 0, .slice none 0 0] 24 (0, 0)) := by
      refine (hB2.block _ (by simp; omega)).trans ((Below.heap_alloc _ _ _ (by simp)).trans (heap_alloc_new _ _))
    have HR := Lib.hid hr; clear hr
    have hzz := hB2.size
    simp only [World.size_alloc] at hzz
    go_wp2
    go_loopw [5, 6, 15, 16, 17, 18, 19, 20, 21, 22, 23, 24, 25, 26, 27, 28, 29, 30, 31, 32, 33, 34, 35, 36, 37, 38] (fun _ _ i _ _ _ _ _ _ _ _ _ _ _ _ _ _ _ _ _ _ _ _ _ _ _ wr => ∃ m v, m ≤ n ∧ i = .int .i64 (m : Nat) ∧ Below w2.heap.size w2 wr ∧ wr.heap[w2.heap.size]? = some (.cells #[.int .i64 n, v] 24 (0, 0)) ∧ wr.ownsRow (w2.heap.size + 1) 59 2 v (bricksK n m).length (prs (bricksK n m)))
      (fun _ _ i _ _ _ _ _ _ _ _ _ _ _ _ _ _ _ _ _ _ _ _ _ _ _ _ => ((n : Int) - intOf i).toNat)
    case atStart => exact ⟨0, .slice none 0 0, Nat.zero_le _, rfl, bal (bz _) _, heap_alloc_new _ _, World.ownsRow_nil _ _ _ _⟩
    case round =>
      obtain ⟨m, v, hm, rfl, hbr, hrow, hor⟩ := hrel
      have hO := Lib.hid hor; have hROW := Lib.hid hrow; clear hor hrow
      by_cases hmn : m < n
      · have hbl := bricksK_le n m
        have hbl2 : m * (n - 1) ≤ 8 * 7 := Nat.mul_le_mul (by omega) (by omega)
        have hst := bricksK_succ n m
        have HST := Lib.hid hst; clear hst
        have hmr : (m : Int).tmod 2 = ((m % 2 : Nat) : Int) := by have := (Int.ofNat_tmod m 2).symm; simpa using this
        generalize m % 2 = r at *
        go_wp2
        go_loopw [6, 20, 21, 22, 23, 24, 25, 26, 27, 28, 29, 30, 31, 32, 33, 34, 35, 36, 37] (fun _ i _ _ _ _ _ _ _ _ _ _ _ _ _ _ _ _ _ wr => ∃ k v, k ≤ n - 1 ∧ i = .int .i64 (k : Nat) ∧ Below w2.heap.size w2 wr ∧ wr.heap[w2.heap.size]? = some (.cells #[.int .i64 n, v] 24 (0, 0)) ∧ wr.ownsRow (w2.heap.size + 1) 59 2 v (bricksK n m ++ addK 1 1 r k).length (prs (bricksK n m ++ addK 1 1 r k)))
          (fun _ i _ _ _ _ _ _ _ _ _ _ _ _ _ _ _ _ _ _ => ((n : Int) - intOf i).toNat)
        case atStart => exact ⟨0, v, Nat.zero_le _, rfl, hbr, hROW.out, by simpa [addK] using hO.out⟩
        case round =>
          obtain ⟨k, v2, hk, rfl, hbr2, hrow, hor⟩ := hrel
          clear hO hROW
          have hO := Lib.hid hor; have hROW := Lib.hid hrow; clear hor hrow
          have hwz := hbr2.size
          have hak := addK_le 1 1 r k
          have hgl := (Array.getElem?_eq_some_iff.1 hROW.out).1
          have HLN : Hid ((bricksK n m ++ addK 1 1 r k).length ≤ 100) := Lib.hid (by rw [List.length_append]; omega)
          by_cases hkn : (k : Int) < (n : Int) - 1
          · have hst := addK_succ 1 1 r k
            rw [Nat.div_one] at hst
            have hkr : (k : Int).tmod 2 = ((k % 2 : Nat) : Int) := by have := (Int.ofNat_tmod k 2).symm; simpa using this
            generalize k % 2 = r2 at *
            have c1 : wr.cell? ⟨w2.heap.size, 1, none⟩ = some v2 := by rw [cell_of_row wr _ 1 _ _ _ hROW.out]; rfl
            have f1 := frozen_of_row wr w2.heap.size 1 _ _ hROW.out
            have hw1 : IntKind.i64.wrap ((k : Int) + 1) = (k : Int) + 1 := IntWalk.i64_in _ (by omega)
            by_cases hrr : r2 = r
            · subst hrr
              rw [if_pos (by simp)] at hst
              have HS2 := Lib.hid hst; clear hst
              go_wp2_with (at_builtin; refine wpList_append_own _ rfl _ _ 22 rfl (w2.heap.size + 1) 59 i0 (.agg #[.int .i64 0, .int .i64 0]) 2 16 Try.underlying22 hi hz0 hz1 hz2 rfl (by decide) _ _ _ rfl (hO.out.alloc _) ⟨wr.heap.size, 0, none⟩ 1 1 [.int .i64 k, .int .i64 ((k : Int) + 1)] rfl rfl (cell_two_new _ _ _ _) (two_int _ _) (by have := HLN.out; simp only [maxLen]; omega) (by have := HLN.out; omega) (by simp; omega) ?_)
              intro v' w' hown' hgrow hnil
              have hra := (append_keep (hO.out.alloc _) hgrow (Nat.lt_succ_self _) (by simp; omega)).trans ((Below.heap_alloc _ _ _ hgl).trans hROW.out)
              have hB6 : Below w2.heap.size w2 w' := append_below (bal hbr2 _) (hO.out.alloc _) hgrow (by omega)
              have c1' : w'.cell? ⟨w2.heap.size, 1, none⟩ = some v2 := by rw [cell_of_row w' _ 1 _ _ _ hra]; rfl
              have f1' := frozen_of_row w' w2.heap.size 1 _ _ hra
              have hnew := heap_setCell_same w' w2.heap.size 1 _ _ v' hra
              have hkeep := (hown'.kept (w' := w'.setCell ⟨w2.heap.size, 1, none⟩ v') (grownBy_set w' _ _) (by
                cases hvv : v'.ownBlock with
                | none => exact .inl rfl
                | some q => exact .inr (by intro e; cases e; have := (hown'.lt _ hvv).1; simp only at this; omega)))
              have HNEW := Lib.hid hnew; have HKEEP := Lib.hid hkeep
              obtain ⟨a9, c9, hv9⟩ := owns_form hown'
              subst hv9
              clear hown' hgrow hnil hra hnew hkeep c1 f1
              go_wp2
              refine ⟨⟨k + 1, _, by omega, by simp, bset hB6 (by simp) _, HNEW.out, ?_⟩, by simp [intOf]; omega⟩
              rw [HS2.out, ← List.append_assoc, List.length_append, List.length_append, prs_append, Int.natCast_add]
              exact HKEEP.out
            · rw [if_neg (by simpa using hrr)] at hst
              have hne : ((r2 : Int) == (r : Int)) = false := by simp; omega
              have HS2 := Lib.hid hst; clear hst
              go_wp2
              exact ⟨⟨k + 1, v2, by omega, by simp, hbr2, hROW.out, by rw [HS2.out]; exact hO.out⟩, by simp [intOf]; omega⟩
          · have hkk : bricksK n m ++ addK 1 1 r k = bricksK n (m + 1) := by rw [HST.out, show k = n - 1 by omega]
            have hO2 := hO.out
            rw [hkk] at hO2
            have HO2 := Lib.hid hO2; clear hO2 hO
            go_wp2
            exact ⟨⟨m + 1, v2, by omega, by simp, hbr2, hROW.out, HO2.out⟩, by simp [intOf]; omega⟩
      · obtain rfl : m = n := by omega
        have hr1 := (hbr.block _ (by omega)).trans HR.out
        have HR1 := Lib.hid hr1; clear hr1
        obtain ⟨a9, c9, hv9⟩ := owns_form hO.out
        subst hv9
        have hB9 := btr hB3 hbr
        have hz9 := hbr.size
        have c0 : wr.cell? ⟨w.heap.size, 0, none⟩ = some (.int .i64 0) := by rw [cell_of_row wr _ 0 _ _ _ HR1.out]; rfl
        have c1 : wr.cell? ⟨w.heap.size, 1, none⟩ = some (.slice none 0 0) := by rw [cell_of_row wr _ 1 _ _ _ HR1.out]; rfl
        have f0 := frozen_of_row wr w.heap.size 0 _ _ HR1.out
        have f1 := frozen_of_row wr w.heap.size 1 _ _ HR1.out
        have d0 : wr.cell? ⟨w2.heap.size, 0, none⟩ = some (.int .i64 m) := by rw [cell_of_row wr _ 0 _ _ _ hROW.out]; rfl
        have d1 : wr.cell? ⟨w2.heap.size, 1, none⟩ = some (.slice a9 (bricksK m m).length c9) := by rw [cell_of_row wr _ 1 _ _ _ hROW.out]; rfl
        have hn2 := heap_setCell_same _ _ 1 _ _ (.slice a9 (bricksK m m).length c9) (heap_setCell_same wr w.heap.size 0 _ _ (.int .i64 m) HR1.out)
        have HN2 := Lib.hid hn2; clear hn2
        have hkeep := (hO.out.kept (w' := wr.setCell ⟨w.heap.size, 0, none⟩ (.int .i64 m)) (grownBy_set wr _ _) (by
            cases hvv : (Value.slice a9 (bricksK m m).length c9).ownBlock with
            | none => exact .inl rfl
            | some q => exact .inr (by intro e; cases e; have := (hO.out.lt _ hvv).1; simp only at this; omega)))
        have hkeep2 := (hkeep.kept (w' := (wr.setCell ⟨w.heap.size, 0, none⟩ (.int .i64 m)).setCell ⟨w.heap.size, 1, none⟩ (.slice a9 (bricksK m m).length c9)) (grownBy_set _ _ _) (by
            cases hvv : (Value.slice a9 (bricksK m m).length c9).ownBlock with
            | none => exact .inl rfl
            | some q => exact .inr (by intro e; cases e; have := (hkeep.lt _ hvv).1; simp only at this; omega)))
        have HK2 := Lib.hid hkeep2; clear hkeep hkeep2
        go_wp2
        (try simp only [Exit.inBlock, Exit.then])
        refine bodyPost_ret (v := .tuple #[.agg #[.int .i64 m, .slice a9 (bricksK m m).length c9], .int .i64 0]) ?_ ?_ ?_
        · exact results_row_tmp rfl rfl rfl HN2.out Try.underlying24 rfl HSZ.out
        · rfl
        · exact ⟨_, rfl, RdP.of_owns HK2.out, bset (bset hB9 (by simp) _) (by simp) _⟩
end Go.Proofs.Ytdnaipiiponhpaa

namespace Go.Proofs.Ytdnaipiiponhpaa
open Go.RowKit Go.Shelf

def innerM (n p : Nat) : Nat → Nat → List (Int × Int)
  | 0, _ => []
  | f + 1, q => if p < q then addK p (q - p) 1 (n - (q - p)) ++ innerM n p f (q / 2) else []
def outerM (n t : Nat) : Nat → Nat → List (Int × Int)
  | 0, _ => []
  | f + 1, p => if 0 < p then addK p p 0 (n - p) ++ (innerM n p 4 (t / 2) ++ outerM n t f (p / 2)) else []
def topOf (n : Nat) : Nat := if n ≤ 1 then 1 else if n ≤ 2 then 2 else if n ≤ 4 then 4 else 8
/-- The merge of so many places. -/
def mergeN (n : Nat) : List (Int × Int) := outerM n (topOf n) 4 (topOf n / 2)
def mergeL (p : Int) : List (Int × Int) := if p < 1 ∨ 8 < p then [] else mergeN p.toNat
theorem mergeN_le : ∀ n, n ≤ 8 → (mergeN n).length ≤ 100 := by decide +kernel
theorem outerM_zero (n t f : Nat) : outerM n t f 0 = [] := by cases f <;> rfl
theorem innerM_stop (n p f q : Nat) (h : ¬ p < q) : innerM n p f q = [] := by
  cases f
  · rfl
  · simp [innerM, h]

set_option maxRecDepth 100000 in
set_option maxHeartbeats 1000000 in
theorem merge_any (p : Int) (w : World) :
    Calls Try.prog 45 #[.int .i64 p] w fun e w' => ∃ v, e = .returned (.tuple #[.agg #[.int .i64 (bricksP p), v], .int .i64 (bricksE p)]) ∧ RdP w' v (mergeL p) ∧ Below w.heap.size w w' := by
  have hsz : (Try.prog.info? 24).map (·.size) = some 2 := by kernel_rfl
  have HSZ := Lib.hid hsz; clear hsz
  unfold bricksP bricksE mergeL
  by_cases h : p < 1 ∨ 8 < p
  · simp only [if_pos h]
    have H0 := Lib.hid fun w2 b hb => within18 p w2 b hb
    have hd : (!decide (p < 1 ∨ 8 < p)) = false := by simp [h]
    rw [hd] at H0
    clear hd
    go_enter Try.func45, Try.ntmps45
    go_wp2_with fail
    refine (H0.out (w.alloc (.cells #[.int .i64 0, .slice none 0 0] 24)) _ (by simp)).mono ?_
    rintro e w2 ⟨rfl, hB2⟩
    have hB3 : Below w.heap.size w w2 := btr (bal (bal (bz _) _) _) hB2
    have hr : w2.heap[w.heap.size]? = some (.cells #[.int .i64 0, .slice none 0 0] 24 (0, 0)) := by
      refine (hB2.block _ (by simp; omega)).trans ((Below.heap_alloc _ _ _ (by simp)).trans (heap_alloc_new _ _))
    have HR := Lib.hid hr; clear hr
    have c0 : w2.cell? ⟨w.heap.size, 0, none⟩ = some (.int .i64 0) := by rw [cell_of_row w2 _ 0 _ _ _ HR.out]; rfl
    have c1 : w2.cell? ⟨w.heap.size, 1, none⟩ = some (.slice none 0 0) := by rw [cell_of_row w2 _ 1 _ _ _ HR.out]; rfl
    have f0 := frozen_of_row w2 w.heap.size 0 _ _ HR.out
    have f1 := frozen_of_row w2 w.heap.size 1 _ _ HR.out
    have hn2 := heap_setCell_same _ _ 1 _ _ (.slice none 0 0) (heap_setCell_same w2 w.heap.size 0 _ _ (.int .i64 0) HR.out)
    have HN2 := Lib.hid hn2; clear hn2
    go_wp2
    (try simp only [Exit.inBlock, Exit.then])
    refine bodyPost_ret (v := .tuple #[.agg #[.int .i64 0, .slice none 0 0], .int .i64 6]) ?_ ?_ ?_
    · exact results_row_tmp rfl rfl rfl HN2.out Try.underlying24 rfl HSZ.out
    · rfl
    · exact ⟨.slice none 0 0, rfl, rdP_nil _, bset (bset hB3 (by simp) _) (by simp) _⟩
  · simp only [if_neg h]
    obtain ⟨n, rfl⟩ : ∃ n : Nat, p = n := ⟨p.toNat, by omega⟩
    rw [show ((n : Nat) : Int).toNat = n by omega]
    have hp1 : 1 ≤ n := by omega
    have hp8 : n ≤ 8 := by omega
    have H0 := Lib.hid fun w2 b hb => within18 n w2 b hb
    have hd : (!decide ((n : Int) < 1 ∨ 8 < (n : Int))) = true := by simp; omega
    rw [hd] at H0
    clear hd h
    have HML := Lib.hid (mergeN_le n hp8)
    go_enter Try.func45, Try.ntmps45
    go_wp2_with fail
    refine (H0.out (w.alloc (.cells #[.int .i64 0, .slice none 0 0] 24)) _ (by simp)).mono ?_
    rintro e w2 ⟨rfl, hB2⟩
    have hB3 : Below w.heap.size w w2 := btr (bal (bal (bz _) _) _) hB2
    have hr : w2.heap[w.heap.size]? = some (.cells #[.int .i64 0, .slice none 0 0] 24 (0, 0)) := by
      refine (hB2.block _ (by simp; omega)).trans ((Below.heap_alloc _ _ _ (by simp)).trans (heap_alloc_new _ _))
    have HR := Lib.hid hr; clear hr
    have hzz := hB2.size
    simp only [World.size_alloc] at hzz
    go_wp2
    go_loopw [4, 13, 14, 15, 16, 17] (fun i _ _ _ _ _ wr => wr = w2 ∧ ∃ t : Nat, i = .int .i64 t ∧ (t = 1 ∨ t = 2 ∧ 1 < n ∨ t = 4 ∧ 2 < n ∨ t = 8 ∧ 4 < n)) (fun i _ _ _ _ _ _ => ((n : Int) - intOf i).toNat)
    case atStart => exact ⟨rfl, 1, rfl, .inl rfl⟩
    case round =>
      obtain ⟨hww, t, rfl, ht⟩ := hrel
      have hww' := hww.symm
      clear hww
      subst hww'
      by_cases htn : t < n
      · have hw : IntKind.i64.wrap ((t : Int) * 2) = (t : Int) * 2 := IntWalk.i64_in _ (by omega)
        go_wp2
        exact ⟨⟨trivial, t * 2, by simp, by omega⟩, by simp [intOf]; omega⟩
      · have htt : t = topOf n := by unfold topOf; split <;> (try split) <;> (try split) <;> omega
        have ht8 : t ≤ 8 := by omega
        have ht1 : 1 ≤ t := by omega
        have hm0 : mergeN n = outerM n t 4 (t / 2) := by rw [htt]; rfl
        have HM0 := Lib.hid hm0; clear hm0
        clear htt ht
        go_wp2
        go_loopw [6, 7, 24, 25, 26, 27, 28, 29, 30, 31, 32, 33, 34, 35, 36, 37, 38, 39, 40, 41, 42, 43, 44] (fun i _ _ _ _ _ _ _ _ _ _ _ _ _ _ _ _ _ _ _ _ _ _ wx => ∃ p f v acc, i = .int .i64 (p : Nat) ∧ p ≤ 4 ∧ p < 2 ^ f ∧ acc ++ outerM n t f p = mergeN n ∧ Below w2.heap.size w2 wx ∧ wx.heap[w2.heap.size]? = some (.cells #[.int .i64 n, v] 73 (0, 0)) ∧ wx.ownsRow (w2.heap.size + 1) 59 2 v acc.length (prs acc))
          (fun i _ _ _ _ _ _ _ _ _ _ _ _ _ _ _ _ _ _ _ _ _ _ _ => (intOf i).toNat)
        case atStart => exact ⟨t / 2, 4, .slice none 0 0, [], by congr 1, by omega, by omega, HM0.out.symm, bal (bz _) _, heap_alloc_new _ _, World.ownsRow_nil _ _ _ _⟩
        case round =>
          obtain ⟨p, f, v, acc, rfl, hp4, hpf, hacc, hbx, hrow, hor⟩ := hrel
          have hO := Lib.hid hor; have hROW := Lib.hid hrow; clear hor hrow
          have hzx := hbx.size
          have hgx := (Array.getElem?_eq_some_iff.1 hROW.out).1
          by_cases hp0 : 0 < p
          · obtain ⟨f, rfl⟩ : ∃ f', f = f' + 1 := ⟨f - 1, by cases f with | zero => simp at hpf; omega | succ f => rfl⟩
            have hpf2 : p / 2 < 2 ^ f := by rw [Nat.pow_succ] at hpf; omega
            have hac : acc ++ (addK p p 0 (n - p) ++ (innerM n p 4 (t / 2) ++ outerM n t f (p / 2))) = mergeN n := by
              have := hacc; unfold outerM at this; rw [if_pos hp0] at this; exact this
            have hl1 : acc.length ≤ 100 := by have := congrArg List.length hac; rw [List.length_append] at this; have := HML.out; omega
            have HAC := Lib.hid hac
            clear hacc hac hpf
            go_wp2_with fail
            refine (add_any w2.heap.size (w2.heap.size + 1) n p p 0 v acc wr (by omega) (by omega) hROW.out hO.out hp8 hp0 (by omega) (by omega) (by omega) (by omega)).mono ?_
            rintro e w5 ⟨rfl, v5, hrow5, hown5, hB5⟩
            have hO5 := Lib.hid hown5; have hROW5 := Lib.hid hrow5; clear hown5 hrow5 hO hROW
            have hb5 : Below w2.heap.size w2 w5 := hbx.trans hB5
            go_wp2
            go_loopw [7, 34, 35, 36, 37, 38, 39, 40, 41, 42, 43, 44] (fun i _ _ _ _ _ _ _ _ _ _ _ wx => ∃ q f2 v acc2, i = .int .i64 (q : Nat) ∧ q ≤ 4 ∧ q < 2 ^ f2 ∧ acc2 ++ (innerM n p f2 q ++ outerM n t f (p / 2)) = mergeN n ∧ Below w2.heap.size w2 wx ∧ wx.heap[w2.heap.size]? = some (.cells #[.int .i64 n, v] 73 (0, 0)) ∧ wx.ownsRow (w2.heap.size + 1) 59 2 v acc2.length (prs acc2))
              (fun i _ _ _ _ _ _ _ _ _ _ _ _ => (intOf i).toNat)
            case atStart => exact ⟨t / 2, 4, v5, acc ++ addK p p 0 (n - p), by congr 1, by omega, by omega, by rw [List.append_assoc]; exact HAC.out, hb5, hROW5.out, hO5.out⟩
            case round =>
              obtain ⟨q, f2, v6, acc2, rfl, hq4, hqf, hacc2, hbq, hrow6, hor6⟩ := hrel
              have hO6 := Lib.hid hor6; have hROW6 := Lib.hid hrow6; clear hor6 hrow6 hO5 hROW5
              have hzq := hbq.size
              have hgq := (Array.getElem?_eq_some_iff.1 hROW6.out).1
              by_cases hpq : p < q
              · obtain ⟨f2, rfl⟩ : ∃ f', f2 = f' + 1 := ⟨f2 - 1, by cases f2 with | zero => simp at hqf; omega | succ f => rfl⟩
                have hqf2 : q / 2 < 2 ^ f2 := by rw [Nat.pow_succ] at hqf; omega
                have hac2 : (acc2 ++ addK p (q - p) 1 (n - (q - p))) ++ (innerM n p f2 (q / 2) ++ outerM n t f (p / 2)) = mergeN n := by
                  have := hacc2; unfold innerM at this; rw [if_pos hpq, List.append_assoc] at this; rw [List.append_assoc]; exact this
                have hl2 : acc2.length ≤ 100 := by have := congrArg List.length hacc2; rw [List.length_append] at this; have := HML.out; omega
                have HAC2 := Lib.hid hac2
                clear hacc2 hac2 hqf
                have hwq : IntKind.i64.wrap ((q : Int) - (p : Int)) = ((q - p : Nat) : Int) := by rw [IntWalk.i64_in _ (by omega)]; omega
                go_wp2_with fail
                refine (add_any w2.heap.size (w2.heap.size + 1) n p (q - p) 1 v6 acc2 wr (by omega) (by omega) hROW6.out hO6.out hp8 hp0 (by omega) (by omega) (by omega) (by omega)).mono ?_
                rintro e w7 ⟨rfl, v7, hrow7, hown7, hB7⟩
                have hO7 := Lib.hid hown7; have hROW7 := Lib.hid hrow7; clear hown7 hrow7
                have hb7 : Below w2.heap.size w2 w7 := hbq.trans hB7
                go_wp2
                exact ⟨⟨q / 2, f2, v7, _, by congr 1, by omega, hqf2, HAC2.out, hb7, hROW7.out, hO7.out⟩, by simp [intOf]; omega⟩
              · rw [innerM_stop n p f2 q hpq, List.nil_append] at hacc2
                have HAC2 := Lib.hid hacc2; clear hacc2 hqf
                go_wp2
                exact ⟨⟨p / 2, f, v6, acc2, by congr 1, by omega, hpf2, HAC2.out, hbq, hROW6.out, hO6.out⟩, by simp [intOf]; omega⟩
          · obtain rfl : p = 0 := by omega
            rw [outerM_zero, List.append_nil] at hacc
            subst hacc
            clear hpf
            have hr1 := (hbx.block _ (by omega)).trans HR.out
            have HR1 := Lib.hid hr1; clear hr1
            obtain ⟨a9, c9, hv9⟩ := owns_form hO.out
            subst hv9
            have hB9 := btr hB3 hbx
            have c0 : wr.cell? ⟨w.heap.size, 0, none⟩ = some (.int .i64 0) := by rw [cell_of_row wr _ 0 _ _ _ HR1.out]; rfl
            have c1 : wr.cell? ⟨w.heap.size, 1, none⟩ = some (.slice none 0 0) := by rw [cell_of_row wr _ 1 _ _ _ HR1.out]; rfl
            have f0 := frozen_of_row wr w.heap.size 0 _ _ HR1.out
            have f1 := frozen_of_row wr w.heap.size 1 _ _ HR1.out
            have d0 : wr.cell? ⟨w2.heap.size, 0, none⟩ = some (.int .i64 n) := by rw [cell_of_row wr _ 0 _ _ _ hROW.out]; rfl
            have d1 : wr.cell? ⟨w2.heap.size, 1, none⟩ = some (.slice a9 (mergeN n).length c9) := by rw [cell_of_row wr _ 1 _ _ _ hROW.out]; rfl
            have hn2 := heap_setCell_same _ _ 1 _ _ (.slice a9 (mergeN n).length c9) (heap_setCell_same wr w.heap.size 0 _ _ (.int .i64 n) HR1.out)
            have HN2 := Lib.hid hn2; clear hn2
            have hkeep := (hO.out.kept (w' := wr.setCell ⟨w.heap.size, 0, none⟩ (.int .i64 n)) (grownBy_set wr _ _) (by
                cases hvv : (Value.slice a9 (mergeN n).length c9).ownBlock with
                | none => exact .inl rfl
                | some q => exact .inr (by intro e; cases e; have := (hO.out.lt _ hvv).1; simp only at this; omega)))
            have hkeep2 := (hkeep.kept (w' := (wr.setCell ⟨w.heap.size, 0, none⟩ (.int .i64 n)).setCell ⟨w.heap.size, 1, none⟩ (.slice a9 (mergeN n).length c9)) (grownBy_set _ _ _) (by
                cases hvv : (Value.slice a9 (mergeN n).length c9).ownBlock with
                | none => exact .inl rfl
                | some q => exact .inr (by intro e; cases e; have := (hkeep.lt _ hvv).1; simp only at this; omega)))
            have HK2 := Lib.hid hkeep2; clear hkeep hkeep2
            go_wp2
            (try simp only [Exit.inBlock, Exit.then])
            refine bodyPost_ret (v := .tuple #[.agg #[.int .i64 n, .slice a9 (mergeN n).length c9], .int .i64 0]) ?_ ?_ ?_
            · exact results_row_tmp rfl rfl rfl HN2.out Try.underlying24 rfl HSZ.out
            · rfl
            · exact ⟨_, rfl, RdP.of_owns HK2.out, bset (bset hB9 (by simp) _) (by simp) _⟩
end Go.Proofs.Ytdnaipiiponhpaa

namespace Go.Proofs.Ytdnaipiiponhpaa
open Go.RowKit Go.Shelf

set_option maxRecDepth 100000 in
set_option maxHeartbeats 400000 in
theorem of_any (x : Value) (w : World) : Calls Try.prog 56 #[x] w fun e w' => e = .returned x ∧ w' = w := by
  go_enter Try.func56, Try.ntmps56
  go_wp2
  go_ret
  exact ⟨rfl, rfl⟩
set_option maxRecDepth 100000 in
set_option maxHeartbeats 400000 in
theorem longsl_any (x : Value) (w : World) : Calls Try.prog 52 #[x] w fun e w' => e = .returned x ∧ w' = w := by
  go_enter Try.func52, Try.ntmps52
  go_wp2
  go_ret
  exact ⟨rfl, rfl⟩

set_option maxRecDepth 100000 in
set_option maxHeartbeats 400000 in
theorem great_any (p : Int) (x : Value) (n cap : Nat) (a : Option Addr) (w : World) (hx : x = .slice a n cap) :
    Calls Try.prog 16 #[.agg #[.int .i64 p, x]] w fun e w' => e = .returned (.bool (decide (50 < n))) ∧ Below w.heap.size w w' := by
  subst hx
  go_enter Try.func16, Try.ntmps16
  go_wp2
  go_ret
  exact ⟨ret_bool (by simp; omega), bal (bz _) _⟩

theorem pair_ne (w : World) (a b c d : Int) : (binOp .neq 59 (.agg #[.int .i64 a, .int .i64 b]) (.agg #[.int .i64 c, .int .i64 d])).run Try.prog w = .ok (.bool (!decide ((a, b) = (c, d)))) w := by
  obtain ⟨i3, hi3, _⟩ := info_parts Try.info3'
  have := run_neq_arr (P := Try.prog) w 59 3 2 .i64 i3 Try.underlying59 hi3 (by kernel_rfl) Try.underlying3 [a, b] [c, d] rfl rfl
  simpa using this

theorem take_eq_stepP (xs ys : List (Int × Int)) (k : Nat) (h1 : k < xs.length) (h2 : k < ys.length) (ht : xs.take k = ys.take k) (he : xs[k]?.getD (0, 0) = ys[k]?.getD (0, 0)) : xs.take (k + 1) = ys.take (k + 1) := by
  rw [List.take_succ_eq_append_getElem h1, List.take_succ_eq_append_getElem h2, ht]
  simp [h1, h2] at he
  rw [he]

set_option maxRecDepth 100000 in
set_option maxHeartbeats 1000000 in
theorem same_any (p q : Int) (x y : Value) (V U : List (Int × Int)) (w : World) (hx0 : RdP w x V) (hy0 : RdP w y U) (hl : V.length ≤ 1000) (hl2 : U.length ≤ 1000) :
    Calls Try.prog 38 #[.agg #[.int .i64 p, x], .agg #[.int .i64 q, y]] w fun e w' => e = .returned (.bool (decide (p = q ∧ V = U))) ∧ Below w.heap.size w w' := by
  obtain ⟨a, ca, rfl, _, _, hx⟩ := hx0.form
  obtain ⟨b, cb, rfl, _, _, hy⟩ := hy0.form
  clear hx0 hy0
  by_cases hpq : p = q
  · subst hpq
    by_cases hll : V.length = U.length
    · have h1 : ((V.length : Int) != (U.length : Int)) = false := by simp [hll]
      have HL := Lib.hid hll; clear hll
      go_enter Try.func38, Try.ntmps38
      go_wp2
      go_loopw [5, 20, 21, 22, 23, 24, 25, 26, 27, 28, 29, 30, 31, 32, 33, 34, 35, 36, 37] (fun i _ _ _ _ _ _ _ _ _ _ _ _ _ _ _ _ _ _ wr => ∃ k : Nat, k ≤ V.length ∧ i = .int .i64 k ∧ V.take k = U.take k ∧ Below w.heap.size w wr ∧ w.heap.size + 2 ≤ wr.heap.size ∧
          wr.cell? ⟨w.heap.size, 1, none⟩ = some (.slice a V.length ca) ∧ wr.cell? ⟨w.heap.size + 1, 1, none⟩ = some (.slice b U.length cb)) (fun i _ _ _ _ _ _ _ _ _ _ _ _ _ _ _ _ _ _ _ => V.length - (intOf i).toNat)
      case atStart => exact ⟨0, Nat.zero_le _, rfl, by simp, bal (bal (bz _) _) _, by simp, cal _ (cnew rfl rfl), cnew (by simp) rfl⟩
      case round =>
        obtain ⟨k, hk, rfl, ht, hB, hzz, e0, e1⟩ := hrel
        have z0 : w.heap.size < wr.heap.size := by omega
        have z1 : w.heap.size + 1 < wr.heap.size := by omega
        have HT := Lib.hid ht; clear ht
        by_cases hlt : k < V.length
        · obtain ⟨bx, ox, rfl, hbx, hcx⟩ := hx (by omega)
          obtain ⟨by', oy, rfl, hby, hcy⟩ := hy (by rw [← HL.out]; omega)
          have hlt2 : k < U.length := by rw [← HL.out]; exact hlt
          have gx := (hB.cell (p := ⟨bx, ox + k * 2, none⟩) hbx).trans (hcx k hlt).1
          have gx2 := (hB.cell (p := ⟨bx, ox + k * 2 + 1, none⟩) hbx).trans (hcx k hlt).2
          have gy := (hB.cell (p := ⟨by', oy + k * 2, none⟩) hby).trans (hcy k hlt2).1
          have gy2 := (hB.cell (p := ⟨by', oy + k * 2 + 1, none⟩) hby).trans (hcy k hlt2).2
          have zx : bx < wr.heap.size := by omega
          have zy : by' < wr.heap.size := by omega
          clear hx hy hcx hcy
          have hne := fun w' => pair_ne w' (V[k]?.getD (0, 0)).1 (V[k]?.getD (0, 0)).2 (U[k]?.getD (0, 0)).1 (U[k]?.getD (0, 0)).2
          by_cases he : V[k]?.getD (0, 0) = U[k]?.getD (0, 0)
          · have HT2 := Lib.hid (take_eq_stepP V U k hlt hlt2 HT.out he)
            rw [he] at gx gx2 hne
            generalize U[k]?.getD (0, 0) = pr at *
            obtain ⟨u1, u2⟩ := pr
            simp only [decide_true, Bool.not_true] at hne gx gx2 gy gy2
            clear he
            go_wp2
            go_quiet (fail)
            go_wp2
            refine ⟨⟨k + 1, by omega, by go_num, HT2.out, Below.drewN' _ hB, hzz, e0, e1⟩, by simp [intOf]; omega⟩
          · have HE : Hid (V ≠ U) := Lib.hid (by rintro rfl; exact he rfl)
            have hf : (decide (((V[k]?.getD (0, 0)).1, (V[k]?.getD (0, 0)).2) = ((U[k]?.getD (0, 0)).1, (U[k]?.getD (0, 0)).2))) = false := by
              rw [decide_eq_false_iff_not]; exact he
            rw [hf] at hne
            clear hf he
            generalize V[k]?.getD (0, 0) = pv at *
            generalize U[k]?.getD (0, 0) = pr at *
            obtain ⟨u1, u2⟩ := pr
            obtain ⟨v1, v2⟩ := pv
            simp only [Bool.not_false] at hne gx gx2 gy gy2
            go_wp2
            go_quiet (fail)
            go_wp2
            go_ret
            exact ⟨ret_bool (by simp [HE.out]), Below.drewN' _ hB⟩
        · go_wp2
          go_ret
          refine ⟨ret_bool ?_, hB⟩
          have h1 := HT.out
          rw [List.take_of_length_le (by omega), List.take_of_length_le (by rw [← HL.out]; omega)] at h1
          simp [h1]
    · have h1 : ((V.length : Int) != (U.length : Int)) = true := by rw [bne_iff_ne]; omega
      have HE : Hid (V ≠ U) := Lib.hid (by rintro rfl; exact hll rfl)
      clear hll
      go_enter Try.func38, Try.ntmps38
      go_wp2
      go_ret
      exact ⟨ret_bool (by simp [HE.out]), bal (bal (bz _) _) _⟩
  · have h1 : (p != q) = true := by simpa using hpq
    go_enter Try.func38, Try.ntmps38
    go_wp2
    go_ret
    exact ⟨ret_bool (by simp [hpq]), bal (bal (bz _) _) _⟩
end Go.Proofs.Ytdnaipiiponhpaa

namespace Go.Proofs.Ytdnaipiiponhpaa
open Go.RowKit Go.Shelf

def rrunR (p : Int) (V : List (Int × Int)) (l : List Int) : List Int := if checkR p V ≠ 0 then [] else if (l.length : Int) ≠ p then [] else runV V l

set_option maxRecDepth 100000 in
set_option maxHeartbeats 1000000 in
theorem rrun_any (p : Int) (x y : Value) (V : List (Int × Int)) (q : List Int) (w : World) (hx0 : RdP w x V) (hy0 : RdI w .i64 y q) (hl : V.length ≤ 1000) (hq : q.length ≤ 1000) :
    Calls Try.prog 19 #[.agg #[.int .i64 p, x], y] w fun e w' => ∃ v, e = .returned (.tuple #[v, .int .i64 (runE p V q)]) ∧ RdI w' .i64 v (rrunR p V q) ∧ Below w.heap.size w w' := by
  obtain ⟨a, ca, rfl, _, _, _⟩ := hx0.form
  obtain ⟨b, cb, rfl, _, _, hyf⟩ := hy0.form
  unfold runE rrunR
  have H0 := Lib.hid fun w1 (hB : Below w.heap.size w w1) => rcheck_any p _ V w1 (hx0.mono hB) hl
  by_cases h : checkR p V = 0
  · have hc0 : ¬ (checkR p V ≠ 0) := by simpa using h
    simp only [if_neg hc0]
    rw [h] at H0
    have hV := okRow_of h
    clear hc0 h
    have hp1 := hV.p1; have hp8 := hV.p8; have h40 := hV.len
    by_cases hlen : (q.length : Int) = p
    · subst hlen
      simp only [ne_eq, not_true_eq_false, if_false]
      go_enter Try.func19, Try.ntmps19
      go_wp2_with fail
      refine (H0.out _ (bal (bz _) _)).mono ?_
      rintro e w2 ⟨rfl, hB2⟩
      have hB3 : Below w.heap.size w w2 := btr (bal (bz _) _) hB2
      have c0 : w2.cell? ⟨w.heap.size, 0, none⟩ = some (.int .i64 q.length) := (hB2.cell (by simp)).trans (cnew rfl rfl)
      have c1 : w2.cell? ⟨w.heap.size, 1, none⟩ = some (.slice a V.length ca) := (hB2.cell (by simp)).trans (cnew rfl rfl)
      go_wp2_with fail
      refine (runof_any _ _ V q w2 (hx0.mono hB3) (hy0.mono hB3) (by omega) hq hl (fun v hv => by obtain ⟨h1, h2, h3⟩ := hV.ok v hv; omega)).mono ?_
      rintro e w3 ⟨v, rfl, hown, hB4⟩
      have hlv : (runV V q).length = q.length := runV_length _ _
      have HOW := Lib.hid hown; clear hown
      go_wp2
      go_ret2
      exact ⟨v, rfl, RdI.of_owns HOW.out, btr hB3 hB4⟩
    · have hc0 : (q.length : Int) ≠ p := by simpa using hlen
      simp only [if_pos hc0]
      have hne : ((q.length : Int) != p) = true := by simpa using hlen
      clear hc0
      go_enter Try.func19, Try.ntmps19
      go_wp2_with fail
      refine (H0.out _ (bal (bz _) _)).mono ?_
      rintro e w2 ⟨rfl, hB2⟩
      have hB3 : Below w.heap.size w w2 := btr (bal (bz _) _) hB2
      have c0 : w2.cell? ⟨w.heap.size, 0, none⟩ = some (.int .i64 p) := (hB2.cell (by simp)).trans (cnew rfl rfl)
      go_wp2
      go_ret2
      exact ⟨_, rfl, rdI_nil _ _, hB3⟩
  · simp only [if_pos (show checkR p V ≠ 0 from h)]
    generalize checkR p V = c at *
    have e0 : (c != 0) = true := by simpa using h
    clear h
    go_enter Try.func19, Try.ntmps19
    go_wp2_with fail
    refine (H0.out _ (bal (bz _) _)).mono ?_
    rintro e w2 ⟨rfl, hB2⟩
    have hB3 : Below w.heap.size w w2 := btr (bal (bz _) _) hB2
    have c0 : w2.cell? ⟨w.heap.size, 0, none⟩ = some (.int .i64 p) := (hB2.cell (by simp)).trans (cnew rfl rfl)
    have c1 : w2.cell? ⟨w.heap.size, 1, none⟩ = some (.slice a V.length ca) := (hB2.cell (by simp)).trans (cnew rfl rfl)
    go_wp2_with fail
    refine (H0.out _ hB3).mono ?_
    rintro e w3 ⟨rfl, hB4⟩
    go_wp2
    go_ret2
    exact ⟨_, rfl, rdI_nil _ _, btr hB3 hB4⟩

/-- What lies behind the last place does not matter. -/
theorem stepV_pad (l z : List Int) (v : Int × Int) (h1 : 0 ≤ v.1) (h2 : v.1 < v.2) (h3 : v.2 < l.length) : stepV (l ++ z) v = stepV l v ++ z := by
  unfold stepV
  have a1 : v.1.toNat < l.length := by omega
  have a2 : v.2.toNat < l.length := by omega
  rw [List.getElem?_append_left a1, List.getElem?_append_left a2]
  split
  · rw [List.set_append_left _ _ a1, List.set_append_left _ _ (by simpa using a2)]
  · rfl
theorem runV_pad (V : List (Int × Int)) : ∀ (l z : List Int), (∀ v ∈ V, 0 ≤ v.1 ∧ v.1 < v.2 ∧ v.2 < l.length) → runV V (l ++ z) = runV V l ++ z := by
  induction V with
  | nil => intro l z _; rfl
  | cons v V ih =>
    intro l z h
    obtain ⟨h1, h2, h3⟩ := h v (by simp)
    show runV V (stepV (l ++ z) v) = runV V (stepV l v) ++ z
    rw [stepV_pad l z v h1 h2 h3]
    exact ih _ _ fun u hu => by rw [stepV_length]; exact h u (by simp [hu])
theorem fill8 (l : List Int) (h : l.length ≤ 8) : fillK 8 l.length l = l ++ List.replicate (8 - l.length) 0 := by
  apply List.ext_getElem
  · simp [fillK]; omega
  · intro i h1 h2
    have h3 : i < 8 := by simpa [fillK] using h1
    simp only [fillK, List.getElem_map, List.getElem_range]
    by_cases e : i < l.length
    · rw [if_pos e, List.getElem_append_left e]; simp [e]
    · rw [if_neg e, List.getElem_append_right (by omega)]; simp
theorem runR_eq (p : Int) (V : List (Int × Int)) (l : List Int) : runR p V l = rrunR p V l := by
  unfold runR rrunR
  split
  · rfl
  · rename_i h
    have hV := okRow_of (by simpa using h)
    have hp8 := hV.p8
    split
    · rfl
    · rename_i h2
      have hlen : (l.length : Int) = p := by simpa using h2
      rw [fill8 l (by omega), runV_pad V l _ (fun v hv => by obtain ⟨h1, h2, h3⟩ := hV.ok v hv; omega)]
      rw [List.take_append_of_le_length (by rw [runV_length]; omega), List.take_of_length_le (by rw [runV_length]; omega)]
end Go.Proofs.Ytdnaipiiponhpaa

namespace Go.Proofs.Ytdnaipiiponhpaa
open Go.RowKit Go.Shelf

/-- The number of the first pattern that is not sorted. -/
def badB (p : Nat) (V : List (Int × Int)) (t : Nat) : Bool := !sortedB (runV V (bitsOf p t))
def patOf (p : Nat) (V : List (Int × Int)) : Option Nat := (List.range (2 ^ p)).find? (badB p V)
def patOfL (p : Nat) (V : List (Int × Int)) : List Int := match patOf p V with | some t => bitsOf p t | none => []

set_option maxRecDepth 100000 in
set_option maxHeartbeats 1000000 in
theorem patternof_any (p : Nat) (x : Value) (V : List (Int × Int)) (w : World) (hx0 : RdP w x V) (hV : OkRow p V) :
    Calls Try.prog 66 #[.agg #[.int .i64 p, x]] w fun e w' => ∃ v, e = .returned (.tuple #[v, .bool (patOf p V).isSome]) ∧ RdI w' .i64 v (patOfL p V) ∧ Below w.heap.size w w' := by
  have hp1 := hV.p1; have hp8 := hV.p8; have h40 := hV.len
  obtain ⟨a, ca, rfl, _, _, _⟩ := hx0.form
  have h256 := pow_le_8 p (by omega)
  obtain ⟨m, hm⟩ : ∃ m, m = 2 ^ p := ⟨_, rfl⟩
  have hwp : wrap64 ((2 : Int) ^ p) = (m : Int) := by
    have e : (2 : Int) ^ p = ((2 ^ p : Nat) : Int) := by simp
    rw [e, ← hm]
    unfold wrap64
    omega
  have HM := Lib.hid hm
  rw [← hm] at h256
  clear hm
  go_enter Try.func66, Try.ntmps66
  go_wp2
  go_loopw [4, 5, 6, 7, 8, 9, 10, 11, 12, 13, 14, 15, 16, 17, 18, 19, 20, 21, 22, 23, 24] (fun i _ _ _ _ _ _ _ _ _ _ _ _ _ _ _ _ _ _ _ _ wr => ∃ t : Nat, t ≤ m ∧ i = .int .i64 t ∧ Below w.heap.size w wr ∧ w.heap.size < wr.heap.size ∧ wr.cell? ⟨w.heap.size, 0, none⟩ = some (.int .i64 p) ∧ wr.cell? ⟨w.heap.size, 1, none⟩ = some (.slice a V.length ca) ∧ ∀ s, s < t → badB p V s = false)
    (fun i _ _ _ _ _ _ _ _ _ _ _ _ _ _ _ _ _ _ _ _ _ => m - (intOf i).toNat)
  case atStart => exact ⟨0, Nat.zero_le _, rfl, bal (bz _) _, by simp, cnew rfl rfl, cnew rfl rfl, by intro s h; omega⟩
  case round =>
    obtain ⟨t, ht, rfl, hB, hz, c0, c1, hall⟩ := hrel
    have HA := Lib.hid hall; clear hall
    by_cases htp : t < m
    · go_wp2_with fail
      refine (patterned_any p t wr (by omega) (by omega)).mono ?_
      rintro e w2 ⟨v, rfl, hown, hB2⟩
      have hB3 : Below w.heap.size w w2 := btr hB hB2
      have d0 := (hB2.cell (p := ⟨w.heap.size, 0, none⟩) hz).trans c0
      have d1 := (hB2.cell (p := ⟨w.heap.size, 1, none⟩) hz).trans c1
      have hbl : (bitsOf p t).length = p := by simp [bitsOf]
      have hrd : RdI w2 .i64 v (bitsOf p t) := RdI.of_owns hown
      have HRD := Lib.hid hrd
      have hz2 := hB2.size
      clear hown c0 c1 hrd
      go_wp2_with fail
      refine (runof_any _ _ V (bitsOf p t) w2 (hx0.mono hB3) HRD.out (by omega) (by omega) (by omega) (fun v hv => by obtain ⟨h1, h2, h3⟩ := hV.ok v hv; omega)).mono ?_
      rintro e w3 ⟨v3, rfl, hown3, hB4⟩
      have hrd3 : RdI w3 .i64 v3 (runV V (bitsOf p t)) := RdI.of_owns hown3
      have hlr : (runV V (bitsOf p t)).length = p := by rw [runV_length]; exact hbl
      have HRD3 := Lib.hid hrd3
      clear hown3 hrd3
      go_wp2_with fail
      refine (sorted_any _ _ w3 HRD3.out (by omega)).mono ?_
      rintro e w4 ⟨rfl, hB5⟩
      have hB6 : Below w.heap.size w w4 := btr (btr hB3 hB4) hB5
      have hB7 : Below w2.heap.size w2 w4 := btr hB4 hB5
      have g0 := (hB7.cell (p := ⟨w.heap.size, 0, none⟩) (by simp; omega)).trans d0
      have g1 := (hB7.cell (p := ⟨w.heap.size, 1, none⟩) (by simp; omega)).trans d1
      have hz7 := hB7.size
      have hbad : badB p V t = !sortedB (runV V (bitsOf p t)) := rfl
      generalize sortedB (runV V (bitsOf p t)) = s at *
      have HBAD := Lib.hid hbad; clear hbad
      have HRD4 := Lib.hid (HRD.out.mono hB7)
      cases s
      · have hpo : patOf p V = some t := by
          unfold patOf
          rw [← HM.out, List.find?_range_eq_some]
          exact ⟨HBAD.out, by simpa using htp, fun s hs => by rw [HA.out s hs]; rfl⟩
        have HPO := Lib.hid hpo; clear hpo
        go_wp2_with fail
        refine (rints_any _ _ w4 HRD4.out (by omega)).mono ?_
        rintro e w5 ⟨v5, rfl, hown5, hB8⟩
        have HO5 := Lib.hid hown5; clear hown5
        go_wp2
        go_ret2
        refine ⟨v5, by rw [HPO.out]; rfl, ?_, btr hB6 hB8⟩
        unfold patOfL
        rw [HPO.out]
        exact RdI.of_owns HO5.out
      · go_wp2
        refine ⟨⟨t + 1, by omega, by simp, hB6, by omega, g0, g1, fun s hs => ?_⟩, by simp [intOf]; omega⟩
        by_cases e : s = t
        · subst e; exact HBAD.out
        · exact HA.out s (by omega)
    · have hpo : patOf p V = none := by
        unfold patOf
        rw [List.find?_eq_none]
        intro s hs
        rw [List.mem_range, ← HM.out] at hs
        rw [HA.out s (by omega)]
        simp
      have HPO := Lib.hid hpo; clear hpo
      go_wp2
      go_ret2
      refine ⟨.slice none 0 0, by rw [HPO.out]; rfl, ?_, hB⟩
      unfold patOfL
      rw [HPO.out]
      exact rdI_nil _ _
end Go.Proofs.Ytdnaipiiponhpaa

namespace Go.Proofs.Ytdnaipiiponhpaa
open Go.RowKit Go.Shelf

def rsortsE (p : Int) (V : List (Int × Int)) : Int := if checkR p V ≠ 0 then checkR p V else if (patOf p.toNat V).isSome then 23 else 0

set_option maxRecDepth 100000 in
set_option maxHeartbeats 1000000 in
theorem rsorts_any (p : Int) (x : Value) (V : List (Int × Int)) (w : World) (hx0 : RdP w x V) (hl : V.length ≤ 1000) :
    Calls Try.prog 28 #[.agg #[.int .i64 p, x]] w fun e w' => e = .returned (.int .i64 (rsortsE p V)) ∧ Below w.heap.size w w' := by
  obtain ⟨a, ca, rfl, _, _, _⟩ := hx0.form
  have H0 := Lib.hid fun w1 (hB : Below w.heap.size w w1) => rcheck_any p _ V w1 (hx0.mono hB) hl
  unfold rsortsE
  by_cases h : checkR p V = 0
  · have hc0 : ¬ (checkR p V ≠ 0) := by simpa using h
    rw [if_neg hc0]
    rw [h] at H0
    obtain ⟨n, rfl, hV⟩ := cond_row h
    clear hc0 h
    rw [show ((n : Nat) : Int).toNat = n by omega]
    have H1 := Lib.hid fun w1 (hB : Below w.heap.size w w1) => patternof_any n _ V w1 (hx0.mono hB) hV
    generalize (patOf n V).isSome = s at *
    cases s
    · rw [if_neg (by simp)]
      go_enter Try.func28, Try.ntmps28
      go_wp2_with fail
      refine (H0.out _ (bal (bz _) _)).mono ?_
      rintro e w2 ⟨rfl, hB2⟩
      have hB3 : Below w.heap.size w w2 := btr (bal (bz _) _) hB2
      have c0 : w2.cell? ⟨w.heap.size, 0, none⟩ = some (.int .i64 n) := (hB2.cell (by simp)).trans (cnew rfl rfl)
      have c1 : w2.cell? ⟨w.heap.size, 1, none⟩ = some (.slice a V.length ca) := (hB2.cell (by simp)).trans (cnew rfl rfl)
      go_wp2_with fail
      refine (H1.out _ hB3).mono ?_
      rintro e w3 ⟨v, rfl, _, hB4⟩
      go_wp2
      go_ret
      exact ⟨rfl, btr hB3 hB4⟩
    · rw [if_pos rfl]
      go_enter Try.func28, Try.ntmps28
      go_wp2_with fail
      refine (H0.out _ (bal (bz _) _)).mono ?_
      rintro e w2 ⟨rfl, hB2⟩
      have hB3 : Below w.heap.size w w2 := btr (bal (bz _) _) hB2
      have c0 : w2.cell? ⟨w.heap.size, 0, none⟩ = some (.int .i64 n) := (hB2.cell (by simp)).trans (cnew rfl rfl)
      have c1 : w2.cell? ⟨w.heap.size, 1, none⟩ = some (.slice a V.length ca) := (hB2.cell (by simp)).trans (cnew rfl rfl)
      go_wp2_with fail
      refine (H1.out _ hB3).mono ?_
      rintro e w3 ⟨v, rfl, _, hB4⟩
      go_wp2
      go_ret
      exact ⟨rfl, btr hB3 hB4⟩
  · rw [if_pos h]
    generalize checkR p V = c at *
    have e0 : (c != 0) = true := by simpa using h
    clear h
    go_enter Try.func28, Try.ntmps28
    go_wp2_with fail
    refine (H0.out _ (bal (bz _) _)).mono ?_
    rintro e w2 ⟨rfl, hB2⟩
    have hB3 : Below w.heap.size w w2 := btr (bal (bz _) _) hB2
    have c0 : w2.cell? ⟨w.heap.size, 0, none⟩ = some (.int .i64 p) := (hB2.cell (by simp)).trans (cnew rfl rfl)
    have c1 : w2.cell? ⟨w.heap.size, 1, none⟩ = some (.slice a V.length ca) := (hB2.cell (by simp)).trans (cnew rfl rfl)
    go_wp2_with fail
    refine (H0.out _ hB3).mono ?_
    rintro e w3 ⟨rfl, hB4⟩
    go_wp2
    go_ret
    exact ⟨rfl, btr hB3 hB4⟩

def rpatE (p : Int) (V : List (Int × Int)) : Int := if checkR p V ≠ 0 then checkR p V else if (patOf p.toNat V).isSome then 0 else 5
def rpatL (p : Int) (V : List (Int × Int)) : List Int := if checkR p V ≠ 0 then [] else patOfL p.toNat V

set_option maxRecDepth 100000 in
set_option maxHeartbeats 1000000 in
theorem rpattern_any (p : Int) (x : Value) (V : List (Int × Int)) (w : World) (hx0 : RdP w x V) (hl : V.length ≤ 1000) :
    Calls Try.prog 24 #[.agg #[.int .i64 p, x]] w fun e w' => ∃ v, e = .returned (.tuple #[v, .int .i64 (rpatE p V)]) ∧ RdI w' .i64 v (rpatL p V) ∧ Below w.heap.size w w' := by
  obtain ⟨a, ca, rfl, _, _, _⟩ := hx0.form
  have H0 := Lib.hid fun w1 (hB : Below w.heap.size w w1) => rcheck_any p _ V w1 (hx0.mono hB) hl
  unfold rpatE rpatL
  by_cases h : checkR p V = 0
  · have hc0 : ¬ (checkR p V ≠ 0) := by simpa using h
    simp only [if_neg hc0]
    rw [h] at H0
    obtain ⟨n, rfl, hV⟩ := cond_row h
    clear hc0 h
    rw [show ((n : Nat) : Int).toNat = n by omega]
    have H1 := Lib.hid fun w1 (hB : Below w.heap.size w w1) => patternof_any n _ V w1 (hx0.mono hB) hV
    have hnil : (patOf n V).isSome = false → patOfL n V = [] := by
      intro h; unfold patOfL; cases hp : patOf n V with
      | none => rfl
      | some t => rw [hp] at h; cases h
    generalize (patOf n V).isSome = s at *
    have HNIL := Lib.hid hnil; clear hnil
    cases s
    · rw [if_neg (by simp)]
      go_enter Try.func24, Try.ntmps24
      go_wp2_with fail
      refine (H0.out _ (bal (bz _) _)).mono ?_
      rintro e w2 ⟨rfl, hB2⟩
      have hB3 : Below w.heap.size w w2 := btr (bal (bz _) _) hB2
      have c0 : w2.cell? ⟨w.heap.size, 0, none⟩ = some (.int .i64 n) := (hB2.cell (by simp)).trans (cnew rfl rfl)
      have c1 : w2.cell? ⟨w.heap.size, 1, none⟩ = some (.slice a V.length ca) := (hB2.cell (by simp)).trans (cnew rfl rfl)
      go_wp2_with fail
      refine (H1.out _ hB3).mono ?_
      rintro e w3 ⟨v, rfl, _, hB4⟩
      go_wp2
      go_ret2
      exact ⟨.slice none 0 0, rfl, by have h := HNIL.out; simp only [forall_const] at h; rw [h]; exact rdI_nil _ _, btr hB3 hB4⟩
    · rw [if_pos rfl]
      go_enter Try.func24, Try.ntmps24
      go_wp2_with fail
      refine (H0.out _ (bal (bz _) _)).mono ?_
      rintro e w2 ⟨rfl, hB2⟩
      have hB3 : Below w.heap.size w w2 := btr (bal (bz _) _) hB2
      have c0 : w2.cell? ⟨w.heap.size, 0, none⟩ = some (.int .i64 n) := (hB2.cell (by simp)).trans (cnew rfl rfl)
      have c1 : w2.cell? ⟨w.heap.size, 1, none⟩ = some (.slice a V.length ca) := (hB2.cell (by simp)).trans (cnew rfl rfl)
      go_wp2_with fail
      refine (H1.out _ hB3).mono ?_
      rintro e w3 ⟨v, rfl, hrd, hB4⟩
      have HRD := Lib.hid hrd; clear hrd
      go_wp2
      go_ret2
      exact ⟨v, rfl, HRD.out, btr hB3 hB4⟩
  · simp only [if_pos (show checkR p V ≠ 0 from h)]
    generalize checkR p V = c at *
    have e0 : (c != 0) = true := by simpa using h
    clear h
    go_enter Try.func24, Try.ntmps24
    go_wp2_with fail
    refine (H0.out _ (bal (bz _) _)).mono ?_
    rintro e w2 ⟨rfl, hB2⟩
    have hB3 : Below w.heap.size w w2 := btr (bal (bz _) _) hB2
    have c0 : w2.cell? ⟨w.heap.size, 0, none⟩ = some (.int .i64 p) := (hB2.cell (by simp)).trans (cnew rfl rfl)
    have c1 : w2.cell? ⟨w.heap.size, 1, none⟩ = some (.slice a V.length ca) := (hB2.cell (by simp)).trans (cnew rfl rfl)
    go_wp2_with fail
    refine (H0.out _ hB3).mono ?_
    rintro e w3 ⟨rfl, hB4⟩
    go_wp2
    go_ret2
    exact ⟨_, rfl, rdI_nil _ _, btr hB3 hB4⟩
end Go.Proofs.Ytdnaipiiponhpaa

namespace Go.Proofs.Ytdnaipiiponhpaa
open Go.RowKit Go.Shelf

def rchkE (p : Int) (V : List (Int × Int)) (q : List Int) : Int :=
  if checkR p V ≠ 0 then checkR p V else if (q.length : Int) ≠ p then 15 else if q.any (outB 0 1) then 3 else if sortedB (runV V q) then 5 else 0

set_option maxRecDepth 100000 in
set_option maxHeartbeats 1000000 in
theorem rchkpat_any (p : Int) (x y : Value) (V : List (Int × Int)) (q : List Int) (w : World) (hx0 : RdP w x V) (hy0 : RdI w .i64 y q) (hl : V.length ≤ 1000) (hq : q.length ≤ 1000) :
    Calls Try.prog 30 #[.agg #[.int .i64 p, x], y] w fun e w' => e = .returned (.int .i64 (rchkE p V q)) ∧ Below w.heap.size w w' := by
  obtain ⟨a, ca, rfl, _, _, _⟩ := hx0.form
  obtain ⟨b, cb, rfl, _, _, hyf⟩ := hy0.form
  have H0 := Lib.hid fun w1 (hB : Below w.heap.size w w1) => rcheck_any p _ V w1 (hx0.mono hB) hl
  unfold rchkE
  by_cases h : checkR p V = 0
  · have hc0 : ¬ (checkR p V ≠ 0) := by simpa using h
    rw [if_neg hc0]
    rw [h] at H0
    obtain ⟨n, rfl, hV⟩ := cond_row h
    clear hc0 h
    have hp1 := hV.p1; have hp8 := hV.p8; have h40 := hV.len
    by_cases hlen : (q.length : Int) = n
    · obtain rfl : n = q.length := by omega
      clear hlen
      rw [if_neg (by simp)]
      obtain ⟨i0, hi, hz0, hz1, hz2⟩ := info_parts Try.info2
      obtain ⟨bq, oq, rfl, hbq, hcq⟩ := hyf (by omega)
      have HCQ := Lib.hid hcq; clear hyf hcq
      generalize hr : (if q.any (outB 0 1) = true then (3 : Int) else if sortedB (runV V q) = true then 5 else 0) = r
      have HR := Lib.hid hr; clear hr
      go_enter Try.func30, Try.ntmps30
      go_wp2_with fail
      refine (H0.out _ (bal (bz _) _)).mono ?_
      rintro e w2 ⟨rfl, hB2⟩
      have hB3 : Below w.heap.size w w2 := btr (bal (bz _) _) hB2
      have c0 : w2.cell? ⟨w.heap.size, 0, none⟩ = some (.int .i64 q.length) := (hB2.cell (by simp)).trans (cnew rfl rfl)
      have c1 : w2.cell? ⟨w.heap.size, 1, none⟩ = some (.slice a V.length ca) := (hB2.cell (by simp)).trans (cnew rfl rfl)
      have hzB := hB2.size
      simp only [World.size_alloc] at hzB
      go_wp2
      go_loopw [5, 6, 17, 18, 19, 20, 21, 22, 23, 24, 25, 26, 27, 28, 29, 30, 31, 32, 33, 34, 35, 36, 37, 38, 39, 40, 41] (fun o i _ _ _ _ _ _ _ _ _ _ _ _ _ _ _ _ _ _ _ _ _ _ _ _ _ wr => ∃ k : Nat, k ≤ q.length ∧ i = .int .i64 k ∧ Below w2.heap.size w2 wr ∧ wr.ownsRow w2.heap.size 2 1 o k ((q.take k).map (Value.int .i64)) ∧ ∀ s, s < k → outB 0 1 (q[s]?.getD 0) = false)
        (fun _ i _ _ _ _ _ _ _ _ _ _ _ _ _ _ _ _ _ _ _ _ _ _ _ _ _ _ => ((q.length : Int) - intOf i).toNat)
      case atStart => exact ⟨0, Nat.zero_le _, rfl, bz _, World.ownsRow_nil _ _ _ _, by intro s h; omega⟩
      case round =>
        obtain ⟨k, hk, rfl, hbr, hor, hall⟩ := hrel
        have HA := Lib.hid hall; have hO := Lib.hid hor; clear hall hor
        have hwz := hbr.size
        by_cases hkp : k < q.length
        · have hcc := ((hB3.trans (hbr.mono (by omega))).cell (p := ⟨bq, oq + k, none⟩) hbq).trans (HCQ.out k hkp)
          have htk : (q.take (k + 1)) = q.take k ++ [q[k]?.getD 0] := by
            rw [List.take_succ_eq_append_getElem hkp]; simp [hkp]
          have hanyk : outB 0 1 (q[k]?.getD 0) = true → q.any (outB 0 1) = true := fun h => by
            rw [List.any_eq_true]; exact ⟨q[k], List.getElem_mem hkp, by simpa [hkp] using h⟩
          have hob : outB 0 1 (q[k]?.getD 0) = decide (q[k]?.getD 0 < 0 ∨ 1 < q[k]?.getD 0) := rfl
          have HTK := Lib.hid htk; have HAK := Lib.hid hanyk; have HOB := Lib.hid hob
          have HV0 := Lib.hid (rfl : q[k]?.getD 0 = q[k]?.getD 0)
          clear htk hanyk hob
          generalize hv : q[k]?.getD 0 = v at *
          have HV := Lib.hid hv; clear hv HV0
          by_cases h0 : v < 0
          · go_wp2
            go_ret
            exact ⟨ret_int (by rw [← HR.out, if_pos (HAK.out (by rw [HOB.out]; simp [h0]))]), btr hB3 hbr⟩
          · by_cases h1 : 1 < v
            · go_wp2
              go_ret
              exact ⟨ret_int (by rw [← HR.out, if_pos (HAK.out (by rw [HOB.out]; simp [h1]))]), btr hB3 hbr⟩
            · go_wp2_with (at_builtin; refine wpList_append_own _ rfl _ _ 25 rfl w2.heap.size 2 i0 (.int .i64 0) 1 8 Try.underlying25 hi hz0 hz1 hz2 rfl (by decide) _ _ _ rfl (hO.out.alloc _) ⟨wr.heap.size, 0, none⟩ 1 1 [.int .i64 v] rfl rfl (cell_one_new _ _ _) (one_int _ _) (by simp only [maxLen]; omega) (by omega) (by simp; omega) ?_)
              intro v' w' hown' hgrow hnil
              have hB8 : Below w2.heap.size w2 w' := append_below (bal hbr _) (hO.out.alloc _) hgrow (Nat.le_refl _)
              have HOW := Lib.hid hown'; clear hown' hgrow hnil
              go_wp2
              refine ⟨⟨k + 1, by omega, by simp, hB8, ?_, fun s hs => ?_⟩, by simp [intOf]; omega⟩
              · rw [HTK.out, List.map_append, List.map_take]; exact HOW.out
              · by_cases e : s = k
                · subst e; rw [HV.out, HOB.out]; simp [h0, h1]
                · exact HA.out s (by omega)
        · obtain rfl : k = q.length := by omega
          have hany : q.any (outB 0 1) = false := by
            rw [List.any_eq_false]
            intro x hx
            obtain ⟨i, hi, rfl⟩ := List.getElem_of_mem hx
            have := HA.out i hi
            rw [List.getElem?_eq_getElem hi, Option.getD_some] at this
            simp [this]
          have hr2 : (if sortedB (runV V q) = true then (5 : Int) else 0) = r := by rw [← HR.out, hany]; rfl
          have HR2 := Lib.hid hr2; clear hr2 hany
          have hrd := hO.out
          rw [List.take_length] at hrd
          have hrd2 := RdI.of_owns hrd
          have HRD := Lib.hid hrd2; clear hrd hrd2
          have hzl : w.heap.size < w2.heap.size := by omega
          have d0 := (hbr.cell (p := ⟨w.heap.size, 0, none⟩) hzl).trans c0
          have d1 := (hbr.cell (p := ⟨w.heap.size, 1, none⟩) hzl).trans c1
          have hB9 := btr hB3 hbr
          go_wp2_with fail
          refine (runof_any _ _ V q wr (hx0.mono hB9) HRD.out (by omega) hq hl (fun v hv => by obtain ⟨h1, h2, h3⟩ := hV.ok v hv; omega)).mono ?_
          rintro e w3 ⟨v3, rfl, hown3, hB4⟩
          have hlr : (runV V q).length = q.length := runV_length _ _
          have hrd3 : RdI w3 .i64 v3 (runV V q) := RdI.of_owns hown3
          have HRD3 := Lib.hid hrd3; clear hown3 hrd3
          go_wp2_with fail
          refine (sorted_any _ _ w3 HRD3.out (by omega)).mono ?_
          rintro e w4 ⟨rfl, hB5⟩
          generalize hs : sortedB (runV V q) = s at *
          have HS := Lib.hid hs; clear hs
          cases s
          · go_wp2
            go_ret
            exact ⟨ret_int HR2.out, btr (btr hB9 hB4) hB5⟩
          · go_wp2
            go_ret
            exact ⟨ret_int HR2.out, btr (btr hB9 hB4) hB5⟩
    · rw [if_pos (by simpa using hlen)]
      have hne : ((q.length : Int) != (n : Int)) = true := by simpa using hlen
      go_enter Try.func30, Try.ntmps30
      go_wp2_with fail
      refine (H0.out _ (bal (bz _) _)).mono ?_
      rintro e w2 ⟨rfl, hB2⟩
      have hB3 : Below w.heap.size w w2 := btr (bal (bz _) _) hB2
      have c0 : w2.cell? ⟨w.heap.size, 0, none⟩ = some (.int .i64 n) := (hB2.cell (by simp)).trans (cnew rfl rfl)
      go_wp2
      go_ret
      exact ⟨rfl, hB3⟩
  · rw [if_pos h]
    generalize checkR p V = c at *
    have e0 : (c != 0) = true := by simpa using h
    clear h
    go_enter Try.func30, Try.ntmps30
    go_wp2_with fail
    refine (H0.out _ (bal (bz _) _)).mono ?_
    rintro e w2 ⟨rfl, hB2⟩
    have hB3 : Below w.heap.size w w2 := btr (bal (bz _) _) hB2
    have c0 : w2.cell? ⟨w.heap.size, 0, none⟩ = some (.int .i64 p) := (hB2.cell (by simp)).trans (cnew rfl rfl)
    have c1 : w2.cell? ⟨w.heap.size, 1, none⟩ = some (.slice a V.length ca) := (hB2.cell (by simp)).trans (cnew rfl rfl)
    go_wp2_with fail
    refine (H0.out _ hB3).mono ?_
    rintro e w3 ⟨rfl, hB4⟩
    go_wp2
    go_ret
    exact ⟨rfl, btr hB3 hB4⟩
end Go.Proofs.Ytdnaipiiponhpaa

namespace Go.Proofs.Ytdnaipiiponhpaa
open Go.RowKit Go.Shelf

set_option maxRecDepth 100000 in
set_option maxHeartbeats 400000 in
theorem rsame_any (x y : Value) (xs ys : List Int) (w : World) (hx0 : RdI w .i64 x xs) (hy0 : RdI w .i64 y ys) (hl : xs.length ≤ 1000) (hll : xs.length = ys.length) :
    Calls Try.prog 82 #[x, y] w fun e w' => e = .returned (.bool (decide (xs = ys))) ∧ Below w.heap.size w w' := by
  obtain ⟨a, ca, rfl, _, _, hx⟩ := hx0.form
  obtain ⟨b, cb, rfl, _, _, hy⟩ := hy0.form
  clear hx0 hy0
  have HL := Lib.hid hll; clear hll
  go_enter Try.func82, Try.ntmps82
  go_wp2
  go_loopw [5, 6, 7, 8, 9, 10, 11, 12, 13, 14, 15, 16, 17, 18, 19, 20] (fun i _ _ _ _ _ _ _ _ _ _ _ _ _ _ _ wr => ∃ k : Nat, k ≤ xs.length ∧ i = .int .i64 k ∧ xs.take k = ys.take k ∧ Below w.heap.size w wr) (fun i _ _ _ _ _ _ _ _ _ _ _ _ _ _ _ _ => xs.length - (intOf i).toNat)
  case atStart => exact ⟨0, Nat.zero_le _, rfl, by simp, Below.refl _ _⟩
  case round =>
    obtain ⟨k, hk, rfl, ht, hB⟩ := hrel
    by_cases hlt : k < xs.length
    · obtain ⟨bx, ox, rfl, hbx, hcx⟩ := hx (by omega)
      obtain ⟨by', oy, rfl, hby, hcy⟩ := hy (by rw [← HL.out]; omega)
      have gx := (hB.cell (p := ⟨bx, ox + k, none⟩) hbx).trans (hcx k hlt)
      have hlt2 : k < ys.length := by rw [← HL.out]; exact hlt
      have gy := (hB.cell (p := ⟨by', oy + k, none⟩) hby).trans (hcy k hlt2)
      have HT := Lib.hid ht; clear ht
      clear hx hy hcx hcy
      by_cases he : xs[k]?.getD 0 = ys[k]?.getD 0
      · have hb1 : (xs[k]?.getD 0 != ys[k]?.getD 0) = false := by simp [he]
        have HE := Lib.hid he; clear he
        have HT2 := Lib.hid (take_eq_step xs ys k hlt hlt2 HT.out HE.out)
        generalize xs[k]?.getD 0 = p at *
        generalize ys[k]?.getD 0 = q at *
        go_wp2
        go_quiet (fail)
        go_wp2
        exact ⟨⟨k + 1, by omega, by go_num, HT2.out, Below.drewN' _ hB⟩, by simp [intOf]; omega⟩
      · have hb1 : (xs[k]?.getD 0 != ys[k]?.getD 0) = true := by simpa using he
        have HE := Lib.hid (ne_of_get xs ys k he); clear he
        generalize xs[k]?.getD 0 = p at *
        generalize ys[k]?.getD 0 = q at *
        go_wp2
        go_quiet (fail)
        go_wp2
        go_ret
        exact ⟨ret_bool (by simp [HE.out]), Below.drewN' _ hB⟩
    · have HT := Lib.hid ht; clear ht
      go_wp2
      go_ret
      refine ⟨ret_bool ?_, hB⟩
      have h1 := HT.out
      rw [List.take_of_length_le (by omega), List.take_of_length_le (by rw [← HL.out]; omega)] at h1
      simp [h1]
end Go.Proofs.Ytdnaipiiponhpaa
