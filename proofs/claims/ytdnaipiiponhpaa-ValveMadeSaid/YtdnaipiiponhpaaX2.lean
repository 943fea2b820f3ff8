/- Rounds: the round of each valve; every row of at most 1000 valves. -/
import Derived.Test.YtdnaipiiponhpaaW8
namespace Go.Proofs.Ytdnaipiiponhpaa
open Go.RowKit Go.Shelf

/-- One valve more: the last round of each place, and the rounds of all valves. -/
def stepR (s : List Int × List Int) (v : Int × Int) : List Int × List Int :=
  let n := 1 + (if s.1[v.1.toNat]?.getD 0 < s.1[v.2.toNat]?.getD 0 then s.1[v.2.toNat]?.getD 0 else s.1[v.1.toNat]?.getD 0)
  ((s.1.set v.1.toNat n).set v.2.toNat n, s.2 ++ [n])
def roundsS (V : List (Int × Int)) : List Int × List Int := V.foldl stepR (List.replicate 8 0, [])
theorem roundsS_snoc (V : List (Int × Int)) (k : Nat) (hk : k < V.length) : roundsS (V.take (k + 1)) = stepR (roundsS (V.take k)) (V[k]?.getD (0, 0)) := by
  unfold roundsS
  rw [List.take_succ_eq_append_getElem hk, List.foldl_append]
  simp [hk]
theorem roundsS_ok (V : List (Int × Int)) : ∀ k, k ≤ V.length → (roundsS (V.take k)).1.length = 8 ∧ (roundsS (V.take k)).2.length = k ∧ ∀ i : Nat, 0 ≤ (roundsS (V.take k)).1[i]?.getD 0 ∧ (roundsS (V.take k)).1[i]?.getD 0 ≤ k := by
  intro k
  induction k with
  | zero =>
    intro _
    refine ⟨rfl, rfl, fun i => ?_⟩
    show 0 ≤ (List.replicate 8 (0 : Int))[i]?.getD 0 ∧ (List.replicate 8 (0 : Int))[i]?.getD 0 ≤ ((0 : Nat) : Int)
    rw [List.getElem?_replicate]
    split <;> simp
  | succ k ih =>
    intro hk
    obtain ⟨h1, h2, h3⟩ := ih (by omega)
    rw [roundsS_snoc V k (by omega)]
    generalize V[k]?.getD (0, 0) = v
    generalize roundsS (V.take k) = s at *
    have ha := h3 v.1.toNat
    have hb := h3 v.2.toNat
    refine ⟨by simp [stepR, h1], by simp [stepR, h2], fun i => ?_⟩
    have key : ∀ (n : Int) (l : List Int) (j : Nat), 0 ≤ n ∧ n ≤ ((k + 1 : Nat) : Int) → (∀ i : Nat, 0 ≤ l[i]?.getD 0 ∧ l[i]?.getD 0 ≤ ((k + 1 : Nat) : Int)) → ∀ i : Nat, 0 ≤ (l.set j n)[i]?.getD 0 ∧ (l.set j n)[i]?.getD 0 ≤ ((k + 1 : Nat) : Int) := by
      intro n l j hn hl i
      rw [List.getElem?_set]
      split
      · split
        · exact hn
        · simp; omega
      · exact hl i
    unfold stepR
    simp only
    have hn : ∀ c : Prop, [Decidable c] → (0 ≤ 1 + (if c then s.1[v.2.toNat]?.getD 0 else s.1[v.1.toNat]?.getD 0) ∧ 1 + (if c then s.1[v.2.toNat]?.getD 0 else s.1[v.1.toNat]?.getD 0) ≤ ((k + 1 : Nat) : Int)) := by
      intro c _
      split <;> omega
    exact key _ _ _ (hn _) (key _ _ _ (hn _) fun i => by have := h3 i; omega) i
/-- Rounds' answers. -/
def roundsL (p : Int) (V : List (Int × Int)) : List Int := if checkR p V = 0 then (roundsS V).2 else []

set_option maxRecDepth 100000 in
set_option maxHeartbeats 400000 in
theorem best_any (x y : Int) (w : World) :
    Calls Try.prog 71 #[.int .i64 x, .int .i64 y, .func (.func 72) #[] #[]] w fun e w' => e = .returned (.int .i64 (if x < y then y else x)) ∧ Below w.heap.size w w' := by
  have H : ∀ w : World, Calls Try.prog 72 #[.int .i64 y, .int .i64 x] w fun e w' => e = .returned (.bool (decide (x < y))) ∧ w' = w := by
    intro w
    by_cases h : x < y
    · go_enter Try.func72, Try.ntmps72
      go_wp2
      go_ret
      exact ⟨ret_bool (by simp [h]), rfl⟩
    · go_enter Try.func72, Try.ntmps72
      go_wp2
      go_ret
      exact ⟨ret_bool (by simp [h]), rfl⟩
  by_cases h : x < y
  · rw [if_pos h]
    go_enter Try.func71, Try.ntmps71
    go_wp2_with (go_at_call 72; refine (H _).mono ?_; rintro e w2 ⟨rfl, rfl⟩)
    go_ret
    exact ⟨rfl, bz _⟩
  · rw [if_neg h]
    go_enter Try.func71, Try.ntmps71
    go_wp2_with (go_at_call 72; refine (H _).mono ?_; rintro e w2 ⟨rfl, rfl⟩)
    go_ret
    exact ⟨rfl, bz _⟩

set_option maxRecDepth 100000 in
set_option maxHeartbeats 1000000 in
theorem rounds_any (p : Int) (x : Value) (V : List (Int × Int)) (w : World) (hx0 : RdP w x V) (hl : V.length ≤ 1000) :
    Calls Try.prog 36 #[.agg #[.int .i64 p, x]] w fun e w' => ∃ v, e = .returned (.tuple #[v, .int .i64 (checkR p V)]) ∧ RdI w' .i64 v (roundsL p V) ∧ Below w.heap.size w w' := by
  obtain ⟨a, ca, rfl, hca, hca2, hxf⟩ := hx0.form
  unfold roundsL
  by_cases h : checkR p V = 0
  · simp only [if_pos h]
    obtain ⟨n, rfl, hV⟩ := cond_row h
    rw [h]
    clear h
    have hp1 := hV.p1; have hp8 := hV.p8; have h40 := hV.len
    have H0 := Lib.hid (open_ok n _ V _ (hx0.mono (bal (bz w) (.cells #[.int .i64 n, .slice a V.length ca] 24))) hV)
    obtain ⟨i0, hi, hz0, hz1, hz2⟩ := info_parts Try.info3'
    go_enter Try.func36, Try.ntmps36
    go_wp2_with fail
    refine H0.out.mono ?_
    rintro e w2 ⟨bb, rfl, hb0, hb, hB2⟩
    have hB3 : Below w.heap.size w w2 := btr (bal (bz _) _) hB2
    have hz3 := hB3.size
    obtain ⟨q0, q1, q2⟩ := id hb
    go_wp2
    go_loopw [7, 9, 10, 25, 26, 27, 28, 29, 30, 31, 32, 33, 34, 35, 36, 37, 38, 39, 40, 41, 42, 43, 44, 45, 46, 47, 48, 49, 50, 51] (fun o _ _ i _ _ _ _ _ _ _ _ _ _ _ _ _ _ _ _ _ _ _ _ _ _ _ _ _ _ wr => ∃ k : Nat, k ≤ V.length ∧ i = .int .i64 k ∧ Below w2.heap.size w2 wr ∧
        wr.heap[w2.heap.size]? = some (.cells (arrI (roundsS (V.take k)).1) 92 (0, 0)) ∧ wr.ownsRow (w2.heap.size + 1) 3 1 o k ((roundsS (V.take k)).2.map (Value.int .i64)))
      (fun _ _ _ i _ _ _ _ _ _ _ _ _ _ _ _ _ _ _ _ _ _ _ _ _ _ _ _ _ _ _ => ((V.length : Int) - intOf i).toNat)
    case atStart => exact ⟨0, Nat.zero_le _, rfl, bal (bz _) _, heap_alloc_new _ _, World.ownsRow_nil _ _ _ _⟩
    case round =>
      obtain ⟨k, hk, rfl, hbr, hrow, hor⟩ := hrel
      obtain ⟨s1, s2, s3⟩ := roundsS_ok V k hk
      by_cases hkp : k < V.length
      · obtain ⟨bx, ox, rfl, hbx, hcx⟩ := hxf (by omega)
        have hwz := hbr.size
        have hB9 := hB3.trans (hbr.mono hz3)
        have gx := (hB9.cell (p := ⟨bx, ox + k * 2, none⟩) hbx).trans (hcx k (by omega)).1
        have gy := (hB9.cell (p := ⟨bx, ox + k * 2 + 1, none⟩) hbx).trans (hcx k (by omega)).2
        have hbx' : bx < wr.heap.size := by omega
        have hgl := (Array.getElem?_eq_some_iff.1 hrow).1
        clear hxf hcx
        have hst := roundsS_snoc V k hkp
        have hm : V[k]?.getD (0, 0) ∈ V := by rw [List.getElem?_eq_getElem (by omega)]; exact List.getElem_mem _
        generalize V[k]?.getD (0, 0) = pr at *
        obtain ⟨q1', q2'⟩ := pr
        obtain ⟨o1, o2, o3⟩ := hV.ok _ hm
        simp only at o1 o2 o3 gx gy
        obtain ⟨i, rfl⟩ : ∃ i : Nat, q1' = i := ⟨q1'.toNat, by omega⟩
        obtain ⟨j, rfl⟩ : ∃ j : Nat, q2' = j := ⟨q2'.toNat, by omega⟩
        generalize roundsS (V.take k) = st at *
        obtain ⟨la, ou⟩ := st
        simp only at s1 s2 s3 hrow hor
        have ci := (cell_of_row wr w2.heap.size i _ _ _ hrow).trans (arrI_get la i (by omega))
        have cj := (cell_of_row wr w2.heap.size j _ _ _ hrow).trans (arrI_get la j (by omega))
        have fi := frozen_of_row wr w2.heap.size i _ _ hrow
        have fj := frozen_of_row wr w2.heap.size j _ _ hrow
        have bi := s3 i
        have bj := s3 j
        have hst2 : roundsS (V.take (k + 1)) = stepR (la, ou) ((i : Int), (j : Int)) := hst
        unfold stepR at hst2
        simp only [Int.toNat_natCast] at hst2
        have hi8 : (i : Int) < 8 := by omega
        have hj8 : (j : Int) < 8 := by omega
        have hO := Lib.hid hor; have hROW := Lib.hid hrow; have HS := Lib.hid hst2; have HS1 := Lib.hid s1
        clear hor hrow hst hst2 s3 hm
        have hmx : 0 ≤ (if la[i]?.getD 0 < la[j]?.getD 0 then la[j]?.getD 0 else la[i]?.getD 0) ∧ (if la[i]?.getD 0 < la[j]?.getD 0 then la[j]?.getD 0 else la[i]?.getD 0) ≤ k := by split <;> omega
        have hB := Lib.hid (fun w' => best_any (la[i]?.getD 0) (la[j]?.getD 0) w')
        generalize (if la[i]?.getD 0 < la[j]?.getD 0 then la[j]?.getD 0 else la[i]?.getD 0) = m at *
        have hwm : IntKind.i64.wrap (1 + m) = 1 + m := IntWalk.i64_in _ (by omega)
        generalize la[i]?.getD 0 = x1 at *
        generalize la[j]?.getD 0 = x2 at *
        go_wp2
        have zw : w2.heap.size < wr.heap.size := hgl
        have hb5 : Below wr.heap.size wr (wr.alloc (.cells #[.int .i64 (i : Int), .int .i64 (j : Int)] 59)) := bal (bz _) _
        have t0 : (wr.alloc (.cells #[.int .i64 (i : Int), .int .i64 (j : Int)] 59)).cell? ⟨wr.heap.size, 0, none⟩ = some (.int .i64 (i : Int)) := cnew rfl rfl
        have t1 : (wr.alloc (.cells #[.int .i64 (i : Int), .int .i64 (j : Int)] 59)).cell? ⟨wr.heap.size, 1, none⟩ = some (.int .i64 (j : Int)) := cnew rfl rfl
        have hz5 : wr.heap.size < (wr.alloc (.cells #[.int .i64 (i : Int), .int .i64 (j : Int)] 59)).heap.size := by simp
        generalize wr.alloc (.cells #[.int .i64 (i : Int), .int .i64 (j : Int)] 59) = w5 at *
        have ci5 := (hb5.cell (p := ⟨w2.heap.size, i, none⟩) zw).trans ci
        have cj5 := (hb5.cell (p := ⟨w2.heap.size, j, none⟩) zw).trans cj
        have zw5 : w2.heap.size < w5.heap.size := by omega
        have hC : ∀ l' : Later w5, Calls Try.prog 71 #[.int .i64 x1, .int .i64 x2, .func (.func 72) #[] #[]] l'.val fun e w'' => e = .returned (.int .i64 m) ∧ ∃ x : Later w5, w'' = x.val := fun l' => Calls.later (hB.out l'.val)
        have HC := Lib.hid hC; clear hC hB
        have hL := @Later.cell w5
        refine wp_region_later (by kernel_rfl) (by kernel_rfl) ?_
        repeat (quiet_step ((go_at_call 71; exact HC.out _)))
        refine wpQuiet_nil ?_
        intro w6 hw6
        have hL6 : Below w5.heap.size w5 w6 := by obtain ⟨⟨_, h⟩, rfl⟩ := hw6; exact h
        clear hw6 hL
        have hB6 : Below wr.heap.size wr w6 := btr hb5 hL6
        have hr6 := (hB6.block _ zw).trans hROW.out
        have HO6 := Lib.hid (owns_kept hO.out hB6)
        have u0 := (hL6.cell (p := ⟨wr.heap.size, 0, none⟩) hz5).trans t0
        have u1 := (hL6.cell (p := ⟨wr.heap.size, 1, none⟩) hz5).trans t1
        have ci6 := (hB6.cell (p := ⟨w2.heap.size, i, none⟩) zw).trans ci
        have cj6 := (hB6.cell (p := ⟨w2.heap.size, j, none⟩) zw).trans cj
        have fi6 := frozen_of_row w6 w2.heap.size i _ _ hr6
        have fj6 := frozen_of_row w6 w2.heap.size j _ _ hr6
        have HR6 := Lib.hid hr6
        have hB7 : Below w2.heap.size w2 w6 := btr hbr hB6
        have hz6 := hB6.size
        clear hr6 t0 t1 ci cj fi fj ci5 cj5 gx gy
        go_wp2
        go_region
        have hn1 := heap_setCell_same w6 w2.heap.size i _ _ (.int .i64 (1 + m)) HR6.out
        have hn2 := heap_setCell_same _ w2.heap.size j _ _ (.int .i64 (1 + m)) hn1
        rw [arrI_set, arrI_set] at hn2
        have apart : ∀ {W W' : World} {o : Value} {xs : List Value}, W.ownsRow (w2.heap.size + 1) 3 1 o k xs → W.grownBy W' (some w2.heap.size) → W'.ownsRow (w2.heap.size + 1) 3 1 o k xs := by
          intro W W' o xs h hg
          refine h.kept hg ?_
          cases hvv : o.ownBlock with
          | none => exact .inl rfl
          | some q => exact .inr (by intro e; cases e; have := (h.lt _ hvv).1; omega)
        have ho7 := (apart (apart HO6.out (grownBy_set w6 ⟨w2.heap.size, i, none⟩ (.int .i64 (1 + m)))) (grownBy_set _ ⟨w2.heap.size, j, none⟩ (.int .i64 (1 + m)))).drew
        have hB8 : Below w2.heap.size w2 ((w6.setCell ⟨w2.heap.size, i, none⟩ (.int .i64 (1 + m))).setCell ⟨w2.heap.size, j, none⟩ (.int .i64 (1 + m))).drew := Below.drewN' 1 (bset (bset hB7 (Nat.le_refl _) _) (Nat.le_refl _) _)
        have hn3 : (((w6.setCell ⟨w2.heap.size, i, none⟩ (.int .i64 (1 + m))).setCell ⟨w2.heap.size, j, none⟩ (.int .i64 (1 + m))).drew).heap[w2.heap.size]? = _ := hn2
        have hz7 : w2.heap.size < (((w6.setCell ⟨w2.heap.size, i, none⟩ (.int .i64 (1 + m))).setCell ⟨w2.heap.size, j, none⟩ (.int .i64 (1 + m))).drew).heap.size := by simp; omega
        clear hn1 hn2 u0 u1 ci6 cj6 fi6 fj6 apart
        generalize ((w6.setCell ⟨w2.heap.size, i, none⟩ (.int .i64 (1 + m))).setCell ⟨w2.heap.size, j, none⟩ (.int .i64 (1 + m))).drew = w7 at *
        have HO7 := Lib.hid ho7; have HN3 := Lib.hid hn3
        clear ho7 hn3
        go_wp2_with (at_builtin; refine wpList_append_own _ rfl _ _ 34 rfl (w2.heap.size + 1) 3 i0 (.int .i64 0) 1 8 Try.underlying34 hi hz0 hz1 hz2 rfl (by decide) _ _ _ rfl (HO7.out.alloc _) ⟨w7.heap.size, 0, none⟩ 1 1 [.int .i64 (1 + m)] rfl rfl (cell_one_new _ _ _) (one_int _ _) (by simp only [maxLen]; omega) (by omega) (by simp; omega) ?_)
        intro v' w' hown' hgrow hnil
        have hra := (append_keep (HO7.out.alloc _) hgrow (Nat.lt_succ_self _) (by simp; omega)).trans ((Below.heap_alloc _ _ _ hz7).trans HN3.out)
        have hB9 : Below w2.heap.size w2 w' := append_below (bal hB8 _) (HO7.out.alloc _) hgrow (by omega)
        have HOW := Lib.hid hown'; have HRA := Lib.hid hra; clear hown' hgrow hnil hra
        go_wp2
        refine ⟨⟨k + 1, by omega, by simp, hB9, ?_, ?_⟩, by simp [intOf]; omega⟩
        · rw [HS.out]; exact HRA.out
        · rw [HS.out, List.map_append]; exact HOW.out
      · obtain rfl : k = V.length := by omega
        rw [List.take_length] at hor
        rw [List.take_length] at s2
        have hrd := RdI.of_owns (n := V.length) hor
        have hO := Lib.hid hrd; clear hor hrow s1 s3 hrd
        go_wp2
        go_ret2
        exact ⟨_, rfl, hO.out, btr hB3 hbr⟩
  · simp only [if_neg h]
    have H0 := Lib.hid (open_no p _ V _ (hx0.mono (bal (bz w) (.cells #[.int .i64 p, .slice a V.length ca] 24))) hl h)
    generalize checkR p V = c at *
    have e0 : (c != 0) = true := by simpa using h
    clear h
    go_enter Try.func36, Try.ntmps36
    go_wp2_with fail
    refine H0.out.mono ?_
    rintro e w2 ⟨rfl, hB2⟩
    go_wp2
    go_ret2
    exact ⟨_, rfl, rdI_nil _ _, btr (bal (bz _) _) hB2⟩
end Go.Proofs.Ytdnaipiiponhpaa
