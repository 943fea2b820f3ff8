/- Index, Contains and Cut; every row of at most 1000 valves. -/
import Derived.Test.YtdnaipiiponhpaaW7
namespace Go.Proofs.Ytdnaipiiponhpaa
open Go.RowKit Go.Shelf

set_option maxRecDepth 100000 in
set_option maxHeartbeats 400000 in
theorem index_any (x : Value) (xs : List Int) (q : Int) (w : World) (hx0 : RdI w .i64 x xs) (hl : xs.length ≤ 1000) :
    Calls Try.prog 83 #[x, .int .i64 q] w fun e w' => e = .returned (.int .i64 (idxOf (fun y => decide (q = y)) xs)) ∧ Below w.heap.size w w' := by
  obtain ⟨a, ca, rfl, _, _, hx⟩ := hx0.form
  clear hx0
  go_enter Try.func83, Try.ntmps83
  go_wp2
  go_loopw [5, 8] (fun j i wr => ∃ k : Nat, k ≤ xs.length ∧ i = .int .i64 k ∧ (∀ i, i < k → (fun y => decide (q = y)) (xs[i]?.getD 0) = false) ∧ Below w.heap.size w wr) (fun _ i _ => xs.length - (intOf i).toNat)
  case atStart => exact ⟨0, Nat.zero_le _, rfl, by intro i h1; omega, Below.refl _ _⟩
  case round =>
    obtain ⟨k, hk, rfl, ht, hB⟩ := hrel
    have HT := Lib.hid ht; clear ht
    by_cases hlt : k < xs.length
    · obtain ⟨bx, ox, rfl, hbx, hcx⟩ := hx (by omega)
      have gx := (hB.cell (p := ⟨bx, ox + k, none⟩) hbx).trans (hcx k hlt)
      clear hx hcx
      generalize hp : xs[k]?.getD 0 = p at *
      have HP := Lib.hid hp; clear hp
      by_cases hb : q = p
      · subst hb
        go_wp2
        go_ret
        exact ⟨ret_int (find_none_step HT.out hlt (by rw [HP.out]; simp)).symm, hB⟩
      · have hbb : (q == p) = false := by simpa using hb
        go_wp2
        go_roundw
        case rel =>
          refine ⟨k + 1, by omega, by go_num, fun i h1 => ?_, hB⟩
          by_cases e : i = k
          · subst e; rw [HP.out]; simpa using hb
          · exact HT.out i (by omega)
        case measure => simp [intOf]; omega
    · go_wp2
      go_ret
      exact ⟨ret_int (find_none fun i hi => HT.out i (by omega)).symm, hB⟩

set_option maxRecDepth 100000 in
set_option maxHeartbeats 400000 in
theorem contains_any (x : Value) (xs : List Int) (q : Int) (w : World) (hx0 : RdI w .i64 x xs) (hl : xs.length ≤ 1000) :
    Calls Try.prog 70 #[x, .int .i64 q] w fun e w' => e = .returned (.bool (xs.any fun y => decide (q = y))) ∧ Below w.heap.size w w' := by
  go_enter Try.func70, Try.ntmps70
  go_wp2_with fail
  refine (index_any _ _ _ _ hx0 hl).mono ?_
  rintro e w2 ⟨rfl, hB2⟩
  have H := Lib.hid (idxOf_any (fun y => decide (q = y)) xs)
  go_wp2
  go_ret
  exact ⟨ret_bool H.out, hB2⟩

/-- The row without its needless valves, up to a valve. -/
def cutK (p : Nat) (V : List (Int × Int)) (k : Nat) : List (Int × Int) := ((List.range k).filter fun i => !needlessB p V i).map fun i => V[i]?.getD (0, 0)
theorem cutK_succ (p : Nat) (V : List (Int × Int)) (k : Nat) : cutK p V (k + 1) = if needlessB p V k then cutK p V k else cutK p V k ++ [V[k]?.getD (0, 0)] := by
  unfold cutK
  rw [List.range_succ, List.filter_append]
  cases h : needlessB p V k <;> simp [h]
theorem cutK_le (p : Nat) (V : List (Int × Int)) (k : Nat) : (cutK p V k).length ≤ k := by
  unfold cutK
  have := List.length_filter_le (fun i => !needlessB p V i) (List.range k)
  simp at this ⊢
  exact this
theorem needlessL_has (p : Nat) (V : List (Int × Int)) (n k : Nat) (hk : k < n) : ((needlessL p V n).any fun y => decide ((k : Int) = y)) = needlessB p V k := by
  unfold needlessL
  cases h : needlessB p V k
  · rw [List.any_eq_false]
    intro y hy
    rw [List.mem_map] at hy
    obtain ⟨i, hi, rfl⟩ := hy
    rw [List.mem_filter] at hi
    intro e
    have e2 := of_decide_eq_true e
    have e3 : k = i := by omega
    subst e3
    rw [h] at hi
    exact absurd hi.2 (by simp)
  · rw [List.any_eq_true]
    exact ⟨(k : Int), List.mem_map.2 ⟨k, List.mem_filter.2 ⟨List.mem_range.2 hk, h⟩, rfl⟩, by simp⟩
/-- Cut's answers. -/
def cutP (p : Int) (V : List (Int × Int)) : Int := if checkR p V = 0 then p else 0
def cutL (p : Int) (V : List (Int × Int)) : List (Int × Int) := if checkR p V = 0 then cutK p.toNat V V.length else []
theorem rdP_nil (w : World) : RdP w (.slice none 0 0) [] := ⟨none, 0, rfl, Nat.le_refl _, by unfold maxLen; omega, fun h => absurd rfl h⟩
theorem prs_append (a b : List (Int × Int)) : prs (a ++ b) = prs a ++ prs b := by simp [prs]
theorem Try.info59 : (Try.prog.info? 59).map (fun i => (i.zero, i.size, i.bytes)) = some (some (.agg #[.int .i64 0, .int .i64 0]), 2, 16) := by kernel_rfl

theorem cell_two_new (w : World) (x y : Value) (t : TypeId) : ∀ j u, ([x, y] : List Value)[j]? = some u → (w.alloc (.cells #[x, y] t)).cell? ((⟨w.heap.size, 0, none⟩ : Addr).add j) = some u := by
  intro j u h
  match j, h with
  | 0, h => simp at h; subst h; exact cnew rfl rfl
  | 1, h => simp at h; subst h; exact cnew rfl rfl
  | j + 2, h => simp at h
theorem two_int (a b : Int) : ∀ u ∈ [Value.int .i64 a, Value.int .i64 b], u.oneCell' = true := by simp [Value.oneCell']
theorem owns_form {w : World} {base e size n : Nat} {v : Value} {xs : List Value} (h : w.ownsRow base e size v n xs) : ∃ a c, v = .slice a n c := by
  rcases h.2 with ⟨rfl, rfl⟩ | ⟨g, cap, cur, rfl, _⟩
  · exact ⟨_, _, rfl⟩
  · exact ⟨_, _, rfl⟩
theorem append_keep {w w' : World} {base e size n j : Nat} {v : Value} {xs : List Value} (h : w.ownsRow base e size v n xs) (hg : w.grownBy w' v.ownBlock) (hj : j < base) (hjw : j < w.heap.size) : w'.heap[j]? = w.heap[j]? :=
  hg.block j hjw fun e => by have := (h.lt j e.symm).1; omega
theorem append_below {a w w' : World} {base e size n : Nat} {v : Value} {xs : List Value} (hb : Below a.heap.size a w) (h : w.ownsRow base e size v n xs) (hg : w.grownBy w' v.ownBlock) (hj : a.heap.size ≤ base) : Below a.heap.size a w' :=
  bgr hb hg fun k e => Nat.le_trans hj (h.lt k e).1

/-- A result in a struct's cells, and one in a slot. -/
theorem results_row_tmp {P : Program} {fn : Func} {p t : Tmp} {ty t0 : TypeId} {tmps : Array Value} {w : World} {g : Nat} {cs : Array Value} {fr : Nat × Nat} {d : TypeDesc} {u : Value} (h : fn.results = #[.cell p ty, .tmp t]) (hp : tmps.getD p undef = .pointer (some ⟨g, 0, none⟩)) (hv : tmps.getD t undef = u)
    (hg : w.heap[g]? = some (.cells cs t0 fr)) (hu : P.underlying ty = some d) (hd : (match d with | .struct _ | .array _ _ => true | _ => false) = true) (hi : (P.info? ty).map (·.size) = some cs.size) :
    (results fn tmps).run P w = .ok (.tuple #[.agg cs, u]) w := by
  subst hv
  have hp' : tmps[p]?.getD undef = .pointer (some ⟨g, 0, none⟩) := by simpa using hp
  simp [results, h, hp', asAddr, run_loadVar_row w g t0 ty cs fr d hg hu hd hi]

set_option maxRecDepth 100000 in
set_option maxHeartbeats 1000000 in
theorem cut_any (p : Int) (x : Value) (V : List (Int × Int)) (w : World) (hx0 : RdP w x V) (hl : V.length ≤ 1000) :
    Calls Try.prog 34 #[.agg #[.int .i64 p, x]] w fun e w' => ∃ v, e = .returned (.tuple #[.agg #[.int .i64 (cutP p V), v], .int .i64 (checkR p V)]) ∧ RdP w' v (cutL p V) ∧ Below w.heap.size w w' := by
  obtain ⟨a, ca, rfl, hca, hca2, hxf⟩ := hx0.form
  have H0 := Lib.hid fun w1 (hB : Below w.heap.size w w1) => needless_any p _ V w1 (hx0.mono hB) hl
  unfold cutP cutL
  by_cases h : checkR p V = 0
  · obtain ⟨n, rfl, hV⟩ := cond_row h
    simp only [if_pos h]
    have e : needL n V = needlessL n V V.length := by unfold needL; rw [if_pos h]; rfl
    rw [e, h] at H0
    rw [h]
    have hp1 := hV.p1; have hp8 := hV.p8; have h40 := hV.len
    rw [show ((n : Nat) : Int).toNat = n by omega]
    clear h e
    go_enter Try.func34, Try.ntmps34
    go_wp2_with fail
    refine (H0.out _ (bal (bal (bz _) _) _)).mono ?_
    rintro e w2 ⟨v, rfl, hown, hB2⟩
    have hB3 : Below w.heap.size w w2 := btr (bal (bal (bz _) _) _) hB2
    have z0 : w2.cell? ⟨w.heap.size, 0, none⟩ = some (.int .i64 n) := (hB2.cell (by simp; omega)).trans (cal _ (cnew rfl rfl))
    have z1 : w2.cell? ⟨w.heap.size, 1, none⟩ = some (.slice a V.length ca) := (hB2.cell (by simp; omega)).trans (cal _ (cnew rfl rfl))
    have hzz := hB2.size
    simp only [World.size_alloc] at hzz hown
    have zl : w.heap.size < w2.heap.size := by omega
    have zl1 : w.heap.size + 1 < w2.heap.size := by omega
    have HOWN := Lib.hid hown
    have hr0 : w2.heap[w.heap.size + 1]? = some (.cells #[.int .i64 0, .slice none 0 0] 24 (0, 0)) := by
      refine (hB2.block _ (by simp)).trans ?_
      have := heap_alloc_new (w.alloc (.cells #[.int .i64 n, .slice a V.length ca] 24)) (.cells #[.int .i64 0, .slice none 0 0] 24)
      rw [World.size_alloc] at this
      exact this
    have HR0 := Lib.hid hr0
    have hx3 := hx0.mono hB3
    clear hown hr0
    obtain ⟨i0, hi, hz0, hz1, hz2⟩ := info_parts Try.info59
    go_wp2
    go_loopw [7, 8, 24, 25, 26, 27, 28, 29, 30, 31, 32, 33, 34, 35, 36, 37, 38, 39] (fun _ _ i _ _ _ _ _ _ _ _ _ _ _ _ _ _ _ wr => ∃ k v, k ≤ V.length ∧ i = .int .i64 (k : Nat) ∧ Below w2.heap.size w2 wr ∧ wr.heap[w2.heap.size]? = some (.cells #[.int .i64 n, v] 24 (0, 0)) ∧ wr.ownsRow (w2.heap.size + 1) 59 2 v (cutK n V k).length (prs (cutK n V k)))
      (fun _ _ i _ _ _ _ _ _ _ _ _ _ _ _ _ _ _ _ => ((V.length : Int) - intOf i).toNat)
    case atStart => exact ⟨0, .slice none 0 0, Nat.zero_le _, rfl, bal (bz _) _, heap_alloc_new _ _, World.ownsRow_nil _ _ _ _⟩
    case round =>
      obtain ⟨k, v2, hk, rfl, hbr, hrow, hor⟩ := hrel
      have hkl := cutK_le n V k
      have hO := Lib.hid hor; have hROW := Lib.hid hrow; clear hor hrow
      by_cases hkp : k < V.length
      · obtain ⟨bx, ox, rfl, hbx, hcx⟩ := hxf (by omega)
        have hzw : w.heap.size ≤ w2.heap.size := by omega
        have hwz := hbr.size
        have hB9 := hB3.trans (hbr.mono hzw)
        have gx := (hB9.cell (p := ⟨bx, ox + k * 2, none⟩) hbx).trans (hcx k (by omega)).1
        have gy := (hB9.cell (p := ⟨bx, ox + k * 2 + 1, none⟩) hbx).trans (hcx k (by omega)).2
        have hbx' : bx < wr.heap.size := by omega
        have hgl := (Array.getElem?_eq_some_iff.1 hROW.out).1
        clear hxf hcx
        have hst := cutK_succ n V k
        have hnd := needlessL_has n V V.length k hkp
        generalize V[k]?.getD (0, 0) = pr at *
        obtain ⟨q1, q2⟩ := pr
        simp only at gx gy
        have HST := Lib.hid hst; have HND := Lib.hid hnd; clear hst hnd
        go_wp2_with fail
        have hrd := RdI.of_owns (owns_kept HOWN.out (btr hbr (bal (bz _) (.cells #[.int .i64 q1, .int .i64 q2] 59))))
        refine (contains_any _ _ k _ hrd (by have := needlessL_le n V V.length; omega)).mono ?_
        rintro e w4 ⟨rfl, hB4⟩
        rw [HND.out]
        have hB5 : Below wr.heap.size wr w4 := btr (bal (bz _) _) hB4
        have e0 : w4.cell? ⟨wr.heap.size, 0, none⟩ = some (.int .i64 q1) := (hB4.cell (by simp)).trans (cnew rfl rfl)
        have e1 : w4.cell? ⟨wr.heap.size, 1, none⟩ = some (.int .i64 q2) := (hB4.cell (by simp)).trans (cnew rfl rfl)
        have hr4 := (hB5.block _ hgl).trans hROW.out
        have c1 : w4.cell? ⟨w2.heap.size, 1, none⟩ = some v2 := by rw [cell_of_row w4 _ 1 _ _ _ hr4]; rfl
        have f1 := frozen_of_row w4 w2.heap.size 1 _ _ hr4
        have ho4 := owns_kept hO.out hB5
        have hz4 := hB5.size
        have hz5 := hB4.size
        simp only [World.size_alloc] at hz5
        have HO4 := Lib.hid ho4; have HR4 := Lib.hid hr4; have HST' := HST.out
        clear hO ho4 hr4 hrd
        generalize hy : needlessB n V k = y at *
        have zg : w2.heap.size < w4.heap.size := by omega
        have zw : wr.heap.size < w4.heap.size := by omega
        cases y
        · rw [if_neg (by simp)] at HST'
          have HS2 := Lib.hid HST'; clear HST'
          go_wp2_with (at_builtin; refine wpList_append_own _ rfl _ _ 22 rfl (w2.heap.size + 1) 59 i0 (.agg #[.int .i64 0, .int .i64 0]) 2 16 Try.underlying22 hi hz0 hz1 hz2 rfl (by decide) _ _ _ rfl (HO4.out.alloc _) ⟨w4.heap.size, 0, none⟩ 1 1 [.int .i64 q1, .int .i64 q2] rfl rfl (cell_two_new _ _ _ _) (two_int _ _) (by simp only [maxLen]; omega) (by omega) (by simp; omega) ?_)
          intro v' w' hown' hgrow hnil
          have hra := (append_keep (HO4.out.alloc _) hgrow (Nat.lt_succ_self _) (by simp; omega)).trans ((Below.heap_alloc _ _ _ zg).trans HR4.out)
          have hB6 : Below w2.heap.size w2 w' := append_below (bal (btr hbr hB5) _) (HO4.out.alloc _) hgrow (by omega)
          have c1' : w'.cell? ⟨w2.heap.size, 1, none⟩ = some v2 := by rw [cell_of_row w' _ 1 _ _ _ hra]; rfl
          have f1' := frozen_of_row w' w2.heap.size 1 _ _ hra
          have hnew := heap_setCell_same w' w2.heap.size 1 _ _ v' hra
          have hkeep := (hown'.kept (w' := w'.setCell ⟨w2.heap.size, 1, none⟩ v') (grownBy_set w' _ _) (by
            cases hvv : v'.ownBlock with
            | none => exact .inl rfl
            | some q => exact .inr (by intro e; cases e; have := (hown'.lt _ hvv).1; simp only at this; omega)))
          have HNEW := Lib.hid hnew; have HKEEP := Lib.hid hkeep
          obtain ⟨a9, c9, hv9⟩ := owns_form hown'
          subst hv9
          clear hown' hgrow hnil hra hnew hkeep c1 f1 e0 e1
          go_wp2
          refine ⟨⟨k + 1, _, by omega, by simp, bset hB6 (by simp) _, HNEW.out, ?_⟩, by simp [intOf]; omega⟩
          rw [HS2.out, List.length_append, prs_append]
          exact HKEEP.out
        · rw [if_pos rfl] at HST'
          have HS2 := Lib.hid HST'; clear HST'
          go_wp2
          exact ⟨⟨k + 1, v2, by omega, by simp, btr hbr hB5, HR4.out, by rw [HS2.out]; exact HO4.out⟩, by simp [intOf]; omega⟩
      · obtain rfl : k = V.length := by omega
        have hr1 := (hbr.block _ (by omega)).trans HR0.out
        have HR1 := Lib.hid hr1; clear hr1
        have hsz : (Try.prog.info? 24).map (·.size) = some 2 := by kernel_rfl
        have HSZ := Lib.hid hsz; clear hsz
        obtain ⟨a9, c9, hv9⟩ := owns_form hO.out
        subst hv9
        have hB9 := btr hB3 hbr
        have hrd := RdP.of_owns hO.out
        have HRD := Lib.hid hrd; clear hrd
        have c0 : wr.cell? ⟨w.heap.size + 1, 0, none⟩ = some (.int .i64 0) := by rw [cell_of_row wr _ 0 _ _ _ HR1.out]; rfl
        have c1 : wr.cell? ⟨w.heap.size + 1, 1, none⟩ = some (.slice none 0 0) := by rw [cell_of_row wr _ 1 _ _ _ HR1.out]; rfl
        have f0 := frozen_of_row wr (w.heap.size + 1) 0 _ _ HR1.out
        have f1 := frozen_of_row wr (w.heap.size + 1) 1 _ _ HR1.out
        have d0 : wr.cell? ⟨w2.heap.size, 0, none⟩ = some (.int .i64 n) := by rw [cell_of_row wr _ 0 _ _ _ hROW.out]; rfl
        have d1 : wr.cell? ⟨w2.heap.size, 1, none⟩ = some (.slice a9 (cutK n V V.length).length c9) := by rw [cell_of_row wr _ 1 _ _ _ hROW.out]; rfl
        have hn2 := heap_setCell_same _ _ 1 _ _ (.slice a9 (cutK n V V.length).length c9) (heap_setCell_same wr (w.heap.size + 1) 0 _ _ (.int .i64 n) HR1.out)
        have HN2 := Lib.hid hn2; clear hn2
        have hkeep := (hO.out.kept (w' := wr.setCell ⟨w.heap.size + 1, 0, none⟩ (.int .i64 n)) (grownBy_set wr _ _) (by
            cases hvv : (Value.slice a9 (cutK n V V.length).length c9).ownBlock with
            | none => exact .inl rfl
            | some q => exact .inr (by intro e; cases e; have := (hO.out.lt _ hvv).1; simp only at this; omega)))
        have hkeep2 := (hkeep.kept (w' := (wr.setCell ⟨w.heap.size + 1, 0, none⟩ (.int .i64 n)).setCell ⟨w.heap.size + 1, 1, none⟩ (.slice a9 (cutK n V V.length).length c9)) (grownBy_set _ _ _) (by
            cases hvv : (Value.slice a9 (cutK n V V.length).length c9).ownBlock with
            | none => exact .inl rfl
            | some q => exact .inr (by intro e; cases e; have := (hkeep.lt _ hvv).1; simp only at this; omega)))
        have HK2 := Lib.hid hkeep2; clear hkeep hkeep2
        go_wp2
        (try simp only [Exit.inBlock, Exit.then])
        refine bodyPost_ret (v := .tuple #[.agg #[.int .i64 n, .slice a9 (cutK n V V.length).length c9], .int .i64 0]) ?_ ?_ ?_
        · exact results_row_tmp rfl rfl rfl HN2.out Try.underlying24 rfl HSZ.out
        · rfl
        · exact ⟨_, rfl, RdP.of_owns HK2.out, bset (bset hB9 (by simp) _) (by simp) _⟩
  · simp only [if_neg h]
    have e : needL p V = [] := by unfold needL; rw [if_neg h]
    rw [e] at H0
    generalize checkR p V = c at *
    have e0 : (c != 0) = true := by simpa using h
    clear h e
    go_enter Try.func34, Try.ntmps34
    go_wp2_with fail
    refine (H0.out _ (bal (bal (bz _) _) _)).mono ?_
    rintro e w2 ⟨v, rfl, _, hB2⟩
    have hB3 : Below w.heap.size w w2 := btr (bal (bal (bz _) _) _) hB2
    have hr : w2.heap[w.heap.size + 1]? = some (.cells #[.int .i64 0, .slice none 0 0] 24 (0, 0)) := by
      refine (hB2.block _ (by simp)).trans ?_
      have := heap_alloc_new (w.alloc (.cells #[.int .i64 p, .slice a V.length ca] 24)) (.cells #[.int .i64 0, .slice none 0 0] 24)
      rw [World.size_alloc] at this
      exact this
    have HR := Lib.hid hr; clear hr
    have hsz : (Try.prog.info? 24).map (·.size) = some 2 := by kernel_rfl
    have HSZ := Lib.hid hsz; clear hsz
    have c0 : w2.cell? ⟨w.heap.size + 1, 0, none⟩ = some (.int .i64 0) := by rw [cell_of_row w2 _ 0 _ _ _ HR.out]; rfl
    have c1 : w2.cell? ⟨w.heap.size + 1, 1, none⟩ = some (.slice none 0 0) := by rw [cell_of_row w2 _ 1 _ _ _ HR.out]; rfl
    have f0 := frozen_of_row w2 (w.heap.size + 1) 0 _ _ HR.out
    have f1 := frozen_of_row w2 (w.heap.size + 1) 1 _ _ HR.out
    have hn2 := heap_setCell_same _ _ 1 _ _ (.slice none 0 0) (heap_setCell_same w2 (w.heap.size + 1) 0 _ _ (.int .i64 0) HR.out)
    have HN2 := Lib.hid hn2; clear hn2
    go_wp2
    (try simp only [Exit.inBlock, Exit.then])
    refine bodyPost_ret (v := .tuple #[.agg #[.int .i64 0, .slice none 0 0], .int .i64 c]) ?_ ?_ ?_
    · exact results_row_tmp rfl rfl rfl HN2.out Try.underlying24 rfl HSZ.out
    · rfl
    · exact ⟨.slice none 0 0, rfl, rdP_nil _, bset (bset hB3 (by simp) _) (by simp) _⟩
end Go.Proofs.Ytdnaipiiponhpaa
