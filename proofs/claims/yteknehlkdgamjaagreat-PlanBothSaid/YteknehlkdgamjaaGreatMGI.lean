/- Merged texts: chains, kinds of the program; no condition. -/
import Derived.Test.YteknehlkdgamjaaGreatMF6
import Derived.Lib.AppendZeros
import Derived.Lib.SliceRun
import Derived.Shelf.Lay
import Derived.Shelf.Sort.Plain
import Derived.Shelf.Slices.In.SortNone
import Derived.Ground.Names2Prog
import Derived.Sort.OwnSortedInts
namespace Go.Proofs.YteknehlkdgamjaaGreat
open Go.Proofs Go.Shelf
shelf_lay Lays.n189 Nm 189 at Tryz as Tryz.lays189
end Go.Proofs.YteknehlkdgamjaaGreat
namespace Go.Proofs.YteknehlkdgamjaaGreat
open Go.RowKit Go.Shelf

def Sml (R : List (List Int)) : Prop := R.length ≤ 20 ∧ ∀ i, (row R i).length ≤ 20
theorem RdLL.sl {w : World} {v : Value} {R : List (List Int)} (h : RdLL w v R) : ∃ a c, v = .slice a R.length c := by
  obtain ⟨a, c, e, _⟩ := h.form
  exact ⟨a, c, e⟩
theorem RdLL.get {w : World} {a : Option Addr} {n c : Nat} {R : List (List Int)} (h : RdLL w (.slice a n c) R) (i : Nat) (hi : i < R.length) :
    ∃ b off a' c', a = some ⟨b, off, none⟩ ∧ b < w.heap.size ∧ w.cell? ⟨b, off + i, none⟩ = some (.slice a' (row R i).length c') ∧ RdI w .i64 (.slice a' (row R i).length c') (row R i) := by
  obtain ⟨a2, cap, e, _, h2⟩ := h.form
  cases e
  obtain ⟨b, off, rfl, hb, hc⟩ := h2 (by omega)
  obtain ⟨e, h3, h4⟩ := hc i hi
  obtain ⟨a', c', rfl, _⟩ := h4.form
  exact ⟨b, off, a', c', rfl, hb, h3, h4⟩
theorem flat_take (R : List (List Int)) (i : Nat) (h : i < R.length) : (R.take (i + 1)).flatten = (R.take i).flatten ++ row R i := by
  rw [List.take_succ_eq_append_getElem h, List.flatten_append, row_lt h]; simp
theorem flat_len {R : List (List Int)} (h : ∀ i, (row R i).length ≤ 20) : ∀ i, i ≤ R.length → (R.take i).flatten.length ≤ 20 * i
  | 0, _ => by simp
  | i + 1, hi => by
    rw [flat_take R i (by omega), List.length_append]
    have := flat_len h i (by omega)
    have := h i
    omega
theorem wpList_append_zeros (w : World) {ops : Array Oper} {rest : List Oper} {o : Oper} {a : Act} {Q : Exit → Act → World → Prop} (hgd : o.guard = none) (s x : Operand)
    (ho : o.op = .call { callee := .builtin .append, args := #[s, x], argTypes := #[41, 3] }) (n : Nat) (hs : a.eval s = .slice none 0 0) (hx : a.eval x = .int .i64 (n : Int)) (h0 : 0 < n) (hn : n ≤ 1000)
    (H : ∀ c, n ≤ c → rowI (w.drew.alloc (.cells (Builtin.zeroCells (Value.int .i64 0).cells n ++ Builtin.zeroCells (Value.int .i64 0).cells (c - n)) 3)) w.heap.size (.slice (some ⟨w.heap.size, 0, none⟩) 0 c) [] → Below w.heap.size w (w.drew.alloc (.cells (Builtin.zeroCells (Value.int .i64 0).cells n ++ Builtin.zeroCells (Value.int .i64 0).cells (c - n)) 3)) →
      wpList Tryz.prog ops Q rest (a.put o.dst (.slice (some ⟨w.heap.size, 0, none⟩) n c)) (w.drew.alloc (.cells (Builtin.zeroCells (Value.int .i64 0).cells n ++ Builtin.zeroCells (Value.int .i64 0).cells (c - n)) 3))) : wpList Tryz.prog ops Q (o :: rest) a w := by
  obtain ⟨i0, hi, hz0, hz1, hz2⟩ := info_parts num3
  have hr := Lib.run_append_nil_zeros (P := Tryz.prog) w 41 3 o.type 3 i0 (.int .i64 0) .i64 .i64 Tryz.underlying41 Tryz.underlying3 hi hz0 n h0 (by rw [hz1]; decide) (by omega) (by rw [hz2]; omega)
  have hge := grownCap_ge w n 0 3
  have hcm : grownCap w n 0 3 ≤ maxLen := grownCap_le_maxLen w n 0 3 (by unfold maxLen; omega)
  refine wpList_plain hgd fun K hK => ?_
  unfold Oper.wp execOp
  simp only [ho, resolve, invoke, builtin, Sem.run_bind, Sem.run_pure, Result.andThen_ok, List.map_toArray, List.map_cons, List.map_nil, hs, hx, hr]
  refine hK _ _ (H _ hge ⟨by simp, .inr ⟨w.heap.size, _, _, rfl, Nat.le_refl _, heap_alloc_new w.drew _, Nat.zero_le _, hcm, ?_, by simp⟩⟩ (bal (Below.drew (bz w)) _))
  simp [size_zeroCells, Value.cells]
  omega
theorem run_cut_nil (w : World) : (Instr.slice 41 (.slice none 0 0) none (some (.int .i64 0)) none).run Tryz.prog w = .ok (.slice none 0 0) w := by
  obtain ⟨i0, hi, hz0, hz1, hz2⟩ := info_parts num3
  simp [Instr.slice, run_underlying Tryz.underlying41, Sem.run_bind, Instr.sliceBounds, Instr.sliceBound, asIntOf, sizeOf, typeInfo, hi, Addr.add]
set_option maxRecDepth 100000 in
set_option maxHeartbeats 800000 in
theorem grow_any (n : Nat) (w : World) (hn : n ≤ 1000) :
    Calls Tryz.prog 101 #[.slice none 0 0, .int .i64 n] w fun e w' => ∃ u, e = .returned u ∧ rowI w' w.heap.size u [] ∧ Below w.heap.size w w' := by
  have hcn := run_cut_nil
  rcases Nat.eq_zero_or_pos n with h0 | h0
  · subst h0
    go_enter Tryz.func101, Tryz.ntmps101
    go_wp2_with fail
    go_ret
    exact ⟨_, rfl, World.ownsRow_nil _ _ _ _, bz w⟩
  · have h1 : (0 : Int) < (n : Int) := by omega
    go_enter Tryz.func101, Tryz.ntmps101
    go_wp2_with (at_builtin; refine wpList_append_zeros _ rfl _ _ rfl n rfl rfl h0 hn ?_)
    intro c hc hO hB
    have HO := Lib.hid hO; have HB := Lib.hid hB
    have hs := run_cutToI w.heap.size 0 n c 0 (by omega)
    rw [show ((0 : Nat) : Int) = 0 by rfl] at hs
    clear hO hB
    generalize w.drew.alloc _ = w2 at *
    go_wp2_with fail
    go_ret
    exact ⟨_, rfl, HO.out, HB.out⟩

set_option maxRecDepth 100000 in
set_option maxHeartbeats 800000 in
theorem concat_any (v : Value) (R : List (List Int)) (w : World) (hx0 : RdLL w v R) (hs : Sml R) :
    Calls Tryz.prog 77 #[v] w fun e w' => ∃ u, e = .returned u ∧ rowI w' w.heap.size u R.flatten ∧ Below w.heap.size w w' := by
  obtain ⟨h20, h21⟩ := hs
  obtain ⟨a, ca, rfl⟩ := hx0.sl
  have HX := Lib.hid hx0; clear hx0
  have H21 := Lib.hid h21; clear h21
  go_enter Tryz.func77, Tryz.ntmps77
  go_wp2_with fail
  go_loop [3, 5, 11] (fun s3 _ s11 => ∃ i : Nat, i ≤ R.length ∧ s11 = .int .i64 i ∧ s3 = .int .i64 (((R.take i).flatten.length : Nat) : Int)) (fun _ _ s11 => R.length - (intOf s11).toNat)
  case atStart => exact ⟨0, Nat.zero_le _, rfl, rfl⟩
  case round =>
    obtain ⟨i, hi, rfl, rfl⟩ := hrel
    have h2 := flat_len H21.out i hi
    by_cases hlt : i < R.length
    · obtain ⟨b, off, a', c', rfl, hb, hc, hr⟩ := HX.out.get i hlt
      have h1 := H21.out i
      have HF : Hid ((R.take (i + 1)).flatten.length = (R.take i).flatten.length + (row R i).length) := Lib.hid (by rw [flat_take R i hlt, List.length_append])
      clear hr
      generalize (R.take i).flatten.length = n at *
      generalize (row R i).length = m at *
      go_wp2_with fail
      go_round
      case rel => exact ⟨i + 1, by omega, by go_num, by rw [HF.out]; go_num⟩
      case measure => simp [intOf]; omega
    · have hie : i = R.length := by omega
      have hn : (R.take i).flatten.length ≤ 1000 := by omega
      clear h2
      generalize (R.take i).flatten.length = n at *
      go_wp2_with fail
      refine (grow_any n w hn).mono ?_
      rintro e w2 ⟨u, rfl, hu, hB⟩
      have HU := Lib.hid hu; have HB := Lib.hid hB
      clear hu hB
      go_wp2_with fail
      go_loopw [6, 8, 27] (fun s6 _ s27 wr => ∃ (i : Nat) (u : Value), i ≤ R.length ∧ u = s6 ∧ s27 = .int .i64 i ∧ rowI wr w.heap.size u (R.take i).flatten ∧ Below w.heap.size w wr) (fun _ _ s27 _ => R.length - (intOf s27).toNat)
      case atStart => exact ⟨0, _, Nat.zero_le _, rfl, rfl, HU.out, HB.out⟩
      case round =>
        clear HU HB hlt hie hi
        obtain ⟨i, u, hi, rfl, rfl, hO, hB⟩ := hrel
        have HO := Lib.hid hO; have HB := Lib.hid hB; clear hO hB
        by_cases hlt : i < R.length
        · obtain ⟨b, off, a', c', rfl, hb, hc, hr⟩ := HX.out.get i hlt
          have gx := (HB.out.cell (p := ⟨b, off + i, none⟩) hb).trans hc
          have zx := Nat.lt_of_lt_of_le hb HB.out.size
          have HR := Lib.hid (hr.mono HB.out)
          have h1 := H21.out i
          have h2 := flat_len H21.out i (by omega)
          have HF := Lib.hid (flat_take R i hlt)
          clear hc hr hb
          generalize (R.take i).flatten = xs at *
          generalize row R i = ys at *
          go_wp2_with (at_builtin; refine wpList_append_any rfl _ _ rfl HO.out HB.out.size rfl rfl HR.out (by omega) (by omega) ?_)
          intro v' w' hO' hg
          have HO' := Lib.hid hO'
          have HB' := Lib.hid (append_below HB.out HO.out hg (Nat.le_refl _))
          clear hO' hg
          go_wp2_with fail
          go_roundw
          case rel => exact ⟨i + 1, _, by omega, rfl, by go_num, by rw [HF.out]; exact HO'.out, HB'.out⟩
          case measure => simp [intOf]; omega
        · have hie : i = R.length := by omega
          have HO2 : Hid (rowI wr w.heap.size u R.flatten) := by have h := HO.out; rw [hie, List.take_length] at h; exact Lib.hid h
          clear HO
          go_wp2_with fail
          go_ret
          exact ⟨_, rfl, HO2.out, HB.out⟩
/-- The numbers in their order. -/
def sorted (xs : List Int) : List Int := xs.mergeSort fun x y => decide (x ≤ y)
theorem sorted_perm (xs : List Int) : (sorted xs).Perm xs := List.mergeSort_perm _ _
theorem sorted_le (xs : List Int) : (sorted xs).Pairwise (· ≤ ·) := by
  have h := List.pairwise_mergeSort (le := fun x y : Int => decide (x ≤ y)) (fun a b c h1 h2 => by simp at *; omega) (fun a b => by simp; omega) xs
  exact h.imp (fun h => by simpa using h)
theorem sort_any (u : Value) (xs : List Int) (w : World) (base : Nat) (hu : rowI w base u xs) (hl : xs.length ≤ 1000) :
    Calls Tryz.prog 79 #[u] w fun e w' => e = .returned (.tuple #[]) ∧ rowI w' base u (sorted xs) ∧ Below base w w' := by
  rcases hu.2 with ⟨rfl, hn⟩ | ⟨g, cap, cur, rfl, hb, hg, hn, hcm, hcs, ht⟩
  · have h0 : xs = [] := List.eq_nil_of_length_eq_zero hn
    subst h0
    refine (Any.slices_Sort_int_none Tryz.lays189 none 0 w).mono ?_
    rintro e w' ⟨rfl, rfl⟩
    exact ⟨rfl, by simpa [sorted] using hu, Below.refl _ _⟩
  · have hgs : g < w.heap.size := (Array.getElem?_eq_some_iff.1 hg).1
    rw [Nat.mul_one] at ht
    refine (Any.slices_Sort_int Tryz.lays189 g 0 cap xs w (holds_of_blockI hg ht) hgs (by omega)).mono ?_
    rintro e w' ⟨rfl, n, os, rfl⟩
    refine ⟨rfl, ?_, ?_⟩
    · have hl2 : (sorted xs).length = xs.length := (sorted_perm xs).length_eq
      unfold rowI
      rw [hl2]
      exact ownsRow_sortedI (ts := sorted xs) hl2 hb hg hn hcm hcs
    · have hgb := grownBy_sortedI (w := w) (g := g) (n := n) (os := os) (sorted xs).toArray
      exact ⟨hgb.os, hgb.tape, hgb.output, hgb.size, fun k hk => hgb.block k (by omega) (fun e => by have := Option.some.inj e; omega)⟩
end Go.Proofs.YteknehlkdgamjaaGreat

namespace Go.Proofs.YteknehlkdgamjaaGreat
open Go.RowKit Go.Shelf

def noneL (l : List Int) : Bool := l.length == 0
set_option maxRecDepth 100000 in
set_option maxHeartbeats 400000 in
theorem nonef_any (l : List Int) (x : Value) (w : World) (hx : RdI w .i64 x l) :
    Calls Tryz.prog 78 #[x] w fun e w' => e = .returned (.bool (noneL l)) ∧ w' = w := by
  obtain ⟨a, c, rfl, _⟩ := hx.form
  have hl : l.length ≤ maxLen := by obtain ⟨a2, c2, e, h1, h2, _⟩ := hx.form; cases e; omega
  clear hx
  unfold noneL
  obtain ⟨n, hn⟩ : ∃ n, n = l.length := ⟨_, rfl⟩
  rw [← hn]
  clear hn
  by_cases h : n = 0
  · subst h
    go_enter Tryz.func78, Tryz.ntmps78
    go_wp2_with fail
    go_ret
    exact ⟨rfl, rfl⟩
  · have d1 : (n == 0) = false := by simp [h]
    have d2 : ((n : Int) == 0) = false := by simp; omega
    rw [d1]
    clear hl
    go_enter Tryz.func78, Tryz.ntmps78
    go_wp2_with fail
    go_ret
    exact ⟨rfl, rfl⟩
set_option maxRecDepth 100000 in
set_option maxHeartbeats 400000 in
theorem indexlists_any (v : Value) (R : List (List Int)) (w : World) (hx0 : RdLL w v R) (hs : Sml R) :
    Calls Tryz.prog 104 #[v, .func (.func 78) #[] #[]] w fun e w' => e = .returned (.int .i64 (idxOf noneL R)) ∧ w' = w := by
  obtain ⟨a, c, rfl⟩ := hx0.sl
  have HX := Lib.hid hx0
  have hl := hs.1
  clear hx0 hs
  go_enter Tryz.func104, Tryz.ntmps104
  go_wp2_with fail
  go_loopw [5, 8] (fun _ i wr => ∃ k : Nat, k ≤ R.length ∧ i = .int .i64 k ∧ (∀ i, i < k → noneL (R[i]?.getD []) = false) ∧ wr = w) (fun _ i _ => R.length - (intOf i).toNat)
  case atStart => exact ⟨0, Nat.zero_le _, rfl, by intro i h; omega, rfl⟩
  case round =>
    obtain ⟨k, hk, rfl, ht, hwr⟩ := hrel
    subst hwr
    have HT := Lib.hid ht; clear ht
    by_cases hlt : k < R.length
    · obtain ⟨b, o, a', c', rfl, hb, g1, hr⟩ := HX.out.get k hlt
      have HC := Lib.hid (nonef_any (row R k) _ _ hr)
      have HFS := Lib.hid (fun h => find_none_step (p := noneL) HT.out hlt h)
      have HNX : Hid (noneL (row R k) = false → ∀ i, i < k + 1 → noneL (R[i]?.getD []) = false) := Lib.hid (fun h i hi => by
        by_cases e : i = k
        · subst e; exact h
        · exact HT.out i (by omega))
      have HJ : Hid (row R k = R[k]?.getD []) := Lib.hid rfl
      rw [← HJ.out] at HFS
      clear hr HJ
      generalize noneL (row R k) = q at *
      generalize (row R k).length = m at *
      go_wp2_with fail
      refine HC.out.mono ?_
      rintro e w2 ⟨rfl, h2⟩
      subst h2
      cases q with
      | true =>
        have HQ := Lib.hid (HFS.out rfl)
        go_wp2_with fail
        go_ret
        exact ⟨ret_int HQ.out.symm, rfl⟩
      | false =>
        have HQ := Lib.hid (HNX.out rfl)
        go_wp2_with fail
        go_roundw
        case rel => exact ⟨k + 1, by omega, by go_num, HQ.out, by trivial⟩
        case measure => simp [intOf]; omega
    · have HQ := Lib.hid (find_none (p := noneL) fun i hi => HT.out i (by omega))
      go_wp2_with fail
      go_ret
      exact ⟨ret_int HQ.out.symm, rfl⟩
set_option maxRecDepth 100000 in
theorem containslists_any (v : Value) (R : List (List Int)) (w : World) (hx0 : RdLL w v R) (hs : Sml R) :
    Calls Tryz.prog 80 #[v, .func (.func 78) #[] #[]] w fun e w' => e = .returned (.bool (R.any noneL)) ∧ w' = w := by
  obtain ⟨a, c, rfl⟩ := hx0.sl
  have HI := Lib.hid (indexlists_any _ R w hx0 hs)
  have HQ := Lib.hid (idxOf_any noneL R)
  clear hx0
  generalize idxOf noneL R = q at *
  generalize R.any noneL = g at *
  go_enter Tryz.func80, Tryz.ntmps80
  go_wp2_with fail
  refine HI.out.mono ?_
  rintro e w2 ⟨rfl, h2⟩
  subst h2
  go_wp2_with fail
  go_ret
  exact ⟨ret_bool HQ.out, rfl⟩
theorem rising_sorted {xs : List Int} {n : Nat} (h : isJ n xs = true) : lisB (sorted xs) n = decide xs.Nodup := by
  have hl : (sorted xs).length = xs.length := (sorted_perm xs).length_eq
  have hp := List.pairwise_iff_getElem.1 (sorted_le xs)
  rw [isJ_iff] at h
  have hr : ∀ i, i < (sorted xs).length → 0 ≤ elt (sorted xs) i ∧ elt (sorted xs) i < n := fun i hi => by
    have h1 := (sorted_perm xs).mem_iff.1 (elt_mem hi)
    obtain ⟨j, hj, e⟩ := List.getElem_of_mem h1
    have := h j hj
    rw [elt_lt hj, e] at this
    exact this
  rw [Bool.eq_iff_iff, lisB_iff, decide_eq_true_iff]
  constructor
  · intro hL
    refine (sorted_perm xs).nodup_iff.1 (List.pairwise_iff_getElem.2 fun i j hi hj hij e => ?_)
    have hst : ∀ k, i < k → k ≤ j → elt (sorted xs) i < elt (sorted xs) k := by
      intro k
      induction k with
      | zero => intro h; omega
      | succ k ih =>
        intro h1 h2
        have h3 := (hL (k + 1) (by omega)).2.2 (by omega)
        rw [Nat.add_sub_cancel] at h3
        by_cases e2 : i = k
        · subst e2; exact h3
        · have := ih (by omega) (by omega); omega
    have h4 := hst j hij (Nat.le_refl _)
    rw [elt_lt hi, elt_lt hj, e] at h4
    omega
  · intro hn i hi
    obtain ⟨h1, h2⟩ := hr i hi
    refine ⟨h1, h2, fun h0 => ?_⟩
    have hns := (sorted_perm xs).nodup_iff.2 hn
    have h3 := hp (i - 1) i (by omega) hi (by omega)
    have h4 := List.pairwise_iff_getElem.1 hns (i - 1) i (by omega) hi (by omega)
    rw [elt_lt (by omega), elt_lt hi]
    omega
/-- Each number of a list comes after the one before it. -/
def ruTo (J : List Job) (l : List Int) (k : Nat) : Bool := (List.range k).all fun i => i == 0 || aft J (elt l (i - 1)).toNat (elt l i).toNat
theorem ruTo_succ (J : List Job) (l : List Int) (k : Nat) : ruTo J l (k + 1) = (ruTo J l k && (k == 0 || aft J (elt l (k - 1)).toNat (elt l k).toNat)) := by unfold ruTo; rw [List.range_succ, List.all_append]; simp
theorem ruTo_false {J : List Job} {l : List Int} {k m : Nat} (h : ruTo J l k = false) (hkm : k ≤ m) : ruTo J l m = false := by
  induction hkm with
  | refl => exact h
  | step _ ih => rw [ruTo_succ, ih]; rfl
def rusTo (J : List Job) (R : List (List Int)) (k : Nat) : Bool := (List.range k).all fun i => ruTo J (row R i) (row R i).length
theorem rusTo_succ (J : List Job) (R : List (List Int)) (k : Nat) : rusTo J R (k + 1) = (rusTo J R k && ruTo J (row R k) (row R k).length) := by unfold rusTo; rw [List.range_succ, List.all_append]; simp
theorem rusTo_false {J : List Job} {R : List (List Int)} {k m : Nat} (h : rusTo J R k = false) (hkm : k ≤ m) : rusTo J R m = false := by
  induction hkm with
  | refl => exact h
  | step _ ih => rw [rusTo_succ, ih]; rfl
/-- All jobs, each once, in lists that are not empty. -/
def eqB (n : Nat) (R : List (List Int)) : Bool := decide (R.flatten.length = n) && decide R.flatten.Nodup && !R.any noneL
def coverC (J : List Job) (R : List (List Int)) : Int := if errC J = 0 then (if isJ J.length R.flatten then (if eqB J.length R then (if rusTo J R R.length then 0 else 16) else 15) else 3) else errC J
def coverV (J : List Job) (R : List (List Int)) : Int := if coverC J R = 0 then R.length else 0
end Go.Proofs.YteknehlkdgamjaaGreat

namespace Go.Proofs.YteknehlkdgamjaaGreat
open Go.RowKit Go.Shelf

theorem isJ_all {n : Nat} {l : List Int} : isJ n l = true ↔ ∀ x ∈ l, 0 ≤ x ∧ x < n := by
  rw [isJ_iff]
  constructor
  · intro h x hx
    obtain ⟨j, hj, rfl⟩ := List.getElem_of_mem hx
    rw [← elt_lt hj]; exact h j hj
  · intro h i hi
    exact h _ (elt_mem hi)
theorem isJ_row {n : Nat} {R : List (List Int)} (h : isJ n R.flatten = true) {k q : Nat} (hk : k < R.length) (hq : q < (row R k).length) : 0 ≤ elt (row R k) q ∧ elt (row R k) q < n := by
  rw [isJ_all] at h
  refine h _ (List.mem_flatten.2 ⟨row R k, ?_, elt_mem hq⟩)
  rw [row_lt hk]; exact List.getElem_mem hk
set_option maxRecDepth 100000 in
set_option maxHeartbeats 3200000 in
theorem pcheckcover_any (v x : Value) (J : List Job) (R : List (List Int)) (w : World) (hx0 : RdJ w v J) (hy0 : RdLL w x R) (hs : SmJ J) (hR : Sml R) :
    Calls Tryz.prog 46 #[.agg #[v], x] w (RetN w (coverV J R) (coverC J R)) := by
  have HO := Lib.hid (fun wz (h : Below w.heap.size w wz) => open_any v J wz (hx0.mono h) hs)
  have HCC := Lib.hid (fun wz (h : Below w.heap.size w wz) => concat_any x R wz (hy0.mono h) hR)
  have HCN := Lib.hid (fun wz (h : Below w.heap.size w wz) => containslists_any x R wz (hy0.mono h) hR)
  have HY := Lib.hid hy0
  have hfl := flat_len hR.2 R.length (Nat.le_refl _)
  rw [List.take_length] at hfl
  have hR1 := hR.1
  have HR2 := Lib.hid hR.2
  have hfl2 : R.flatten.length ≤ 1000 := by omega
  obtain ⟨a, c, rfl⟩ := hx0.sl
  obtain ⟨ax, cx, rfl⟩ := hy0.sl
  have hsn := hs.1
  clear hx0 hs hy0 hR hfl
  obtain ⟨n, hn⟩ : ∃ n, n = J.length := ⟨_, rfl⟩
  have HN := Lib.hid hn
  have HC := Lib.hid (show coverC J R = if errC J = 0 then (if isJ J.length R.flatten then (if eqB J.length R then (if rusTo J R R.length then 0 else 16) else 15) else 3) else errC J from rfl)
  have HV := Lib.hid (show coverV J R = if coverC J R = 0 then (R.length : Int) else 0 from rfl)
  have HRS := Lib.hid (fun h => rising_sorted (xs := R.flatten) (n := J.length) h)
  have HEQ := Lib.hid (show eqB J.length R = (decide (R.flatten.length = J.length) && decide R.flatten.Nodup && !R.any noneL) from rfl)
  have HIR := Lib.hid (fun h k q => isJ_row (n := J.length) (R := R) h (k := k) (q := q))
  rw [← hn] at HO HC hsn HRS HEQ HIR ⊢
  clear hn
  have gq : (w.alloc (.cells #[.slice a n c] 24)).cell? ⟨w.heap.size, 0, none⟩ = some (.slice a n c) := cnew rfl rfl
  have zq : w.heap.size < (w.alloc (.cells #[.slice a n c] 24)).heap.size := by simp
  have HB0 := Lib.hid (bal (bz w) (.cells #[.slice a n c] 24))
  unfold Opened at HO
  unfold RetN
  generalize hq0 : errC J = q at *
  have HQ := Lib.hid hq0
  clear hq0
  generalize coverC J R = C at *
  generalize coverV J R = V at *
  generalize eqB n R = eb at *
  generalize R.flatten = F at *
  go_enter Tryz.func46, Tryz.ntmps46
  go_wp2_with fail
  generalize w.alloc (.cells #[.slice a n c] 24) = w3 at *
  refine (HO.out _ HB0.out).mono ?_
  rintro e w4 ⟨hO, hB⟩
  have HB4 := Lib.hid (btr HB0.out hB)
  have g4 := (hB.cell (p := ⟨w.heap.size, 0, none⟩) zq).trans gq
  have z4 := Nat.lt_of_lt_of_le zq hB.size
  clear hB gq zq HO
  rcases hO with ⟨hq, rfl⟩ | ⟨rfl, d, rfl, hdk, hdz⟩
  · have t1 : (q != 0) = true := by simp [hq]
    rw [if_neg hq] at HC
    have HVV := Lib.hid (show V = 0 by rw [HV.out, if_neg (by rw [HC.out]; exact hq)])
    clear hq
    go_wp2_with fail
    refine (HCC.out _ HB4.out).mono ?_
    rintro e w5 ⟨u, rfl, hu, hB⟩
    have HB5 := Lib.hid (btr HB4.out hB)
    clear hu hB
    go_wp2_with fail
    go_ret2
    exact ⟨by rw [HVV.out, HC.out]; rfl, HB5.out⟩
  · rw [if_pos rfl] at HC
    have HFI := Lib.hid (fine_err HQ.out)
    have h12 : n ≤ 12 := by have := HFI.out.1.n12; have := HN.out; omega
    have HD := Lib.hid hdk
    clear hdk hdz
    go_wp2_with fail
    refine (HCC.out _ HB4.out).mono ?_
    rintro e w5 ⟨u, rfl, hu, hB⟩
    have HB5 := Lib.hid (btr HB4.out hB)
    have HBD5 := Lib.hid hB
    have HU := Lib.hid hu
    have g5 := (hB.cell (p := ⟨w.heap.size, 0, none⟩) z4).trans g4
    have z5 := Nat.lt_of_lt_of_le z4 hB.size
    obtain ⟨au, cu, hue⟩ := owns_form hu
    subst hue
    have HG4 := Lib.hid g4
    clear hB g4 hu
    go_wp2_with fail
    refine (within_any _ F 0 ((n : Int) - 1) w5 (RdI.of_owns HU.out) hfl2).mono ?_
    rintro e w6 ⟨rfl, hB⟩
    have HB6 := Lib.hid (btr HB5.out hB)
    have HBD6 := Lib.hid (btr HBD5.out hB)
    have HU6 := Lib.hid (show rowI w6 w4.heap.size (.slice au F.length cu) F from owns_kept HU.out hB)
    have g6 := (hB.cell (p := ⟨w.heap.size, 0, none⟩) z5).trans g5
    have z6 := Nat.lt_of_lt_of_le z5 hB.size
    have HIE : Hid ((!F.any (outB 0 ((n : Int) - 1))) = isJ n F) := Lib.hid rfl
    rw [HIE.out]
    clear hB g5 z5 HIE HU
    generalize hij : isJ n F = ij at *
    have HIJ := Lib.hid hij
    clear hij
    cases ij with
    | false =>
      have HC2 := Lib.hid (show C = 3 by rw [HC.out]; rfl)
      have HVV := Lib.hid (show V = 0 by rw [HV.out, if_neg (by rw [HC2.out]; decide)])
      go_wp2_with fail
      go_ret2
      exact ⟨by rw [HVV.out, HC2.out]; rfl, HB6.out⟩
    | true =>
      have HC2 := Lib.hid (show C = if eb then (if rusTo J R R.length then 0 else 16) else 15 by rw [HC.out]; rfl)
      have HSO := Lib.hid (HRS.out rfl)
      have HSL := Lib.hid ((sorted_perm F).length_eq)
      go_wp2_with fail
      refine (sort_any _ F w6 w4.heap.size HU6.out hfl2).mono ?_
      rintro e w7 ⟨rfl, hrow, hB7⟩
      have HB7 := Lib.hid (show Below w.heap.size w w7 from HB6.out.trans (hB7.mono HB4.out.size))
      have HBD7 := Lib.hid (show Below w4.heap.size w4 w7 from HBD6.out.trans hB7)
      have HR7 := Lib.hid (RdI.of_owns hrow)
      have g7 := (HBD7.out.cell (p := ⟨w.heap.size, 0, none⟩) (by show w.heap.size < w4.heap.size; exact z4)).trans HG4.out
      have z7 : w.heap.size < w7.heap.size := Nat.lt_of_lt_of_le z4 HBD7.out.size
      have hsl : (sorted F).length ≤ 1000 := by rw [HSL.out]; exact hfl2
      clear hrow hB7 g6 z6 HU6
      generalize hnd : decide F.Nodup = nd at *
      generalize hnn : R.any noneL = nn at *
      have HNN := Lib.hid hnn
      clear hnd hnn
      by_cases hFl : F.length = n
      · have d1 : ((F.length : Int) != (n : Int)) = false := by simp [hFl]
        have d2 : (F.length != n) = false := by simp [hFl]
        have HFL := Lib.hid (show decide (F.length = n) = true by simp [hFl])
        clear hFl
        go_wp2_with fail
        refine (prising_any _ (sorted F) n w7 HR7.out hsl (by omega)).mono ?_
        rintro e w8 ⟨rfl, hB8⟩
        have HB8 := Lib.hid (btr HB7.out hB8)
        have HBD8 := Lib.hid (btr HBD7.out hB8)
        have g8 := (hB8.cell (p := ⟨w.heap.size, 0, none⟩) z7).trans g7
        have z8 := Nat.lt_of_lt_of_le z7 hB8.size
        rw [HSO.out]
        clear hB8 g7 z7 d1 d2
        cases nd with
        | false =>
          have HEB := Lib.hid (show eb = false by rw [HEQ.out]; simp)
          have HC3 := Lib.hid (show C = 15 by rw [HC2.out, HEB.out]; rfl)
          have HVV := Lib.hid (show V = 0 by rw [HV.out, if_neg (by rw [HC3.out]; decide)])
          go_wp2_with fail
          go_ret2
          exact ⟨by rw [HVV.out, HC3.out]; rfl, HB8.out⟩
        | true =>
          go_wp2_with fail
          refine (HCN.out w8 HB8.out).mono ?_
          rintro e w9 ⟨rfl, h9⟩
          subst h9
          cases nn with
          | true =>
            have HEB := Lib.hid (show eb = false by rw [HEQ.out]; simp)
            have HC3 := Lib.hid (show C = 15 by rw [HC2.out, HEB.out]; rfl)
            have HVV := Lib.hid (show V = 0 by rw [HV.out, if_neg (by rw [HC3.out]; decide)])
            go_wp2_with fail
            go_ret2
            exact ⟨by rw [HVV.out, HC3.out]; rfl, HB8.out⟩
          | false =>
            have HEB := Lib.hid (show eb = true by rw [HEQ.out, HFL.out]; rfl)
            have HC3 := Lib.hid (show C = if rusTo J R R.length then 0 else 16 by rw [HC2.out, HEB.out]; rfl)
            clear g8 z8
            go_wp2_with fail
            go_loopw [56] (fun s56 wr => ∃ k : Nat, k ≤ R.length ∧ s56 = .int .i64 k ∧ rusTo J R k = true ∧ Below w9.heap.size w9 wr) (fun s56 _ => R.length - (intOf s56).toNat)
            case atStart => exact ⟨0, Nat.zero_le _, rfl, rfl, bz w9⟩
            case round =>
              obtain ⟨k, hk, rfl, ht, hB⟩ := hrel
              have HT := Lib.hid ht; have HBR := Lib.hid hB
              rename World => wO
              clear ht hB
              by_cases hlt : k < R.length
              · obtain ⟨b, o, a', c', e, hb, g1, hr⟩ := (HY.out.mono (btr HB8.out HBR.out)).get k hlt
                subst e
                have hrl := HR2.out k
                have HRS2 := Lib.hid (fun (wz : World) (h : Below wO.heap.size wO wz) => hr.mono h)
                have HST := Lib.hid (show rusTo J R (k + 1) = ruTo J (row R k) (row R k).length by rw [rusTo_succ, HT.out, Bool.true_and])
                have HFA := Lib.hid (fun h : ruTo J (row R k) (row R k).length = false => rusTo_false (J := J) (R := R) (k := k + 1) (m := R.length) (by rw [rusTo_succ, h, Bool.and_false]) hlt)
                have HRW := Lib.hid (fun q (hq : q < (row R k).length) => HIR.out (by first | trivial | rfl) k q hlt hq)
                have HRU := Lib.hid (ruTo_succ J (row R k))
                have HRF := Lib.hid (fun q (h : ruTo J (row R k) (q + 1) = false) (hq : q < (row R k).length) => ruTo_false h hq)
                have HR0 := Lib.hid (show ruTo J (row R k) 0 = true from rfl)
                clear hr
                generalize row R k = l at *
                go_wp2_with fail
                clear g1 hb
                go_loopw [62] (fun s62 wr => ∃ q : Nat, q ≤ l.length ∧ s62 = .int .i64 q ∧ ruTo J l q = true ∧ Below wO.heap.size wO wr) (fun s62 _ => l.length - (intOf s62).toNat)
                case atStart => exact ⟨0, Nat.zero_le _, rfl, HR0.out, bz wO⟩
                case round =>
                  obtain ⟨q, hq, rfl, ht, hB⟩ := hrel
                  have HT2 := Lib.hid ht; have HBQ := Lib.hid hB
                  rename World => wP
                  clear ht hB
                  by_cases hlq : q < l.length
                  · obtain ⟨bx, ox, e, hbx, hcx⟩ := (HRS2.out wP HBQ.out).get (by omega)
                    subst e
                    obtain ⟨v1, v2⟩ := HRW.out q hlq
                    obtain ⟨p, hp⟩ := Int.eq_ofNat_of_zero_le v1
                    have hpn : p < n := by omega
                    have gx := hcx q hlq
                    rw [hp] at gx
                    have HPT := Lib.hid (show (elt l q).toNat = p by omega)
                    have HBX := Lib.hid (show Below w4.heap.size w4 wP from btr HBD8.out (btr HBR.out HBQ.out))
                    by_cases hq0 : q = 0
                    · have d1 : decide (0 < (q : Int)) = false := by simp; omega
                      have d2 : decide (0 < q) = false := by simp; omega
                      have HNX := Lib.hid (show ruTo J l (q + 1) = true by rw [HRU.out, HT2.out, hq0]; rfl)
                      clear hq0 hcx v1 v2 hp
                      go_upto_region 17 with fail
                      go_quiet (fail)
                      have HBT := Lib.hid (btr HBQ.out (Below.drewN' nq (bz wP)))
                      generalize wP.drewN nq = wT at *
                      clear gx hbx
                      go_wp2_with fail
                      go_roundw
                      case rel => exact ⟨q + 1, by omega, by go_num, HNX.out, HBT.out⟩
                      case measure => simp [intOf]; omega
                    · have d1 : decide (0 < (q : Int)) = true := by simp; omega
                      have d2 : decide (0 < q) = true := by simp; omega
                      have hq1 : (q == 0) = false := by simp [hq0]
                      obtain ⟨v3, v4⟩ := HRW.out (q - 1) (by omega)
                      obtain ⟨r, hr⟩ := Int.eq_ofNat_of_zero_le v3
                      have hrn : r < n := by omega
                      have gy := hcx (q - 1) (by omega)
                      rw [hr] at gy
                      have hqq : ((q : Int) - 1) = ((q - 1 : Nat) : Int) := by omega
                      have HSA := Lib.hid (show ruTo J l (q + 1) = aft J r p by rw [HRU.out, HT2.out, hq1, HPT.out, show (elt l (q - 1)).toNat = r by omega]; rfl)
                      obtain ⟨da, dc, dg, dcg, dz, dd1, _, dd3, dgz, dmk⟩ := (HD.out.mono HBX.out).get
                      rw [← HN.out] at dd1 dd3 dmk
                      have gm := dmk r p hrn (by omega)
                      clear hcx v1 v2 hp v3 v4 hr hq0 hq1 dmk dd1
                      cases hb : aft J r p with
                      | true =>
                        rw [hb, if_pos rfl] at gm
                        have HNX := Lib.hid (show ruTo J l (q + 1) = true by rw [HSA.out, hb])
                        clear hb
                        go_upto_region 17 with fail
                        go_quiet (fail)
                        have HBT := Lib.hid (btr HBQ.out (Below.drewN' nq (bz wP)))
                        generalize wP.drewN nq = wT at *
                        clear gx gy gm dd3 dgz dz hbx
                        go_wp2_with fail
                        go_roundw
                        case rel => exact ⟨q + 1, by omega, by go_num, HNX.out, HBT.out⟩
                        case measure => simp [intOf]; omega
                      | false =>
                        rw [hb, if_neg (by decide)] at gm
                        have HC4 := Lib.hid (show C = 16 by rw [HC3.out, HFA.out (HRF.out q (by rw [HSA.out, hb]) hlq)]; rfl)
                        have HVV := Lib.hid (show V = 0 by rw [HV.out, if_neg (by rw [HC4.out]; decide)])
                        clear hb
                        go_upto_region 17 with fail
                        go_quiet (fail)
                        have HBT := Lib.hid (btr HBQ.out (Below.drewN' nq (bz wP)))
                        generalize wP.drewN nq = wT at *
                        clear gx gy gm dd3 dgz dz hbx
                        go_wp2_with fail
                        go_ret2
                        exact ⟨by rw [HVV.out, HC4.out]; rfl, btr HB8.out (btr HBR.out HBT.out)⟩
                  · have HNX := Lib.hid (show rusTo J R (k + 1) = true by
                      have hqe : q = l.length := by omega
                      have h9 := HT2.out
                      rw [hqe] at h9
                      rw [HST.out, h9])
                    go_wp2_with fail
                    go_roundw
                    case rel => exact ⟨k + 1, by omega, by go_num, HNX.out, btr HBR.out HBQ.out⟩
                    case measure => simp [intOf]; omega
              · have HC4 := Lib.hid (show C = 0 by
                  have hke : k = R.length := by omega
                  have h9 := HT.out
                  rw [hke] at h9
                  rw [HC3.out, h9]; rfl)
                have HVV := Lib.hid (show V = (R.length : Int) by rw [HV.out, if_pos HC4.out])
                go_wp2_with fail
                go_ret2
                exact ⟨by rw [HVV.out, HC4.out]; rfl, btr HB8.out HBR.out⟩
      · have d1 : ((F.length : Int) != (n : Int)) = true := by simp; omega
        have d2 : (F.length != n) = true := by simp [hFl]
        have HEB := Lib.hid (show eb = false by rw [HEQ.out]; simp [hFl])
        have HC3 := Lib.hid (show C = 15 by rw [HC2.out, HEB.out]; rfl)
        have HVV := Lib.hid (show V = 0 by rw [HV.out, if_neg (by rw [HC3.out]; decide)])
        clear hFl
        go_wp2_with fail
        go_ret2
        exact ⟨by rw [HVV.out, HC3.out]; rfl, HB7.out⟩
end Go.Proofs.YteknehlkdgamjaaGreat

namespace Go.Proofs.YteknehlkdgamjaaGreat
open Go.RowKit Go.Shelf

/-- The iterator's contract: it yields values that encode xs, one after another, as long as it is told to go on; it changes no memory that was there, and what it makes has to stay while it waits. -/
def YieldsV {α : Type} (n : Nat) (P : Program) (g : Nat) (lb : Array Value) (Enc : Nat → α → Array Value → World → Prop) (Rd : World → Prop) (xs : List α) : Prop :=
  ∀ (l : Nat) (J Jx : List α → World → Prop) (W : World),
    (∀ s, Abides1 W.heap.size W.heap.size (J s)) → (∀ s, Abides1 W.heap.size W.heap.size (Jx s)) → (∀ s W1, J s W1 → Rd W1) →
    (∀ pre x v W1, J pre W1 → pre ++ [x] <+: xs → Enc W.heap.size x v W1 → W.heap.size ≤ W1.heap.size → YieldAt Fence.wide (n - 1) P l v W1 fun e W' =>
      (e = .returned (.bool true) ∧ J (pre ++ [x]) W' ∧ KF W.heap.size W1 W') ∨ (e = .returned (.bool false) ∧ Jx (pre ++ [x]) W')) →
    J [] W →
    CallsIn Fence.wide n P g (#[.func (.yield l) #[] #[]] ++ lb) W fun e W' => (∃ v, e = .returned v) ∧ (J xs W' ∨ ∃ pre, pre <+: xs ∧ Jx pre W')
/-- The statement 'for x := range g'. -/
theorem range_lawV {P : Program} {n : Nat} {α : Type} {g : Operand} {ps : Array Tmp} {assign body : Code} {Q : Exit → Act → World → Prop} {a : Act} {w : World}
    {gf : Nat} {lb : Array Value} (hg : a.eval g = .func (.func gf) #[] lb) (eg : ∀ args w, (callFunc gf args).run P w = .ok (.enter gf args) w)
    {Enc : Nat → α → Array Value → World → Prop} {Rd : World → Prop} {xs : List α} (hseq : YieldsV (n - 1) P gf lb Enc Rd xs) (hps : ∀ z x v W, Enc z x v W → v.size = ps.size)
    (I : List α → World → Prop) (Ix : Code → List α → World → Prop)
    (hI : ∀ s, Abides1 w.heap.size (w.heap.size + 2) (I s)) (hIx : ∀ c s, Abides1 w.heap.size (w.heap.size + 2) (Ix c s)) (hR : ∀ s W1, I s W1 → Rd W1) (h0 : I [] w)
    (hround : ∀ (l : Nat) (pre : List α) (x : α) (v : Array Value) (W : World), I pre W → pre ++ [x] <+: xs → Enc (w.heap.size + 2) x v W → w.heap.size + 2 ≤ W.heap.size →
      assign.wpIn (Fence.wide.inRound l) (n - 1 - 1) P (Exit.then (fun a₁ W₁ => KF w.heap.size W W₁ ∧ ∀ W₂, W₁.grownBy W₂ (some (w.heap.size + 1)) → W₂.heap.size = W₁.heap.size →
          body.wpIn (Fence.wide.inRound l) (n - 1 - 1) P (roundEnd w.heap.size I Ix (pre ++ [x]) W₂) a₁ W₂) (fun _ _ _ => False))
        { tmps := (ps.zip v).foldl (fun t (p, v) => t.setIfInBounds p v) a.tmps, defers := [] } W)
    (hdone : ∀ (W : World), I xs W → W.heap[w.heap.size]? = some (.deferred (some [])) → Q .normal { a with defers := { target := .collected w.heap.size, args := #[] } :: a.defers } W)
    (hstop : ∀ (c : Code) (pre : List α) (W : World), pre <+: xs → Ix c pre W → W.heap[w.heap.size]? = some (.deferred (some [])) → c.wpIn Fence.wide n P Q { a with defers := { target := .collected w.heap.size, args := #[] } :: a.defers } W) :
    (Code.rangeFunc g ps assign body).wpIn Fence.wide n P Q a w := by
  refine wpIn_rangeFunc ?_
  intro fn hfn
  let rec0 : LoopState → Option Code → Loop := fun st pe => { state := st, pending := pe, fn, tmps := a.tmps, params := ps, assign, body, defers := w.heap.size }
  obtain ⟨V, hV⟩ : ∃ V, (w.alloc (.deferred (some []))).alloc (.loop (rec0 .ready none)) = V := ⟨_, rfl⟩
  have hVs : V.heap.size = w.heap.size + 2 := by rw [← hV]; simp
  have hVl : V.heap[w.heap.size + 1]? = some (.loop (rec0 .ready none)) := by rw [← hV]; exact heap_alloc2_new _ _ _
  have hVd : V.heap[w.heap.size]? = some (.deferred (some [])) := by rw [← hV]; exact heap_alloc2_old _ _ _
  have hVI : I [] V := by
    rw [← hV]
    exact hI [] _ _ none (hI [] _ _ none h0 (World.grownBy_alloc _ _ none) (fun r e => by cases e)) (World.grownBy_alloc _ _ none) (fun r e => by cases e)
  -- what stays of the two blocks of the loop's own
  have keep : ∀ {X Y : World} {row : Option Nat} {j : Nat} {o : Obj}, X.heap[j]? = some o → j < V.heap.size → X.grownBy Y row → (∀ r, row = some r → V.heap.size ≤ r ∧ r < V.heap.size) → Y.heap[j]? = some o := by
    intro X Y row j o hx hj hgr hr
    rw [hgr.block j (Array.getElem?_eq_some_iff.1 hx).1 (fun e => by have := hr j e.symm; omega)]
    exact hx
  have wider : ∀ {row : Option Nat}, (∀ r, row = some r → V.heap.size ≤ r ∧ r < V.heap.size) → ∀ r, row = some r → w.heap.size ≤ r ∧ r < w.heap.size + 2 := by
    intro row h r e
    have := h r e
    omega
  have turn : ∀ {X : World} {o : Obj} {J : World → Prop}, Abides1 w.heap.size (w.heap.size + 2) J → J X → J (X.putObj (w.heap.size + 1) o) :=
    fun h hx => h _ _ (some (w.heap.size + 1)) hx (grownBy_putObj' _ _ _) (fun r e => by cases e; omega)
  refine ⟨w.heap.size + 1, [{ target := .collected w.heap.size, args := #[] }], V, { target := .fn (.func gf) lb, args := #[.func (.yield (w.heap.size + 1)) #[] #[]] }, V, gf,
    #[.func (.yield (w.heap.size + 1)) #[] #[]] ++ lb, V, ?_, ?_, fun _ _ => trivial, ?_, fun h => by simp [Fence.wide] at h, ?_⟩
  · rw [← hV]; exact run_enterLoop_outer _ _ _ _ _
  · simp only [resolve, hg]
    simp [go_sem]
  · simp [invoke, go_sem, eg]
  refine (hseq (w.heap.size + 1)
    (fun s X => I s X ∧ X.heap[w.heap.size + 1]? = some (.loop (rec0 .ready none)) ∧ X.heap[w.heap.size]? = some (.deferred (some [])))
    (fun s X => ∃ c, Ix c s X ∧ X.heap[w.heap.size + 1]? = some (.loop (rec0 .done (some c))) ∧ X.heap[w.heap.size]? = some (.deferred (some []))) V
    (fun s X Y row h hgr hr => ⟨hI s X Y row h.1 hgr (wider hr), keep h.2.1 (by omega) hgr hr, keep h.2.2 (by omega) hgr hr⟩)
    (fun s X Y row h hgr hr => by
      obtain ⟨c, h1, h2, h3⟩ := h
      exact ⟨c, hIx c s X Y row h1 hgr (wider hr), keep h2 (by omega) hgr hr, keep h3 (by omega) hgr hr⟩)
    (fun s X h => hR s X h.1) ?_ ⟨hVI, hVl, hVd⟩).mono ?_
  · rintro pre x v X ⟨hi, hl, hd⟩ hpre henc hsz
    have hlt : w.heap.size + 1 < X.heap.size := (Array.getElem?_eq_some_iff.1 hl).1
    refine ⟨fn, _, assign, body, run_yield (args := v) hl (hps _ x v X henc), roundIn_of_wpIn trivial (wpIn_mono (hround (w.heap.size + 1) pre x v X hi hpre (by rw [← hVs]; exact henc) (by omega)) ?_)⟩
    rintro e a1 X1 hp
    cases e with
    | normal =>
      obtain ⟨hk1, hbody⟩ := hp
      have hl1 := (hk1.same _ (by omega) hlt).trans hl
      have hd1 := (hk1.same _ (by omega) (by omega)).trans hd
      refine ⟨_, run_beginRound hl1 rfl, wpIn_mono (hbody _ (grownBy_putObj' _ _ _) (by simp)) ?_⟩
      have hlt1 : w.heap.size + 1 < X1.heap.size := (Array.getElem?_eq_some_iff.1 hl1).1
      have fin : ∀ (jump : Option Code) (X3 : World), KF w.heap.size (X1.putObj (w.heap.size + 1) (.loop { rec0 .ready none with state := .busy })) X3 →
          (Instr.endRound (w.heap.size + 1) jump).run P X3 = .ok (.bool jump.isNone) (X3.putObj (w.heap.size + 1) (.loop (rec0 (if jump.isNone then .ready else .done) jump))) ∧
          (X3.putObj (w.heap.size + 1) (.loop (rec0 (if jump.isNone then .ready else .done) jump))).heap[w.heap.size + 1]? = some (.loop (rec0 (if jump.isNone then .ready else .done) jump)) ∧
          (X3.putObj (w.heap.size + 1) (.loop (rec0 (if jump.isNone then .ready else .done) jump))).heap[w.heap.size]? = some (.deferred (some [])) ∧
          KF V.heap.size X (X3.putObj (w.heap.size + 1) (.loop (rec0 (if jump.isNone then .ready else .done) jump))) := by
        intro jump X3 hk3
        have hl3 : X3.heap[w.heap.size + 1]? = some (.loop { rec0 .ready none with state := .busy }) := (hk3.same _ (by omega) (by simp; omega)).trans (World.putObj_heap_same hlt1)
        have hd3 : X3.heap[w.heap.size]? = some (.deferred (some [])) := (hk3.same _ (by omega) (by simp; omega)).trans ((World.putObj_heap_other (by omega)).trans hd1)
        refine ⟨run_endRound jump hl3, World.putObj_heap_same (Array.getElem?_eq_some_iff.1 hl3).1, (World.putObj_heap_other (by omega)).trans hd3, ?_, fun r h1 h2 => ?_⟩
        · have h1 := hk3.size; have h2 := hk1.size; simp at h1 ⊢; omega
        · have h4 := hk1.size
          rw [World.putObj_heap_other (by omega), hk3.same r (by omega) (by simp; omega), World.putObj_heap_other (by omega), hk1.same r (by omega) (by omega)]
      rintro e2 a3 X3 hp2
      cases e2 with
      | normal =>
        obtain ⟨hk3, hi3⟩ := hp2
        obtain ⟨f1, f2, f3, f4⟩ := fin none X3 hk3
        exact ⟨_, _, f1, .inl ⟨rfl, ⟨turn (hI _) hi3, f2, f3⟩, f4⟩⟩
      | ret =>
        obtain ⟨hk3, hi3⟩ := hp2
        obtain ⟨f1, f2, f3, f4⟩ := fin (some .ret) X3 hk3
        exact ⟨_, _, f1, .inr ⟨rfl, _, turn (hIx _ _) hi3, f2, f3⟩⟩
      | exit id =>
        obtain ⟨hk3, hi3⟩ := hp2
        obtain ⟨f1, f2, f3, f4⟩ := fin (some (.exit id)) X3 hk3
        exact ⟨_, _, f1, .inr ⟨rfl, _, turn (hIx _ _) hi3, f2, f3⟩⟩
      | goto t =>
        obtain ⟨hk3, hi3⟩ := hp2
        obtain ⟨f1, f2, f3, f4⟩ := fin (some (.goto t)) X3 hk3
        exact ⟨_, _, f1, .inr ⟨rfl, _, turn (hIx _ _) hi3, f2, f3⟩⟩
      | panic ch => exact hp2.elim
      | outgrown => exact hp2.elim
    | ret => exact hp.elim
    | exit id => exact hp.elim
    | goto t => exact hp.elim
    | panic ch => exact hp.elim
    | outgrown => exact hp.elim
  · rintro e X ⟨⟨v, rfl⟩, ⟨hi, hl, hd⟩ | ⟨pre, hpre, c, hi, hl, hd⟩⟩
    · exact ⟨none, _, run_endLoop hl (by simp [rec0]), hdone _ (turn (hI _) hi) ((World.putObj_heap_other (by omega)).trans hd)⟩
    · exact ⟨some c, _, run_endLoop hl (by simp [rec0]), hstop c pre _ hpre (turn (hIx _ _) hi) ((World.putObj_heap_other (by omega)).trans hd)⟩

end Go.Proofs.YteknehlkdgamjaaGreat

namespace Go.Proofs.YteknehlkdgamjaaGreat
open Go.RowKit Go.Shelf
attribute [local go_sem] Oper.semAt_some

theorem round_anyDepth {m m' : Nat} {P : Program} {l : Nat} {f : FuncId} {tmps : Array Value} {assign body : Code} {w : World} {R : Ending → World → Prop}
    (h : RoundIn Fence.wide m P l f tmps assign body w R) : RoundIn Fence.wide m' P l f tmps assign body w R := ⟨h.1, fun c cs _ => h.2 c cs (fun d e => by cases e)⟩
theorem yield_anyDepth {m : Nat} (m' : Nat) {P : Program} {l : Nat} {args : Array Value} {W : World} {R : Ending → World → Prop} (h : YieldAt Fence.wide m P l args W R) : YieldAt Fence.wide m' P l args W R := by
  obtain ⟨fn, tmps, assign, body, hy, hR⟩ := h
  exact ⟨fn, tmps, assign, body, hy, round_anyDepth hR⟩
theorem rowI.keep {z : Nat} {w w' : World} {u : Value} {xs : List Int} (h : rowI w z u xs) (hk : KF z w w') : rowI w' z u xs := by
  refine ⟨h.1, ?_⟩
  rcases h.2 with hn | ⟨g, cap, cur, rfl, hb, hg, rest⟩
  · exact .inl hn
  · exact .inr ⟨g, cap, cur, rfl, hb, (hk.same g hb (Array.getElem?_eq_some_iff.1 hg).1).trans hg, rest⟩
/-- What is yielded: a slice that lies behind z. -/
def EncS (z : Nat) (l : List Nat) (v : Array Value) (W : World) : Prop := ∃ u, v = #[u] ∧ rowI W z u (ints l)
/-- The chains that goOn has yielded before job k. -/
def goTo (J : List Job) (P : List Nat) (i k : Nat) : List (List Nat) := (nxtTo J i k).flatMap fun k => (chn J k).map fun l => P ++ l
theorem goTo_zero (J : List Job) (P : List Nat) (i : Nat) : goTo J P i 0 = [] := rfl
theorem goTo_succ (J : List Job) (P : List Nat) (i k : Nat) : goTo J P i (k + 1) = goTo J P i k ++ if edg J i k then (chn J k).map fun l => P ++ l else [] := by
  unfold goTo
  rw [nxtTo_succ]
  split
  · rw [List.flatMap_append]; simp
  · rw [List.append_nil]
theorem goTo_pre (J : List Job) (P : List Nat) (i k : Nat) : ∀ d, goTo J P i k <+: goTo J P i (k + d)
  | 0 => List.prefix_refl _
  | d + 1 => by
    refine (goTo_pre J P i k d).trans ?_
    rw [← Nat.add_assoc, goTo_succ]
    exact List.prefix_append _ _
theorem goTo_all {J : List Job} (hJ : FineJ J) (hc : cir J = false) {i : Nat} (hi : i < J.length) (P : List Nat) :
    ((chn J i).map fun l => P ++ l) = if nxtTo J i J.length = [] then [P ++ [i]] else goTo J (P ++ [i]) i J.length := by
  rw [chn_eq hJ hc hi, ← nxt_to]
  split
  · rfl
  · unfold goTo
    rw [List.map_flatMap, ← nxt_to]
    refine flatMap_same fun k _ => ?_
    rw [List.map_map]
    refine List.map_congr_left fun l _ => ?_
    simp
theorem ints_last (P : List Nat) (i : Nat) : elt (ints (P ++ [i])) P.length = (i : Int) := by
  unfold elt ints; simp
theorem ints_suc (P : List Nat) (i : Nat) : (ints (P ++ [i])).length = P.length + 1 := by rw [ints_len]; simp
/-- The append to a slice that is clipped to its length: a row of one's own. -/
theorem go_push {w : World} {z g c : Nat} {L : List Nat} (hr : rowI w z (.slice (some ⟨g, 0, none⟩) L.length c) (ints L)) (hz : z ≤ w.heap.size) (hl : L.length ≤ 100) (k : Nat) (ty : TypeId) :
    ∃ v' w', (Builtin.append_ #[41, 41] ty #[.slice (some ⟨g, 0, none⟩) L.length L.length, .slice (some ⟨w.heap.size, 0, none⟩) 1 1]).run Tryz.prog (w.alloc (.cells #[.int .i64 (k : Int)] 3)) = .ok v' w' ∧
      rowI w' z v' (ints (L ++ [k])) ∧ Below w.heap.size w w' := by
  have hil := ints_len L
  have hb1 := bal (bz w) (.cells #[.int .i64 (k : Int)] 3)
  have hrd : RdI (w.alloc (.cells #[.int .i64 (k : Int)] 3)) .i64 (.slice (some ⟨g, 0, none⟩) (ints L).length c) (ints L) := by rw [hil]; exact (RdI.of_owns hr).mono hb1
  obtain ⟨v9, w9, hrun, hown, hgr⟩ := append_clip (w.alloc (.cells #[.int .i64 (k : Int)] 3)) (some ⟨g, 0, none⟩) (ints L).length c (ints L) hrd (by intro ad e; cases e; exact ⟨rfl, rfl⟩) (by omega) ⟨w.heap.size, 0, none⟩ (k : Int) (cnew rfl rfl) ty
  rw [hil] at hrun hown
  have hl2 : (L ++ [k]).length = L.length + 1 := by simp
  refine ⟨v9, w9, hrun, ?_, bgr hb1 hgr (fun k e => by cases e)⟩
  unfold rowI
  rw [ints_snoc, List.length_append, List.length_singleton, hil]
  exact own_mono hown (by simp; omega)
theorem wpListIn_append_ran {F : Fence} {n : Nat} {w w' : World} {v x' y' : Value} {ops : Array Oper} {rest : List Oper} {o : Oper} {a : Act} {Q : Exit → Act → World → Prop} (t : TypeId) (hgd : o.guard = none) (s x : Operand)
    (ho : o.op = .call { callee := .builtin .append, args := #[s, x], argTypes := #[t, t] }) (hs : a.eval s = x') (hx : a.eval x = y') (hr : (Builtin.append_ #[t, t] o.type #[x', y']).run Tryz.prog w = .ok v w') (H : wpListIn F n Tryz.prog ops Q rest (a.put o.dst v) w') :
    wpListIn F n Tryz.prog ops Q (o :: rest) a w := by
  refine wpListIn_plain hgd fun K hK' => ?_
  unfold Oper.wpIn
  refine ⟨?_, ?_⟩
  · simp [Oper.about, ho, resolve, Target.leads, Sem.run_pure]
  · rw [Oper.semAt_plain F _ _ (by rw [ho]; intro c hc'; cases hc')]
    simp [execOp, ho, resolve, invoke, builtin, hs, hx, hr, Result.andThen]
    exact hK' _ _ H
end Go.Proofs.YteknehlkdgamjaaGreat

namespace Go.Proofs.YteknehlkdgamjaaGreat
open Go.RowKit Go.Shelf
attribute [local go_sem] Oper.semAt_some

def DeskV (w : World) (d : Nat) (a : Option Addr) (c : Nat) (J : List Job) : Prop := w.cell? ⟨d, 0, none⟩ = some (.slice a J.length c) ∧ RdJ w (.slice a J.length c) J ∧ DeskAt w d J
theorem DeskAt.toV {w : World} {d : Nat} {J : List Job} (h : DeskAt w d J) : ∃ a c, DeskV w d a c J := by
  obtain ⟨a, c, _, _, _, h1, h2, _⟩ := h.get
  exact ⟨a, c, h1, h2, h⟩
theorem DeskV.mono {w w' : World} {d : Nat} {a : Option Addr} {c : Nat} {J : List Job} (h : DeskV w d a c J) (hb : Below w.heap.size w w') : DeskV w' d a c J :=
  ⟨(hb.cell (p := ⟨d, 0, none⟩) (World.block_lt_of_cell? w _ h.1)).trans h.1, h.2.1.mono hb, h.2.2.mono hb⟩
set_option maxRecDepth 100000 in
set_option maxHeartbeats 4000000 in
theorem goOn_step {J : List Job} (hJ : FineJ J) (hc : cir J = false) (d l z : Nat) (a : Option Addr) (c : Nat) (Jm Jx : List (List Nat) → World → Prop) (xs : List (List Nat)) (hJm : ∀ s, Abides1 z z (Jm s)) (hD : ∀ s W1, Jm s W1 → DeskV W1 d a c J)
    (hY : ∀ m pre x v W1, Jm pre W1 → pre ++ [x] <+: xs → EncS z x v W1 → z ≤ W1.heap.size → YieldAt Fence.wide m Tryz.prog l v W1 fun e W' => (e = .returned (.bool true) ∧ Jm (pre ++ [x]) W' ∧ KF z W1 W') ∨ (e = .returned (.bool false) ∧ Jx (pre ++ [x]) W'))
    {i : Nat} (hi : i < J.length) (P : List Nat)
    (ih : ∀ k, edg J i k = true → ∀ (n : Nat) (pre : List (List Nat)) (u : Value) (W : World), rowI W z u (ints ((P ++ [i]) ++ [k])) → z ≤ W.heap.size → Jm pre W → (pre ++ (chn J k).map fun l => (P ++ [i]) ++ l) <+: xs →
      CallsIn Fence.wide n Tryz.prog 110 #[.pointer (some ⟨d, 0, none⟩), u, .func (.yield l) #[] #[]] W fun e W' =>
        (e = .returned (.bool true) ∧ Jm (pre ++ (chn J k).map fun l => (P ++ [i]) ++ l) W' ∧ KF z W W') ∨ (e = .returned (.bool false) ∧ ∃ q, q <+: xs ∧ Jx q W'))
    (n : Nat) (pre : List (List Nat)) (u : Value) (W : World) (hp : P.length ≤ 50) (hr : rowI W z u (ints (P ++ [i]))) (hz : z ≤ W.heap.size) (h0 : Jm pre W) (hx : (pre ++ (chn J i).map fun l => P ++ l) <+: xs) :
    CallsIn Fence.wide n Tryz.prog 110 #[.pointer (some ⟨d, 0, none⟩), u, .func (.yield l) #[] #[]] W fun e W' =>
      (e = .returned (.bool true) ∧ Jm (pre ++ (chn J i).map fun l => P ++ l) W' ∧ KF z W W') ∨ (e = .returned (.bool false) ∧ ∃ q, q <+: xs ∧ Jx q W') := by
  obtain ⟨f1, f2, _⟩ := hD _ _ h0
  have hzd := World.block_lt_of_cell? W _ f1
  obtain ⟨g, cb, rfl, _⟩ := rowI.toI hr (by rw [ints_suc]; omega)
  have HALL := Lib.hid (goTo_all hJ hc hi P)
  obtain ⟨xe, hxe⟩ : ∃ xe, xe = (chn J i).map fun l => P ++ l := ⟨_, rfl⟩
  rw [← hxe] at HALL hx
  rw [← hxe]
  clear hxe
  rw [ints_suc] at hr
  rw [ints_suc]
  have HR := Lib.hid hr
  have HLA := Lib.hid (ints_last P i)
  have HS := Lib.hid (goTo_succ J (P ++ [i]) i)
  have HNS := Lib.hid (nxtTo_succ J i)
  have HPR := Lib.hid (fun k (hk : k ≤ J.length) => (show goTo J (P ++ [i]) i k <+: goTo J (P ++ [i]) i J.length from by have := goTo_pre J (P ++ [i]) i k (J.length - k); rwa [show k + (J.length - k) = J.length by omega] at this))
  have HLL := Lib.hid (show (P ++ [i]).length = P.length + 1 by simp)
  have HJ := Lib.hid hJ
  have HD := Lib.hid hD; have HY := Lib.hid hY; have HIH := Lib.hid ih; have HJM := Lib.hid hJm; have HX := Lib.hid hx
  have H0 := Lib.hid h0
  obtain ⟨p, hpe⟩ : ∃ p, p = P.length := ⟨_, rfl⟩
  have HP := Lib.hid hpe
  rw [← hpe] at hp
  rw [← hpe]
  obtain ⟨nJ, hn⟩ : ∃ n, n = J.length := ⟨_, rfl⟩
  have HN := Lib.hid hn
  have hn12 := hJ.n12
  rw [← hn] at f1 hn12
  clear hpe hn f2 hr hD hY ih hJm hx h0 hJ hc
  refine callsIn_of_wp Tryz.func110 rfl trivial ?_ rfl
  simp only [Tryz.ntmps110, List.size_toArray, List.length_cons, List.length_nil, Nat.reduceAdd, Nat.reduceSub, Array.replicate_succ, Array.replicate_zero, List.push_toArray, List.append_toArray, List.nil_append, List.cons_append]
  gi_wp2
  gi_loopw [7, 16] (fun s7 s16 wr => ∃ k : Nat, k ≤ nJ ∧ s16 = .int .i64 k ∧ s7 = .bool (decide (nxtTo J i k = [])) ∧ Jm (pre ++ goTo J (P ++ [i]) i k) wr ∧ KF z W wr) (fun _ s16 _ => nJ - (intOf s16).toNat)
  case atStart => exact ⟨0, Nat.zero_le _, rfl, rfl, by rw [goTo_zero, List.append_nil]; exact H0.out, KF.refl _ _⟩
  case round =>
    obtain ⟨k, hk, rfl, rfl, hj, hkf⟩ := hrel
    have HJJ := Lib.hid hj; have HKF := Lib.hid hkf; have HRK := Lib.hid (HR.out.keep hkf)
    have hs := hkf.size
    clear hj hkf
    rename World => wi
    by_cases hlt : k < nJ
    · obtain ⟨_, q2, q3⟩ := HD.out _ _ HJJ.out
      obtain ⟨bj, oj, aw, cw, e, hbj, g1, g2, g3, hrw⟩ := q2.get k (by have := HN.out; omega)
      subst e
      obtain ⟨gb, cb2, e, hgb, gc, _⟩ := HRK.out.get p (by rw [ints_suc]; have := HP.out; omega)
      rw [ints_suc, ← HP.out] at e
      cases e
      have gc' : wi.cell? ⟨g, p, none⟩ = some (.int .i64 (i : Int)) := by rw [gc, HP.out, HLA.out]
      have HWW := Lib.hid (fun (wz : World) (h : Below wi.heap.size wi wz) => hrw.mono h)
      have hm12 := HJ.out.ws_le (i := k) (by have := HN.out; omega)
      have HE := Lib.hid (show (job J k).ws.contains (i : Int) = edg J i k by unfold edg; rw [decide_eq_true (show k < J.length by have := HN.out; omega), Bool.true_and])
      have HSK := Lib.hid (HS.out k)
      have HNK := Lib.hid (HNS.out k)
      have HJA := Lib.hid (fun wz (hB : Below wi.heap.size wi wz) => HJM.out _ _ _ none HJJ.out (grown_of hB) (fun r e => by cases e))
      clear gc hrw q2 q3
      generalize (job J k).lo = lo at *
      generalize (job J k).hi = hh at *
      generalize (job J k).ws = ws at *
      obtain ⟨m, hm⟩ : ∃ m, m = ws.length := ⟨_, rfl⟩
      have HM := Lib.hid hm
      rw [← hm] at g3 HWW hm12
      clear hm
      gi_wp2_with fail
      have hB3 := bal (bz wi) (.cells #[.int .i64 lo, .int .i64 hh, .slice aw m cw] 62)
      have HB3 := Lib.hid hB3
      have gq : (wi.alloc (.cells #[.int .i64 lo, .int .i64 hh, .slice aw m cw] 62)).cell? ⟨wi.heap.size, 2, none⟩ = some (.slice aw m cw) := cnew rfl rfl
      have zq : wi.heap.size < (wi.alloc (.cells #[.int .i64 lo, .int .i64 hh, .slice aw m cw] 62)).heap.size := by simp
      have gc1 := (hB3.cell (p := ⟨g, p, none⟩) hgb).trans gc'
      have zg := Nat.lt_of_lt_of_le hgb hB3.size
      generalize wi.alloc (.cells #[.int .i64 lo, .int .i64 hh, .slice aw m cw] 62) = w3 at *
      clear hB3 g1 g2 g3 hbj gc' hgb
      refine in_region_flow (r := none) [] [([0, 1, 2, 3, 4, 5, 6, 7], 8, true)] [] (by kernel_rfl) (by kernel_rfl) (by rfl) ?_
      intro wc hBc hh'
      clear hh'
      have HBC := Lib.hid (btr HB3.out hBc)
      have k1 := (hBc.cell (p := ⟨wi.heap.size, 2, none⟩) zq).trans gq
      have k2 := (hBc.cell (p := ⟨g, p, none⟩) zg).trans gc1
      have z1 := Nat.lt_of_lt_of_le zq hBc.size
      have z2 := Nat.lt_of_lt_of_le zg hBc.size
      have hL := @Later.cell wc
      clear hBc gq zq gc1 zg
      simp only [flowP, flow, pickL, List.getElem?_cons_succ, List.getElem?_cons_zero]
      refine wpQuiet_nil ?_
      repeat (go_big_quiet_step (fail))
      refine wpQuiet_nil ?_
      go_wp2_with fail
      refine (contains_any _ ws (i : Int) wc (HWW.out _ HBC.out) (by have := HM.out; omega)).mono ?_
      rintro e w6 ⟨rfl, h6⟩
      subst h6
      rw [HE.out]
      clear hL k1 k2 z1 z2
      go_wp2
      refine seg_grow ⟨⟨_, bz _⟩, rfl⟩ ?_
      refine wpQuiet_nil ?_
      refine only_done ?_
      generalize hed : edg J i k = ed at *
      have HED := Lib.hid hed
      clear hed
      cases ed with
      | false =>
        have HN2 := Lib.hid (show nxtTo J i (k + 1) = nxtTo J i k by rw [HNK.out]; rfl)
        have HG2 := Lib.hid (show goTo J (P ++ [i]) i (k + 1) = goTo J (P ++ [i]) i k by rw [HSK.out]; exact List.append_nil _)
        have HJ3 := Lib.hid (HJA.out _ HBC.out)
        have HK3 := Lib.hid (HKF.out.trans (KF.of_below HBC.out))
        gi_wp2
        exact ⟨⟨k + 1, by omega, by go_num, by rw [HN2.out], by rw [HG2.out]; exact HJ3.out, HK3.out⟩, by simp [intOf]; omega⟩
      | true =>
        have HN2 := Lib.hid (show decide (nxtTo J i (k + 1) = []) = false by rw [HNK.out]; simp)
        have HG2 := Lib.hid (show goTo J (P ++ [i]) i (k + 1) = goTo J (P ++ [i]) i k ++ (chn J k).map fun l => P ++ [i] ++ l by rw [HSK.out]; rfl)
        have HJ3 := Lib.hid (HJA.out _ HBC.out)
        have HK3 := Lib.hid (HKF.out.trans (KF.of_below HBC.out))
        have HR3 := Lib.hid (HRK.out.keep (KF.of_below HBC.out))
        have hs3 := HBC.out.size
        have hrr := HR3.out
        have hcl := run_clip (some ⟨g, 0, none⟩) (p + 1) cb (by rw [HP.out]; exact own_le hrr) (by intro ad e; cases e; exact ⟨rfl, rfl⟩) wc
        rw [Int.natCast_succ] at hcl
        clear hrr
        obtain ⟨v9, w9, hrun, ho9, hB9⟩ := go_push (L := P ++ [i]) (z := z) (c := cb) (w := wc) (g := g) (by have := HR3.out; rw [HLL.out]; exact this) (by omega) (by rw [HLL.out, ← HP.out]; omega) k 41
        rw [HLL.out, ← HP.out] at hrun
        have HO9 := Lib.hid ho9; have HB9 := Lib.hid hB9
        clear ho9 hB9
        gi_wp2_with (gi_at_builtin; refine wpListIn_append_ran 41 rfl _ _ rfl rfl rfl hrun ?_)
        have HPX := Lib.hid (show pre ++ goTo J (P ++ [i]) i (k + 1) <+: xs by
          have hne : nxtTo J i J.length ≠ [] := fun h => by
            have h1 := nxt_mem.2 HED.out
            rw [nxt_to, h] at h1; cases h1
          have h2 := HX.out
          rw [HALL.out, if_neg hne] at h2
          exact ((List.prefix_append_right_inj _).2 (HPR.out (k + 1) (by have := HN.out; omega))).trans h2)
        have HB9' := Lib.hid (btr HBC.out HB9.out)
        have hs9 := HB9'.out.size
        refine ⟨trivial, fun h => by simp [Fence.wide] at h, (HIH.out k HED.out (n - 1) (pre ++ goTo J (P ++ [i]) i k) v9 w9 HO9.out (by omega) (HJA.out _ HB9'.out) (by have := HPX.out; rwa [HG2.out, ← List.append_assoc] at this)).mono ?_⟩
        rintro e W3 (⟨rfl, hJ4, hk4⟩ | ⟨rfl, q, hq, hJx⟩)
        · have HJ4 := Lib.hid (show Jm (pre ++ goTo J (P ++ [i]) i (k + 1)) W3 by rw [HG2.out, ← List.append_assoc]; exact hJ4)
          have HK4 := Lib.hid ((HKF.out.trans (KF.of_below HB9'.out)).trans hk4)
          clear hJ4 hk4 hcl hrun
          gi_wp2
          exact ⟨⟨k + 1, by omega, by go_num, by rw [HN2.out], HJ4.out, HK4.out⟩, by simp [intOf]; omega⟩
        · have HQ := Lib.hid (show ∃ q, q <+: xs ∧ Jx q W3 from ⟨q, hq, hJx⟩)
          clear hq hJx hcl hrun
          gi_wp2
          refine bodyPost_ret (results_tmp rfl _ _ _) rfl ?_
          exact .inr ⟨rfl, HQ.out⟩
    · have hkn : k = J.length := by have := HN.out; omega
      subst hkn
      by_cases hnx : nxtTo J i J.length = []
      · have dl : decide (nxtTo J i J.length = []) = true := decide_eq_true hnx
        have hgo : goTo J (P ++ [i]) i J.length = [] := by unfold goTo; rw [hnx]; rfl
        have ha := HALL.out
        rw [if_pos hnx] at ha
        have HJ2 := Lib.hid (show Jm pre wi by have := HJJ.out; rwa [hgo, List.append_nil] at this)
        obtain ⟨fn, tmps, assign, body, hy, hR2⟩ := HY.out (n - 1) pre (P ++ [i]) _ wi HJ2.out (by have := HX.out; rwa [ha] at this) ⟨_, rfl, by have := HRK.out; rw [← HP.out] at this; exact this⟩ (by omega)
        have HA := Lib.hid ha
        rw [dl]
        clear HALL ha hnx dl hgo
        gi_wp2
        refine ⟨fun h => by simp [Fence.wide] at h, ?_⟩
        refine hR2.mono ?_
        rintro e W3 (⟨rfl, hJ3, hk3⟩ | ⟨rfl, hJx3⟩)
        · have HJ3 := Lib.hid hJ3; have HK3 := Lib.hid (HKF.out.trans hk3)
          clear hJ3 hk3
          gi_wp2
          refine bodyPost_ret (results_tmp rfl _ _ _) rfl ?_
          exact .inl ⟨rfl, by rw [HA.out]; exact HJ3.out, HK3.out⟩
        · have HJ3 := Lib.hid hJx3; clear hJx3
          gi_wp2
          refine bodyPost_ret (results_tmp rfl _ _ _) rfl ?_
          exact .inr ⟨rfl, _, by have := HX.out; rwa [HA.out] at this, HJ3.out⟩
      · have dl : decide (nxtTo J i J.length = []) = false := decide_eq_false hnx
        have HJ2 := Lib.hid HJJ.out
        have ha := HALL.out
        rw [if_neg hnx] at ha
        rw [← ha] at HJ2
        rw [dl]
        clear HALL ha hnx dl
        gi_wp2
        refine ⟨fun f h => by simp at h, ?_⟩
        gi_wp2
        refine bodyPost_ret (results_tmp rfl _ _ _) rfl ?_
        exact .inl ⟨rfl, HJ2.out, HKF.out⟩
end Go.Proofs.YteknehlkdgamjaaGreat
