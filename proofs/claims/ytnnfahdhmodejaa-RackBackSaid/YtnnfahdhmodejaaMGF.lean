/- Merged texts: Sort, Compact, CheckOrder, Put, Take, Build, Index. -/
import Derived.Test.YtnnfahdhmodejaaMGE
import Derived.Shelf.Lay
import Derived.Shelf.Sort.Plain
import Derived.Shelf.Slices.In.SortNone
import Derived.Shelf.Slices.CompactI
import Derived.Ground.Names2Prog
import Derived.Sort.OwnSortedInts
namespace Go.Proofs.Ytnnfahdhmodejaa
open Go.Proofs Go.Shelf
shelf_lay Lays.n189 Nm 189 at Try as Try.lays189
shelf_lay Lays2.n20 Nm2 20 at Try as Try.lays220
end Go.Proofs.Ytnnfahdhmodejaa
namespace Go.Proofs.Ytnnfahdhmodejaa
open Go.RowKit Go.Shelf

/-- The numbers in their order. -/
def sorted (xs : List Int) : List Int := xs.mergeSort fun x y => decide (x ≤ y)
theorem sorted_perm (xs : List Int) : (sorted xs).Perm xs := List.mergeSort_perm _ _
theorem sorted_le (xs : List Int) : (sorted xs).Pairwise (· ≤ ·) := by
  have h := List.pairwise_mergeSort (le := fun x y : Int => decide (x ≤ y)) (fun a b c h1 h2 => by simp at *; omega) (fun a b => by simp; omega) xs
  exact h.imp (fun h => by simpa using h)
theorem compact_len (zs : List Int) : (Lib.compact zs).length ≤ zs.length := by
  unfold Lib.compact Lib.compactUpTo
  rw [List.length_map]
  exact Nat.le_trans (List.length_filter_le _ _) (by simp)
theorem compact_lt (xs : List Int) : decide ((Lib.compact (sorted xs)).length < xs.length) = !decide xs.Nodup := by
  have hl : (sorted xs).length = xs.length := (sorted_perm xs).length_eq
  have hp := List.pairwise_iff_getElem.1 (sorted_le xs)
  by_cases h : xs.Nodup
  · have hn : (sorted xs).Nodup := (sorted_perm xs).nodup_iff.2 h
    have : Lib.compact (sorted xs) = sorted xs := Lib.compact_all _ fun j hj => by
      by_cases e : j = 0
      · subst e; exact Lib.keeps_lt_one _ 0 (by omega)
      · refine Lib.keeps_pos fun h2 => ?_
        rw [getElem!_pos _ _ (by simpa using hj), getElem!_pos _ _ (by simp; omega)] at h2
        simp only [List.getElem_toArray] at h2
        exact List.pairwise_iff_getElem.1 hn (j - 1) j (by omega) hj (by omega) h2.symm
    rw [this, hl]
    simp [h]
  · have : (Lib.compact (sorted xs)).length < xs.length := by
      refine Classical.byContradiction fun hc => h ?_
      have hk : ∀ j, j < (sorted xs).length → Lib.keeps (sorted xs).toArray j = true := by
        have h1 : (Lib.compact (sorted xs)).length = (List.range (sorted xs).length).length := by
          have := compact_len (sorted xs)
          rw [List.length_range]; omega
        unfold Lib.compact Lib.compactUpTo at h1
        rw [List.length_map, List.length_filter_eq_length_iff] at h1
        intro j hj
        exact h1 j (List.mem_range.2 hj)
      refine (sorted_perm xs).nodup_iff.1 (List.pairwise_iff_getElem.2 fun i j hi hj hij e => ?_)
      have h1 := hk j hj
      unfold Lib.keeps at h1
      rw [decide_eq_true_eq] at h1
      rcases h1 with h1 | h1
      · omega
      · apply h1
        rw [getElem!_pos _ _ (by simpa using hj), getElem!_pos _ _ (by simp; omega)]
        simp only [List.getElem_toArray]
        by_cases e2 : i = j - 1
        · subst e2; exact e.symm
        · have a1 := hp i (j - 1) hi (by omega) (by omega)
          have a2 := hp (j - 1) j (by omega) hj (by omega)
          omega
    simp [this, h]
theorem sort_any (u : Value) (xs : List Int) (w : World) (base : Nat) (hu : rowI w base u xs) (hl : xs.length ≤ 1000) :
    Calls Try.prog 66 #[u] w fun e w' => e = .returned (.tuple #[]) ∧ rowI w' base u (sorted xs) ∧ Below base w w' := by
  rcases hu.2 with ⟨rfl, hn⟩ | ⟨g, cap, cur, rfl, hb, hg, hn, hcm, hcs, ht⟩
  · have h0 : xs = [] := List.eq_nil_of_length_eq_zero hn
    subst h0
    refine (Any.slices_Sort_int_none Try.lays189 none 0 w).mono ?_
    rintro e w' ⟨rfl, rfl⟩
    exact ⟨rfl, by simpa [sorted] using hu, Below.refl _ _⟩
  · have hgs : g < w.heap.size := (Array.getElem?_eq_some_iff.1 hg).1
    rw [Nat.mul_one] at ht
    refine (Any.slices_Sort_int Try.lays189 g 0 cap xs w (holds_of_blockI hg ht) hgs (by omega)).mono ?_
    rintro e w' ⟨rfl, n, os, rfl⟩
    refine ⟨rfl, ?_, ?_⟩
    · have hl2 : (sorted xs).length = xs.length := (sorted_perm xs).length_eq
      unfold rowI
      rw [hl2]
      exact ownsRow_sortedI (ts := sorted xs) hl2 hb hg hn hcm hcs
    · have hgb := grownBy_sortedI (w := w) (g := g) (n := n) (os := os) (sorted xs).toArray
      exact ⟨hgb.os, hgb.tape, hgb.output, hgb.size, fun k hk => hgb.block k (by omega) (fun e => by have := Option.some.inj e; omega)⟩
theorem compact_any (u : Value) (xs : List Int) (w : World) (base : Nat) (hu : rowI w base u xs) (hl : xs.length ≤ 1000) :
    Calls Try.prog 67 #[u] w fun e w' => ∃ a c, e = .returned (.slice a (Lib.compact xs).length c) ∧ Below base w w' := by
  rcases hu.2 with ⟨rfl, hn⟩ | ⟨g, cap, cur, rfl, hb, hg, hn, hcm, hcs, ht⟩
  · have h0 : xs = [] := List.eq_nil_of_length_eq_zero hn
    subst h0
    refine (Any.slices_Compact_int_empty Try.lays220 none 0 w).mono ?_
    rintro e w' ⟨rfl, rfl⟩
    exact ⟨none, 0, rfl, Below.refl _ _⟩
  · have hgs : g < w.heap.size := (Array.getElem?_eq_some_iff.1 hg).1
    rw [Nat.mul_one] at ht
    refine (Any.slices_Compact_int Try.lays220 g 0 cap xs w (holds_of_blockI hg ht) (by omega) hn).mono ?_
    rintro e w' ⟨rfl, n, rfl⟩
    have hgb := grownBy_sortedI (w := w) (g := g) (n := n) (os := #[]) (Lib.compact xs ++ List.replicate (xs.length - (Lib.compact xs).length) 0).toArray
    rw [Sort.grow_empty] at hgb
    exact ⟨_, _, rfl, ⟨hgb.os, hgb.tape, hgb.output, hgb.size, fun k hk => hgb.block k (by omega) (fun e => by have := Option.some.inj e; omega)⟩⟩
end Go.Proofs.Ytnnfahdhmodejaa

namespace Go.Proofs.Ytnnfahdhmodejaa
open Go.RowKit Go.Shelf

set_option maxRecDepth 100000 in
set_option maxHeartbeats 800000 in
theorem order_any (v : Value) (R : List (List Int)) (w : World) (hx0 : RdLL w v R) (hs : Sml R) :
    Calls Try.prog 20 #[v] w fun e w' => e = .returned (.int .i64 (orderC R)) ∧ Below w.heap.size w w' := by
  have hfl := sml_flat hs
  have HALL := Lib.hid (fun w' (h : RdLL w' v R) => concat_any v R w' h hs)
  have HX := Lib.hid hx0; have HSM := Lib.hid hs
  obtain ⟨a, ca, rfl⟩ := hx0.sl
  clear hx0 hs
  have HR : Hid (orderC R = if 12 < R.flatten.length then 6 else if R.flatten.any (outB 1 R.flatten.length) then 3 else if !decide R.flatten.Nodup then 11 else if shapedB R && incB R 1 then 0 else 22) := Lib.hid rfl
  have HBD := Lib.hid (fun h => bd_of (R := R) (hi := R.flatten.length) h (by omega))
  generalize orderC R = g at *
  generalize R.flatten = xs at *
  go_enter Try.func20, Try.ntmps20
  go_wp2_with fail
  refine (HALL.out _ HX.out).mono ?_
  rintro e w2 ⟨u, rfl, hu, hB⟩
  have HU := Lib.hid hu
  obtain ⟨au, cu, rfl⟩ := owns_form hu
  have HB := Lib.hid hB
  clear hu hB
  by_cases h12 : 12 < xs.length
  · have t1 : (12 : Int) < (xs.length : Int) := by omega
    rw [if_pos h12] at HR
    go_wp2_with fail
    go_ret
    exact ⟨ret_int HR.out.symm, HB.out⟩
  · have t1 : ¬ (12 : Int) < (xs.length : Int) := by omega
    rw [if_neg h12] at HR
    go_wp2_with fail
    refine (within_any _ xs 1 xs.length w2 (RdI.of_owns HU.out) (by omega)).mono ?_
    rintro e w3 ⟨rfl, hB3⟩
    have HB3 := Lib.hid (btr HB.out hB3)
    have HU3 := Lib.hid (show rowI w3 w.heap.size _ xs from owns_kept HU.out hB3)
    clear hB3
    cases hany : xs.any (outB 1 xs.length) with
    | true =>
      rw [hany] at HR
      go_wp2_with fail
      go_ret
      exact ⟨ret_int HR.out.symm, HB3.out⟩
    | false =>
      rw [hany] at HR
      have HBDO := Lib.hid (HBD.out hany)
      go_wp2_with fail
      refine (sort_any _ xs w3 _ HU3.out (by omega)).mono ?_
      rintro e w4 ⟨rfl, hu4, hB4⟩
      have HB4 := Lib.hid (HB3.out.trans hB4)
      have HU4 := Lib.hid hu4
      have HL : Hid ((sorted xs).length = xs.length) := Lib.hid (sorted_perm xs).length_eq
      clear hu4 hB4
      go_wp2_with fail
      refine (compact_any _ (sorted xs) w4 _ HU4.out (by rw [HL.out]; omega)).mono ?_
      rintro e w5 ⟨a5, c5, rfl, hB5⟩
      have HB5 := Lib.hid (HB4.out.trans hB5)
      have HCM := Lib.hid (compact_lt xs)
      clear hB5
      generalize (Lib.compact (sorted xs)).length = m at *
      go_wp2_with fail
      refine (HALL.out _ (HX.out.mono HB5.out)).mono ?_
      rintro e w6 ⟨u6, rfl, hu6, hB6⟩
      obtain ⟨au6, cu6, rfl⟩ := owns_form hu6
      have HB6 := Lib.hid (btr HB5.out hB6)
      clear hu6 hB6
      by_cases hm : m < xs.length
      · have HN : Hid ((!decide xs.Nodup) = true) := Lib.hid (by rw [← HCM.out]; exact decide_eq_true hm)
        rw [HN.out] at HR
        have t2 : (m : Int) < (xs.length : Int) := by omega
        go_wp2_with fail
        go_ret
        exact ⟨ret_int HR.out.symm, HB6.out⟩
      · have HN : Hid ((!decide xs.Nodup) = false) := Lib.hid (by rw [← HCM.out]; exact decide_eq_false hm)
        rw [HN.out] at HR
        have t2 : ¬ (m : Int) < (xs.length : Int) := by omega
        go_wp2_with fail
        refine (newstand_any _ R w6 (HX.out.mono HB6.out) HSM.out).mono ?_
        rintro e w7 ⟨sb, rfl, hwh, hB7⟩
        have HWH := Lib.hid hwh; have HB7 := Lib.hid (btr HB6.out hB7)
        clear hwh hB7
        go_wp2_with fail
        refine (rises_any sb R 1 w7 _ HWH.out HSM.out HBDO.out (by omega) (by omega)).mono ?_
        rintro e w8 ⟨rfl, hB8⟩
        have HB8 := Lib.hid (btr HB7.out hB8)
        clear hB8
        cases hsi : shapedB R && incB R 1 with
        | true =>
          rw [hsi] at HR
          go_wp2_with fail
          go_ret
          exact ⟨ret_int HR.out.symm, HB8.out⟩
        | false =>
          rw [hsi] at HR
          go_wp2_with fail
          go_ret
          exact ⟨ret_int HR.out.symm, HB8.out⟩
end Go.Proofs.Ytnnfahdhmodejaa

namespace Go.Proofs.Ytnnfahdhmodejaa
open Go.RowKit Go.Shelf

theorem rdI_one (w : World) (t : Int) : RdI (w.alloc (.cells #[.int .i64 t] 3)) .i64 (.slice (some ⟨w.heap.size, 0, none⟩) 1 1) [t] :=
  RdI.of_owns (base := w.heap.size) (e := 3) (n := 1) ⟨rfl, .inr ⟨w.heap.size, 1, _, rfl, Nat.le_refl _, heap_alloc_new _ _, Nat.le_refl _, by decide, rfl, rfl⟩⟩
/-- What open returns: a stand of the rows, or the error. -/
def PostO (w : World) (R : List (List Int)) (c : Int) (e : Ending) (w' : World) : Prop :=
  ∃ p, e = .returned (.tuple #[p, .int .i64 c]) ∧ (c = 0 → ∃ sb, p = .pointer (some ⟨sb, 0, none⟩) ∧ Whole w' (fun k => w.heap.size ≤ k) sb R) ∧ Below w.heap.size w w'
theorem Whole.weak {w w' : World} {B C : Nat → Prop} {sb : Nat} {R : List (List Int)} (h : Whole w B sb R) (hb : Below w.heap.size w w') (k : ∀ j, j < w'.heap.size → B j → C j) : Whole w' C sb R := by
  obtain ⟨mb, v, vs, M, c, h1, h2⟩ := h
  have h3 := h1.later hb
  exact ⟨mb, v, vs, M, c, ⟨h3.ll.mono k, h3.st, h3.mp, h3.ok, k _ h3.zs h3.bs, k _ h3.zm h3.bm⟩, h2⟩
theorem Whole.si {w : World} {B : Nat → Prop} {sb : Nat} {R : List (List Int)} (h : Whole w B sb R) : SI w B sb R := by
  obtain ⟨mb, v, vs, M, c, h1, h2⟩ := h
  exact h1.si
set_option maxRecDepth 100000 in
set_option maxHeartbeats 800000 in
theorem open_any (v : Value) (R : List (List Int)) (w : World) (hx0 : RdLL w v R) (hs : Sml R) :
    Calls Try.prog 69 #[v] w (PostO w R (rackC R)) := by
  have HX := Lib.hid hx0
  have HC := Lib.hid (rack_any v R w hx0 hs)
  have HSM := Lib.hid hs
  obtain ⟨a, ca, rfl⟩ := hx0.sl
  clear hx0 hs
  by_cases hc : rackC R = 0
  · have t1 : (rackC R != 0) = false := by simp [hc]
    generalize rackC R = q at *
    go_enter Try.func69, Try.ntmps69
    go_wp2_with fail
    refine HC.out.mono ?_
    rintro e w2 ⟨rfl, hB⟩
    have HB := Lib.hid hB; clear hB
    go_wp2_with fail
    refine (newstand_any _ R w2 (HX.out.mono HB.out) HSM.out).mono ?_
    rintro e w3 ⟨sb, rfl, hwh, hB⟩
    have HB3 := Lib.hid (btr HB.out hB)
    have HW := Lib.hid (hwh.weak (bz w3) (C := fun k => w.heap.size ≤ k) (fun j _ h => by have := HB.out.size; omega))
    clear hwh hB
    go_wp2_with fail
    go_ret2
    exact ⟨_, by rw [hc]; rfl, fun _ => ⟨sb, rfl, HW.out⟩, HB3.out⟩
  · have t1 : (rackC R != 0) = true := by simp [hc]
    generalize rackC R = q at *
    go_enter Try.func69, Try.ntmps69
    go_wp2_with fail
    refine HC.out.mono ?_
    rintro e w2 ⟨rfl, hB⟩
    have HB := Lib.hid hB; clear hB
    go_wp2_with fail
    go_ret2
    exact ⟨_, rfl, fun h => absurd h hc, HB.out⟩

set_option maxRecDepth 100000 in
set_option maxHeartbeats 1600000 in
theorem pput_any (v : Value) (R : List (List Int)) (t : Int) (w : World) (hx0 : RdLL w v R) (hs : Sml R) :
    Calls Try.prog 22 #[v, .int .i64 t] w (Post3 w (putE R t)) := by
  have HX := Lib.hid hx0; have HS := Lib.hid hs
  have HC := Lib.hid (open_any v R w hx0 hs)
  have HA := Lib.hid (fun wz h => concat_any v R wz h hs)
  have hfl := sml_flat hs
  obtain ⟨a, ca, rfl⟩ := hx0.sl
  clear hx0 hs
  by_cases hc : rackC R = 0
  · have t1 : (rackC R != 0) = false := by simp [hc]
    have HH : Hid (putE R t = if outB 1 99 t then ([], 0, 3) else if R.flatten.length = 12 then ([], 0, 10) else ((putR R t).1, ((putR R t).2 : Int), 0)) := Lib.hid (by unfold putE; rw [if_neg (by simp [hc])])
    have HCC := Lib.hid hc
    clear hc
    generalize rackC R = q at *
    generalize putE R t = L at *
    go_enter Try.func22, Try.ntmps22
    go_wp2_with fail
    refine HC.out.mono ?_
    rintro e w2 ⟨p, rfl, hp, hB⟩
    obtain ⟨sb, rfl, hw⟩ := hp HCC.out
    have HW := Lib.hid hw; have HB := Lib.hid hB
    clear hp hw hB
    go_wp2_with fail
    have HO := Lib.hid (rdI_one w2 t)
    have HB2 := Lib.hid (bal HB.out (.cells #[.int .i64 t] 3))
    have HW2 := Lib.hid (HW.out.weak (bal (bz w2) (.cells #[.int .i64 t] 3)) (fun _ _ h => h))
    generalize w2.alloc (.cells #[.int .i64 t] 3) = w3 at *
    refine (within_any _ [t] 1 99 w3 HO.out (by simp)).mono ?_
    rintro e w4 ⟨rfl, hB⟩
    have HB4 := Lib.hid (btr HB2.out hB)
    have HW4 := Lib.hid (HW2.out.weak hB (fun _ _ h => h))
    clear hB
    simp only [List.any_cons, List.any_nil, Bool.or_false]
    cases ho : outB 1 99 t with
    | true =>
      rw [ho, if_pos rfl] at HH
      go_wp2_with fail
      go_ret3
      exact post3_no HH.out HB4.out
    | false =>
      rw [ho, if_neg (by simp)] at HH
      go_wp2_with fail
      refine (HA.out _ (HX.out.mono HB4.out)).mono ?_
      rintro e w5 ⟨u, rfl, hu, hB⟩
      obtain ⟨au, cu, rfl⟩ := owns_form hu
      have HB5 := Lib.hid (btr HB4.out hB)
      have HW5 := Lib.hid (HW4.out.weak hB (fun _ _ h => h))
      clear hB hu
      generalize R.flatten = xs at *
      by_cases h12 : xs.length = 12
      · have t2 : ((xs.length : Int) == 12) = true := by rw [beq_iff_eq]; omega
        rw [if_pos h12] at HH
        clear h12
        go_wp2_with fail
        go_ret3
        exact post3_no HH.out HB5.out
      · have t2 : ((xs.length : Int) == 12) = false := by rw [beq_eq_false_iff_ne]; omega
        rw [if_neg h12] at HH
        clear h12
        go_wp2_with fail
        refine (put_any sb R t w5 _ HW5.out.si HS.out (fun k hk => by have := HB5.out.size; omega)).mono ?_
        rintro e w6 ⟨rfl, hsi, hF⟩
        have HB6 := Lib.hid (hF.below HB5.out (fun _ h => h))
        obtain ⟨v6, vs6, mb6, M6, c6, hll, hst, hmp, hok, hbs, hbm⟩ := hsi
        have HR6 := Lib.hid hll.rd
        have hc6 : w6.cell? ⟨sb, 0, none⟩ = some v6 := by rw [cell_of_row w6 _ 0 _ _ _ hst]; rfl
        have hz6 := (Array.getElem?_eq_some_iff.1 hst).1
        obtain ⟨a6, k6, rfl⟩ := hll.form
        clear hF hll hst hmp hok hbs hbm hz6
        go_wp2_with fail
        go_ret3
        exact post3_yes HH.out HR6.out HB6.out
  · have t1 : (rackC R != 0) = true := by simp [hc]
    have HH : Hid (putE R t = ([], 0, rackC R)) := Lib.hid (by unfold putE; rw [if_pos hc])
    generalize rackC R = q at *
    generalize putE R t = L at *
    clear hc
    go_enter Try.func22, Try.ntmps22
    go_wp2_with fail
    refine HC.out.mono ?_
    rintro e w2 ⟨p, rfl, _, hB⟩
    have HB := Lib.hid hB
    clear hB
    go_wp2_with fail
    go_ret3
    exact post3_no HH.out HB.out
end Go.Proofs.Ytnnfahdhmodejaa

namespace Go.Proofs.Ytnnfahdhmodejaa
open Go.RowKit Go.Shelf

theorem rackC_sh {R : List (List Int)} (h : rackC R = 0) : ShTo R R.length := by
  unfold rackC at h
  split at h
  · omega
  · split at h
    · omega
    · split at h
      · rename_i a b c
        rw [Bool.and_eq_true] at c
        exact (shapedB_iff R).1 c.1
      · omega
set_option maxRecDepth 100000 in
set_option maxHeartbeats 1600000 in
theorem ptake_any (v : Value) (R : List (List Int)) (r : Int) (w : World) (hx0 : RdLL w v R) (hs : Sml R) :
    Calls Try.prog 24 #[v, .int .i64 r] w (Post3 w (takeE R r)) := by
  have HX := Lib.hid hx0; have HS := Lib.hid hs
  have HC := Lib.hid (open_any v R w hx0 hs)
  have h20 := hs.1
  obtain ⟨a, ca, rfl⟩ := hx0.sl
  clear hx0 hs
  by_cases hc : rackC R = 0
  · have t1 : (rackC R != 0) = false := by simp [hc]
    have HH : Hid (takeE R r = if outB 0 ((R.length : Int) - 1) r then ([], 0, 2) else if canB R r.toNat then ((takeR R r.toNat).1, (takeR R r.toNat).2, 0) else ([], 0, 22)) := Lib.hid (by unfold takeE; rw [if_neg (by simp [hc])])
    have HT := Lib.hid (rackC_zero hc).2.2
    have HSH := Lib.hid (rackC_sh hc)
    have HCC := Lib.hid hc
    clear hc
    generalize rackC R = q at *
    generalize takeE R r = L at *
    go_enter Try.func24, Try.ntmps24
    go_wp2_with fail
    refine HC.out.mono ?_
    rintro e w2 ⟨p, rfl, hp, hB⟩
    obtain ⟨sb, rfl, hw⟩ := hp HCC.out
    have HW := Lib.hid hw; have HB := Lib.hid hB
    clear hp hw hB
    go_wp2_with fail
    have HO := Lib.hid (rdI_one w2 r)
    have HB2 := Lib.hid (bal HB.out (.cells #[.int .i64 r] 3))
    have HW2 := Lib.hid (HW.out.weak (bal (bz w2) (.cells #[.int .i64 r] 3)) (fun _ _ h => h))
    generalize w2.alloc (.cells #[.int .i64 r] 3) = w3 at *
    refine (within_any _ [r] 0 ((R.length : Int) - 1) w3 HO.out (by simp)).mono ?_
    rintro e w4 ⟨rfl, hB⟩
    have HB4 := Lib.hid (btr HB2.out hB)
    have HW4 := Lib.hid (HW2.out.weak hB (fun _ _ h => h))
    clear hB
    simp only [List.any_cons, List.any_nil, Bool.or_false]
    cases ho : outB 0 ((R.length : Int) - 1) r with
    | true =>
      rw [ho, if_pos rfl] at HH
      go_wp2_with fail
      go_ret3
      exact post3_no HH.out HB4.out
    | false =>
      rw [ho, if_neg (by simp)] at HH
      have hro : 0 ≤ r ∧ r ≤ (R.length : Int) - 1 := by
        unfold outB at ho
        rw [decide_eq_false_iff_not] at ho
        omega
      clear ho HO HB2 HW2
      obtain ⟨k, rfl⟩ := Int.eq_ofNat_of_zero_le hro.1
      have hk : k < R.length := by omega
      rw [show ((k : Int)).toNat = k by simp] at HH
      have HTK := Lib.hid (fun (hcan : canB R k = true) wz h hB => take_any sb R k (takeR R k) wz (fun j => w.heap.size ≤ j) h HS.out (takeOk HT.out ((canB_iff HT.out hk).1 hcan)) hB)
      obtain ⟨b, off, a1, c1, rfl, hb, hc1, _⟩ := (HX.out.mono HB4.out).get k hk
      have n1 := HS.out.2 k
      generalize takeR R k = res at *
      by_cases h1 : k + 1 = R.length
      · have t2 : decide ((k : Int) + 1 < (R.length : Int)) = false := by rw [decide_eq_false_iff_not]; omega
        have t3 : decide (k + 1 < R.length) = false := by rw [decide_eq_false_iff_not]; omega
        have hcb : canB R k = true := by unfold canB; rw [decide_eq_true h1]; rfl
        have HTK2 := Lib.hid (HTK.out hcb)
        rw [if_pos hcb] at HH
        clear hcb HTK hro h1
        generalize (row R k).length = n at *
        go_upto_region 6 with fail
        go_quiet (fail)
        go_wp2_with fail
        refine (HTK2.out _ (HW4.out.weak (Below.drewN' _ (bz w4)) (fun _ _ h => h)).si (fun k hk => by have := HB4.out.size; simp at hk; omega)).mono ?_
        rintro e w6 ⟨rfl, hsi, hF⟩
        have HB6 := Lib.hid (hF.below (Below.drewN' _ HB4.out) (fun _ h => h))
        obtain ⟨v6, vs6, mb6, M6, c6, hll, hst, hmp, hok, hbs, hbm⟩ := hsi
        have HR6 := Lib.hid hll.rd
        have hc6 : w6.cell? ⟨sb, 0, none⟩ = some v6 := by rw [cell_of_row w6 _ 0 _ _ _ hst]; rfl
        obtain ⟨a6, k6, rfl⟩ := hll.form
        clear hF hll hst hmp hok hbs hbm
        go_wp2_with fail
        go_ret3
        exact post3_yes HH.out HR6.out HB6.out
      · obtain ⟨b2, off2, a2, c2, e2, _, hc2, _⟩ := (HX.out.mono HB4.out).get (k + 1) (by omega)
        cases e2
        have n2 := HS.out.2 (k + 1)
        have t2 : decide ((k : Int) + 1 < (R.length : Int)) = true := by rw [decide_eq_true_eq]; omega
        have t3 : decide (k + 1 < R.length) = true := by rw [decide_eq_true_eq]; omega
        have tst : (0:Int) ≤ (k:Int) + 1 ∧ (k:Int) + 1 < (R.length : Int) := by omega
        have hle := (HSH.out (k + 1) (by omega)).2 (by omega)
        rw [Nat.add_sub_cancel] at hle
        by_cases h2 : (row R (k + 1)).length < (row R k).length
        · have hcb : canB R k = true := by unfold canB; rw [decide_eq_true h2, Bool.or_true]
          have t4 : (((row R k).length : Int) == ((row R (k + 1)).length : Int)) = false := by rw [beq_eq_false_iff_ne]; omega
          have t5 : ((row R k).length == (row R (k + 1)).length) = false := by rw [beq_eq_false_iff_ne]; omega
          have HTK2 := Lib.hid (HTK.out hcb)
          rw [if_pos hcb] at HH
          clear hcb HTK hro h1 hle h2
          generalize (row R k).length = n at *
          generalize (row R (k + 1)).length = m at *
          go_upto_region 6 with fail
          go_quiet (fail)
          go_wp2_with fail
          refine (HTK2.out _ (HW4.out.weak (Below.drewN' _ (bz w4)) (fun _ _ h => h)).si (fun k hk => by have := HB4.out.size; simp at hk; omega)).mono ?_
          rintro e w6 ⟨rfl, hsi, hF⟩
          have HB6 := Lib.hid (hF.below (Below.drewN' _ HB4.out) (fun _ h => h))
          obtain ⟨v6, vs6, mb6, M6, c6, hll, hst, hmp, hok, hbs, hbm⟩ := hsi
          have HR6 := Lib.hid hll.rd
          have hc6 : w6.cell? ⟨sb, 0, none⟩ = some v6 := by rw [cell_of_row w6 _ 0 _ _ _ hst]; rfl
          obtain ⟨a6, k6, rfl⟩ := hll.form
          clear hF hll hst hmp hok hbs hbm
          go_wp2_with fail
          go_ret3
          exact post3_yes HH.out HR6.out HB6.out
        · have hcb : ¬ canB R k = true := by
            unfold canB
            rw [decide_eq_false h1, decide_eq_false h2]; simp
          have t4 : (((row R k).length : Int) == ((row R (k + 1)).length : Int)) = true := by rw [beq_iff_eq]; omega
          have t5 : ((row R k).length == (row R (k + 1)).length) = true := by rw [beq_iff_eq]; omega
          rw [if_neg hcb] at HH
          clear hcb HTK hro h1 hle h2
          generalize (row R k).length = n at *
          generalize (row R (k + 1)).length = m at *
          go_upto_region 6 with fail
          go_quiet (fail)
          go_wp2_with fail
          go_ret3
          exact post3_no HH.out (Below.drewN' _ HB4.out)
  · have t1 : (rackC R != 0) = true := by simp [hc]
    have HH : Hid (takeE R r = ([], 0, rackC R)) := Lib.hid (by unfold takeE; rw [if_pos hc])
    generalize rackC R = q at *
    generalize takeE R r = L at *
    clear hc
    go_enter Try.func24, Try.ntmps24
    go_wp2_with fail
    refine HC.out.mono ?_
    rintro e w2 ⟨p, rfl, _, hB⟩
    have HB := Lib.hid hB
    clear hB
    go_wp2_with fail
    go_ret3
    exact post3_no HH.out HB.out
set_option maxRecDepth 100000 in
set_option maxHeartbeats 800000 in
theorem pseq_any (x : Value) (s : List Int) (w : World) (hx0 : RdI w .i64 x s) (hl : s.length ≤ 1000) :
    Calls Try.prog 31 #[x] w fun e w' => e = .returned (.int .i64 (seqC s)) ∧ Below w.heap.size w w' := by
  have HX := Lib.hid hx0
  obtain ⟨a, c, rfl, _⟩ := hx0.form
  clear hx0
  have HR : Hid (seqC s = if 12 < s.length then 6 else if s.any (outB 1 99) then 3 else 0) := Lib.hid rfl
  generalize seqC s = g at *
  by_cases h12 : 12 < s.length
  · have t1 : (12 : Int) < (s.length : Int) := by omega
    rw [if_pos h12] at HR
    go_enter Try.func31, Try.ntmps31
    go_wp2_with fail
    go_ret
    exact ⟨ret_int HR.out.symm, bz w⟩
  · have t1 : ¬ (12 : Int) < (s.length : Int) := by omega
    rw [if_neg h12] at HR
    go_enter Try.func31, Try.ntmps31
    go_wp2_with fail
    refine (within_any _ s 1 99 w HX.out hl).mono ?_
    rintro e w3 ⟨rfl, hB3⟩
    have HB3 := Lib.hid hB3
    clear hB3
    cases hany : s.any (outB 1 99) with
    | true =>
      rw [hany] at HR
      go_wp2_with fail
      go_ret
      exact ⟨ret_int HR.out.symm, HB3.out⟩
    | false =>
      rw [hany] at HR
      go_wp2_with fail
      go_ret
      exact ⟨ret_int HR.out.symm, HB3.out⟩
end Go.Proofs.Ytnnfahdhmodejaa

namespace Go.Proofs.Ytnnfahdhmodejaa
open Go.RowKit Go.Shelf

/-- A stand and an order of the call's own that have no block in common. -/
def TwoS (w : World) (base sb : Nat) (R : List (List Int)) (v : Value) (O : List (List Int)) : Prop :=
  ∃ (B D : Nat → Prop) (vs : List Value), SI w B sb R ∧ LL w D v O vs ∧ (∀ k, B k → ¬ D k) ∧ (∀ k, D k → base ≤ k) ∧ (∀ k, B k → base ≤ k)
/-- Ready for a change of the stand. -/
theorem TwoS.ready {w : World} {base sb : Nat} {R : List (List Int)} {v : Value} {O : List (List Int)} (h : TwoS w base sb R v O) (hb : base ≤ w.heap.size) :
    ∃ (B : Nat → Prop), SI w B sb R ∧ (∀ k, w.heap.size ≤ k → B k) ∧ (∀ k, B k → base ≤ k) ∧ ∀ (w' : World) (R' : List (List Int)), SI w' B sb R' → Fr w w' B →
      ∃ (B D : Nat → Prop) (vs : List Value), SI w' B sb R' ∧ LL w' D v O vs ∧ (∀ k, B k → ¬ D k) ∧ (∀ k, D k → base ≤ k) ∧ (∀ k, B k → base ≤ k) ∧ ∀ k, w'.heap.size ≤ k → D k := by
  obtain ⟨B, D, vs, h1, h2, h3, h4, h5⟩ := h
  refine ⟨fun k => (B k ∧ k < w.heap.size) ∨ w.heap.size ≤ k, h1.mono fun j hj hB => .inl ⟨hB, hj⟩, fun k hk => .inr hk, fun k hk => hk.elim (fun h => h5 k h.1) (fun h => Nat.le_trans hb h), fun w' R' hs hF => ?_⟩
  refine ⟨fun k => ((B k ∧ k < w.heap.size) ∨ w.heap.size ≤ k) ∧ k < w'.heap.size, fun k => (D k ∧ k < w.heap.size) ∨ w'.heap.size ≤ k, vs, hs.mono fun j hj hB => ⟨hB, hj⟩,
    (h2.bound.fr hF fun k hk hd hb => ?_).mono fun j _ hd => .inl hd, fun k hk hd => ?_, fun k hk => hk.elim (fun h => h4 k h.1) (fun h => by have := hF.size; omega), fun k hk => hk.1.elim (fun h => h5 k h.1) (fun h => Nat.le_trans hb h), fun k hk => .inr hk⟩
  · rcases hb with hb | hb
    · exact h3 k hb.1 hd.1
    · omega
  · have hz := hF.size
    rcases hd with hd | hd
    · rcases hk.1 with hb | hb
      · exact h3 k hb.1 hd.1
      · have := hd.2; omega
    · have := hk.2; omega
theorem SI.read {w : World} {B : Nat → Prop} {sb : Nat} {R : List (List Int)} (h : SI w B sb R) : ∃ (a : Option Addr) (c : Nat), RdLL w (.slice a R.length c) R ∧ w.cell? ⟨sb, 0, none⟩ = some (.slice a R.length c) := by
  obtain ⟨v, vs, mb, M, c, hll, hst, _⟩ := h
  have h1 := hll.rd
  obtain ⟨a, k, rfl⟩ := hll.form
  exact ⟨a, k, h1, by rw [cell_of_row w _ 0 _ _ _ hst]; rfl⟩
set_option maxRecDepth 100000 in
set_option maxHeartbeats 4000000 in
theorem pbuild_any (x : Value) (s : List Int) (w : World) (hx0 : RdI w .i64 x s) (hl1 : s.length ≤ 1000) : Calls Try.prog 27 #[x] w (Post3L w (buildE s)) := by
  have HC := Lib.hid (pseq_any x s w hx0 hl1)
  obtain ⟨a, ca, rfl, _, hcm, hx⟩ := hx0.form
  clear hx0 hcm
  by_cases hc : seqC s = 0
  · have t1 : (seqC s != 0) = false := by simp [hc]
    have HH : Hid (buildE s = ((bldR s s.length).1, (bldR s s.length).2, 0)) := Lib.hid (by unfold buildE; rw [if_neg (by simp [hc])])
    have hl12 := seqC_len hc
    have hl : s.length ≤ 20 := by omega
    clear hc
    generalize seqC s = q0 at *
    generalize buildE s = L at *
    go_enter Try.func27, Try.ntmps27
    go_wp2_with fail
    refine HC.out.mono ?_
    rintro e w2 ⟨rfl, hB⟩
    have HB := Lib.hid hB
    clear hB HC
    go_wp2_with fail
    refine (newstand_any (.slice none 0 0) [] w2 (rdLL_nil w2) ⟨by simp, fun j => by simp [row]⟩).mono ?_
    rintro e w3 ⟨sb, rfl, hwh, hB⟩
    have HB3 := Lib.hid (btr HB.out hB)
    have HT0 : Hid (TwoS w3 w.heap.size sb [] (.slice none 0 0) []) := Lib.hid ⟨_, fun _ => False, [], hwh.si, LL.nil _ _, fun _ _ h => h.elim, fun _ h => h.elim, fun k hk => Nat.le_trans HB.out.size hk⟩
    clear hB hwh HB
    go_wp2_with fail
    go_loopw [6, 9, 10, 11, 12, 23] (fun s6 _ _ _ _ s23 wr => ∃ (i : Nat) (v : Value), i ≤ s.length ∧ v = s6 ∧ s23 = .int .i64 i ∧ TwoS wr w.heap.size sb (bldR s i).1 v (bldR s i).2 ∧ Below w.heap.size w wr) (fun _ _ _ _ _ s23 _ => s.length - (intOf s23).toNat)
    case atStart => exact ⟨0, _, Nat.zero_le _, rfl, rfl, HT0.out, HB3.out⟩
    case round =>
      clear HT0 HB3
      obtain ⟨i, v, hi, rfl, rfl, hT, hB⟩ := hrel
      have HT := Lib.hid hT; have HB := Lib.hid hB
      have hz := HB.out.size
      clear hT hB
      by_cases hlt : i < s.length
      · obtain ⟨bx, ox, rfl, hbx, hcx⟩ := hx (by omega)
        have gx := (HB.out.cell (p := ⟨bx, ox + i, none⟩) hbx).trans (hcx i hlt)
        have zx := Nat.lt_of_lt_of_le hbx HB.out.size
        have HE : Hid (elt s i = s[i]?.getD 0) := Lib.hid rfl
        have hsz := bld_size s i
        have hsz2 := bld_size2 s i
        have hpl := bld_pair s i
        have HPR := Lib.hid (put_row (bldR s i).1 (elt s i))
        have HST : Hid (bldR s (i + 1) = ((putR (bldR s i).1 (elt s i)).1, addO (bldR s i).2 (putR (bldR s i).1 (elt s i)).2 ((i : Int) + 1))) := Lib.hid rfl
        rw [HE.out] at HPR HST
        have HSM : Hid (Sml (bldR s i).1) := Lib.hid ⟨by omega, fun j => by have := hsz.2 j; omega⟩
        have hol := hpl.len
        have HOL := Lib.hid hol
        have HO20 : Hid (∀ j, (row (bldR s i).2 j).length ≤ 20) := Lib.hid (fun j => by have := hsz2.2 j; omega)
        have ho20 : (bldR s i).2.length ≤ 20 := by omega
        clear hsz hsz2 hpl hol hcx HE
        have HPUT := Lib.hid (fun B wz h hB => put_any sb (bldR s i).1 (s[i]?.getD 0) wz B h HSM.out hB)
        generalize s[i]?.getD 0 = q at *
        generalize (bldR s i).1 = R at *
        generalize (bldR s i).2 = O at *
        generalize ins (row R 0) q = pl at *
        generalize hp : putR R q = p at *
        obtain ⟨R', r⟩ := p
        have hrl := HPR.out.1
        simp only at hrl HST HPUT
        have HRL := Lib.hid hrl
        clear hp HPR hrl
        obtain ⟨B0, b1, b2, b3, b4⟩ := HT.out.ready hz
        have HB4 := Lib.hid b4; have HBB := Lib.hid b3
        have HPC := Lib.hid (HPUT.out B0 _ b1 b2)
        clear b1 b2 b3 b4 HPUT HT
        go_wp2_with fail
        refine HPC.out.mono ?_
        rintro e w5 ⟨rfl, hsi, hF⟩
        obtain ⟨B, D, vs, h1, h2, h3, h4, h6, h5⟩ := HB4.out _ _ hsi hF
        have HB2 := Lib.hid (hF.below HB.out HBB.out)
        have H1 := Lib.hid h1; have H2 := Lib.hid h2; have H3 := Lib.hid h3; have H4 := Lib.hid h4; have H5 := Lib.hid h5; have H6' := Lib.hid h6
        obtain ⟨av, cv, rfl⟩ := h2.form
        clear hsi hF h1 h2 h3 h4 h5 h6 HPC HB4 HBB gx zx HB
        go_upto_region 11 with fail
        have KEY : Hid (∀ (O1 : List (List Int)) (w3 : World) (vs3 : List Value) (g c : Nat) (h1 : Below w.heap.size w w3) (h2 : SI w3 B sb R') (h3 : LL w3 D (.slice (some ⟨g, 0, none⟩) O1.length c) O1 vs3) (h4 : O1.set r (row O1 r ++ [(i : Int) + 1]) = addO O r ((i : Int) + 1)) (e' : Value) (w4 : World) (hp : LLp w4 D (.slice (some ⟨g, 0, none⟩) O1.length c) O1 vs3 r e' (row O1 r ++ [(i : Int) + 1])) (hF : Fr w3 w4 D) (hr : r < O1.length), TwoS (w4.setCell ⟨g, r, none⟩ e') w.heap.size sb (bldR s (i + 1)).1 (.slice (some ⟨g, 0, none⟩) O1.length c) (bldR s (i + 1)).2 ∧ Below w.heap.size w (w4.setCell ⟨g, r, none⟩ e')) := by
          refine Lib.hid ?_
          intro O1 w3 vs3 g c h1 h2 h3 h4 e' w4 hp hF hr
          have hst := hp.store hr
          have hDg : D g := hp.outB g rfl
          rw [h4] at hst
          rw [HST.out]
          have hF2 : Fr w3 (w4.setCell ⟨g, r, none⟩ e') D := hF.trans (Fr.set (p := ⟨g, r, none⟩) hDg e')
          exact ⟨⟨B, D, _, h2.fr hF2 (fun k _ hb => H3.out k hb), hst, H3.out, H4.out, H6'.out⟩, hF2.below h1 H4.out⟩
        by_cases hrO : r = O.length
        · have t1 : ((r : Int) == (O.length : Int)) = true := by rw [beq_iff_eq]; omega
          have hO1000 : O.length ≤ 1000 := by omega
          have HNIL : Hid (rowI w5 0 (.slice none 0 0) []) := Lib.hid (World.ownsRow_nil _ _ _ _)
          have HRO := Lib.hid hrO
          clear hrO
          go_wp2_with (at_builtin; refine LL.push H2.out HNIL.out (fun k ek => by simp [Value.ownBlock] at ek) (fun j f _ => apartV.symm (.inl rfl)) rfl _ _ rfl rfl rfl rfl hO1000 H5.out ?_)
          intro v3 w3 hO3 hF3
          obtain ⟨av3, cv3, rfl⟩ := hO3.form
          have H6 := Lib.hid hO3
          have H7 := Lib.hid (H1.out.fr hF3 (fun k _ hb => H3.out k hb))
          have HB3 := Lib.hid (hF3.below HB2.out H4.out)
          have H5B := Lib.hid (fun k (hk : w3.heap.size ≤ k) => H5.out k (Nat.le_trans hF3.size hk))
          have HADD := Lib.hid (addO_push (O := O) (n := (i : Int) + 1))
          rw [← HRO.out] at HADD
          have hr : r < (O ++ [[]]).length := by rw [List.length_append, HRO.out]; simp
          have HO1 : Hid (∀ j, (row (O ++ [[]]) j).length ≤ 20) := Lib.hid (fun j => by rw [row_snoc]; split; · simp
                                                                                        · exact HO20.out j)
          have hOl1 : (O ++ [[]]).length ≤ 21 := by rw [List.length_append]; simp; omega
          clear hO3 hF3 H2 H5 HNIL t1 hO1000
          generalize O ++ [[]] = O1 at *
          generalize vs ++ [Value.slice none 0 0] = vs3 at *
          obtain ⟨g, c', e, he, hwg, hg, hve, hce, hfe, hrow⟩ := H6.out.get r hr
          cases he
          obtain ⟨ae, de, rfl⟩ := owns_form hrow
          have HVE := Lib.hid hve
          have h20r : (row O1 r).length ≤ 20 := HO1.out r
          clear hrow hve
          have hGR := Lib.hid (fun (ops : Array Oper) (rest : List Oper) (o : Oper) (ac : Act) (Q : Exit → Act → World → Prop) => LL.grow (ops := ops) (rest := rest) (o := o) (a := ac) (Q := Q) H6.out HVE.out)
          have HK2 := Lib.hid (KEY.out O1 w3 vs3 g _ HB3.out H7.out H6.out HADD.out)
          generalize row O1 r = l at *
          go_wp2_with (at_builtin; refine hGR.out _ _ _ _ _ rfl _ _ rfl ((i : Int) + 1) rfl rfl rfl (by omega) H5B.out ?_)
          intro e' w' hp hF
          obtain ⟨ae', ce', rfl⟩ := owns_form hp.own
          rw [show (l ++ [(i : Int) + 1]).length = l.length + 1 by simp] at hp
          obtain ⟨hc2, hf2, hz2⟩ := hp.outer r hr
          rw [HVE.out] at hc2
          obtain ⟨hTw, hBw⟩ := HK2.out _ _ hp hF hr
          have HTW := Lib.hid hTw; have HBW := Lib.hid hBw
          clear hp hF hTw hBw
          go_wp2_with fail
          go_roundw
          case rel => exact ⟨i + 1, _, by omega, rfl, by go_num, HTW.out, HBW.out⟩
          case measure => simp [intOf]; omega
        · have t1 : ((r : Int) == (O.length : Int)) = false := by rw [beq_eq_false_iff_ne]; omega
          obtain ⟨O1, hO1e⟩ : ∃ O1, O = O1 := ⟨O, rfl⟩
          obtain ⟨vs3, hvs3⟩ : ∃ x, vs = x := ⟨vs, rfl⟩
          obtain ⟨w3, hw3⟩ : ∃ x, w5 = x := ⟨w5, rfl⟩
          have H6 := H2
          have H7 := H1
          have HB3 := HB2
          have H5B := H5
          have HADD := Lib.hid (addO_set (O := O) (n := (i : Int) + 1) hrO)
          have hr : r < O.length := by have := HRL.out; have := HOL.out; omega
          have HO1 := HO20
          clear hrO H2 H5
          subst hO1e; subst hvs3; subst hw3
          obtain ⟨g, c', e, he, hwg, hg, hve, hce, hfe, hrow⟩ := H6.out.get r hr
          cases he
          obtain ⟨ae, de, rfl⟩ := owns_form hrow
          have HVE := Lib.hid hve
          have h20r : (row O r).length ≤ 20 := HO1.out r
          clear hrow hve
          have hGR := Lib.hid (fun (ops : Array Oper) (rest : List Oper) (o : Oper) (ac : Act) (Q : Exit → Act → World → Prop) => LL.grow (ops := ops) (rest := rest) (o := o) (a := ac) (Q := Q) H6.out HVE.out)
          have HK2 := Lib.hid (KEY.out O w5 vs g _ HB3.out H7.out H6.out HADD.out)
          generalize row O r = l at *
          go_wp2_with (at_builtin; refine hGR.out _ _ _ _ _ rfl _ _ rfl ((i : Int) + 1) rfl rfl rfl (by omega) H5B.out ?_)
          intro e' w' hp hF
          obtain ⟨ae', ce', rfl⟩ := owns_form hp.own
          rw [show (l ++ [(i : Int) + 1]).length = l.length + 1 by simp] at hp
          obtain ⟨hc2, hf2, hz2⟩ := hp.outer r hr
          rw [HVE.out] at hc2
          obtain ⟨hTw, hBw⟩ := HK2.out _ _ hp hF hr
          have HTW := Lib.hid hTw; have HBW := Lib.hid hBw
          clear hp hF hTw hBw
          go_wp2_with fail
          go_roundw
          case rel => exact ⟨i + 1, _, by omega, rfl, by go_num, HTW.out, HBW.out⟩
          case measure => simp [intOf]; omega
      · have hie : i = s.length := by omega
        subst hie
        obtain ⟨B, D, vs, h1, h2, _, _⟩ := HT.out
        obtain ⟨au, cu, hr, hcl⟩ := h1.read
        obtain ⟨av, cv, rfl⟩ := h2.form
        have H1 := Lib.hid hr; have H2 := Lib.hid h2.rd
        clear h1 h2 hr
        go_wp2_with fail
        go_ret3
        exact post3L_mk HH.out H1.out H2.out HB.out
  · have t1 : (seqC s != 0) = true := by simp [hc]
    have HH : Hid (buildE s = ([], [], seqC s)) := Lib.hid (by unfold buildE; rw [if_pos hc])
    clear hc
    generalize seqC s = q0 at *
    generalize buildE s = L at *
    go_enter Try.func27, Try.ntmps27
    go_wp2_with fail
    refine HC.out.mono ?_
    rintro e w2 ⟨rfl, hB⟩
    have HB := Lib.hid hB
    clear hB HC
    go_wp2_with fail
    go_ret3
    exact post3L_mk HH.out (rdLL_nil _) (rdLL_nil _) HB.out
end Go.Proofs.Ytnnfahdhmodejaa

namespace Go.Proofs.Ytnnfahdhmodejaa
open Go.RowKit Go.Shelf

set_option maxRecDepth 100000 in
set_option maxHeartbeats 400000 in
theorem index_any (x : Value) (xs : List Int) (n : Int) (w : World) (hx0 : RdI w .i64 x xs) (hl : xs.length ≤ 1000) :
    Calls Try.prog 103 #[x, .int .i64 n] w fun e w' => e = .returned (.int .i64 (idxOf (fun y => y == n) xs)) ∧ w = w' := by
  obtain ⟨a, ca, rfl, _, hcm, hx⟩ := hx0.form
  clear hx0 hcm
  go_enter Try.func103, Try.ntmps103
  go_wp2_with fail
  go_loop [5, 8] (fun _ i => ∃ k : Nat, k ≤ xs.length ∧ i = .int .i64 k ∧ (∀ i, i < k → ((xs[i]?.getD 0) == n) = false)) (fun _ i => xs.length - (intOf i).toNat)
  case atStart => exact ⟨0, Nat.zero_le _, rfl, by intro i h; omega⟩
  case round =>
    obtain ⟨k, hk, rfl, ht⟩ := hrel
    have HT := Lib.hid ht; clear ht
    by_cases hlt : k < xs.length
    · obtain ⟨bx, ox, rfl, hbx, hcx⟩ := hx (by omega)
      have gx := hcx k hlt
      have HFS := Lib.hid (fun h => find_none_step (p := fun y => y == n) HT.out hlt h)
      have HNX : Hid (((xs[k]?.getD 0) == n) = false → ∀ i, i < k + 1 → ((xs[i]?.getD 0) == n) = false) := Lib.hid (fun h i hi => by
        by_cases e : i = k
        · subst e; exact h
        · exact HT.out i (by omega))
      clear hx hcx
      generalize xs[k]?.getD 0 = q at *
      by_cases hq : q = n
      · have t1 : (n == q) = true := by simp [hq]
        have HQQ := Lib.hid (HFS.out (by simp [hq])); clear hq
        go_wp2_with fail
        go_ret
        exact ⟨ret_int HQQ.out.symm, rfl⟩
      · have t1 : (n == q) = false := by rw [beq_eq_false_iff_ne]; exact fun e => hq e.symm
        have HQQ := Lib.hid (HNX.out (by simp [hq])); clear hq
        go_wp2_with fail
        go_round
        case rel => exact ⟨k + 1, by omega, by go_num, HQQ.out⟩
        case measure => simp [intOf]; omega
    · go_wp2_with fail
      go_ret
      exact ⟨ret_int (find_none (p := fun y => y == n) fun i hi => HT.out i (by omega)).symm, rfl⟩
theorem any_contains (xs : List Int) (n : Int) : (xs.any fun y => y == n) = xs.contains n := by
  rw [Bool.eq_iff_iff, List.any_eq_true, List.contains_iff_mem]
  constructor
  · rintro ⟨x, hx, h⟩; rw [beq_iff_eq] at h; exact h ▸ hx
  · intro h; exact ⟨n, h, by simp⟩
set_option maxRecDepth 100000 in
theorem contains_any (x : Value) (xs : List Int) (n : Int) (w : World) (hx0 : RdI w .i64 x xs) (hl : xs.length ≤ 1000) :
    Calls Try.prog 77 #[x, .int .i64 n] w fun e w' => e = .returned (.bool (xs.contains n)) ∧ w = w' := by
  have HI := Lib.hid (index_any x xs n w hx0 hl)
  have HQ := Lib.hid (idxOf_any (fun y => y == n) xs)
  rw [any_contains] at HQ
  generalize idxOf (fun y => y == n) xs = q at *
  generalize xs.contains n = g at *
  go_enter Try.func77, Try.ntmps77
  go_wp2_with fail
  refine HI.out.mono ?_
  rintro e w2 ⟨rfl, rfl⟩
  go_wp2_with fail
  go_ret
  exact ⟨ret_bool HQ.out, rfl⟩
set_option maxRecDepth 100000 in
theorem readcl_any (x : Value) (xs : List Int) (n : Int) (b : Nat) (w : World) (hx0 : RdI w .i64 x xs) (hl : xs.length ≤ 1000) (hb : w.cell? ⟨b, 0, none⟩ = some (.int .i64 n)) :
    Calls Try.prog 76 #[x, .pointer (some ⟨b, 0, none⟩)] w fun e w' => e = .returned (.bool (xs.contains n)) ∧ w = w' := by
  have HI := Lib.hid (contains_any x xs n w hx0 hl)
  obtain ⟨a, ca, rfl, _, _, _⟩ := hx0.form
  clear hx0
  generalize xs.contains n = g at *
  go_enter Try.func76, Try.ntmps76
  go_wp2_with fail
  refine HI.out.mono ?_
  rintro e w2 ⟨rfl, rfl⟩
  go_wp2_with fail
  go_ret
  exact ⟨rfl, rfl⟩
set_option maxRecDepth 100000 in
set_option maxHeartbeats 800000 in
theorem indexrow_any (v : Value) (O : List (List Int)) (n : Int) (b : Nat) (w : World) (hx0 : RdLL w v O) (hs : Sml O) (hb : w.cell? ⟨b, 0, none⟩ = some (.int .i64 n)) (hrow : rowOf O n < O.length) :
    Calls Try.prog 75 #[v, .func (.func 76) #[] #[.pointer (some ⟨b, 0, none⟩)]] w fun e w' => e = .returned (.int .i64 (rowOf O n : Nat)) ∧ w = w' := by
  obtain ⟨a, ca, rfl⟩ := hx0.sl
  have HX := Lib.hid hx0; have HS := Lib.hid hs.2
  have h20 := hs.1
  clear hx0 hs
  have HLO := Lib.hid (fun j (h : j < rowOf O n) => rowOf_lo h)
  have HAT := Lib.hid (rowOf_at hrow)
  have HCB := Lib.hid hb
  clear hb
  generalize rowOf O n = r at *
  go_enter Try.func75, Try.ntmps75
  go_wp2_with fail
  go_loop [5, 8] (fun _ i => ∃ k : Nat, k ≤ r ∧ i = .int .i64 k) (fun _ i => O.length - (intOf i).toNat)
  case atStart => exact ⟨0, Nat.zero_le _, rfl⟩
  case round =>
    obtain ⟨k, hk, rfl⟩ := hrel
    have hlt : k < O.length := by omega
    obtain ⟨bb, off, a', c', rfl, hbb, hc, hr⟩ := HX.out.get k hlt
    have HCL := Lib.hid (readcl_any _ (row O k) n b w hr (by have := HS.out k; omega) HCB.out)
    clear hr
    have HLOK := Lib.hid (HLO.out k)
    by_cases hkr : k = r
    · subst hkr
      rw [show (row O k).contains n = true by rw [List.contains_iff_mem]; exact HAT.out] at HCL
      generalize (row O k).length = m at *
      go_wp2_with fail
      refine HCL.out.mono ?_
      rintro e w2 ⟨rfl, rfl⟩
      go_wp2_with fail
      go_ret
      exact ⟨rfl, rfl⟩
    · rw [show (row O k).contains n = false by rw [← Bool.not_eq_true, List.contains_iff_mem]; exact HLOK.out (by omega)] at HCL
      generalize (row O k).length = m at *
      go_wp2_with fail
      refine HCL.out.mono ?_
      rintro e w2 ⟨rfl, rfl⟩
      go_wp2_with fail
      go_round
      case rel => exact ⟨k + 1, by omega, by go_num⟩
      case measure => simp [intOf]; omega
end Go.Proofs.Ytnnfahdhmodejaa
