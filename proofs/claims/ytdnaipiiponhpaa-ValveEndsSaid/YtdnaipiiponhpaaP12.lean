/- Plain facts: where a value can be behind a row. -/
import Derived.Test.YtdnaipiiponhpaaP9
namespace Go.Proofs.Ytdnaipiiponhpaa

/-- 0, 1, 2: less than a number, it, or greater. -/
def third (c x : Int) : Int := if x < c then 0 else if x = c then 1 else 2
theorem third_mono (c : Int) : Mono (third c) := by
  intro x y h
  unfold third
  split <;> split <;> (try split) <;> (try split) <;> omega
theorem ends_of {n : Nat} {V : List (Int × Int)} (h : OkV n V) {v : List Int} (hl : v.length = n) (hd : v.Nodup) {pl j : Nat} (hpl : pl < n) (hj : j < n) (he : (runV V v)[j]?.getD 0 = v[pl]?.getD 0) : rendsB n V pl j = true := by
  obtain ⟨c, hc⟩ : ∃ c, c = v[pl]?.getD 0 := ⟨_, rfl⟩
  have hb : Bits (v.map (cutAt (c + 1))) := cutAt_bits _ _
  have hbl : (v.map (cutAt (c + 1))).length = n := by simpa using hl
  have e := bits_is _ hb
  rw [hbl] at e
  unfold rendsB
  rw [List.any_eq_true]
  refine ⟨valN (v.map (cutAt (c + 1))), List.mem_range.2 (by have := valN_lt _ hb; rwa [hbl] at this), ?_⟩
  unfold hitB endX
  rw [← e]
  have hx : (((v.map (cutAt (c + 1))).map fun x => 2 * x).set pl 1) = v.map (third c) := by
    refine ext_getD (by simp) fun i hi => ?_
    have hi' : i < v.length := by simpa using hi
    rw [getD_set _ _ _ _ (by simp; omega), List.map_map, getD_map _ _ _ hi', getD_map _ _ _ hi']
    by_cases hip : pl = i
    · subst hip; rw [if_pos rfl, ← hc]; unfold third; simp
    · rw [if_neg hip]
      have hne : v[i]?.getD 0 ≠ c := by
        rw [hc]
        rw [List.getElem?_eq_getElem hi', List.getElem?_eq_getElem (by omega)]
        simp only [Option.getD_some]
        intro e
        exact hip ((List.getElem_inj hd).1 e).symm
      simp only [Function.comp, cutAt, third]
      split <;> split <;> (try split) <;> omega
  rw [hx, runV_map _ (third_mono c) V v (by rw [hl]; exact h), getD_map _ _ _ (by rw [runV_length, hl]; exact hj), he, ← hc]
  unfold third; simp
theorem run_perm {n : Nat} {V : List (Int × Int)} (h : OkV n V) {v : List Int} (hl : v.length = n) : (runV V v).Perm v := by
  rw [List.perm_iff_count]
  intro x
  exact runV_count V x v (by rw [hl]; exact h)
theorem ends_some {n : Nat} {V : List (Int × Int)} (h : OkV n V) {v : List Int} (hl : v.length = n) {pl : Nat} (hpl : pl < n) : ∃ j, j < n ∧ (runV V v)[j]?.getD 0 = v[pl]?.getD 0 := by
  have hm : v[pl]?.getD 0 ∈ v := by rw [List.getElem?_eq_getElem (by omega)]; exact List.getElem_mem _
  obtain ⟨j, hj, e⟩ := List.getElem_of_mem ((run_perm h hl).mem_iff.2 hm)
  refine ⟨j, by rw [runV_length, hl] at hj; exact hj, ?_⟩
  rw [List.getElem?_eq_getElem hj]; exact e
theorem sorted_pair {l : List Int} (h : sortedB l = true) : l.Pairwise (· ≤ ·) := by
  rw [List.pairwise_iff_getElem]
  intro i j hi hj hij
  have := sorted_le h i j (by omega) hj
  rwa [List.getElem?_eq_getElem hi, List.getElem?_eq_getElem hj] at this
/-- The numbers from 0 on, two of which are exchanged. -/
def swapL (n i j : Nat) : List Int := (List.range n).map fun k => ((if k = i then j else if k = j then i else k : Nat) : Int)
theorem swapL_nodup (n i j : Nat) : (swapL n i j).Nodup := by
  unfold swapL
  refine List.Pairwise.map _ ?_ List.nodup_range
  intro a b hab
  intro e
  apply hab
  split at e <;> split at e <;> (try split at e) <;> (try split at e) <;> omega
theorem swapL_mem {n i j : Nat} (hi : i < n) (hj : j < n) (x : Int) : x ∈ swapL n i j ↔ x ∈ (List.range n).map fun k => ((k : Nat) : Int) := by
  unfold swapL
  simp only [List.mem_map, List.mem_range]
  constructor
  · rintro ⟨k, hk, rfl⟩
    exact ⟨_, by split <;> (try split) <;> omega, rfl⟩
  · rintro ⟨k, hk, rfl⟩
    by_cases h1 : k = i
    · exact ⟨j, hj, by subst h1; split <;> simp_all⟩
    · by_cases h2 : k = j
      · exact ⟨i, hi, by simp [h2]⟩
      · exact ⟨k, hk, by simp [h1, h2]⟩
theorem ends_sorts {n : Nat} {V : List (Int × Int)} (h : OkV n V) (hs : patOf n V = none) {pl j : Nat} (hpl : pl < n) (hj : j < n) : rendsB n V pl j = true := by
  have hl : (swapL n pl j).length = n := by simp [swapL]
  have hb : ((List.range n).map fun k => ((k : Nat) : Int)).Nodup := List.Pairwise.map _ (fun a b hab e => hab (by omega)) List.nodup_range
  have hp : (swapL n pl j).Perm ((List.range n).map fun k => ((k : Nat) : Int)) := (List.perm_ext_iff_of_nodup (swapL_nodup n pl j) hb).2 fun x => swapL_mem hpl hj x
  have h1 := (run_perm h hl).trans hp
  have h2 := sorted_pair (sorts_all h hs _ hl)
  have h3 : ((List.range n).map fun k => ((k : Nat) : Int)).Pairwise (· ≤ ·) := by
    refine List.Pairwise.map _ (R := (· < ·)) (fun a b hab => by omega) List.pairwise_lt_range
  have e := h1.eq_of_pairwise (le := fun a b => a ≤ b) (fun a b _ _ h1 h2 => Int.le_antisymm h1 h2) h2 h3
  refine ends_of h hl (swapL_nodup n pl j) hpl hj ?_
  rw [e]
  simp [swapL, hpl, hj]

/-! An order of values, put in one after another. -/
def insV (v : List Int) (n : Int) : List Int := v.map (fun x => if n ≤ x then x + 1 else x) ++ [n]
def keyV (o : List Int) (i : Nat) : Int := if o.length = 0 then (i : Int) else o[i % o.length]?.getD 0 % ((i : Int) + 1)
def ordV (o : List Int) : Nat → List Int
  | 0 => []
  | i + 1 => insV (ordV o i) (keyV o i)
theorem ordV_len (o : List Int) : ∀ i, (ordV o i).length = i
  | 0 => rfl
  | i + 1 => by simp [ordV, insV, ordV_len o i]
theorem keyV_in (o : List Int) (i : Nat) : 0 ≤ keyV o i ∧ keyV o i ≤ (i : Int) := by
  unfold keyV
  split
  · omega
  · have h1 := Int.emod_nonneg (o[i % o.length]?.getD 0) (show (i : Int) + 1 ≠ 0 by omega)
    have h2 := Int.emod_lt_of_pos (o[i % o.length]?.getD 0) (show (0 : Int) < (i : Int) + 1 by omega)
    omega
theorem insV_nodup {v : List Int} (n : Int) (h : v.Nodup) : (insV v n).Nodup := by
  unfold insV
  unfold List.Nodup at *
  rw [List.pairwise_append]
  refine ⟨List.Pairwise.map _ (fun a b hab e => ?_) h, by simp, fun a ha b hb => ?_⟩
  · apply hab
    split at e <;> split at e <;> omega
  · obtain ⟨x, _, rfl⟩ := List.mem_map.1 ha
    simp only [List.mem_singleton] at hb
    subst hb
    split <;> omega
theorem ordV_nodup (o : List Int) : ∀ i, (ordV o i).Nodup
  | 0 => by simp [ordV]
  | i + 1 => insV_nodup _ (ordV_nodup o i)
theorem ordV_in (o : List Int) : ∀ i, ∀ x ∈ ordV o i, 0 ≤ x ∧ x < (i : Int)
  | 0, x, h => by simp [ordV] at h
  | i + 1, x, h => by
    rw [ordV, insV, List.mem_append, List.mem_map] at h
    rcases h with ⟨y, hy, rfl⟩ | h
    · have := ordV_in o i y hy
      split <;> omega
    · simp only [List.mem_singleton] at h
      have := keyV_in o i
      omega
/-- The first k ones have been looked at. -/
def bumpK (v : List Int) (n : Int) (k : Nat) : List Int := v.mapIdx fun i x => if i < k then (if n ≤ x then x + 1 else x) else x
theorem bumpK_len (v : List Int) (n : Int) (k : Nat) : (bumpK v n k).length = v.length := by simp [bumpK]
theorem bumpK_zero (v : List Int) (n : Int) : bumpK v n 0 = v := by
  refine ext_getD (by simp [bumpK]) fun i hi => ?_
  simp [bumpK]
theorem bumpK_all (v : List Int) (n : Int) : bumpK v n v.length = v.map fun x => if n ≤ x then x + 1 else x := by
  apply List.ext_getElem
  · simp [bumpK]
  · intro i h1 h2
    have : i < v.length := by simpa using h2
    simp [bumpK, this]
theorem bumpK_get (v : List Int) (n : Int) (k : Nat) : (bumpK v n k)[k]?.getD 0 = v[k]?.getD 0 := by
  unfold bumpK
  rw [List.getElem?_mapIdx]
  cases v[k]? <;> simp
theorem bumpK_getD (v : List Int) (n : Int) (k i : Nat) (hi : i < v.length) : (bumpK v n k)[i]?.getD 0 = if i < k then (if n ≤ v[i]?.getD 0 then v[i]?.getD 0 + 1 else v[i]?.getD 0) else v[i]?.getD 0 := by
  unfold bumpK
  rw [List.getElem?_mapIdx, List.getElem?_eq_getElem hi]; simp
theorem bumpK_step (v : List Int) (n : Int) (k : Nat) (hk : k < v.length) (hn : n ≤ v[k]?.getD 0) : (bumpK v n k).set k (v[k]?.getD 0 + 1) = bumpK v n (k + 1) := by
  refine ext_getD (by simp [bumpK]) fun i hi => ?_
  have hi' : i < v.length := by simpa [bumpK] using hi
  rw [getD_set _ _ _ _ (by rw [bumpK_len]; exact hk), bumpK_getD v n k i hi', bumpK_getD v n (k + 1) i hi']
  by_cases e : k = i
  · subst e; rw [if_pos rfl, if_pos (by omega), if_pos hn]
  · rw [if_neg e]
    by_cases h3 : i < k
    · rw [if_pos h3, if_pos (show i < k + 1 by omega)]
    · rw [if_neg h3, if_neg (show ¬ i < k + 1 by omega)]
theorem bumpK_skip (v : List Int) (n : Int) (k : Nat) (hk : k < v.length) (hn : ¬ n ≤ v[k]?.getD 0) : bumpK v n k = bumpK v n (k + 1) := by
  refine ext_getD (by simp [bumpK]) fun i hi => ?_
  have hi' : i < v.length := by simpa [bumpK] using hi
  rw [bumpK_getD v n k i hi', bumpK_getD v n (k + 1) i hi']
  by_cases e : k = i
  · subst e; rw [if_neg (by omega), if_pos (show k < k + 1 by omega), if_neg hn]
  · by_cases h3 : i < k
    · rw [if_pos h3, if_pos (show i < k + 1 by omega)]
    · rw [if_neg h3, if_neg (show ¬ i < k + 1 by omega)]

/-! The list that is told. -/
theorem rendsK_in {n : Nat} {V : List (Int × Int)} {pl : Nat} (i : Nat) (hi : i < (rendsK n V pl n).length) : 0 ≤ (rendsK n V pl n)[i]?.getD 0 ∧ (rendsK n V pl n)[i]?.getD 0 < (n : Int) := by
  rw [List.getElem?_eq_getElem hi]
  have := List.getElem_mem hi
  unfold rendsK at this
  obtain ⟨k, hk, e⟩ := List.mem_map.1 this
  have := List.mem_range.1 (List.mem_filter.1 hk).1
  simp only [Option.getD_some]
  unfold rendsK
  rw [← e]; omega
theorem rendsK_up {n : Nat} {V : List (Int × Int)} {pl : Nat} (i : Nat) (hi : i + 1 < (rendsK n V pl n).length) : (rendsK n V pl n)[i]?.getD 0 < (rendsK n V pl n)[i + 1]?.getD 0 := by
  have hp : (rendsK n V pl n).Pairwise (· < ·) := by
    unfold rendsK
    refine List.Pairwise.map _ (R := (· < ·)) (fun a b hab => by omega) (List.Pairwise.filter _ List.pairwise_lt_range)
  rw [List.getElem?_eq_getElem hi, List.getElem?_eq_getElem (by omega)]
  exact List.pairwise_iff_getElem.1 hp i (i + 1) (by omega) hi (by omega)
theorem rendsK_mem {n : Nat} {V : List (Int × Int)} {pl j : Nat} (hj : j < n) (h : rendsB n V pl j = true) : ∃ i, i < (rendsK n V pl n).length ∧ (rendsK n V pl n)[i]?.getD 0 = (j : Int) := by
  have hm : (j : Int) ∈ rendsK n V pl n := by
    unfold rendsK
    exact List.mem_map.2 ⟨j, List.mem_filter.2 ⟨List.mem_range.2 hj, h⟩, rfl⟩
  obtain ⟨i, hi, e⟩ := List.getElem_of_mem hm
  exact ⟨i, hi, by rw [List.getElem?_eq_getElem hi]; exact e⟩
theorem rendsK_full {n : Nat} {V : List (Int × Int)} {pl : Nat} (h : OkV n V) (hs : patOf n V = none) (hpl : pl < n) : (rendsK n V pl n).length = n := by
  unfold rendsK
  rw [List.length_map, List.filter_eq_self.2 fun k hk => ends_sorts h hs hpl (List.mem_range.1 hk), List.length_range]
/-- Among the first j places that are told is the one of the value. -/
def inE (l e : List Int) (c : Int) (j : Nat) : Bool := (List.range j).any fun i => decide (l[(e[i]?.getD 0).toNat]?.getD 0 = c)
theorem inE_succ (l e : List Int) (c : Int) (j : Nat) : inE l e c (j + 1) = (inE l e c j || decide (l[(e[j]?.getD 0).toNat]?.getD 0 = c)) := by simp [inE, List.range_succ]
theorem inE_all {n : Nat} {V : List (Int × Int)} (h : OkV n V) {v : List Int} (hl : v.length = n) (hd : v.Nodup) {pl : Nat} (hpl : pl < n) : inE (runV V v) (rendsK n V pl n) (v[pl]?.getD 0) (rendsK n V pl n).length = true := by
  obtain ⟨j, hj, he⟩ := ends_some h hl hpl
  obtain ⟨i, hi, hg⟩ := rendsK_mem hj (ends_of h hl hd hpl hj he)
  unfold inE
  rw [List.any_eq_true]
  exact ⟨i, List.mem_range.2 hi, by rw [hg]; simpa using he⟩
theorem rendsK_ge1 {n : Nat} {V : List (Int × Int)} (h : OkV n V) {v : List Int} (hl : v.length = n) (hd : v.Nodup) {pl : Nat} (hpl : pl < n) : 1 ≤ (rendsK n V pl n).length := by
  obtain ⟨j, hj, he⟩ := ends_some h hl hpl
  obtain ⟨i, hi, _⟩ := rendsK_mem hj (ends_of h hl hd hpl hj he)
  omega
end Go.Proofs.Ytdnaipiiponhpaa
