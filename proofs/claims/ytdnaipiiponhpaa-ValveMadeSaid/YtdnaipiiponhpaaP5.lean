/- Plain facts: patterns decide for all values; values are neither lost nor added. -/
import Derived.Test.YtdnaipiiponhpaaP3
namespace Go.Proofs.Ytdnaipiiponhpaa

/-- If all patterns come out sorted, all values do. -/
theorem zero_one {p : Nat} {V : List (Int × Int)} (h : OkV p V) (hs : ∀ t, t < 2 ^ p → sortedB (runV V (bitsOf p t)) = true) (l : List Int) (hl : l.length = p) : sortedB (runV V l) = true := by
  subst hl
  rw [sortedB_iff]
  intro i hi hil
  rw [runV_length] at hil
  obtain ⟨t, ht, e⟩ := cut_run ((runV V l)[i - 1]?.getD 0) V l h
  have h1 := (sortedB_iff _).1 (hs t ht) i hi (by rw [runV_length, bitsOf_len]; exact hil)
  rw [e, getD_map _ _ _ (by rw [runV_length]; omega), getD_map _ _ _ (by rw [runV_length]; omega)] at h1
  unfold cutAt at h1
  rw [if_pos (Int.le_refl _)] at h1
  split at h1
  · assumption
  · omega
theorem cut_ext {a b : List Int} (hl : a.length = b.length) (h : ∀ c, a.map (cutAt c) = b.map (cutAt c)) : a = b := by
  apply ext_getD hl
  intro i hi
  have key : ∀ c, cutAt c (a[i]?.getD 0) = cutAt c (b[i]?.getD 0) := fun c => by
    have : (a.map (cutAt c))[i]?.getD 0 = (b.map (cutAt c))[i]?.getD 0 := by rw [h c]
    rwa [getD_map _ _ _ hi, getD_map _ _ _ (by omega)] at this
  have h1 := key (a[i]?.getD 0)
  have h2 := key (b[i]?.getD 0)
  unfold cutAt at h1 h2
  rw [if_pos (Int.le_refl _)] at h1 h2
  split at h1 <;> split at h2 <;> omega
/-- If two rows do the same to all patterns, they do the same to all values. -/
theorem eq_one {p : Nat} {U V : List (Int × Int)} (hU : OkV p U) (hV : OkV p V) (hs : ∀ t, t < 2 ^ p → runV U (bitsOf p t) = runV V (bitsOf p t)) (l : List Int) (hl : l.length = p) : runV U l = runV V l := by
  subst hl
  refine cut_ext (by rw [runV_length, runV_length]) fun c => ?_
  have hb := cutAt_bits c l
  have h1 := bits_is _ hb
  rw [List.length_map] at h1
  rw [← runV_map _ (cutAt_mono c) U l hU, ← runV_map _ (cutAt_mono c) V l hV, h1]
  exact hs _ (by have := valN_lt _ hb; simpa using this)

/-- A step loses and adds no value. -/
theorem stepV_count (l : List Int) (v : Int × Int) (h1 : 0 ≤ v.1) (h2 : v.1 < v.2) (h3 : v.2 < (l.length : Int)) (x : Int) : (stepV l v).count x = l.count x := by
  unfold stepV
  have a1 : v.1.toNat < l.length := by omega
  have a2 : v.2.toNat < l.length := by omega
  split
  · rw [List.count_eq_countP, List.count_eq_countP, List.countP_set (by simpa using a2), List.countP_set a1]
    rw [List.getElem_set_ne (by omega)]
    have e1 : l[v.1.toNat]?.getD 0 = l[v.1.toNat] := by rw [List.getElem?_eq_getElem a1]; rfl
    have e2 : l[v.2.toNat]?.getD 0 = l[v.2.toNat] := by rw [List.getElem?_eq_getElem a2]; rfl
    rw [e1, e2]
    have p1 : l[v.1.toNat] == x → 0 < List.countP (fun y => y == x) l := fun h => List.countP_pos_iff.2 ⟨_, List.getElem_mem a1, h⟩
    have p2 : l[v.2.toNat] == x → 0 < List.countP (fun y => y == x) l := fun h => List.countP_pos_iff.2 ⟨_, List.getElem_mem a2, h⟩
    generalize List.countP (fun y => y == x) l = n at *
    split <;> split <;> simp_all <;> omega
  · rfl
theorem runV_count (V : List (Int × Int)) (x : Int) : ∀ l : List Int, OkV l.length V → (runV V l).count x = l.count x := by
  induction V with
  | nil => intro l _; rfl
  | cons v V ih =>
    intro l h
    obtain ⟨h1, h2, h3⟩ := h v (by simp)
    rw [runV_cons, ih _ (fun u hu => by rw [stepV_length]; exact h u (by simp [hu])), stepV_count l v h1 h2 h3]
/-- A valve that is needless for the patterns is needless for all values. -/
theorem need_all {p : Nat} {V : List (Int × Int)} (h : OkV p V) {k : Nat} (hk : k < V.length) (hn : rneedB p V k = true) (l : List Int) (hl : l.length = p) : stepV (runV (V.take k) l) (V[k]?.getD (0, 0)) = runV (V.take k) l := by
  have hm : V[k] ∈ V := List.getElem_mem hk
  obtain ⟨h1, h2, h3⟩ := h _ hm
  have hg : V[k]?.getD (0, 0) = V[k] := by simp [hk]
  rw [hg, stepV_same _ _ h1 h2 (by rw [runV_length, hl]; exact h3)]
  intro hlt
  subst hl
  obtain ⟨t, ht, e⟩ := cut_run ((runV (V.take k) l)[V[k].1.toNat]?.getD 0) (V.take k) l (h.take k)
  unfold rneedB at hn
  have := List.all_eq_true.1 hn t (List.mem_range.2 ht)
  unfold meetsB at this
  rw [hg, e, getD_map _ _ _ (by rw [runV_length]; omega), getD_map _ _ _ (by rw [runV_length]; omega)] at this
  unfold cutAt at this
  rw [if_pos (Int.le_refl _), if_neg (by omega)] at this
  simp at this
theorem patOf_none {p : Nat} {V : List (Int × Int)} : patOf p V = none ↔ ∀ t, t < 2 ^ p → sortedB (runV V (bitsOf p t)) = true := by
  unfold patOf
  rw [List.find?_eq_none]
  constructor
  · intro h t ht
    have := h t (List.mem_range.2 ht)
    unfold badB at this; simpa using this
  · intro h t ht
    unfold badB; rw [h t (List.mem_range.1 ht)]; simp
theorem sorts_all {p : Nat} {V : List (Int × Int)} (h : OkV p V) (hn : patOf p V = none) (l : List Int) (hl : l.length = p) : sortedB (runV V l) = true := zero_one h (patOf_none.1 hn) l hl
/-- The bricks and the merge. -/
theorem made_ok : ∀ n : Nat, 1 ≤ n → n ≤ 8 → checkR n (bricksK n n) = 0 ∧ checkR n (mergeN n) = 0 ∧ (mergeN n).length ≤ (bricksK n n).length ∧ patOf n (bricksK n n) = none ∧ patOf n (mergeN n) = none ∧ (rrL (bricksK n n) (bricksK n n).length).all (fun x => decide (x ≤ n)) = true := by
  have : ∀ n : Fin 9, 1 ≤ n.val → checkR n.val (bricksK n n) = 0 ∧ checkR n.val (mergeN n) = 0 ∧ (mergeN n).length ≤ (bricksK n n).length ∧ patOf n (bricksK n n) = none ∧ patOf n (mergeN n) = none ∧ (rrL (bricksK n n) (bricksK n n).length).all (fun x => decide (x ≤ n.val)) = true := by decide +kernel
  intro n h1 h8
  exact this ⟨n, by omega⟩ h1
end Go.Proofs.Ytdnaipiiponhpaa
