/- Plain facts on rows of valves: monotone replacement, sorted values, patterns. -/
import Derived.Test.YtdnaipiiponhpaaZ3
namespace Go.Proofs.Ytdnaipiiponhpaa

/-- Every valve compares two places of n, the lower one first. -/
def OkV (n : Nat) (V : List (Int × Int)) : Prop := ∀ v ∈ V, 0 ≤ v.1 ∧ v.1 < v.2 ∧ v.2 < (n : Int)
theorem OkV.of {p : Int} {V : List (Int × Int)} (h : OkRow p V) : OkV p.toNat V := fun v hv => by obtain ⟨h1, h2, h3⟩ := h.ok v hv; omega
theorem OkV.take {n : Nat} {V : List (Int × Int)} (h : OkV n V) (k : Nat) : OkV n (V.take k) := fun v hv => h v (List.mem_of_mem_take hv)

/-- Greater ones do not become lesser. -/
def Mono (f : Int → Int) : Prop := ∀ x y, x ≤ y → f x ≤ f y
theorem getD_map (f : Int → Int) (l : List Int) (i : Nat) (h : i < l.length) : (l.map f)[i]?.getD 0 = f (l[i]?.getD 0) := by rw [List.getElem?_map, List.getElem?_eq_getElem h]; rfl
theorem getD_set (l : List Int) (i j : Nat) (x : Int) (h : i < l.length) : (l.set i x)[j]?.getD 0 = if i = j then x else l[j]?.getD 0 := by
  rw [List.getElem?_set]
  split
  · rename_i e; subst e; simp
  · rfl
theorem ext_getD {a b : List Int} (hl : a.length = b.length) (h : ∀ i, i < a.length → a[i]?.getD 0 = b[i]?.getD 0) : a = b := by
  apply List.ext_getElem hl
  intro i h1 h2
  have := h i h1
  simpa [h1, h2] using this

/-- What a step leaves, place by place. -/
theorem stepV_get (l : List Int) (v : Int × Int) (h1 : 0 ≤ v.1) (h2 : v.1 < v.2) (h3 : v.2 < (l.length : Int)) (j : Nat) :
    (stepV l v)[j]?.getD 0 = if j = v.1.toNat then min (l[v.1.toNat]?.getD 0) (l[v.2.toNat]?.getD 0) else if j = v.2.toNat then max (l[v.1.toNat]?.getD 0) (l[v.2.toNat]?.getD 0) else l[j]?.getD 0 := by
  unfold stepV
  have a1 : v.1.toNat < l.length := by omega
  have a2 : v.2.toNat < l.length := by omega
  generalize hx : l[v.1.toNat]?.getD 0 = x
  generalize hy : l[v.2.toNat]?.getD 0 = y
  split
  · rename_i h
    rw [getD_set _ _ _ _ (by simpa using a2), getD_set _ _ _ _ a1]
    by_cases e1 : v.2.toNat = j
    · rw [if_pos e1, if_neg (by omega), if_pos (by omega)]; omega
    · rw [if_neg e1]
      by_cases e2 : v.1.toNat = j
      · rw [if_pos e2, if_pos (by omega)]; omega
      · rw [if_neg e2, if_neg (by omega), if_neg (by omega)]
  · rename_i h
    by_cases e2 : j = v.1.toNat
    · rw [if_pos e2, e2, hx]; omega
    · rw [if_neg e2]
      by_cases e1 : j = v.2.toNat
      · rw [if_pos e1, e1, hy]; omega
      · rw [if_neg e1]

theorem stepV_map (f : Int → Int) (hf : Mono f) (l : List Int) (v : Int × Int) (h1 : 0 ≤ v.1) (h2 : v.1 < v.2) (h3 : v.2 < (l.length : Int)) : stepV (l.map f) v = (stepV l v).map f := by
  apply ext_getD
  · simp [stepV_length]
  · intro j hj
    rw [stepV_length, List.length_map] at hj
    rw [stepV_get (l.map f) v h1 h2 (by simpa using h3), getD_map f (stepV l v) j (by rw [stepV_length]; exact hj), stepV_get l v h1 h2 h3, getD_map f l v.1.toNat (by omega), getD_map f l v.2.toNat (by omega), getD_map f l j hj]
    generalize l[v.1.toNat]?.getD 0 = x
    generalize l[v.2.toNat]?.getD 0 = y
    have e1 : f (min x y) = min (f x) (f y) := by
      rcases Int.le_total x y with h | h
      · have := hf _ _ h; rw [Int.min_eq_left h, Int.min_eq_left this]
      · have := hf _ _ h; rw [Int.min_eq_right h, Int.min_eq_right this]
    have e2 : f (max x y) = max (f x) (f y) := by
      rcases Int.le_total x y with h | h
      · have := hf _ _ h; rw [Int.max_eq_right h, Int.max_eq_right this]
      · have := hf _ _ h; rw [Int.max_eq_left h, Int.max_eq_left this]
    split
    · exact e1.symm
    · split
      · exact e2.symm
      · rfl
theorem runV_map (f : Int → Int) (hf : Mono f) (V : List (Int × Int)) : ∀ l : List Int, OkV l.length V → runV V (l.map f) = (runV V l).map f := by
  induction V with
  | nil => intro l _; rfl
  | cons v V ih =>
    intro l h
    obtain ⟨h1, h2, h3⟩ := h v (by simp)
    show runV V (stepV (l.map f) v) = (runV V (stepV l v)).map f
    rw [stepV_map f hf l v h1 h2 h3]
    exact ih _ fun u hu => by rw [stepV_length]; exact h u (by simp [hu])
theorem runV_append (U V : List (Int × Int)) (l : List Int) : runV (U ++ V) l = runV V (runV U l) := by simp [runV, List.foldl_append]
theorem runV_cons (v : Int × Int) (V : List (Int × Int)) (l : List Int) : runV (v :: V) l = runV V (stepV l v) := rfl

/-- Sorted values stay. -/
theorem sorted_le {l : List Int} (h : sortedB l = true) : ∀ i j, i ≤ j → j < l.length → l[i]?.getD 0 ≤ l[j]?.getD 0 := by
  rw [sortedB_iff] at h
  intro i j hij
  induction j with
  | zero => intro _; have : i = 0 := by omega
            subst this; exact Int.le_refl _
  | succ j ih =>
    intro hj
    rcases Nat.lt_or_ge i (j + 1) with hlt | hge
    · have h1 := ih (by omega) (by omega)
      have h2 := h (j + 1) (by omega) hj
      simp only [Nat.add_sub_cancel] at h2
      exact Int.le_trans h1 h2
    · have : i = j + 1 := by omega
      subst this; exact Int.le_refl _
theorem stepV_sorted (l : List Int) (v : Int × Int) (h : sortedB l = true) (h1 : 0 ≤ v.1) (h2 : v.1 < v.2) (h3 : v.2 < (l.length : Int)) : stepV l v = l := by
  unfold stepV
  rw [if_neg]
  have := sorted_le h v.1.toNat v.2.toNat (by omega) (by omega)
  omega
theorem runV_sorted (V : List (Int × Int)) : ∀ l : List Int, sortedB l = true → OkV l.length V → runV V l = l := by
  induction V with
  | nil => intro l _ _; rfl
  | cons v V ih =>
    intro l hs h
    obtain ⟨h1, h2, h3⟩ := h v (by simp)
    rw [runV_cons, stepV_sorted l v hs h1 h2 h3]
    exact ih l hs fun u hu => h u (by simp [hu])

/-! Patterns. -/
def Bits (l : List Int) : Prop := ∀ x ∈ l, x = 0 ∨ x = 1
def valN : List Int → Nat
  | [] => 0
  | b :: l => b.toNat * 2 ^ l.length + valN l
theorem valN_lt : ∀ l : List Int, Bits l → valN l < 2 ^ l.length
  | [], _ => by simp [valN]
  | b :: l, h => by
    have h1 := valN_lt l fun x hx => h x (by simp [hx])
    have h2 : b.toNat ≤ 1 := by rcases h b (by simp) with e | e <;> omega
    simp only [valN, List.length_cons, Nat.pow_succ]
    have : b.toNat * 2 ^ l.length ≤ 1 * 2 ^ l.length := Nat.mul_le_mul_right _ h2
    omega
theorem bitsOf_cons (n b v : Nat) (hb : b ≤ 1) (hv : v < 2 ^ n) : bitsOf (n + 1) (b * 2 ^ n + v) = (b : Int) :: bitsOf n v := by
  apply List.ext_getElem
  · simp [bitsOf]
  · intro i h1 h2
    simp only [bitsOf, List.getElem_map, List.getElem_range]
    cases i with
    | zero =>
      simp only [List.getElem_cons_zero, Nat.add_sub_cancel, Nat.sub_zero]
      rw [Nat.mul_comm b, Nat.mul_add_div (Nat.two_pow_pos n), Nat.div_eq_of_lt hv]
      congr 1; omega
    | succ i =>
      have hi : i < n := by simp [bitsOf] at h1; omega
      simp only [List.getElem_cons_succ, List.getElem_map, List.getElem_range]
      obtain ⟨d, hd⟩ : ∃ d, n = (n - 1 - i) + 1 + d := ⟨i, by omega⟩
      have e : n + 1 - 1 - (i + 1) = n - 1 - i := by omega
      rw [e]
      generalize n - 1 - i = k at *
      subst hd
      have e2 : b * 2 ^ (k + 1 + d) + v = 2 ^ k * (b * 2 ^ d * 2) + v := by
        rw [Nat.pow_add, Nat.pow_add]; simp only [Nat.pow_one]
        have : b * (2 ^ k * 2 * 2 ^ d) = 2 ^ k * (b * 2 ^ d * 2) := by
          rw [Nat.mul_assoc (2 ^ k) 2, Nat.mul_left_comm b, Nat.mul_comm 2 (2 ^ d), ← Nat.mul_assoc b]
        rw [this]
      rw [e2, Nat.mul_add_div (Nat.two_pow_pos k)]
      congr 1; omega
theorem bits_is : ∀ l : List Int, Bits l → l = bitsOf l.length (valN l)
  | [], _ => by simp [bitsOf]
  | b :: l, h => by
    have h0 : Bits l := fun x hx => h x (by simp [hx])
    have h1 := bits_is l h0
    have h2 : b.toNat ≤ 1 ∧ (b.toNat : Int) = b := by rcases h b (by simp) with e | e <;> omega
    simp only [valN, List.length_cons]
    rw [bitsOf_cons _ _ _ h2.1 (valN_lt l h0), h2.2, ← h1]
theorem bitsOf_bits (n t : Nat) : Bits (bitsOf n t) := by
  intro x hx
  obtain ⟨i, _, rfl⟩ := List.mem_map.1 hx
  omega
theorem bitsOf_len (n t : Nat) : (bitsOf n t).length = n := by simp [bitsOf]
theorem stepV_mem (l : List Int) (v : Int × Int) (h1 : 0 ≤ v.1) (h2 : v.1 < v.2) (h3 : v.2 < (l.length : Int)) (P : Int → Prop) (h : ∀ x ∈ l, P x) : ∀ x ∈ stepV l v, P x := by
  have hg : ∀ i : Nat, i < l.length → P (l[i]?.getD 0) := fun i hi => by rw [List.getElem?_eq_getElem hi]; exact h _ (List.getElem_mem hi)
  intro x hx
  obtain ⟨i, hi, rfl⟩ := List.getElem_of_mem hx
  have := stepV_get l v h1 h2 h3 i
  rw [List.getElem?_eq_getElem hi, Option.getD_some] at this
  rw [this]
  have g1 := hg v.1.toNat (by omega)
  have g2 := hg v.2.toNat (by omega)
  rw [stepV_length] at hi
  split
  · rcases Int.le_total (l[v.1.toNat]?.getD 0) (l[v.2.toNat]?.getD 0) with h | h
    · rw [Int.min_eq_left h]; exact g1
    · rw [Int.min_eq_right h]; exact g2
  · split
    · rcases Int.le_total (l[v.1.toNat]?.getD 0) (l[v.2.toNat]?.getD 0) with h | h
      · rw [Int.max_eq_right h]; exact g2
      · rw [Int.max_eq_left h]; exact g1
    · exact hg i hi
theorem runV_mem (P : Int → Prop) (V : List (Int × Int)) : ∀ l : List Int, OkV l.length V → (∀ x ∈ l, P x) → ∀ x ∈ runV V l, P x := by
  induction V with
  | nil => intro l _ h; exact h
  | cons v V ih =>
    intro l hV h
    obtain ⟨h1, h2, h3⟩ := hV v (by simp)
    rw [runV_cons]
    exact ih _ (fun u hu => by rw [stepV_length]; exact hV u (by simp [hu])) (stepV_mem l v h1 h2 h3 P h)
theorem runV_bits (V : List (Int × Int)) (l : List Int) (h : OkV l.length V) (hb : Bits l) : Bits (runV V l) := runV_mem _ V l h hb

/-- The pattern of the values that are at least c. -/
def cutAt (c : Int) (x : Int) : Int := if c ≤ x then 1 else 0
theorem cutAt_mono (c : Int) : Mono (cutAt c) := by
  intro x y h; unfold cutAt; split <;> split <;> omega
theorem cutAt_bits (c : Int) (l : List Int) : Bits (l.map (cutAt c)) := by
  intro x hx
  obtain ⟨y, _, rfl⟩ := List.mem_map.1 hx
  unfold cutAt; split <;> simp
theorem cut_run (c : Int) (V : List (Int × Int)) (l : List Int) (h : OkV l.length V) : ∃ t, t < 2 ^ l.length ∧ runV V (bitsOf l.length t) = (runV V l).map (cutAt c) := by
  have hb := cutAt_bits c l
  have h1 := bits_is _ hb
  rw [List.length_map] at h1
  exact ⟨valN (l.map (cutAt c)), by simpa using valN_lt _ hb, by rw [← h1, runV_map _ (cutAt_mono c) V l h]⟩
end Go.Proofs.Ytdnaipiiponhpaa
