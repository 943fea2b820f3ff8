/- Merged texts: plain facts on rows of valves: the program's answers are the document's. -/
import Derived.Test.YtdnaipiiponhpaaGE
import Derived.Test.YtdnaipiiponhpaaGC
namespace Go.Proofs.Ytdnaipiiponhpaa

/-- Every valve compares two places of n, the lower one first. -/
def OkV (n : Nat) (V : List (Int × Int)) : Prop := ∀ v ∈ V, 0 ≤ v.1 ∧ v.1 < v.2 ∧ v.2 < (n : Int)
theorem OkV.of {p : Int} {V : List (Int × Int)} (h : OkRow p V) : OkV p.toNat V := fun v hv => by obtain ⟨h1, h2, h3⟩ := h.ok v hv; omega
theorem OkV.take {n : Nat} {V : List (Int × Int)} (h : OkV n V) (k : Nat) : OkV n (V.take k) := fun v hv => h v (List.mem_of_mem_take hv)

/-- Greater ones do not become lesser. -/
def Mono (f : Int → Int) : Prop := ∀ x y, x ≤ y → f x ≤ f y
theorem getD_map (f : Int → Int) (l : List Int) (i : Nat) (h : i < l.length) : (l.map f)[i]?.getD 0 = f (l[i]?.getD 0) := by rw [List.getElem?_map, List.getElem?_eq_getElem h]; rfl
theorem getD_set (l : List Int) (i j : Nat) (x : Int) (h : i < l.length) : (l.set i x)[j]?.getD 0 = if i = j then x else l[j]?.getD 0 := by
  rw [List.getElem?_set]
  split
  · rename_i e; subst e; simp
  · rfl
theorem ext_getD {a b : List Int} (hl : a.length = b.length) (h : ∀ i, i < a.length → a[i]?.getD 0 = b[i]?.getD 0) : a = b := by
  apply List.ext_getElem hl
  intro i h1 h2
  have := h i h1
  simpa [h1, h2] using this

/-- What a step leaves, place by place. -/
theorem stepV_get (l : List Int) (v : Int × Int) (h1 : 0 ≤ v.1) (h2 : v.1 < v.2) (h3 : v.2 < (l.length : Int)) (j : Nat) :
    (stepV l v)[j]?.getD 0 = if j = v.1.toNat then min (l[v.1.toNat]?.getD 0) (l[v.2.toNat]?.getD 0) else if j = v.2.toNat then max (l[v.1.toNat]?.getD 0) (l[v.2.toNat]?.getD 0) else l[j]?.getD 0 := by
  unfold stepV
  have a1 : v.1.toNat < l.length := by omega
  have a2 : v.2.toNat < l.length := by omega
  generalize hx : l[v.1.toNat]?.getD 0 = x
  generalize hy : l[v.2.toNat]?.getD 0 = y
  split
  · rename_i h
    rw [getD_set _ _ _ _ (by simpa using a2), getD_set _ _ _ _ a1]
    by_cases e1 : v.2.toNat = j
    · rw [if_pos e1, if_neg (by omega), if_pos (by omega)]; omega
    · rw [if_neg e1]
      by_cases e2 : v.1.toNat = j
      · rw [if_pos e2, if_pos (by omega)]; omega
      · rw [if_neg e2, if_neg (by omega), if_neg (by omega)]
  · rename_i h
    by_cases e2 : j = v.1.toNat
    · rw [if_pos e2, e2, hx]; omega
    · rw [if_neg e2]
      by_cases e1 : j = v.2.toNat
      · rw [if_pos e1, e1, hy]; omega
      · rw [if_neg e1]

theorem stepV_map (f : Int → Int) (hf : Mono f) (l : List Int) (v : Int × Int) (h1 : 0 ≤ v.1) (h2 : v.1 < v.2) (h3 : v.2 < (l.length : Int)) : stepV (l.map f) v = (stepV l v).map f := by
  apply ext_getD
  · simp [stepV_length]
  · intro j hj
    rw [stepV_length, List.length_map] at hj
    rw [stepV_get (l.map f) v h1 h2 (by simpa using h3), getD_map f (stepV l v) j (by rw [stepV_length]; exact hj), stepV_get l v h1 h2 h3, getD_map f l v.1.toNat (by omega), getD_map f l v.2.toNat (by omega), getD_map f l j hj]
    generalize l[v.1.toNat]?.getD 0 = x
    generalize l[v.2.toNat]?.getD 0 = y
    have e1 : f (min x y) = min (f x) (f y) := by
      rcases Int.le_total x y with h | h
      · have := hf _ _ h; rw [Int.min_eq_left h, Int.min_eq_left this]
      · have := hf _ _ h; rw [Int.min_eq_right h, Int.min_eq_right this]
    have e2 : f (max x y) = max (f x) (f y) := by
      rcases Int.le_total x y with h | h
      · have := hf _ _ h; rw [Int.max_eq_right h, Int.max_eq_right this]
      · have := hf _ _ h; rw [Int.max_eq_left h, Int.max_eq_left this]
    split
    · exact e1.symm
    · split
      · exact e2.symm
      · rfl
theorem runV_map (f : Int → Int) (hf : Mono f) (V : List (Int × Int)) : ∀ l : List Int, OkV l.length V → runV V (l.map f) = (runV V l).map f := by
  induction V with
  | nil => intro l _; rfl
  | cons v V ih =>
    intro l h
    obtain ⟨h1, h2, h3⟩ := h v (by simp)
    show runV V (stepV (l.map f) v) = (runV V (stepV l v)).map f
    rw [stepV_map f hf l v h1 h2 h3]
    exact ih _ fun u hu => by rw [stepV_length]; exact h u (by simp [hu])
theorem runV_append (U V : List (Int × Int)) (l : List Int) : runV (U ++ V) l = runV V (runV U l) := by simp [runV, List.foldl_append]
theorem runV_cons (v : Int × Int) (V : List (Int × Int)) (l : List Int) : runV (v :: V) l = runV V (stepV l v) := rfl

/-- Sorted values stay. -/
theorem sorted_le {l : List Int} (h : sortedB l = true) : ∀ i j, i ≤ j → j < l.length → l[i]?.getD 0 ≤ l[j]?.getD 0 := by
  rw [sortedB_iff] at h
  intro i j hij
  induction j with
  | zero => intro _; have : i = 0 := by omega
            subst this; exact Int.le_refl _
  | succ j ih =>
    intro hj
    rcases Nat.lt_or_ge i (j + 1) with hlt | hge
    · have h1 := ih (by omega) (by omega)
      have h2 := h (j + 1) (by omega) hj
      simp only [Nat.add_sub_cancel] at h2
      exact Int.le_trans h1 h2
    · have : i = j + 1 := by omega
      subst this; exact Int.le_refl _
theorem stepV_sorted (l : List Int) (v : Int × Int) (h : sortedB l = true) (h1 : 0 ≤ v.1) (h2 : v.1 < v.2) (h3 : v.2 < (l.length : Int)) : stepV l v = l := by
  unfold stepV
  rw [if_neg]
  have := sorted_le h v.1.toNat v.2.toNat (by omega) (by omega)
  omega
theorem runV_sorted (V : List (Int × Int)) : ∀ l : List Int, sortedB l = true → OkV l.length V → runV V l = l := by
  induction V with
  | nil => intro l _ _; rfl
  | cons v V ih =>
    intro l hs h
    obtain ⟨h1, h2, h3⟩ := h v (by simp)
    rw [runV_cons, stepV_sorted l v hs h1 h2 h3]
    exact ih l hs fun u hu => h u (by simp [hu])

/-! Patterns. -/
def Bits (l : List Int) : Prop := ∀ x ∈ l, x = 0 ∨ x = 1
def valN : List Int → Nat
  | [] => 0
  | b :: l => b.toNat * 2 ^ l.length + valN l
theorem valN_lt : ∀ l : List Int, Bits l → valN l < 2 ^ l.length
  | [], _ => by simp [valN]
  | b :: l, h => by
    have h1 := valN_lt l fun x hx => h x (by simp [hx])
    have h2 : b.toNat ≤ 1 := by rcases h b (by simp) with e | e <;> omega
    simp only [valN, List.length_cons, Nat.pow_succ]
    have : b.toNat * 2 ^ l.length ≤ 1 * 2 ^ l.length := Nat.mul_le_mul_right _ h2
    omega
theorem bitsOf_cons (n b v : Nat) (hb : b ≤ 1) (hv : v < 2 ^ n) : bitsOf (n + 1) (b * 2 ^ n + v) = (b : Int) :: bitsOf n v := by
  apply List.ext_getElem
  · simp [bitsOf]
  · intro i h1 h2
    simp only [bitsOf, List.getElem_map, List.getElem_range]
    cases i with
    | zero =>
      simp only [List.getElem_cons_zero, Nat.add_sub_cancel, Nat.sub_zero]
      rw [Nat.mul_comm b, Nat.mul_add_div (Nat.two_pow_pos n), Nat.div_eq_of_lt hv]
      congr 1; omega
    | succ i =>
      have hi : i < n := by simp [bitsOf] at h1; omega
      simp only [List.getElem_cons_succ, List.getElem_map, List.getElem_range]
      obtain ⟨d, hd⟩ : ∃ d, n = (n - 1 - i) + 1 + d := ⟨i, by omega⟩
      have e : n + 1 - 1 - (i + 1) = n - 1 - i := by omega
      rw [e]
      generalize n - 1 - i = k at *
      subst hd
      have e2 : b * 2 ^ (k + 1 + d) + v = 2 ^ k * (b * 2 ^ d * 2) + v := by
        rw [Nat.pow_add, Nat.pow_add]; simp only [Nat.pow_one]
        have : b * (2 ^ k * 2 * 2 ^ d) = 2 ^ k * (b * 2 ^ d * 2) := by
          rw [Nat.mul_assoc (2 ^ k) 2, Nat.mul_left_comm b, Nat.mul_comm 2 (2 ^ d), ← Nat.mul_assoc b]
        rw [this]
      rw [e2, Nat.mul_add_div (Nat.two_pow_pos k)]
      congr 1; omega
theorem bits_is : ∀ l : List Int, Bits l → l = bitsOf l.length (valN l)
  | [], _ => by simp [bitsOf]
  | b :: l, h => by
    have h0 : Bits l := fun x hx => h x (by simp [hx])
    have h1 := bits_is l h0
    have h2 : b.toNat ≤ 1 ∧ (b.toNat : Int) = b := by rcases h b (by simp) with e | e <;> omega
    simp only [valN, List.length_cons]
    rw [bitsOf_cons _ _ _ h2.1 (valN_lt l h0), h2.2, ← h1]
theorem bitsOf_bits (n t : Nat) : Bits (bitsOf n t) := by
  intro x hx
  obtain ⟨i, _, rfl⟩ := List.mem_map.1 hx
  omega
theorem bitsOf_len (n t : Nat) : (bitsOf n t).length = n := by simp [bitsOf]
theorem stepV_mem (l : List Int) (v : Int × Int) (h1 : 0 ≤ v.1) (h2 : v.1 < v.2) (h3 : v.2 < (l.length : Int)) (P : Int → Prop) (h : ∀ x ∈ l, P x) : ∀ x ∈ stepV l v, P x := by
  have hg : ∀ i : Nat, i < l.length → P (l[i]?.getD 0) := fun i hi => by rw [List.getElem?_eq_getElem hi]; exact h _ (List.getElem_mem hi)
  intro x hx
  obtain ⟨i, hi, rfl⟩ := List.getElem_of_mem hx
  have := stepV_get l v h1 h2 h3 i
  rw [List.getElem?_eq_getElem hi, Option.getD_some] at this
  rw [this]
  have g1 := hg v.1.toNat (by omega)
  have g2 := hg v.2.toNat (by omega)
  rw [stepV_length] at hi
  split
  · rcases Int.le_total (l[v.1.toNat]?.getD 0) (l[v.2.toNat]?.getD 0) with h | h
    · rw [Int.min_eq_left h]; exact g1
    · rw [Int.min_eq_right h]; exact g2
  · split
    · rcases Int.le_total (l[v.1.toNat]?.getD 0) (l[v.2.toNat]?.getD 0) with h | h
      · rw [Int.max_eq_right h]; exact g2
      · rw [Int.max_eq_left h]; exact g1
    · exact hg i hi
theorem runV_mem (P : Int → Prop) (V : List (Int × Int)) : ∀ l : List Int, OkV l.length V → (∀ x ∈ l, P x) → ∀ x ∈ runV V l, P x := by
  induction V with
  | nil => intro l _ h; exact h
  | cons v V ih =>
    intro l hV h
    obtain ⟨h1, h2, h3⟩ := hV v (by simp)
    rw [runV_cons]
    exact ih _ (fun u hu => by rw [stepV_length]; exact hV u (by simp [hu])) (stepV_mem l v h1 h2 h3 P h)
theorem runV_bits (V : List (Int × Int)) (l : List Int) (h : OkV l.length V) (hb : Bits l) : Bits (runV V l) := runV_mem _ V l h hb

/-- The pattern of the values that are at least c. -/
def cutAt (c : Int) (x : Int) : Int := if c ≤ x then 1 else 0
theorem cutAt_mono (c : Int) : Mono (cutAt c) := by
  intro x y h; unfold cutAt; split <;> split <;> omega
theorem cutAt_bits (c : Int) (l : List Int) : Bits (l.map (cutAt c)) := by
  intro x hx
  obtain ⟨y, _, rfl⟩ := List.mem_map.1 hx
  unfold cutAt; split <;> simp
theorem cut_run (c : Int) (V : List (Int × Int)) (l : List Int) (h : OkV l.length V) : ∃ t, t < 2 ^ l.length ∧ runV V (bitsOf l.length t) = (runV V l).map (cutAt c) := by
  have hb := cutAt_bits c l
  have h1 := bits_is _ hb
  rw [List.length_map] at h1
  exact ⟨valN (l.map (cutAt c)), by simpa using valN_lt _ hb, by rw [← h1, runV_map _ (cutAt_mono c) V l h]⟩
end Go.Proofs.Ytdnaipiiponhpaa

namespace Go.Proofs.Ytdnaipiiponhpaa

theorem lane_eq (p t : Nat) (hp : p ≤ 8) : laneOf p t = bitsOf p t ++ List.replicate (8 - p) 0 := by
  apply List.ext_getElem
  · simp [laneOf, bitsOf]; omega
  · intro i h1 h2
    have h8 : i < 8 := by simpa [laneOf] using h1
    simp only [laneOf, List.getElem_map, List.getElem_range]
    by_cases hi : i < p
    · rw [if_pos hi, List.getElem_append_left (by simpa [bitsOf] using hi)]
      simp [bitsOf]
    · rw [if_neg hi, List.getElem_append_right (by simp [bitsOf]; omega)]
      simp
theorem run_lane {p : Nat} {V : List (Int × Int)} (hp : p ≤ 8) (h : OkV p V) (t : Nat) : runV V (laneOf p t) = runV V (bitsOf p t) ++ List.replicate (8 - p) 0 := by
  rw [lane_eq p t hp]
  exact runV_pad V _ _ fun v hv => by rw [bitsOf_len]; exact h v hv
theorem run_lane_take {p : Nat} {V : List (Int × Int)} (hp : p ≤ 8) (h : OkV p V) (t : Nat) : (runV V (laneOf p t)).take p = runV V (bitsOf p t) := by
  rw [run_lane hp h, List.take_append_of_le_length (by rw [runV_length, bitsOf_len]; exact Nat.le_refl _), List.take_of_length_le (by rw [runV_length, bitsOf_len]; exact Nat.le_refl _)]
theorem patternO_eq {p : Nat} {V : List (Int × Int)} (hp : p ≤ 8) (h : OkV p V) : patternO p V = (patOf p V).map (laneOf p) := by
  unfold patternO lanes patOf
  rw [List.find?_map]
  congr 2
  funext t
  simp only [Function.comp_apply, badB, run_lane_take hp h t]
theorem patternL_eq {p : Nat} {V : List (Int × Int)} (hp : p ≤ 8) (h : OkV p V) : patternL p V = patOfL p V := by
  unfold patternL patOfL
  rw [patternO_eq hp h]
  cases patOf p V with
  | none => rfl
  | some t =>
    show (laneOf p t).take p = bitsOf p t
    rw [lane_eq p t hp, List.take_append_of_le_length (by rw [bitsOf_len]; exact Nat.le_refl _), List.take_of_length_le (by rw [bitsOf_len]; exact Nat.le_refl _)]
theorem patternE_eq {p : Nat} {V : List (Int × Int)} (hp : p ≤ 8) (h : OkV p V) : patternE p V = if (patOf p V).isSome then 0 else 5 := by
  unfold patternE
  rw [patternO_eq hp h]
  cases patOf p V <;> rfl
theorem row_ok {p : Int} {V : List (Int × Int)} (h : checkR p V = 0) : p.toNat ≤ 8 ∧ OkV p.toNat V := by
  have := okRow_of h
  exact ⟨by have := this.p8; omega, OkV.of this⟩
theorem patL_eq (p : Int) (V : List (Int × Int)) : patL p V = rpatL p V := by
  unfold patL rpatL
  by_cases h : checkR p V = 0
  · rw [if_pos h, if_neg (by simpa using h)]; exact patternL_eq (row_ok h).1 (row_ok h).2
  · rw [if_neg h, if_pos h]
theorem patE_eq (p : Int) (V : List (Int × Int)) : patE p V = rpatE p V := by
  unfold patE rpatE
  by_cases h : checkR p V = 0
  · rw [if_pos h, if_neg (by simpa using h)]; exact patternE_eq (row_ok h).1 (row_ok h).2
  · rw [if_neg h, if_pos h]
theorem checkR_cases (p : Int) (V : List (Int × Int)) : checkR p V = 0 ∨ checkR p V = 2 ∨ checkR p V = 6 := by
  unfold checkR; split
  · simp
  · split <;> simp
theorem sortsE_eq (p : Int) (V : List (Int × Int)) : sortsE p V = rsortsE p V := by
  unfold sortsE rsortsE
  rw [patE_eq]
  unfold rpatE
  by_cases h : checkR p V = 0
  · simp only [h, ne_eq, not_true_eq_false, if_false]
    cases (patOf p.toNat V).isSome <;> simp
  · simp only [ne_eq, h, not_false_eq_true, if_true]
    rcases checkR_cases p V with e | e | e
    · exact absurd e h
    · simp [e]
    · simp [e]
theorem chkPatE_eq (p : Int) (V : List (Int × Int)) (q : List Int) : chkPatE p V q = rchkE p V q := by
  unfold chkPatE rchkE
  by_cases h : checkR p V = 0
  · simp only [h, ne_eq, not_true_eq_false, if_false]
    split
    · rfl
    · rename_i h2
      have hl : (q.length : Int) = p := by simpa using h2
      obtain ⟨h8, hV⟩ := row_ok h
      have e : (runV V (fillK 8 q.length q)).take p.toNat = runV V q := by
        have hq : p.toNat = q.length := by omega
        rw [fill8 q (by omega), runV_pad V _ _ (fun v hv => by have := hV v hv; omega), hq, List.take_append_of_le_length (by rw [runV_length]; exact Nat.le_refl _), List.take_of_length_le (by rw [runV_length]; exact Nat.le_refl _)]
      rw [e]
  · simp only [ne_eq, h, not_false_eq_true, if_true]

/-! Images. -/
def pats (p : Nat) : List (List Int) := (List.range (2 ^ p)).map (bitsOf p)
theorem mem_pats (p : Nat) (l : List Int) : l ∈ pats p ↔ l.length = p ∧ Bits l := by
  constructor
  · intro h
    obtain ⟨t, _, rfl⟩ := List.mem_map.1 h
    exact ⟨bitsOf_len _ _, bitsOf_bits _ _⟩
  · rintro ⟨rfl, hb⟩
    exact List.mem_map.2 ⟨valN l, by simpa using valN_lt l hb, (bits_is l hb).symm⟩
/-- The patterns that are sorted: one for each number of ones. -/
def upPats (p : Nat) : List (List Int) := (List.range (p + 1)).map fun k => bitsOf p (2 ^ k - 1)
theorem up_nodup : ∀ p, p ≤ 8 → (upPats p).Nodup := by decide +kernel
theorem up_sorted : ∀ p, p ≤ 8 → ∀ l ∈ upPats p, sortedB l = true := by decide +kernel
theorem up_all : ∀ p, p ≤ 8 → ∀ t, t < 2 ^ p → sortedB (bitsOf p t) = true → bitsOf p t ∈ upPats p := by
  have : ∀ p, p ≤ 8 → ((List.range (2 ^ p)).all fun t => !sortedB (bitsOf p t) || decide (bitsOf p t ∈ upPats p)) = true := by decide +kernel
  intro p hp t ht hs
  have := List.all_eq_true.1 (this p hp) t (List.mem_range.2 ht)
  simpa [hs] using this
theorem mem_up {p : Nat} (hp : p ≤ 8) (l : List Int) : l ∈ upPats p ↔ l.length = p ∧ Bits l ∧ sortedB l = true := by
  constructor
  · intro h
    have hs := up_sorted p hp l h
    obtain ⟨k, _, rfl⟩ := List.mem_map.1 h
    exact ⟨bitsOf_len _ _, bitsOf_bits _ _, hs⟩
  · rintro ⟨hl, hb, hs⟩
    subst hl
    have h1 := bits_is l hb
    rw [h1] at hs ⊢
    simp only [bitsOf_len] at hs ⊢
    exact up_all _ hp _ (valN_lt l hb) hs
theorem rimgs_all (p : Nat) (V : List (Int × Int)) : rimgs p V (2 ^ p) = once ((pats p).map (runV V)) := by
  unfold rimgs pats; rw [List.map_map]; rfl
theorem mem_rimgs {p : Nat} {V : List (Int × Int)} (x : List Int) : x ∈ rimgs p V (2 ^ p) ↔ ∃ l, l.length = p ∧ Bits l ∧ x = runV V l := by
  rw [rimgs_all, mem_once]
  constructor
  · intro h
    obtain ⟨l, hl, rfl⟩ := List.mem_map.1 h
    obtain ⟨h1, h2⟩ := (mem_pats p l).1 hl
    exact ⟨l, h1, h2, rfl⟩
  · rintro ⟨l, h1, h2, rfl⟩
    exact List.mem_map.2 ⟨l, (mem_pats p l).2 ⟨h1, h2⟩, rfl⟩
theorem filter_len {α : Type} (f : α → Bool) : ∀ l : List α, (l.filter f).length + (l.filter fun x => !f x).length = l.length
  | [] => rfl
  | x :: l => by
    have := filter_len f l
    simp only [List.filter_cons]
    cases f x <;> simp <;> omega
/-- The images: those that are sorted are one for each number of ones. -/
theorem images_up {p : Nat} {V : List (Int × Int)} (hp : p ≤ 8) (h : OkV p V) : ((rimgs p V (2 ^ p)).filter fun l => sortedB l).length = p + 1 := by
  have hn : ((rimgs p V (2 ^ p)).filter fun l => sortedB l).Nodup := (by unfold rimgs; exact nodup_once _ : (rimgs p V (2 ^ p)).Nodup).filter _
  have := nodup_len _ _ hn (up_nodup p hp) fun x => ?_
  · rw [this]; simp [upPats]
  · rw [List.mem_filter, mem_rimgs, mem_up hp]
    constructor
    · rintro ⟨⟨l, h1, h2, rfl⟩, h3⟩
      subst h1
      exact ⟨runV_length _ _, runV_bits V l h h2, h3⟩
    · rintro ⟨h1, h2, h3⟩
      subst h1
      exact ⟨⟨x, rfl, h2, (runV_sorted V x h3 h).symm⟩, h3⟩
theorem images_down {p : Nat} {V : List (Int × Int)} (hp : p ≤ 8) (h : OkV p V) : (once ((imgs p V).filter fun l => !sortedB (l.take p))).length = ((rimgs p V (2 ^ p)).filter fun l => !sortedB l).length := by
  have hn : (((rimgs p V (2 ^ p)).filter fun l => !sortedB l).map (· ++ List.replicate (8 - p) (0 : Int))).Nodup := by
    have h1 : ((rimgs p V (2 ^ p)).filter fun l => !sortedB l).Nodup := (by unfold rimgs; exact nodup_once _ : (rimgs p V (2 ^ p)).Nodup).filter _
    unfold List.Nodup at h1 ⊢
    rw [List.pairwise_map]
    exact h1.imp fun hab e => hab (List.append_cancel_right e)
  have := nodup_len _ _ (nodup_once ((imgs p V).filter fun l => !sortedB (l.take p))) hn fun x => ?_
  · rw [this, List.length_map]
  · rw [mem_once]
    simp only [List.mem_filter, imgs, lanes, List.map_map, List.mem_map, List.mem_range, Function.comp_apply]
    constructor
    · rintro ⟨⟨t, ht, rfl⟩, hs⟩
      rw [run_lane_take hp h] at hs
      exact ⟨_, ⟨mem_rimgs _ |>.2 ⟨bitsOf p t, bitsOf_len _ _, bitsOf_bits _ _, rfl⟩, hs⟩, (run_lane hp h t).symm⟩
    · rintro ⟨y, ⟨hy, hs⟩, rfl⟩
      obtain ⟨l, h1, h2, rfl⟩ := (mem_rimgs y).1 hy
      obtain ⟨t, ht, e⟩ := List.mem_map.1 ((mem_pats p l).2 ⟨h1, h2⟩)
      rw [List.mem_range] at ht
      subst e
      exact ⟨⟨t, ht, run_lane hp h t⟩, by rw [← run_lane hp h, run_lane_take hp h]; exact hs⟩
theorem images_count {p : Nat} {V : List (Int × Int)} (hp : p ≤ 8) (h : OkV p V) : imagesN p V = (rimgs p V (2 ^ p)).length := by
  have := filter_len (fun l => sortedB l) (rimgs p V (2 ^ p))
  unfold imagesN
  rw [images_down hp h]
  have := images_up hp h
  omega
def imgE' (p : Int) (V : List (Int × Int)) : Int := if checkR p V = 0 then imagesN p.toNat V else 0
theorem imgE_eq (p : Int) (V : List (Int × Int)) : imgE' p V = rimgE p V := by
  unfold imgE' rimgE
  split
  · rename_i h; rw [images_count (row_ok h).1 (row_ok h).2]
  · rfl
end Go.Proofs.Ytdnaipiiponhpaa

namespace Go.Proofs.Ytdnaipiiponhpaa

theorem stepV_same (l : List Int) (v : Int × Int) (h1 : 0 ≤ v.1) (h2 : v.1 < v.2) (h3 : v.2 < (l.length : Int)) : stepV l v = l ↔ ¬ l[v.2.toNat]?.getD 0 < l[v.1.toNat]?.getD 0 := by
  constructor
  · intro e h
    have := stepV_get l v h1 h2 h3 v.1.toNat
    rw [e, if_pos rfl] at this
    omega
  · intro h
    unfold stepV; rw [if_neg h]
theorem needless_iff {p : Nat} {V : List (Int × Int)} (hp : p ≤ 8) (h : OkV p V) (k : Nat) (hk : k < V.length) : needlessB p V k = rneedB p V k := by
  unfold needlessB rneedB lanes
  rw [List.all_map]
  congr 1
  funext t
  simp only [Function.comp_apply]
  have hm : V[k] ∈ V := List.getElem_mem hk
  obtain ⟨h1, h2, h3⟩ := h _ hm
  have hg : V[k]?.getD (0, 0) = V[k] := by simp [hk]
  rw [runV_snoc V k hk, run_lane hp (h.take k)]
  unfold meetsB
  rw [hg]
  have hl : (runV (V.take k) (bitsOf p t)).length = p := by rw [runV_length, bitsOf_len]
  rw [stepV_pad _ _ _ h1 h2 (by rw [hl]; exact h3)]
  have := stepV_same (runV (V.take k) (bitsOf p t)) V[k] h1 h2 (by rw [hl]; exact h3)
  rw [Bool.eq_iff_iff]
  simp only [decide_eq_true_eq, Bool.not_eq_true', decide_eq_false_iff_not]
  constructor
  · intro e
    exact this.1 (List.append_cancel_right e)
  · intro e
    rw [this.2 e]
theorem needL_eq (p : Int) (V : List (Int × Int)) : needL p V = rneedR p V := by
  unfold needL rneedR
  split
  · rename_i h
    unfold needlessL rneedL
    congr 1
    apply List.filter_congr
    intro k hk
    exact needless_iff (row_ok h).1 (row_ok h).2 k (List.mem_range.1 hk)
  · rfl
theorem cutL_eq (p : Int) (V : List (Int × Int)) : cutL p V = rcutL p V := by
  unfold cutL rcutL
  split
  · rename_i h
    unfold cutK rcutK
    congr 1
    apply List.filter_congr
    intro k hk
    rw [needless_iff (row_ok h).1 (row_ok h).2 k (List.mem_range.1 hk)]
  · rfl

/-! Rounds. -/
def hasP (v : Int × Int) (q : Int) : Bool := decide (v.1 = q ∨ v.2 = q)
/-- The last round of a place, of the first k valves. -/
def lastP (V : List (Int × Int)) (out : List Int) (q : Int) : Nat → Int
  | 0 => 0
  | k + 1 => if hasP (V[k]?.getD (0, 0)) q then max (lastP V out q k) (out[k]?.getD 0) else lastP V out q k
theorem rstep_last (V : List (Int × Int)) (out : List Int) (i : Nat) : ∀ k, rstep V out i k = 1 + max (lastP V out (V[i]?.getD (0, 0)).1 k) (lastP V out (V[i]?.getD (0, 0)).2 k)
  | 0 => by simp [rstep, lastP]
  | k + 1 => by
    rw [rstep_succ, rstep_last V out i k]
    simp only [lastP]
    generalize V[i]?.getD (0, 0) = u
    generalize V[k]?.getD (0, 0) = v
    generalize out[k]?.getD 0 = o
    generalize lastP V out u.1 k = x
    generalize lastP V out u.2 k = y
    have hm : meetB v u = (hasP v u.1 || hasP v u.2) := by
      unfold meetB hasP; rw [Bool.eq_iff_iff]; simp only [Bool.or_eq_true, decide_eq_true_eq]
      constructor
      · rintro (h | h | h | h)
        · exact .inl (.inl h)
        · exact .inr (.inl h)
        · exact .inl (.inr h)
        · exact .inr (.inr h)
      · rintro ((h | h) | (h | h))
        · exact .inl h
        · exact .inr (.inr (.inl h))
        · exact .inr (.inl h)
        · exact .inr (.inr (.inr h))
    rw [hm]
    cases hasP v u.1 <;> cases hasP v u.2 <;> simp <;> omega
theorem lastP_congr (V : List (Int × Int)) (a b : List Int) (q : Int) : ∀ k, (∀ j, j < k → a[j]?.getD 0 = b[j]?.getD 0) → lastP V a q k = lastP V b q k
  | 0, _ => rfl
  | k + 1, h => by
    simp only [lastP]
    rw [lastP_congr V a b q k (fun j hj => h j (by omega)), h k (by omega)]
theorem lastP_nonneg (V : List (Int × Int)) (out : List Int) (q : Int) : ∀ k, 0 ≤ lastP V out q k
  | 0 => by simp [lastP]
  | k + 1 => by
    have := lastP_nonneg V out q k
    simp only [lastP]; split <;> omega
theorem rounds_state {p : Nat} {V : List (Int × Int)} (hp : p ≤ 8) (h : OkV p V) : ∀ k, k ≤ V.length → (roundsS (V.take k)).2 = rrL V k ∧ (roundsS (V.take k)).1.length = 8 ∧ ∀ q : Nat, q < 8 → (roundsS (V.take k)).1[q]?.getD 0 = lastP V (rrL V k) q k := by
  intro k
  induction k with
  | zero =>
    intro _
    refine ⟨rfl, rfl, fun q hq => ?_⟩
    show (List.replicate 8 (0 : Int))[q]?.getD 0 = _
    rw [List.getElem?_replicate]; simp [hq, lastP]
  | succ k ih =>
    intro hk
    obtain ⟨h1, h2, h3⟩ := ih (by omega)
    have hkl : k < V.length := by omega
    have hm : V[k] ∈ V := List.getElem_mem hkl
    obtain ⟨g1, g2, g3⟩ := h _ hm
    have hg : V[k]?.getD (0, 0) = V[k] := by simp [hkl]
    have hn := rstep_last V (rrL V k) k k
    have hgetk : (rrL V (k + 1))[k]?.getD 0 = rstep V (rrL V k) k k := by
      rw [rrL, List.getElem?_append_right (by rw [rrL_len]; exact Nat.le_refl _), rrL_len]; simp
    have hcong : ∀ q, lastP V (rrL V (k + 1)) q k = lastP V (rrL V k) q k := fun q => lastP_congr V _ _ q k fun j hj => by
      rw [rrL, List.getElem?_append_left (by rw [rrL_len]; exact hj)]
    rw [roundsS_snoc V k hkl, hg]
    rw [hg] at hn
    rcases hv : V[k] with ⟨v1, v2⟩
    simp only [hv] at g1 g2 g3 hn hg
    obtain ⟨a, rfl⟩ : ∃ a : Nat, v1 = a := ⟨v1.toNat, by omega⟩
    obtain ⟨b, rfl⟩ : ∃ b : Nat, v2 = b := ⟨v2.toNat, by omega⟩
    have ha := h3 a (by omega)
    have hb := h3 b (by omega)
    have hstep : 1 + (if (roundsS (V.take k)).1[a]?.getD 0 < (roundsS (V.take k)).1[b]?.getD 0 then (roundsS (V.take k)).1[b]?.getD 0 else (roundsS (V.take k)).1[a]?.getD 0) = rstep V (rrL V k) k k := by
      rw [hn, ha, hb]; split <;> omega
    simp only [stepR, Int.toNat_natCast]
    rw [hstep]
    refine ⟨by rw [h1]; rfl, by simp [h2], fun q hq => ?_⟩
    rw [getD_set _ _ _ _ (by simp [h2]; omega), getD_set _ _ _ _ (by rw [h2]; omega), h3 q hq]
    show _ = (if hasP (V[k]?.getD (0, 0)) q then max (lastP V (rrL V (k + 1)) q k) ((rrL V (k + 1))[k]?.getD 0) else lastP V (rrL V (k + 1)) q k)
    rw [hcong, hgetk, hg]
    have hmax1 : lastP V (rrL V k) a k ≤ rstep V (rrL V k) k k := by rw [hn]; omega
    have hmax2 : lastP V (rrL V k) b k ≤ rstep V (rrL V k) k k := by rw [hn]; omega
    by_cases e1 : b = q
    · subst e1
      have : hasP ((a : Int), (b : Int)) b = true := by simp [hasP]
      rw [if_pos rfl, this]; simp only [if_true]; omega
    · rw [if_neg e1]
      by_cases e2 : a = q
      · subst e2
        have : hasP ((a : Int), (b : Int)) a = true := by simp [hasP]
        rw [if_pos rfl, this]; simp only [if_true]; omega
      · rw [if_neg e2]
        have : hasP ((a : Int), (b : Int)) q = false := by simp [hasP]; omega
        rw [this]; simp
theorem roundsL_eq (p : Int) (V : List (Int × Int)) : roundsL p V = rrR p V := by
  unfold roundsL rrR
  split
  · rename_i h
    have := (rounds_state (row_ok h).1 (row_ok h).2 V.length (Nat.le_refl _)).1
    rwa [List.take_length] at this
  · rfl
end Go.Proofs.Ytdnaipiiponhpaa

namespace Go.Proofs.Ytdnaipiiponhpaa

theorem middled_eq {p place : Nat} (hp : p ≤ 8) (hpl : place < p) (t : Nat) : middled p place (laneOf p t) = (((bitsOf p t).map fun x => 2 * x).set place 1).map (fun x => x + 1) ++ List.replicate (8 - p) 0 := by
  apply ext_getD
  · simp [middled_length, laneOf_length, bitsOf_len]; omega
  · intro i hi
    have h8 : i < 8 := by rw [middled_length, laneOf_length] at hi; exact hi
    unfold middled
    rw [getD_set _ _ _ _ (by rw [oddly_length, laneOf_length]; omega)]
    rw [lane_eq p t hp]
    by_cases hip : i < p
    · rw [List.getElem?_append_left (by simpa [bitsOf_len] using hip), getD_map _ _ _ (by simpa [bitsOf_len] using hip), getD_set _ _ _ _ (by simpa [bitsOf_len] using hpl)]
      by_cases e : place = i
      · rw [if_pos e, if_pos e]; rfl
      · rw [if_neg e, if_neg e, getD_map _ _ _ (by rw [bitsOf_len]; exact hip)]
        unfold oddly
        rw [List.getElem?_mapIdx, List.getElem?_append_left (by rw [bitsOf_len]; exact hip), List.getElem?_eq_getElem (by rw [bitsOf_len]; exact hip)]
        simp [hip]; omega
    · rw [if_neg (by omega), List.getElem?_append_right (by simp [bitsOf_len]; omega)]
      unfold oddly
      rw [List.getElem?_mapIdx, List.getElem?_append_right (by rw [bitsOf_len]; omega)]
      simp only [List.getElem?_replicate, List.length_map, List.length_set, bitsOf_len]
      split <;> first | (rename_i h; exact absurd h hip) | (split <;> simp)
theorem endsB_eq {p place i : Nat} {V : List (Int × Int)} (hp : p ≤ 8) (h : OkV p V) (hpl : place < p) (hi : i < p) : endsB p V place i = rendsB p V place i := by
  unfold endsB rendsB lanes
  rw [List.any_map]
  congr 1
  funext t
  simp only [Function.comp_apply]
  have hl : (((bitsOf p t).map fun x => 2 * x).set place 1).length = p := by simp [bitsOf_len]
  have hl2 : ((((bitsOf p t).map fun x => 2 * x).set place 1).map (fun x => x + 1)).length = p := by rw [List.length_map, hl]
  rw [middled_eq hp hpl, runV_pad V _ _ (fun v hv => by have := h v hv; omega), runV_map (fun x => x + 1) (fun x y h => by show x + 1 ≤ y + 1; omega) V _ (by rw [hl]; exact h)]
  unfold hitB endX
  rw [List.getElem?_append_left (by rw [List.length_map, runV_length, hl]; exact hi), getD_map _ _ _ (by rw [runV_length, hl]; exact hi)]
  rw [Bool.eq_iff_iff]
  simp only [beq_iff_eq, decide_eq_true_eq]
  omega
theorem outB_eq (p place : Int) : outB 0 (p - 1) place = decide (place < 0 ∨ p ≤ place) := by
  unfold outB; rw [Bool.eq_iff_iff]; simp only [decide_eq_true_eq]; omega
theorem endsE_eq (p place : Int) (V : List (Int × Int)) : endsE p V place = rendsE p V place := by
  unfold endsE rendsE
  rw [outB_eq]
  simp only [decide_eq_true_eq]
theorem endsL_eq (p place : Int) (V : List (Int × Int)) : endsL p V place = rendsR p V place := by
  unfold endsL rendsR
  rw [outB_eq]
  simp only [decide_eq_true_eq]
  split
  · rfl
  · rename_i h
    have h0 := row_ok (show checkR p V = 0 by simpa using h)
    split
    · rfl
    · rename_i h2
      unfold endsK rendsK
      congr 1
      apply List.filter_congr
      intro k hk
      exact endsB_eq h0.1 h0.2 (by omega) (List.mem_range.1 hk)
theorem rendsR_len (p place : Int) (V : List (Int × Int)) : (rendsR p V place).length ≤ 8 := by
  unfold rendsR
  split
  · simp
  · rename_i h
    have h0 := row_ok (show checkR p V = 0 by simpa using h)
    split
    · simp
    · have := rendsK_le p.toNat V place.toNat p.toNat; omega
theorem rneedR_len (p : Int) (V : List (Int × Int)) : (rneedR p V).length ≤ V.length := by
  unfold rneedR; split
  · exact rneedL_le _ _ _
  · simp
theorem rcutL_len (p : Int) (V : List (Int × Int)) : (rcutL p V).length ≤ V.length := by
  unfold rcutL; split
  · exact rcutK_le _ _ _
  · simp
theorem rrR_len (p : Int) (V : List (Int × Int)) : (rrR p V).length ≤ V.length := by
  unfold rrR; split
  · rw [rrL_len]; exact Nat.le_refl _
  · simp
theorem mirrorL_len (p : Int) (V : List (Int × Int)) : (mirrorL p V).length ≤ V.length := by
  unfold mirrorL; split
  · simp
  · simp
end Go.Proofs.Ytdnaipiiponhpaa

namespace Go.Proofs.Ytdnaipiiponhpaa

/-- If all patterns come out sorted, all values do. -/
theorem zero_one {p : Nat} {V : List (Int × Int)} (h : OkV p V) (hs : ∀ t, t < 2 ^ p → sortedB (runV V (bitsOf p t)) = true) (l : List Int) (hl : l.length = p) : sortedB (runV V l) = true := by
  subst hl
  rw [sortedB_iff]
  intro i hi hil
  rw [runV_length] at hil
  obtain ⟨t, ht, e⟩ := cut_run ((runV V l)[i - 1]?.getD 0) V l h
  have h1 := (sortedB_iff _).1 (hs t ht) i hi (by rw [runV_length, bitsOf_len]; exact hil)
  rw [e, getD_map _ _ _ (by rw [runV_length]; omega), getD_map _ _ _ (by rw [runV_length]; omega)] at h1
  unfold cutAt at h1
  rw [if_pos (Int.le_refl _)] at h1
  split at h1
  · assumption
  · omega
theorem cut_ext {a b : List Int} (hl : a.length = b.length) (h : ∀ c, a.map (cutAt c) = b.map (cutAt c)) : a = b := by
  apply ext_getD hl
  intro i hi
  have key : ∀ c, cutAt c (a[i]?.getD 0) = cutAt c (b[i]?.getD 0) := fun c => by
    have : (a.map (cutAt c))[i]?.getD 0 = (b.map (cutAt c))[i]?.getD 0 := by rw [h c]
    rwa [getD_map _ _ _ hi, getD_map _ _ _ (by omega)] at this
  have h1 := key (a[i]?.getD 0)
  have h2 := key (b[i]?.getD 0)
  unfold cutAt at h1 h2
  rw [if_pos (Int.le_refl _)] at h1 h2
  split at h1 <;> split at h2 <;> omega
/-- If two rows do the same to all patterns, they do the same to all values. -/
theorem eq_one {p : Nat} {U V : List (Int × Int)} (hU : OkV p U) (hV : OkV p V) (hs : ∀ t, t < 2 ^ p → runV U (bitsOf p t) = runV V (bitsOf p t)) (l : List Int) (hl : l.length = p) : runV U l = runV V l := by
  subst hl
  refine cut_ext (by rw [runV_length, runV_length]) fun c => ?_
  have hb := cutAt_bits c l
  have h1 := bits_is _ hb
  rw [List.length_map] at h1
  rw [← runV_map _ (cutAt_mono c) U l hU, ← runV_map _ (cutAt_mono c) V l hV, h1]
  exact hs _ (by have := valN_lt _ hb; simpa using this)

/-- A step loses and adds no value. -/
theorem stepV_count (l : List Int) (v : Int × Int) (h1 : 0 ≤ v.1) (h2 : v.1 < v.2) (h3 : v.2 < (l.length : Int)) (x : Int) : (stepV l v).count x = l.count x := by
  unfold stepV
  have a1 : v.1.toNat < l.length := by omega
  have a2 : v.2.toNat < l.length := by omega
  split
  · rw [List.count_eq_countP, List.count_eq_countP, List.countP_set (by simpa using a2), List.countP_set a1]
    rw [List.getElem_set_ne (by omega)]
    have e1 : l[v.1.toNat]?.getD 0 = l[v.1.toNat] := by rw [List.getElem?_eq_getElem a1]; rfl
    have e2 : l[v.2.toNat]?.getD 0 = l[v.2.toNat] := by rw [List.getElem?_eq_getElem a2]; rfl
    rw [e1, e2]
    have p1 : l[v.1.toNat] == x → 0 < List.countP (fun y => y == x) l := fun h => List.countP_pos_iff.2 ⟨_, List.getElem_mem a1, h⟩
    have p2 : l[v.2.toNat] == x → 0 < List.countP (fun y => y == x) l := fun h => List.countP_pos_iff.2 ⟨_, List.getElem_mem a2, h⟩
    generalize List.countP (fun y => y == x) l = n at *
    split <;> split <;> simp_all <;> omega
  · rfl
theorem runV_count (V : List (Int × Int)) (x : Int) : ∀ l : List Int, OkV l.length V → (runV V l).count x = l.count x := by
  induction V with
  | nil => intro l _; rfl
  | cons v V ih =>
    intro l h
    obtain ⟨h1, h2, h3⟩ := h v (by simp)
    rw [runV_cons, ih _ (fun u hu => by rw [stepV_length]; exact h u (by simp [hu])), stepV_count l v h1 h2 h3]
/-- A valve that is needless for the patterns is needless for all values. -/
theorem need_all {p : Nat} {V : List (Int × Int)} (h : OkV p V) {k : Nat} (hk : k < V.length) (hn : rneedB p V k = true) (l : List Int) (hl : l.length = p) : stepV (runV (V.take k) l) (V[k]?.getD (0, 0)) = runV (V.take k) l := by
  have hm : V[k] ∈ V := List.getElem_mem hk
  obtain ⟨h1, h2, h3⟩ := h _ hm
  have hg : V[k]?.getD (0, 0) = V[k] := by simp [hk]
  rw [hg, stepV_same _ _ h1 h2 (by rw [runV_length, hl]; exact h3)]
  intro hlt
  subst hl
  obtain ⟨t, ht, e⟩ := cut_run ((runV (V.take k) l)[V[k].1.toNat]?.getD 0) (V.take k) l (h.take k)
  unfold rneedB at hn
  have := List.all_eq_true.1 hn t (List.mem_range.2 ht)
  unfold meetsB at this
  rw [hg, e, getD_map _ _ _ (by rw [runV_length]; omega), getD_map _ _ _ (by rw [runV_length]; omega)] at this
  unfold cutAt at this
  rw [if_pos (Int.le_refl _), if_neg (by omega)] at this
  simp at this
theorem patOf_none {p : Nat} {V : List (Int × Int)} : patOf p V = none ↔ ∀ t, t < 2 ^ p → sortedB (runV V (bitsOf p t)) = true := by
  unfold patOf
  rw [List.find?_eq_none]
  constructor
  · intro h t ht
    have := h t (List.mem_range.2 ht)
    unfold badB at this; simpa using this
  · intro h t ht
    unfold badB; rw [h t (List.mem_range.1 ht)]; simp
theorem sorts_all {p : Nat} {V : List (Int × Int)} (h : OkV p V) (hn : patOf p V = none) (l : List Int) (hl : l.length = p) : sortedB (runV V l) = true := zero_one h (patOf_none.1 hn) l hl
/-- The bricks and the merge. -/
theorem made_ok : ∀ n : Nat, 1 ≤ n → n ≤ 8 → checkR n (bricksK n n) = 0 ∧ checkR n (mergeN n) = 0 ∧ (mergeN n).length ≤ (bricksK n n).length ∧ patOf n (bricksK n n) = none ∧ patOf n (mergeN n) = none ∧ (rrL (bricksK n n) (bricksK n n).length).all (fun x => decide (x ≤ n)) = true := by
  have : ∀ n : Fin 9, 1 ≤ n.val → checkR n.val (bricksK n n) = 0 ∧ checkR n.val (mergeN n) = 0 ∧ (mergeN n).length ≤ (bricksK n n).length ∧ patOf n (bricksK n n) = none ∧ patOf n (mergeN n) = none ∧ (rrL (bricksK n n) (bricksK n n).length).all (fun x => decide (x ≤ n.val)) = true := by decide +kernel
  intro n h1 h8
  exact this ⟨n, by omega⟩ h1
end Go.Proofs.Ytdnaipiiponhpaa
