/- Plain facts: the program's patterns and images are the document's. -/
import Derived.Test.YtdnaipiiponhpaaP1
namespace Go.Proofs.Ytdnaipiiponhpaa

theorem lane_eq (p t : Nat) (hp : p ≤ 8) : laneOf p t = bitsOf p t ++ List.replicate (8 - p) 0 := by
  apply List.ext_getElem
  · simp [laneOf, bitsOf]; omega
  · intro i h1 h2
    have h8 : i < 8 := by simpa [laneOf] using h1
    simp only [laneOf, List.getElem_map, List.getElem_range]
    by_cases hi : i < p
    · rw [if_pos hi, List.getElem_append_left (by simpa [bitsOf] using hi)]
      simp [bitsOf]
    · rw [if_neg hi, List.getElem_append_right (by simp [bitsOf]; omega)]
      simp
theorem run_lane {p : Nat} {V : List (Int × Int)} (hp : p ≤ 8) (h : OkV p V) (t : Nat) : runV V (laneOf p t) = runV V (bitsOf p t) ++ List.replicate (8 - p) 0 := by
  rw [lane_eq p t hp]
  exact runV_pad V _ _ fun v hv => by rw [bitsOf_len]; exact h v hv
theorem run_lane_take {p : Nat} {V : List (Int × Int)} (hp : p ≤ 8) (h : OkV p V) (t : Nat) : (runV V (laneOf p t)).take p = runV V (bitsOf p t) := by
  rw [run_lane hp h, List.take_append_of_le_length (by rw [runV_length, bitsOf_len]; exact Nat.le_refl _), List.take_of_length_le (by rw [runV_length, bitsOf_len]; exact Nat.le_refl _)]
theorem patternO_eq {p : Nat} {V : List (Int × Int)} (hp : p ≤ 8) (h : OkV p V) : patternO p V = (patOf p V).map (laneOf p) := by
  unfold patternO lanes patOf
  rw [List.find?_map]
  congr 2
  funext t
  simp only [Function.comp_apply, badB, run_lane_take hp h t]
theorem patternL_eq {p : Nat} {V : List (Int × Int)} (hp : p ≤ 8) (h : OkV p V) : patternL p V = patOfL p V := by
  unfold patternL patOfL
  rw [patternO_eq hp h]
  cases patOf p V with
  | none => rfl
  | some t =>
    show (laneOf p t).take p = bitsOf p t
    rw [lane_eq p t hp, List.take_append_of_le_length (by rw [bitsOf_len]; exact Nat.le_refl _), List.take_of_length_le (by rw [bitsOf_len]; exact Nat.le_refl _)]
theorem patternE_eq {p : Nat} {V : List (Int × Int)} (hp : p ≤ 8) (h : OkV p V) : patternE p V = if (patOf p V).isSome then 0 else 5 := by
  unfold patternE
  rw [patternO_eq hp h]
  cases patOf p V <;> rfl
theorem row_ok {p : Int} {V : List (Int × Int)} (h : checkR p V = 0) : p.toNat ≤ 8 ∧ OkV p.toNat V := by
  have := okRow_of h
  exact ⟨by have := this.p8; omega, OkV.of this⟩
theorem patL_eq (p : Int) (V : List (Int × Int)) : patL p V = rpatL p V := by
  unfold patL rpatL
  by_cases h : checkR p V = 0
  · rw [if_pos h, if_neg (by simpa using h)]; exact patternL_eq (row_ok h).1 (row_ok h).2
  · rw [if_neg h, if_pos h]
theorem patE_eq (p : Int) (V : List (Int × Int)) : patE p V = rpatE p V := by
  unfold patE rpatE
  by_cases h : checkR p V = 0
  · rw [if_pos h, if_neg (by simpa using h)]; exact patternE_eq (row_ok h).1 (row_ok h).2
  · rw [if_neg h, if_pos h]
theorem checkR_cases (p : Int) (V : List (Int × Int)) : checkR p V = 0 ∨ checkR p V = 2 ∨ checkR p V = 6 := by
  unfold checkR; split
  · simp
  · split <;> simp
theorem sortsE_eq (p : Int) (V : List (Int × Int)) : sortsE p V = rsortsE p V := by
  unfold sortsE rsortsE
  rw [patE_eq]
  unfold rpatE
  by_cases h : checkR p V = 0
  · simp only [h, ne_eq, not_true_eq_false, if_false]
    cases (patOf p.toNat V).isSome <;> simp
  · simp only [ne_eq, h, not_false_eq_true, if_true]
    rcases checkR_cases p V with e | e | e
    · exact absurd e h
    · simp [e]
    · simp [e]
theorem chkPatE_eq (p : Int) (V : List (Int × Int)) (q : List Int) : chkPatE p V q = rchkE p V q := by
  unfold chkPatE rchkE
  by_cases h : checkR p V = 0
  · simp only [h, ne_eq, not_true_eq_false, if_false]
    split
    · rfl
    · rename_i h2
      have hl : (q.length : Int) = p := by simpa using h2
      obtain ⟨h8, hV⟩ := row_ok h
      have e : (runV V (fillK 8 q.length q)).take p.toNat = runV V q := by
        have hq : p.toNat = q.length := by omega
        rw [fill8 q (by omega), runV_pad V _ _ (fun v hv => by have := hV v hv; omega), hq, List.take_append_of_le_length (by rw [runV_length]; exact Nat.le_refl _), List.take_of_length_le (by rw [runV_length]; exact Nat.le_refl _)]
      rw [e]
  · simp only [ne_eq, h, not_false_eq_true, if_true]

/-! Images. -/
def pats (p : Nat) : List (List Int) := (List.range (2 ^ p)).map (bitsOf p)
theorem mem_pats (p : Nat) (l : List Int) : l ∈ pats p ↔ l.length = p ∧ Bits l := by
  constructor
  · intro h
    obtain ⟨t, _, rfl⟩ := List.mem_map.1 h
    exact ⟨bitsOf_len _ _, bitsOf_bits _ _⟩
  · rintro ⟨rfl, hb⟩
    exact List.mem_map.2 ⟨valN l, by simpa using valN_lt l hb, (bits_is l hb).symm⟩
/-- The patterns that are sorted: one for each number of ones. -/
def upPats (p : Nat) : List (List Int) := (List.range (p + 1)).map fun k => bitsOf p (2 ^ k - 1)
theorem up_nodup : ∀ p, p ≤ 8 → (upPats p).Nodup := by decide +kernel
theorem up_sorted : ∀ p, p ≤ 8 → ∀ l ∈ upPats p, sortedB l = true := by decide +kernel
theorem up_all : ∀ p, p ≤ 8 → ∀ t, t < 2 ^ p → sortedB (bitsOf p t) = true → bitsOf p t ∈ upPats p := by
  have : ∀ p, p ≤ 8 → ((List.range (2 ^ p)).all fun t => !sortedB (bitsOf p t) || decide (bitsOf p t ∈ upPats p)) = true := by decide +kernel
  intro p hp t ht hs
  have := List.all_eq_true.1 (this p hp) t (List.mem_range.2 ht)
  simpa [hs] using this
theorem mem_up {p : Nat} (hp : p ≤ 8) (l : List Int) : l ∈ upPats p ↔ l.length = p ∧ Bits l ∧ sortedB l = true := by
  constructor
  · intro h
    have hs := up_sorted p hp l h
    obtain ⟨k, _, rfl⟩ := List.mem_map.1 h
    exact ⟨bitsOf_len _ _, bitsOf_bits _ _, hs⟩
  · rintro ⟨hl, hb, hs⟩
    subst hl
    have h1 := bits_is l hb
    rw [h1] at hs ⊢
    simp only [bitsOf_len] at hs ⊢
    exact up_all _ hp _ (valN_lt l hb) hs
theorem rimgs_all (p : Nat) (V : List (Int × Int)) : rimgs p V (2 ^ p) = once ((pats p).map (runV V)) := by
  unfold rimgs pats; rw [List.map_map]; rfl
theorem mem_rimgs {p : Nat} {V : List (Int × Int)} (x : List Int) : x ∈ rimgs p V (2 ^ p) ↔ ∃ l, l.length = p ∧ Bits l ∧ x = runV V l := by
  rw [rimgs_all, mem_once]
  constructor
  · intro h
    obtain ⟨l, hl, rfl⟩ := List.mem_map.1 h
    obtain ⟨h1, h2⟩ := (mem_pats p l).1 hl
    exact ⟨l, h1, h2, rfl⟩
  · rintro ⟨l, h1, h2, rfl⟩
    exact List.mem_map.2 ⟨l, (mem_pats p l).2 ⟨h1, h2⟩, rfl⟩
theorem filter_len {α : Type} (f : α → Bool) : ∀ l : List α, (l.filter f).length + (l.filter fun x => !f x).length = l.length
  | [] => rfl
  | x :: l => by
    have := filter_len f l
    simp only [List.filter_cons]
    cases f x <;> simp <;> omega
/-- The images: those that are sorted are one for each number of ones. -/
theorem images_up {p : Nat} {V : List (Int × Int)} (hp : p ≤ 8) (h : OkV p V) : ((rimgs p V (2 ^ p)).filter fun l => sortedB l).length = p + 1 := by
  have hn : ((rimgs p V (2 ^ p)).filter fun l => sortedB l).Nodup := (by unfold rimgs; exact nodup_once _ : (rimgs p V (2 ^ p)).Nodup).filter _
  have := nodup_len _ _ hn (up_nodup p hp) fun x => ?_
  · rw [this]; simp [upPats]
  · rw [List.mem_filter, mem_rimgs, mem_up hp]
    constructor
    · rintro ⟨⟨l, h1, h2, rfl⟩, h3⟩
      subst h1
      exact ⟨runV_length _ _, runV_bits V l h h2, h3⟩
    · rintro ⟨h1, h2, h3⟩
      subst h1
      exact ⟨⟨x, rfl, h2, (runV_sorted V x h3 h).symm⟩, h3⟩
theorem images_down {p : Nat} {V : List (Int × Int)} (hp : p ≤ 8) (h : OkV p V) : (once ((imgs p V).filter fun l => !sortedB (l.take p))).length = ((rimgs p V (2 ^ p)).filter fun l => !sortedB l).length := by
  have hn : (((rimgs p V (2 ^ p)).filter fun l => !sortedB l).map (· ++ List.replicate (8 - p) (0 : Int))).Nodup := by
    have h1 : ((rimgs p V (2 ^ p)).filter fun l => !sortedB l).Nodup := (by unfold rimgs; exact nodup_once _ : (rimgs p V (2 ^ p)).Nodup).filter _
    unfold List.Nodup at h1 ⊢
    rw [List.pairwise_map]
    exact h1.imp fun hab e => hab (List.append_cancel_right e)
  have := nodup_len _ _ (nodup_once ((imgs p V).filter fun l => !sortedB (l.take p))) hn fun x => ?_
  · rw [this, List.length_map]
  · rw [mem_once]
    simp only [List.mem_filter, imgs, lanes, List.map_map, List.mem_map, List.mem_range, Function.comp_apply]
    constructor
    · rintro ⟨⟨t, ht, rfl⟩, hs⟩
      rw [run_lane_take hp h] at hs
      exact ⟨_, ⟨mem_rimgs _ |>.2 ⟨bitsOf p t, bitsOf_len _ _, bitsOf_bits _ _, rfl⟩, hs⟩, (run_lane hp h t).symm⟩
    · rintro ⟨y, ⟨hy, hs⟩, rfl⟩
      obtain ⟨l, h1, h2, rfl⟩ := (mem_rimgs y).1 hy
      obtain ⟨t, ht, e⟩ := List.mem_map.1 ((mem_pats p l).2 ⟨h1, h2⟩)
      rw [List.mem_range] at ht
      subst e
      exact ⟨⟨t, ht, run_lane hp h t⟩, by rw [← run_lane hp h, run_lane_take hp h]; exact hs⟩
theorem images_count {p : Nat} {V : List (Int × Int)} (hp : p ≤ 8) (h : OkV p V) : imagesN p V = (rimgs p V (2 ^ p)).length := by
  have := filter_len (fun l => sortedB l) (rimgs p V (2 ^ p))
  unfold imagesN
  rw [images_down hp h]
  have := images_up hp h
  omega
def imgE' (p : Int) (V : List (Int × Int)) : Int := if checkR p V = 0 then imagesN p.toNat V else 0
theorem imgE_eq (p : Int) (V : List (Int × Int)) : imgE' p V = rimgE p V := by
  unfold imgE' rimgE
  split
  · rename_i h; rw [images_count (row_ok h).1 (row_ok h).2]
  · rfl
end Go.Proofs.Ytdnaipiiponhpaa
