/- Each element of a list once, and lengths of lists without repetition. -/
import Derived.Test.YtdnaipiiponhpaaMap
namespace Go.Proofs.Ytdnaipiiponhpaa
/-- Each one once. -/
def once (l : List (List Int)) : List (List Int) := l.foldl (fun o x => if x ∈ o then o else o ++ [x]) []
theorem once_snoc (l : List (List Int)) (x : List Int) : once (l ++ [x]) = if x ∈ once l then once l else once l ++ [x] := by unfold once; rw [List.foldl_append]; rfl
theorem snoc_cases {α : Type} (l : List α) : l = [] ∨ ∃ r x, l = r ++ [x] := by
  cases h : l.reverse with
  | nil => left; simpa using h
  | cons x r => right; refine ⟨r.reverse, x, ?_⟩; rw [← List.reverse_reverse l, h]; simp
theorem snocRec {α : Type} {P : List α → Prop} (h0 : P []) (h1 : ∀ l x, P l → P (l ++ [x])) : ∀ l, P l := by
  intro l
  suffices ∀ n l, l.length = n → P l from this _ l rfl
  intro n
  induction n with
  | zero => intro l h; rw [List.length_eq_zero_iff] at h; subst h; exact h0
  | succ n ih =>
    intro l h
    rcases snoc_cases l with rfl | ⟨r, x, rfl⟩
    · exact h0
    · exact h1 _ _ (ih r (by simpa using h))
theorem mem_once (x : List Int) : ∀ l, x ∈ once l ↔ x ∈ l := by
  apply snocRec
  · simp [once]
  · intro l y ih
    rw [once_snoc]
    split
    · rename_i h
      rw [ih, List.mem_append, List.mem_singleton]
      refine ⟨.inl, ?_⟩
      rintro (h' | rfl)
      · exact h'
      · exact ih.1 h
    · simp [ih]
theorem nodup_once : ∀ l, (once l).Nodup := by
  apply snocRec
  · simp [once]
  · intro l y ih
    rw [once_snoc]
    split
    · exact ih
    · rename_i h
      rw [List.nodup_append]
      refine ⟨ih, by simp, ?_⟩
      rintro a ha b hb rfl
      rw [List.mem_singleton] at hb
      subst hb
      exact h ha
theorem nodup_le {α : Type} [DecidableEq α] : ∀ (l m : List α), l.Nodup → (∀ x ∈ l, x ∈ m) → l.length ≤ m.length := by
  intro l
  induction l with
  | nil => intro m _ _; simp
  | cons x r ih =>
    intro m hn hs
    rw [List.nodup_cons] at hn
    have hx := hs x (by simp)
    have := ih (m.erase x) hn.2 (fun y hy => by
      rw [List.mem_erase_of_ne]
      · exact hs y (by simp [hy])
      · rintro rfl; exact hn.1 hy)
    rw [List.length_erase_of_mem hx] at this
    have := List.length_pos_of_mem hx
    simp only [List.length_cons]
    omega
theorem nodup_len {α : Type} [DecidableEq α] (l m : List α) (hl : l.Nodup) (hm : m.Nodup) (h : ∀ x, x ∈ l ↔ x ∈ m) : l.length = m.length :=
  Nat.le_antisymm (nodup_le l m hl fun x => (h x).1) (nodup_le m l hm fun x => (h x).2)
theorem once_le (l : List (List Int)) : (once l).length ≤ l.length := nodup_le _ _ (nodup_once l) fun x => (mem_once x l).1
end Go.Proofs.Ytdnaipiiponhpaa
