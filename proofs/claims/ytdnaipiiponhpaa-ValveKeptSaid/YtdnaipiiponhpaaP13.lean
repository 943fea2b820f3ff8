/- Plain facts: a row loses no value; values are sorted by exchanges of neighbours. -/
import Derived.Test.YtdnaipiiponhpaaP9
namespace Go.Proofs.Ytdnaipiiponhpaa

/-- How many of the first k values of a list are a given one, less those of another list. -/
def manyK (l v : List Int) (x : Int) (k : Nat) : Int := ((l.take k).count x : Int) - ((v.take k).count x : Int)
theorem count_take (l : List Int) (x : Int) (k : Nat) (hk : k < l.length) : (l.take (k + 1)).count x = (l.take k).count x + if l[k]?.getD 0 = x then 1 else 0 := by
  rw [List.take_succ_eq_append_getElem hk, List.count_append, List.count_singleton, List.getElem?_eq_getElem hk]
  simp
theorem manyK_succ (l v : List Int) (x : Int) (k : Nat) (h1 : k < l.length) (h2 : k < v.length) : manyK l v x (k + 1) = manyK l v x k + (if l[k]?.getD 0 = x then 1 else 0) - (if v[k]?.getD 0 = x then 1 else 0) := by
  unfold manyK
  rw [count_take l x k h1, count_take v x k h2]
  split <;> split <;> omega
theorem manyK_in (l v : List Int) (x : Int) (k : Nat) : -(k : Int) ≤ manyK l v x k ∧ manyK l v x k ≤ (k : Int) := by
  unfold manyK
  have h1 := List.count_le_length (a := x) (l := l.take k)
  have h2 := List.count_le_length (a := x) (l := v.take k)
  rw [List.length_take] at h1 h2
  omega
theorem manyK_all {n : Nat} {V : List (Int × Int)} (h : OkV n V) {v : List Int} (hl : v.length = n) (x : Int) : manyK (runV V v) v x n = 0 := by
  unfold manyK
  rw [List.take_of_length_le (by rw [runV_length]; omega), List.take_of_length_le (by omega), runV_count V x v (by rw [hl]; exact h)]
  omega
theorem repl_mono (part more : Int) (hp : 0 ≤ part) : Mono (replI part more) := by
  intro x y h
  unfold replI
  have := Int.ediv_le_ediv (show (0 : Int) < 1 + part by omega) (show x + 40000 ≤ y + 40000 by omega)
  omega
theorem repl_run {n : Nat} {V : List (Int × Int)} (h : OkV n V) {v : List Int} (hl : v.length = n) (part more : Int) (hp : 0 ≤ part) : runV V (v.map (replI part more)) = (runV V v).map (replI part more) :=
  runV_map _ (repl_mono part more hp) V v (by rw [hl]; exact h)
theorem map_take (f : Int → Int) (l : List Int) (k : Nat) (hk : k < l.length) : (l.take (k + 1)).map f = (l.take k).map f ++ [f (l[k]?.getD 0)] := by
  rw [List.take_succ_eq_append_getElem hk, List.map_append, List.getElem?_eq_getElem hk]; rfl

/-! The first i ones are sorted; but for one place. -/
def UpTo (l : List Int) (i : Nat) : Prop := ∀ a b, a < b → b < i → l[a]?.getD 0 ≤ l[b]?.getD 0
structure Hole (l : List Int) (i k : Nat) : Prop where
  a : ∀ a b, a < b → b < i → a ≠ k → b ≠ k → l[a]?.getD 0 ≤ l[b]?.getD 0
  b : ∀ b, k < b → b < i → l[k]?.getD 0 ≤ l[b]?.getD 0
theorem Hole.start {l : List Int} {i : Nat} (h : UpTo l i) : Hole l (i + 1) i := ⟨fun a b h1 h2 _ h4 => h a b h1 (by omega), fun b h1 h2 => by omega⟩
theorem Hole.done {l : List Int} {i k : Nat} (h : Hole l i k) (hk : k = 0 ∨ l[k - 1]?.getD 0 ≤ l[k]?.getD 0) : UpTo l i := by
  intro a b h1 h2
  by_cases e1 : a = k
  · subst e1; exact h.b b h1 h2
  · by_cases e2 : b = k
    · subst e2
      rcases hk with hk | hk
      · omega
      · by_cases e3 : a = b - 1
        · subst e3; exact hk
        · exact Int.le_trans (h.a a (b - 1) (by omega) (by omega) e1 (by omega)) hk
    · exact h.a a b h1 h2 e1 e2
theorem Hole.step {l : List Int} {i k : Nat} (h : Hole l i (k + 1)) (hk : k + 1 < i) (hi : i ≤ l.length) (hlt : l[k + 1]?.getD 0 < l[k]?.getD 0) : Hole ((l.set (k + 1) (l[k]?.getD 0)).set k (l[k + 1]?.getD 0)) i k := by
  have g : ∀ j, ((l.set (k + 1) (l[k]?.getD 0)).set k (l[k + 1]?.getD 0))[j]?.getD 0 = if k = j then l[k + 1]?.getD 0 else if k + 1 = j then l[k]?.getD 0 else l[j]?.getD 0 := fun j => by
    rw [getD_set _ _ _ _ (by rw [List.length_set]; omega), getD_set _ _ _ _ (by omega)]
  refine ⟨fun a b h1 h2 h3 h4 => ?_, fun b h1 h2 => ?_⟩
  · rw [g, g, if_neg (Ne.symm h3), if_neg (Ne.symm h4)]
    by_cases e1 : k + 1 = a
    · subst e1; rw [if_pos rfl, if_neg (by omega)]; exact h.a k b (by omega) h2 (by omega) (by omega)
    · rw [if_neg e1]
      by_cases e2 : k + 1 = b
      · subst e2; rw [if_pos rfl]; exact h.a a k (by omega) (by omega) (by omega) (by omega)
      · rw [if_neg e2]; exact h.a a b h1 h2 (by omega) (by omega)
  · rw [g, g, if_pos rfl, if_neg (by omega)]
    by_cases e2 : k + 1 = b
    · subst e2; rw [if_pos rfl]; omega
    · rw [if_neg e2]; exact h.b b (by omega) h2
theorem UpTo.sorted {l : List Int} (h : UpTo l l.length) : sortedB l = true := sorted_of_le fun i hi => h i (i + 1) (by omega) hi
theorem UpTo.one (l : List Int) : UpTo l 1 := fun a b h1 h2 => by omega
end Go.Proofs.Ytdnaipiiponhpaa
