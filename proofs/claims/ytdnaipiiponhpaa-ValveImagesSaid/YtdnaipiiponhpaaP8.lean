/- Plain facts: patterns by numbers are in lexicographic order; how many images. -/
import Derived.Test.YtdnaipiiponhpaaGF
namespace Go.Proofs.Ytdnaipiiponhpaa

theorem valN_bitsOf : ∀ n, n ≤ 8 → ∀ t, t < 2 ^ n → valN (bitsOf n t) = t := by
  have : ∀ n : Fin 9, ((List.range (2 ^ n.val)).all fun t => decide (valN (bitsOf n t) = t)) = true := by decide +kernel
  intro n hn t ht
  have := List.all_eq_true.1 (this ⟨n, by omega⟩) t (List.mem_range.2 ht)
  simpa using this
theorem valN_lex : ∀ (a b : List Int) (i : Nat), a.length = b.length → Bits a → Bits b → valN b ≤ valN a → i < a.length →
    (∀ j, j < i → a[j]?.getD 0 = b[j]?.getD 0) → a[i]?.getD 0 ≠ b[i]?.getD 0 → b[i]?.getD 0 < a[i]?.getD 0
  | [], _, i, _, _, _, _, h, _, _ => by simp at h
  | _ :: _, [], i, h, _, _, _, _, _, _ => by simp at h
  | x :: a, y :: b, i, hl, ha, hb, hv, hi, he, hne => by
    have hl' : a.length = b.length := by simpa using hl
    have ha' : Bits a := fun u hu => ha u (by simp [hu])
    have hb' : Bits b := fun u hu => hb u (by simp [hu])
    have hx := ha x (by simp)
    have hy := hb y (by simp)
    have va := valN_lt a ha'
    have vb := valN_lt b hb'
    simp only [valN] at hv
    rw [hl'] at hv va
    cases i with
    | zero =>
      simp only [List.getElem?_cons_zero, Option.getD_some] at hne ⊢
      rcases hx with rfl | rfl <;> rcases hy with rfl | rfl <;> simp at hne hv ⊢ <;> omega
    | succ i =>
      have h0 := he 0 (by omega)
      simp only [List.getElem?_cons_zero, Option.getD_some] at h0
      subst h0
      simp only [List.getElem?_cons_succ] at hne ⊢
      exact valN_lex a b i hl' ha' hb' (by omega) (by simpa using hi) (fun j hj => by simpa using he (j + 1) (by omega)) hne

/-- The bits of a number, from the lowest one on. -/
def ownL (b k : Nat) : List Int := (List.range k).map fun i => ((b / 2 ^ i % 2 : Nat) : Int)
theorem ownL_succ (b k : Nat) : ownL b (k + 1) = ownL b k ++ [((b / 2 ^ k % 2 : Nat) : Int)] := by simp [ownL, List.range_succ]
theorem ownL_len (b k : Nat) : (ownL b k).length = k := by simp [ownL]
theorem ownL_bits (b k : Nat) : Bits (ownL b k) := by
  intro x hx
  obtain ⟨i, _, rfl⟩ := List.mem_map.1 hx
  rcases Nat.mod_two_eq_zero_or_one (b / 2 ^ i) with h | h <;> simp [h]
theorem bits_in {l : List Int} (h : Bits l) : l.any (outB 0 1) = false := by
  rw [List.any_eq_false]
  intro x hx
  unfold outB
  rcases h x hx with rfl | rfl <;> simp
theorem rchk_bits {n : Nat} {V : List (Int × Int)} {q : List Int} (h : checkR n V = 0) (hl : q.length = n) (hb : Bits q) : rchkE n V q = if sortedB (runV V q) then 5 else 0 := by
  unfold rchkE
  rw [if_neg (by simpa using h), if_neg (by simp; omega), bits_in hb]
  simp
theorem patOf_some {n : Nat} {V : List (Int × Int)} {t : Nat} (h : patOf n V = some t) : t < 2 ^ n ∧ sortedB (runV V (bitsOf n t)) = false ∧ ∀ s, s < t → sortedB (runV V (bitsOf n s)) = true := by
  unfold patOf at h
  rw [List.find?_range_eq_some] at h
  obtain ⟨h1, h2, h3⟩ := h
  refine ⟨List.mem_range.1 h2, by simpa [badB] using h1, fun s hs => by simpa [badB] using h3 s hs⟩
/-- No pattern that is not sorted comes before the first one. -/
theorem pat_first {n : Nat} (hn : n ≤ 8) {V : List (Int × Int)} {t : Nat} (h : patOf n V = some t) {q : List Int} (hl : q.length = n) (hb : Bits q) (hs : sortedB (runV V q) = false) (i : Nat) (hi : i < n)
    (he : ∀ j, j < i → q[j]?.getD 0 = (bitsOf n t)[j]?.getD 0) (hne : q[i]?.getD 0 ≠ (bitsOf n t)[i]?.getD 0) : (bitsOf n t)[i]?.getD 0 < q[i]?.getD 0 := by
  obtain ⟨h1, h2, h3⟩ := patOf_some h
  refine valN_lex q (bitsOf n t) i (by rw [hl, bitsOf_len]) hb (bitsOf_bits n t) ?_ (by omega) he hne
  rw [valN_bitsOf n hn t h1]
  rcases Nat.lt_or_ge (valN q) t with hlt | hge
  · have := h3 _ hlt
    have e := bits_is q hb
    rw [hl] at e
    rw [← e, hs] at this
    cases this
  · exact hge

/-! Images. -/
theorem img_le {n : Nat} (hn : n ≤ 8) {V : List (Int × Int)} (h : OkV n V) : imagesN n V ≤ 2 ^ n := by
  rw [images_count hn h]; exact rimgs_le n V (2 ^ n)
theorem img_ge (n : Nat) (V : List (Int × Int)) : n < imagesN n V := by unfold imagesN; omega
theorem img_sorts {n : Nat} (hn : n ≤ 8) {V : List (Int × Int)} (h : OkV n V) : imagesN n V = n + 1 ↔ patOf n V = none := by
  rw [patOf_none]
  unfold imagesN
  rw [images_down hn h]
  constructor
  · intro h0 t ht
    have h1 : ((rimgs n V (2 ^ n)).filter fun l => !sortedB l) = [] := List.eq_nil_of_length_eq_zero (by omega)
    have := List.filter_eq_nil_iff.1 h1 (runV V (bitsOf n t)) ((mem_rimgs _).2 ⟨_, bitsOf_len n t, bitsOf_bits n t, rfl⟩)
    simpa using this
  · intro hs
    have h1 : ((rimgs n V (2 ^ n)).filter fun l => !sortedB l) = [] := by
      rw [List.filter_eq_nil_iff]
      intro x hx
      obtain ⟨l, h1, h2, rfl⟩ := (mem_rimgs x).1 hx
      have e := bits_is l h2
      rw [h1] at e
      rw [e, hs (valN l) (by have := valN_lt l h2; rwa [h1] at this)]
      simp
    rw [h1]; simp
theorem img_more {n : Nat} (hn : n ≤ 8) {V : List (Int × Int)} {v : Int × Int} (h : OkV n (V ++ [v])) : imagesN n (V ++ [v]) ≤ imagesN n V := by
  have hV : OkV n V := fun u hu => h u (by simp [hu])
  rw [images_count hn h, images_count hn hV]
  have := nodup_le (rimgs n (V ++ [v]) (2 ^ n)) ((rimgs n V (2 ^ n)).map fun l => stepV l v) (by unfold rimgs; exact nodup_once _) fun x hx => by
    obtain ⟨l, h1, h2, rfl⟩ := (mem_rimgs x).1 hx
    rw [runV_append]
    exact List.mem_map.2 ⟨runV V l, (mem_rimgs _).2 ⟨l, h1, h2, rfl⟩, rfl⟩
  simpa using this
end Go.Proofs.Ytdnaipiiponhpaa
