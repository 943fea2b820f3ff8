/- An order with a shape, by numbers: each number stands at the end of a row at which it can; plain. -/
import Derived.Test.YtnnfahdhmodejaaMGJ
import Derived.Test.YtnnfahdhmodejaaMGD
namespace Go.Proofs.Ytnnfahdhmodejaa

def crB (l : List Int) (i : Nat) : Bool := decide (0 < elt l i) && (decide (i + 1 = l.length) || decide (elt l (i + 1) < elt l i))
/-- The rows at whose end a number can stand, among the first k. -/
def crnN (l : List Int) (k : Nat) : List Int := ((List.range k).filter (crB l)).map fun (i : Nat) => (i : Int)
theorem crnN_succ (l : List Int) (k : Nat) : crnN l (k + 1) = if crB l k then crnN l k ++ [(k : Int)] else crnN l k := by
  unfold crnN
  rw [List.range_succ, List.filter_append, List.map_append]
  cases h : crB l k <;> simp [h]
theorem crnN_le (l : List Int) (k : Nat) : (crnN l k).length ≤ k := by
  have := List.length_filter_le (crB l) (List.range k)
  rw [List.length_range] at this
  simpa [crnN] using this
theorem crnN_mem {l : List Int} {k : Nat} {x : Int} : x ∈ crnN l k ↔ ∃ i : Nat, i < k ∧ crB l i = true ∧ x = (i : Int) := by
  unfold crnN
  rw [List.mem_map]
  constructor
  · rintro ⟨i, hi, rfl⟩
    rw [List.mem_filter, List.mem_range] at hi
    exact ⟨i, hi.1, hi.2, rfl⟩
  · rintro ⟨i, h1, h2, rfl⟩
    exact ⟨i, List.mem_filter.2 ⟨List.mem_range.2 h1, h2⟩, rfl⟩
def kG (bs : List Int) (n m : Nat) : Nat := if bs.length = 0 then 0 else (elt bs (n % bs.length)).toNat % m
/-- The row in which the number n comes. -/
def rG (bs : List Int) (n : Nat) (l : List Int) : Nat := (elt (crnN l l.length) (kG bs n (crnN l l.length).length)).toNat
def GV (bs : List Int) : Nat → List (List Int) → List Int → List (List Int)
  | 0, O, _ => O
  | n + 1, O, L => GV bs n (O.set (rG bs (n + 1) L) (((n : Int) + 1) :: row O (rG bs (n + 1) L))) (L.set (rG bs (n + 1) L) (elt L (rG bs (n + 1) L) - 1))
theorem sumZ_set : ∀ (l : List Int) (r : Nat) (x : Int), r < l.length → sumZ (l.set r x) = sumZ l - elt l r + x
  | [], r, x, h => by simp at h
  | a :: l, 0, x, _ => by rw [List.set_cons_zero, sumZ_cons, sumZ_cons, elt_cons_zero]; omega
  | a :: l, r + 1, x, h => by rw [List.set_cons_succ, sumZ_cons, sumZ_cons, elt_cons_succ, sumZ_set l r x (by simpa using h)]; omega
theorem sumZ_pos : ∀ (l : List Int), 0 < sumZ l → ∃ i, i < l.length ∧ 0 < elt l i
  | [], h => by simp [sumZ] at h
  | a :: l, h => by
    rw [sumZ_cons] at h
    rcases Int.lt_or_le 0 a with h1 | h1
    · exact ⟨0, by simp, by rw [elt_cons_zero]; exact h1⟩
    · obtain ⟨i, hi, h2⟩ := sumZ_pos l (by omega)
      exact ⟨i + 1, by simpa using hi, by rw [elt_cons_succ]; exact h2⟩
theorem sumZ_zero : ∀ (l : List Int), (∀ i, i < l.length → 0 ≤ elt l i) → 0 ≤ sumZ l ∧ (sumZ l = 0 → ∀ i, i < l.length → elt l i = 0)
  | [], _ => by simp [sumZ]
  | a :: l, h => by
    have h0 := h 0 (by simp)
    rw [elt_cons_zero] at h0
    obtain ⟨i1, i2⟩ := sumZ_zero l (fun i hi => by have := h (i + 1) (by simpa using hi); rwa [elt_cons_succ] at this)
    rw [sumZ_cons]
    refine ⟨by omega, fun hs i hi => ?_⟩
    cases i with
    | zero => rw [elt_cons_zero]; omega
    | succ i => rw [elt_cons_succ]; exact i2 (by omega) i (by simpa using hi)
theorem corner_ex {l : List Int} : ∀ (d i : Nat), i + d + 1 = l.length → 0 < elt l i → ∃ j, j < l.length ∧ crB l j = true
  | 0, i, h, hp => ⟨i, by omega, by unfold crB; rw [decide_eq_true hp, decide_eq_true (show i + 1 = l.length by omega)]; rfl⟩
  | d + 1, i, h, hp => by
    by_cases hlt : elt l (i + 1) < elt l i
    · exact ⟨i, by omega, by unfold crB; rw [decide_eq_true hp, decide_eq_true hlt, Bool.or_true]; rfl⟩
    · exact corner_ex d (i + 1) (by omega) (by omega)
structure GI (sh : List Int) (N n : Nat) (O : List (List Int)) (L : List Int) : Prop where
  lenO : O.length = sh.length
  lenL : L.length = sh.length
  lo : ∀ i, i < sh.length → 0 ≤ elt L i ∧ elt L i ≤ elt sh i
  dec : ∀ i, i + 1 < sh.length → elt L (i + 1) ≤ elt L i
  sum : sumZ L = (n : Int)
  rl : ∀ i, i < sh.length → ((row O i).length : Int) = elt sh i - elt L i
  mem : ∀ i x, x ∈ row O i → (n : Int) < x ∧ x ≤ (N : Int)
  str : ∀ i a b, a < b → b < (row O i).length → elt (row O i) a < elt (row O i) b
  uniq : ∀ i j x, x ∈ row O i → x ∈ row O j → i = j
  ex : ∀ x : Int, (n : Int) < x → x ≤ (N : Int) → ∃ i, x ∈ row O i
  col : ∀ i (a b : Nat), (a : Int) + elt L i = (b : Int) + elt L (i + 1) → a < (row O i).length → b < (row O (i + 1)).length → elt (row O i) a < elt (row O (i + 1)) b
/-- There is a row for the next number. -/
theorem GI.corner {sh : List Int} {N n : Nat} {O : List (List Int)} {L : List Int} (h : GI sh N (n + 1) O L) : 0 < (crnN L L.length).length := by
  obtain ⟨i, hi, hp⟩ := sumZ_pos L (by rw [h.sum]; push_cast; omega)
  obtain ⟨j, hj, hc⟩ := corner_ex (l := L) (L.length - i - 1) i (by omega) hp
  exact List.length_pos_iff.2 (List.ne_nil_of_mem (crnN_mem.2 ⟨j, hj, hc, rfl⟩))
theorem kG_lt (bs : List Int) (n : Nat) {m : Nat} (h : 0 < m) : kG bs n m < m := by
  unfold kG
  split
  · exact h
  · exact Nat.mod_lt _ h
theorem GI.rG {sh : List Int} {N n : Nat} {O : List (List Int)} {L : List Int} (h : GI sh N (n + 1) O L) (bs : List Int) : elt (crnN L L.length) (kG bs (n + 1) (crnN L L.length).length) = (Proofs.Ytnnfahdhmodejaa.rG bs (n + 1) L : Int) ∧ Proofs.Ytnnfahdhmodejaa.rG bs (n + 1) L < sh.length ∧ crB L (Proofs.Ytnnfahdhmodejaa.rG bs (n + 1) L) = true := by
  have hk := kG_lt bs (n + 1) h.corner
  obtain ⟨i, h1, h2, h3⟩ := crnN_mem.1 (elt_mem hk)
  have e : Proofs.Ytnnfahdhmodejaa.rG bs (n + 1) L = i := by unfold Proofs.Ytnnfahdhmodejaa.rG; rw [h3]; simp
  rw [e]
  exact ⟨h3, by rw [← h.lenL]; exact h1, h2⟩
theorem elt_cons {x : Int} {l : List Int} (a : Nat) : elt (x :: l) a = if a = 0 then x else elt l (a - 1) := by
  cases a with
  | zero => rfl
  | succ a => rw [elt_cons_succ, if_neg (by omega), Nat.add_sub_cancel]
theorem GI.step {sh : List Int} {N n : Nat} {O : List (List Int)} {L : List Int} (h : GI sh N (n + 1) O L) (hN : n + 1 ≤ N) {r : Nat} (hr : r < sh.length) (hc : crB L r = true) :
    GI sh N n (O.set r (((n : Int) + 1) :: row O r)) (L.set r (elt L r - 1)) := by
  unfold crB at hc
  rw [Bool.and_eq_true, Bool.or_eq_true, decide_eq_true_eq, decide_eq_true_eq, decide_eq_true_eq] at hc
  obtain ⟨hp, hc⟩ := hc
  have hrO : r < O.length := by rw [h.lenO]; exact hr
  have hrL : r < L.length := by rw [h.lenL]; exact hr
  have hrow : ∀ i, row (O.set r (((n : Int) + 1) :: row O r)) i = if i = r then ((n : Int) + 1) :: row O i else row O i := fun i => by
    rw [row_set hrO]
    split
    · rename_i e; rw [e]
    · rfl
  have hel : ∀ i, elt (L.set r (elt L r - 1)) i = if i = r then elt L i - 1 else elt L i := fun i => by
    rw [elt_set hrL]
    split
    · rename_i e; rw [e]
    · rfl
  refine ⟨by rw [List.length_set]; exact h.lenO, by rw [List.length_set]; exact h.lenL, fun i hi => ?_, fun i hi => ?_, ?_, fun i hi => ?_, fun i x hx => ?_, fun i a b hab hb => ?_, fun i j x hi hj => ?_, fun x h1 h2 => ?_, fun i a b hab ha hb => ?_⟩
  · rw [hel]
    have := h.lo i hi
    split
    · rename_i e; subst e; omega
    · exact this
  · rw [hel, hel]
    have := h.dec i hi
    split <;> split
    · omega
    · omega
    · rename_i e1 e2
      subst e2
      rcases hc with hc | hc
      · rw [h.lenL] at hc; omega
      · omega
    · exact this
  · rw [sumZ_set _ _ _ hrL, h.sum]; push_cast; omega
  · rw [hrow, hel]
    have := h.rl i hi
    split
    · simp only [List.length_cons]; push_cast; omega
    · exact this
  · rw [hrow] at hx
    split at hx
    · rcases List.mem_cons.1 hx with rfl | hx
      · omega
      · have := h.mem i x hx; push_cast at this; omega
    · have := h.mem i x hx; push_cast at this; omega
  · rw [hrow] at hb ⊢
    split at hb
    · rename_i e
      rw [if_pos e]
      simp only [List.length_cons] at hb
      rw [elt_cons, elt_cons, if_neg (show b ≠ 0 by omega)]
      split
      · have := (h.mem i _ (elt_mem (l := row O i) (j := b - 1) (by omega))).1; push_cast at this; omega
      · exact h.str i (a - 1) (b - 1) (by omega) (by omega)
    · rename_i e
      rw [if_neg e]; exact h.str i a b hab hb
  · have hm : ∀ i, x ∈ row (O.set r (((n : Int) + 1) :: row O r)) i → (x = (n : Int) + 1 ∧ i = r) ∨ (x ∈ row O i ∧ (n : Int) + 1 < x) := fun i hx => by
      rw [hrow] at hx
      split at hx
      · rename_i e
        rcases List.mem_cons.1 hx with hx | hx
        · exact .inl ⟨hx, e⟩
        · exact .inr ⟨hx, by have := (h.mem i x hx).1; push_cast at this; omega⟩
      · exact .inr ⟨hx, by have := (h.mem i x hx).1; push_cast at this; omega⟩
    rcases hm i hi with ⟨a1, a2⟩ | ⟨a1, a2⟩ <;> rcases hm j hj with ⟨b1, b2⟩ | ⟨b1, b2⟩
    · omega
    · omega
    · omega
    · exact h.uniq i j x a1 b1
  · rcases Int.lt_or_le ((n : Int) + 1) x with h3 | h3
    · obtain ⟨i, hi⟩ := h.ex x (by push_cast; omega) h2
      refine ⟨i, ?_⟩
      rw [hrow]
      split
      · simp [hi]
      · exact hi
    · refine ⟨r, ?_⟩
      rw [hrow, if_pos rfl, show x = (n : Int) + 1 by omega]
      simp
  · rw [hel, hel] at hab
    rw [hrow] at ha
    rw [hrow] at hb
    rw [hrow, hrow]
    by_cases e1 : i = r
    · have e2 : ¬ i + 1 = r := by omega
      rw [if_pos e1] at hab ha ⊢
      rw [if_neg e2] at hab hb ⊢
      simp only [List.length_cons] at ha
      rw [elt_cons]
      split
      · have := (h.mem (i + 1) _ (elt_mem hb)).1; push_cast at this; omega
      · exact h.col i (a - 1) b (by omega) (by omega) hb
    · rw [if_neg e1] at hab ha ⊢
      by_cases e2 : i + 1 = r
      · rw [if_pos e2] at hab hb ⊢
        simp only [List.length_cons] at hb
        rw [elt_cons]
        have hd := h.dec i (by omega)
        rw [if_neg (show b ≠ 0 by omega)]
        exact h.col i a (b - 1) (by omega) ha (by omega)
      · rw [if_neg e2] at hab hb ⊢
        exact h.col i a b hab ha hb
theorem GI.std {sh : List Int} {N : Nat} {O : List (List Int)} {L : List Int} (h : GI sh N 0 O L) (hs : Shp sh) : Std O N ∧ O.length = sh.length ∧ ∀ i, i < sh.length → ((row O i).length : Int) = elt sh i := by
  have hz := (sumZ_zero L (fun i hi => (h.lo i (by rw [← h.lenL]; exact hi)).1)).2 (by rw [h.sum]; rfl)
  have hz2 : ∀ i, i < sh.length → elt L i = 0 := fun i hi => hz i (by rw [h.lenL]; exact hi)
  have hlen : ∀ i, i < sh.length → ((row O i).length : Int) = elt sh i := fun i hi => by have := h.rl i hi; rw [hz2 i hi] at this; omega
  refine ⟨⟨tab_of fun i => ⟨?_, ⟨?_, fun j hj => ?_⟩, fun hi => ?_⟩, h.str, fun i x hx => by have := h.mem i x hx; push_cast at this; omega, h.uniq, fun x h1 h2 => h.ex x (by push_cast; omega) h2⟩, h.lenO, hlen⟩
  · intro a b hab hb
    rcases Nat.lt_or_ge a b with h1 | h1
    · exact Int.le_of_lt (h.str i a b h1 hb)
    · obtain rfl : a = b := by omega
      exact Int.le_refl _
  · rcases Nat.lt_or_ge (i + 1) sh.length with h1 | h1
    · have a1 := hlen i (by omega)
      have a2 := hlen (i + 1) h1
      have := hs.dec (i + 1) (by omega) h1
      rw [Nat.add_sub_cancel] at this
      omega
    · rw [row_ge (R := O) (i := i + 1) (by rw [h.lenO]; exact h1)]; simp
  · have h1 : i + 1 < sh.length := by
      rcases Nat.lt_or_ge (i + 1) sh.length with h1 | h1
      · exact h1
      · rw [row_ge (R := O) (i := i + 1) (by rw [h.lenO]; exact h1)] at hj; simp at hj
    have a1 := hlen i (by omega)
    have a2 := hlen (i + 1) h1
    have := hs.dec (i + 1) (by omega) h1
    rw [Nat.add_sub_cancel] at this
    exact h.col i j j (by rw [hz2 i (by omega), hz2 (i + 1) h1]) (by omega) hj
  · have a1 := hlen i (by rw [← h.lenO]; exact hi)
    have := hs.lo _ (elt_mem (l := sh) (j := i) (by rw [← h.lenO]; exact hi))
    intro e
    rw [e] at a1
    simp at a1
    omega
theorem GV_std {sh : List Int} (hs : Shp sh) {N : Nat} (bs : List Int) : ∀ (n : Nat) (O : List (List Int)) (L : List Int), n ≤ N → GI sh N n O L → Std (GV bs n O L) N ∧ (GV bs n O L).length = sh.length ∧ ∀ i, i < sh.length → ((row (GV bs n O L) i).length : Int) = elt sh i
  | 0, O, L, _, h => h.std hs
  | n + 1, O, L, hn, h => by
    obtain ⟨_, h2, h3⟩ := h.rG bs
    unfold GV
    exact GV_std hs bs n _ _ (by omega) (h.step hn h2 h3)
theorem row_nils (m i : Nat) : row (List.replicate m ([] : List Int)) i = [] := by
  rcases Nat.lt_or_ge i m with h | h
  · rw [row_lt (by simpa using h)]; simp
  · rw [row_ge (by simpa using h)]
theorem GI.init {sh : List Int} {N : Nat} (hs : Shp sh) (hN : sumZ sh = (N : Int)) : GI sh N N (List.replicate sh.length []) sh where
  lenO := by simp
  lenL := rfl
  lo := fun i hi => ⟨by have q := hs.lo _ (elt_mem hi); omega, Int.le_refl _⟩
  dec := fun i hi => by
    have q := hs.dec (i + 1) (by omega) hi
    rw [Nat.add_sub_cancel] at q
    exact q
  sum := hN
  rl := fun i _ => by rw [row_nils]; simp
  mem := fun i x hx => by rw [row_nils] at hx; cases hx
  str := fun i a b _ hb => by rw [row_nils] at hb; simp at hb
  uniq := fun i j x hx => by rw [row_nils] at hx; cases hx
  ex := fun x h1 h2 => by omega
  col := fun i a b _ ha => by rw [row_nils] at ha; simp at ha
end Go.Proofs.Ytnnfahdhmodejaa
