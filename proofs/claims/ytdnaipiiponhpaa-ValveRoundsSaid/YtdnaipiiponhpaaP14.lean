/- Plain facts: valves in the order of their rounds. -/
import Derived.Test.YtdnaipiiponhpaaP10
namespace Go.Proofs.Ytdnaipiiponhpaa

def labP (V : List (Int × Int)) : List LV := labV (List.replicate 8 0) V
theorem labP_fst (V : List (Int × Int)) : (labP V).map (·.1) = V := labV_fst V _
theorem labP_len (V : List (Int × Int)) : (labP V).length = V.length := by have := congrArg List.length (labP_fst V); simpa using this
theorem labP_get {n : Nat} (hn : n ≤ 8) {V : List (Int × Int)} (h : OkV n V) (i : Nat) (hi : i < V.length) : (labP V)[i]? = some (V[i]?.getD (0, 0), (rrL V V.length)[i]?.getD 0) := by
  have hl : i < (labP V).length := by rw [labP_len]; exact hi
  have h1 : ((labP V).map (·.1))[i]? = V[i]? := by rw [labP_fst]
  have h2 : ((labP V).map (·.2))[i]? = (rrL V V.length)[i]? := by rw [show (labP V).map (·.2) = rrL V V.length from labV_rounds hn h]
  rw [List.getElem?_map, List.getElem?_eq_getElem hl] at h1 h2
  rw [List.getElem?_eq_getElem hl, ← h1, ← h2]
  simp
theorem Sw.len {P Q : List LV} (h : Sw P Q) : Q.length = P.length := by
  induction h with
  | refl => rfl
  | swap A u v B Q hf _ ih => rw [ih]; simp
/-- What the law lays: rounds 1 to n, and of the next one the first i valves. -/
def midP (P : List LV) (n i : Nat) : List LV := upTo P n ++ (P.take i).filter fun x => decide (x.2 = ((n + 1 : Nat) : Int))
theorem midP_zero (P : List LV) (n : Nat) : midP P n 0 = upTo P n := by simp [midP]
theorem midP_all (P : List LV) (n : Nat) : midP P n P.length = upTo P (n + 1) := by unfold midP; rw [List.take_length]; rfl
theorem midP_succ (P : List LV) (n i : Nat) {x : LV} (hx : P[i]? = some x) : midP P n (i + 1) = if x.2 = ((n + 1 : Nat) : Int) then midP P n i ++ [x] else midP P n i := by
  obtain ⟨hi, e⟩ := List.getElem?_eq_some_iff.1 hx
  unfold midP
  rw [List.take_succ_eq_append_getElem hi, List.filter_append, e]
  by_cases h : x.2 = ((n + 1 : Nat) : Int)
  · rw [if_pos h]; simp [h]
  · rw [if_neg h]; simp; omega
theorem midP_len (P : List LV) (n i : Nat) : (midP P n i).length ≤ P.length := by
  have key : ∀ n, (upTo P n).length ≤ (P.filter fun x => decide (x.2 ≤ (n : Int))).length := by
    intro n
    induction n with
    | zero => simp [upTo]
    | succ n ih =>
      rw [upTo, List.length_append]
      have : ∀ P : List LV, (P.filter fun x => decide (x.2 ≤ (n : Int))).length + (P.filter fun x => decide (x.2 = ((n + 1 : Nat) : Int))).length ≤ (P.filter fun x => decide (x.2 ≤ ((n + 1 : Nat) : Int))).length := by
        intro P
        induction P with
        | nil => simp
        | cons a P ih2 =>
          simp only [List.filter_cons]
          by_cases c1 : a.2 ≤ (n : Int)
          · rw [if_pos (by simpa using c1), if_neg (by simp; omega), if_pos (by simp; omega)]; simp only [List.length_cons]; omega
          · by_cases c2 : a.2 = ((n + 1 : Nat) : Int)
            · rw [if_neg (by simpa using c1), if_pos (by simpa using c2), if_pos (by simp; omega)]; simp only [List.length_cons]; omega
            · rw [if_neg (by simpa using c1), if_neg (by simpa using c2), if_neg (by simp; omega)]; omega
      have := this P
      omega
  have h1 := key (n + 1)
  have h2 := List.length_filter_le (fun x : LV => decide (x.2 ≤ ((n + 1 : Nat) : Int))) P
  have h3 : (midP P n i).length ≤ (upTo P (n + 1)).length := by
    unfold midP
    rw [upTo, List.length_append, List.length_append]
    have := ((List.take_sublist i P).filter fun x => decide (x.2 = ((n + 1 : Nat) : Int))).length_le
    omega
  omega
structure SortS (n : Nat) (V X : List (Int × Int)) (R : List Int) : Prop where
  ok : OkV n X
  len : X.length = V.length
  rr : rrL X X.length = R
  run : ∀ l : List Int, l.length = n → runV X l = runV V l
theorem sort_rounds {n : Nat} (hn : n ≤ 8) {V : List (Int × Int)} (h : OkV n V) : SortS n V ((upTo (labP V) V.length).map (·.1)) ((upTo (labP V) V.length).map (·.2)) := by
  have hin : ∀ x ∈ labP V, 1 ≤ x.2 ∧ x.2 ≤ (V.length : Int) := by
    intro x hx
    obtain ⟨i, hi, e⟩ := List.getElem_of_mem hx
    rw [labP_len] at hi
    have hg := labP_get hn h i hi
    rw [List.getElem?_eq_getElem (by rw [labP_len]; exact hi), e] at hg
    obtain rfl := Option.some.inj hg
    have h1 := rr_ge1 V V.length i hi
    have h2 := rr_le V V.length (i + 1) i (by omega) hi
    simp only; omega
  have hp : (labP V).Pairwise (fun x y => y.2 < x.2 → Free x.1 y.1) := by
    rw [List.pairwise_iff_getElem]
    intro i j hi hj hij hlt
    rw [labP_len] at hi hj
    have g1 := labP_get hn h i hi
    have g2 := labP_get hn h j hj
    rw [List.getElem?_eq_getElem (by rw [labP_len]; exact hi)] at g1
    rw [List.getElem?_eq_getElem (by rw [labP_len]; exact hj)] at g2
    have g1 := Option.some.inj g1
    have g2 := Option.some.inj g2
    rw [g1, g2] at hlt
    rw [g1, g2]
    unfold Free
    cases hm : meetB (V[i]?.getD (0, 0)) (V[j]?.getD (0, 0)) with
    | false => rfl
    | true =>
      have := rr_meet V V.length j i hj hij hm
      simp only at hlt
      omega
  have hs := sw_upTo V.length (labP V) hin hp
  have hok : OkV n ((upTo (labP V) V.length).map (·.1)) := by
    intro v hv
    obtain ⟨x, hx, rfl⟩ := List.mem_map.1 hv
    have : x.1 ∈ (labP V).map (·.1) := List.mem_map.2 ⟨x, (hs.mem x).1 hx, rfl⟩
    rw [labP_fst] at this
    exact h _ this
  have hf : ∀ x ∈ labP V, Fine1 x.1 := by
    intro x hx
    have : x.1 ∈ (labP V).map (·.1) := List.mem_map.2 ⟨x, hx, rfl⟩
    rw [labP_fst] at this
    obtain ⟨h1, h2, _⟩ := h _ this
    exact ⟨h1, h2⟩
  have hg := hs.good (List.replicate 8 0) hf (by rw [labP_fst]; rfl)
  refine ⟨hok, by rw [List.length_map, hs.len, labP_len], ?_, fun l hl => ?_⟩
  · have := labV_rounds hn hok
    rw [← this]
    conv => rhs; rw [hg]
  · have := hs.run l (by rw [labP_fst, hl]; exact h)
    rwa [labP_fst] at this
end Go.Proofs.Ytdnaipiiponhpaa
