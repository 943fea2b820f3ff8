/- Two runs that are taken as they fit: both rise, and have no more together than the first two rows; plain. -/
import Derived.Test.YtnnfahdhmodejaaMGJ
import Derived.Test.YtnnfahdhmodejaaMLf
namespace Go.Proofs.Ytnnfahdhmodejaa

def lastTp (s A : List Int) : Int := elt s (elt A (A.length - 1)).toNat
def fitB (s A : List Int) (k : Nat) : Bool := decide (A.length = 0) || decide (lastTp s A ≤ elt s k)
/-- The runs of the first k indexes. -/
def twoG (s : List Int) (tg : Nat → Int) : Nat → List Int × List Int
  | 0 => ([], [])
  | k + 1 => (if tg k = 1 ∧ fitB s (twoG s tg k).1 k = true then (twoG s tg k).1 ++ [(k : Int)] else (twoG s tg k).1, if tg k = 2 ∧ fitB s (twoG s tg k).2 k = true then (twoG s tg k).2 ++ [(k : Int)] else (twoG s tg k).2)
/-- A run of indexes less than k. -/
structure RunS (s A : List Int) (k : Nat) : Prop where
  bd : ∀ i, i < A.length → 0 ≤ elt A i ∧ elt A i < (k : Int)
  up : ∀ i, 0 < i → i < A.length → elt A (i - 1) < elt A i
  ris : ∀ i, 0 < i → i < A.length → elt s (elt A (i - 1)).toNat ≤ elt s (elt A i).toNat
theorem RunS.nil (s : List Int) : RunS s [] 0 := ⟨fun i h => by simp at h, fun i _ h => by simp at h, fun i _ h => by simp at h⟩
theorem RunS.more {s A : List Int} {k : Nat} (h : RunS s A k) : RunS s A (k + 1) := ⟨fun i hi => by have := h.bd i hi; push_cast; omega, h.up, h.ris⟩
theorem RunS.push {s A : List Int} {k : Nat} (h : RunS s A k) (hf : fitB s A k = true) : RunS s (A ++ [(k : Int)]) (k + 1) := by
  unfold fitB lastTp at hf
  rw [Bool.or_eq_true, decide_eq_true_eq, decide_eq_true_eq] at hf
  refine ⟨fun i hi => ?_, fun i h0 hi => ?_, fun i h0 hi => ?_⟩ <;> simp only [List.length_append, List.length_cons, List.length_nil] at hi
  · rw [elt_snoc]
    split
    · push_cast; omega
    · have := h.bd i (by omega); push_cast; omega
  · rw [elt_snoc, elt_snoc, if_neg (by omega)]
    split
    · have := h.bd (i - 1) (by omega); omega
    · exact h.up i h0 (by omega)
  · rw [elt_snoc, elt_snoc, if_neg (by omega)]
    split
    · rename_i e
      rw [Int.toNat_natCast, e]
      rcases hf with hf | hf
      · omega
      · exact hf
    · exact h.ris i h0 (by omega)
theorem twoG_run (s : List Int) (tg : Nat → Int) : ∀ k, RunS s (twoG s tg k).1 k ∧ RunS s (twoG s tg k).2 k
  | 0 => ⟨RunS.nil s, RunS.nil s⟩
  | k + 1 => by
    obtain ⟨h1, h2⟩ := twoG_run s tg k
    refine ⟨?_, ?_⟩
    · simp only [twoG]
      split
      · rename_i h; exact h1.push h.2
      · exact h1.more
    · simp only [twoG]
      split
      · rename_i h; exact h2.push h.2
      · exact h2.more
theorem run_risE {s A : List Int} (hs : seqC s = 0) (h : RunS s A s.length) : risE s A = ((A.length : Int), 0) := by
  unfold risE
  rw [if_neg (by simp [hs]), (lisB_iff A _).2 (fun i hi => ⟨(h.bd i hi).1, (h.bd i hi).2, fun h0 => h.up i h0 hi⟩), if_neg (by simp), if_pos ((risB_iff s A).2 (fun i h0 hi => h.ris i h0 hi))]
def lastQ (s A : List Int) : Int := if A.length = 0 then 0 else lastTp s A
theorem lastQ_snoc (s A : List Int) (k : Nat) : lastQ s (A ++ [(k : Int)]) = elt s k := by
  unfold lastQ lastTp
  rw [if_neg (by simp)]
  simp [elt_snoc]
theorem fit_last {s A : List Int} {k : Nat} (h0 : 0 ≤ elt s k) (h : fitB s A k = true) : lastQ s A ≤ elt s k := by
  unfold fitB at h
  rw [Bool.or_eq_true, decide_eq_true_eq, decide_eq_true_eq] at h
  unfold lastQ
  split
  · exact h0
  · exact h.resolve_left (by assumption)
theorem twoG_path {s : List Int} (hp : ∀ x ∈ s, 0 ≤ x) (tg : Nat → Int) : ∀ k, k ≤ s.length →
    (twoG s tg k).1.length + (twoG s tg k).2.length + twoF (s.drop k) (fun _ _ => 0) (lastQ s (twoG s tg k).1) (lastQ s (twoG s tg k).2) ≤ twoF s (fun _ _ => 0) 0 0
  | 0, _ => by simp [twoG, lastQ]
  | k + 1, hk => by
    have ih := twoG_path hp tg k (by omega)
    have hk0 := hp _ (elt_mem (show k < s.length by omega))
    rw [List.drop_eq_getElem_cons (show k < s.length by omega), show s[k] = elt s k from (elt_lt (by omega)).symm] at ih
    simp only [twoF] at ih
    generalize twoF (s.drop (k + 1)) (fun _ _ => 0) = f at *
    simp only [twoG]
    generalize (twoG s tg k).1 = A at *
    generalize (twoG s tg k).2 = B at *
    by_cases h1 : tg k = 1 ∧ fitB s A k = true
    · rw [if_pos h1, if_neg (by omega), lastQ_snoc]
      have := stp_1 f (lastQ s B) (fit_last hk0 h1.2)
      simp only [List.length_append, List.length_cons, List.length_nil]
      omega
    · rw [if_neg h1]
      by_cases h2 : tg k = 2 ∧ fitB s B k = true
      · rw [if_pos h2, lastQ_snoc]
        have := stp_2 f (lastQ s A) (fit_last hk0 h2.2)
        simp only [List.length_append, List.length_cons, List.length_nil]
        omega
      · rw [if_neg h2]
        have := stp_0 f (elt s k) (lastQ s A) (lastQ s B)
        omega
theorem twoG_most {s : List Int} (hs : seqC s = 0) (tg : Nat → Int) : (twoG s tg s.length).1.length + (twoG s tg s.length).2.length ≤ (row (bldR s s.length).1 0).length + (row (bldR s s.length).1 1).length := by
  have h1 := twoG_path (s := s) (fun x hx => by have := (seqC_ok hs).2 x hx; omega) tg s.length (Nat.le_refl _)
  have h2 := two_most s
  omega
theorem twoG_len (s : List Int) (tg : Nat → Int) : ∀ k, (twoG s tg k).1.length ≤ k ∧ (twoG s tg k).2.length ≤ k
  | 0 => by simp [twoG]
  | k + 1 => by
    obtain ⟨h1, h2⟩ := twoG_len s tg k
    simp only [twoG]
    refine ⟨?_, ?_⟩ <;> split <;> (try simp only [List.length_append, List.length_cons, List.length_nil]) <;> omega
/-- The lengths of the first k rows. -/
def rowsN (R : List (List Int)) : Nat → Nat
  | 0 => 0
  | k + 1 => rowsN R k + (row R k).length
theorem rowsN_bd {R : List (List Int)} (h : Sml R) : ∀ k, rowsN R k ≤ 20 * k
  | 0 => by simp [rowsN]
  | k + 1 => by have := rowsN_bd h k; have := h.2 k; simp only [rowsN]; omega
theorem rowsN_two {R : List (List Int)} {k : Nat} (h : k = R.length ∧ k ≤ 2 ∨ k = 2) : rowsN R k = (row R 0).length + (row R 1).length := by
  rcases h with ⟨h1, h2⟩ | h1
  · have hz : ∀ i, k ≤ i → (row R i).length = 0 := fun i hi => by rw [row_ge (by omega)]; rfl
    match k, h2 with
    | 0, _ => simp [rowsN, hz 0, hz 1]
    | 1, _ => simp [rowsN, hz 1]
    | 2, _ => simp [rowsN]
  · subst h1; simp [rowsN]
end Go.Proofs.Ytnnfahdhmodejaa
