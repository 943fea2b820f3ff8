/- Lists of jobs by marks, and whether they are free of one another; plain, no condition. -/
import Derived.Test.YteknehlkdgamjaaGreatMGS
import Derived.Test.YteknehlkdgamjaaGreatMGE
namespace Go.Proofs.YteknehlkdgamjaaGreat
open Go.RowKit Go.Shelf

/-- The marked ones of the first k jobs. -/
def fltN (p : Nat → Bool) (k : Nat) : List Nat := (List.range k).filter p
theorem fltN_succ (p : Nat → Bool) (k : Nat) : fltN p (k + 1) = if p k = true then fltN p k ++ [k] else fltN p k := by
  unfold fltN
  rw [List.range_succ, List.filter_append]
  by_cases h : p k = true
  · rw [if_pos h]; simp [h]
  · rw [if_neg h]; simp [h]
theorem fltN_le (p : Nat → Bool) (k : Nat) : (fltN p k).length ≤ k := by
  have := List.length_filter_le p (List.range k)
  rwa [List.length_range] at this
theorem fltN_lt {p : Nat → Bool} {k x : Nat} (h : x ∈ fltN p k) : x < k := List.mem_range.1 (List.mem_filter.1 h).1
theorem fltN_nodup (p : Nat → Bool) (k : Nat) : (fltN p k).Nodup := List.nodup_range.filter _
theorem fltN_lis (p : Nat → Bool) : ∀ k, LisTo (ints (fltN p k)) k (ints (fltN p k)).length
  | 0 => fun j h => by simp [fltN, ints] at h
  | k + 1 => by
    have ih := fltN_lis p k
    rw [fltN_succ]
    by_cases h : p k = true
    · rw [if_pos h, ints_snoc, List.length_append, List.length_singleton]
      intro j hj
      rw [elt_snoc]
      by_cases e : j = (ints (fltN p k)).length
      · rw [if_pos e]
        refine ⟨by omega, by omega, fun h0 => ?_⟩
        rw [elt_snoc, if_neg (by omega)]
        exact (ih (j - 1) (by omega)).2.1
      · rw [if_neg e]
        obtain ⟨a1, a2, a3⟩ := ih j (by omega)
        refine ⟨a1, by omega, fun h0 => ?_⟩
        rw [elt_snoc, if_neg (by omega)]
        exact a3 h0
    · rw [if_neg h]
      intro j hj
      obtain ⟨a1, a2, a3⟩ := ih j hj
      exact ⟨a1, by omega, a3⟩
theorem tied_flt {J : List Job} {l : List Nat} : tiedTo J (ints l) (ints l).length = true ↔ ∃ i ∈ l, ∃ k ∈ l, aft J i k = true := by
  unfold tiedTo pairTo
  rw [List.any_eq_true]
  constructor
  · rintro ⟨i, hi, h⟩
    rw [List.any_eq_true] at h
    obtain ⟨k, hk, h⟩ := h
    rw [List.mem_range, ints_len] at hi hk
    rw [ints_at hi, ints_at hk, Int.toNat_natCast, Int.toNat_natCast] at h
    exact ⟨_, List.getElem_mem hi, _, List.getElem_mem hk, h⟩
  · rintro ⟨i, hi, k, hk, h⟩
    obtain ⟨a, ha, rfl⟩ := List.mem_iff_getElem.1 hi
    obtain ⟨b, hb, rfl⟩ := List.mem_iff_getElem.1 hk
    refine ⟨a, by rw [List.mem_range, ints_len]; exact ha, ?_⟩
    rw [List.any_eq_true]
    refine ⟨b, by rw [List.mem_range, ints_len]; exact hb, ?_⟩
    rw [ints_at ha, ints_at hb, Int.toNat_natCast, Int.toNat_natCast]; exact h
/-- Marked jobs: either free of one another, and so many; or they are not. -/
theorem flt_code {J : List Job} (h0 : errC J = 0) (p : Nat → Bool) :
    (FreeN J (fltN p J.length) ∧ freeC J (ints (fltN p J.length)) = 0 ∧ freeV J (ints (fltN p J.length)) = ((fltN p J.length).length : Int)) ∨ (¬ FreeN J (fltN p J.length) ∧ freeC J (ints (fltN p J.length)) = 16 ∧ freeV J (ints (fltN p J.length)) = 0) := by
  have hl : lisB (ints (fltN p J.length)) J.length = true := (lisB_iff _ _).2 (fltN_lis p J.length)
  cases ht : tiedTo J (ints (fltN p J.length)) (ints (fltN p J.length)).length with
  | true =>
    have h1 : freeC J (ints (fltN p J.length)) = 16 := by unfold freeC; rw [if_pos h0, if_pos hl, if_pos ht]
    refine .inr ⟨fun hf => ?_, h1, by unfold freeV; rw [h1]; rfl⟩
    obtain ⟨i, hi, k, hk, h⟩ := tied_flt.1 ht
    rw [hf.2.2 i hi k hk] at h; cases h
  | false =>
    have h1 : freeC J (ints (fltN p J.length)) = 0 := by unfold freeC; rw [if_pos h0, if_pos hl, ht]; rfl
    refine .inl ⟨⟨fltN_nodup _ _, fun i hi => fltN_lt hi, fun i hi k hk => ?_⟩, h1, by unfold freeV; rw [if_pos h1, ints_len]⟩
    cases ha : aft J i k with
    | false => rfl
    | true => rw [tied_flt.2 ⟨i, hi, k, hk, ha⟩] at ht; cases ht
theorem frTo_code {J : List Job} (h0 : errC J = 0) {nx bf F G : List Int} (h : FrI J nx bf F G [] J.length 0) :
    freeC J (ints (frTo F G J.length)) = 0 ∧ freeV J (ints (frTo F G J.length)) = ((frTo F G J.length).length : Int) := by
  rcases flt_code h0 (fun q => decide (0 < elt F q) && (elt G q == 0)) with ⟨_, h1, h2⟩ | ⟨h1, _⟩
  · exact ⟨h1, h2⟩
  · exact absurd h.free h1
/-- The rows are too many, or one is too long. -/
def mxR (R : List (List Int)) : Nat → Nat
  | 0 => 0
  | k + 1 => max (mxR R k) (row R k).length
theorem mxR_le {R : List (List Int)} {c : Nat} : ∀ {k : Nat}, mxR R k ≤ c ↔ ∀ i, i < k → (row R i).length ≤ c
  | 0 => by simp [mxR]
  | k + 1 => by
    rw [mxR, Nat.max_le, mxR_le]
    constructor
    · rintro ⟨h1, h2⟩ i hi
      rcases Nat.lt_or_ge i k with h | h
      · exact h1 i h
      · rw [show i = k by omega]; exact h2
    · exact fun h => ⟨fun i hi => h i (by omega), h k (by omega)⟩
def longB (R : List (List Int)) : Bool := decide (20 < R.length) || decide (20 < mxR R R.length)
theorem long_sml {R : List (List Int)} : longB R = false ↔ Sml R := by
  unfold longB Sml
  rw [Bool.or_eq_false_iff, decide_eq_false_iff_not, decide_eq_false_iff_not, Nat.not_lt, Nat.not_lt, mxR_le]
  constructor
  · rintro ⟨h1, h2⟩
    refine ⟨h1, fun i => ?_⟩
    rcases Nat.lt_or_ge i R.length with h | h
    · exact h2 i h
    · rw [row_ge h]; simp
  · exact fun h => ⟨h.1, fun i _ => h.2 i⟩
/-- What Width asks. -/
theorem width_facts {J : List Job} (h0 : errC J = 0) {nx bf F G nx' bf' : List Int} (hm : MatI J nx bf J.length) (hf : FrI J nx bf F G [] J.length 0) (hm' : MatI J nx' bf' J.length) :
    (frTo F G J.length).length ≤ J.length ∧ Sml (covI J nx' bf' J.length) ∧ coverC J (covI J nx' bf' J.length) = 0 ∧ coverV J (covI J nx' bf' J.length) = ((frTo F G J.length).length : Int) := by
  obtain ⟨hJ, hc⟩ := fine_err h0
  have h1 := cover_good h0 hm'
  refine ⟨sub_len hf.free.1 hf.free.2.1, cover_sml h0 hm', h1.1, ?_⟩
  rw [h1.2, free_cover hJ hc hm hf hm']
theorem width_own {J : List Job} (h0 : errC J = 0) {nx bf F G : List Int} (hm : MatI J nx bf J.length) (hf : FrI J nx bf F G [] J.length 0) (p : Nat → Bool) :
    (freeC J (ints (fltN p J.length)) = 0 ∧ freeV J (ints (fltN p J.length)) = ((fltN p J.length).length : Int) ∧ (fltN p J.length).length ≤ (frTo F G J.length).length) ∨ (freeC J (ints (fltN p J.length)) = 16 ∧ freeV J (ints (fltN p J.length)) = 0) := by
  obtain ⟨hJ, hc⟩ := fine_err h0
  rcases flt_code h0 p with ⟨h1, h2, h3⟩ | ⟨_, h2, h3⟩
  · exact .inl ⟨h2, h3, free_most hJ hc hm hf h1⟩
  · exact .inr ⟨h2, h3⟩
theorem width_cov {J : List Job} {nx bf F G : List Int} (hf : FrI J nx bf F G [] J.length 0) {R : List (List Int)} (h : coverC J R = 0) : ((frTo F G J.length).length : Int) ≤ coverV J R := by
  have := cover_most h hf.free
  omega
end Go.Proofs.YteknehlkdgamjaaGreat
