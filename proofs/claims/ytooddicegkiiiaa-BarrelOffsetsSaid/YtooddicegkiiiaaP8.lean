/- Plain: facts for the laws; no condition. -/
import Derived.Test.YtooddicegkiiiaaWk
namespace Go.Proofs.Ytooddicegkiiiaa

theorem snd_all (V : List (Int × Int)) (T : Int) : (sndK V T V.length).length = V.length ↔ ∀ x ∈ V, x.1 ∣ T - x.2 := by
  unfold sndK sndN
  rw [natL_len]
  have h := List.length_filter_eq_length_iff (l := List.range V.length) (p := fun i => sndB (pin V i) T)
  rw [List.length_range] at h
  rw [h]
  constructor
  · intro h x hx
    obtain ⟨i, hi, rfl⟩ := List.getElem_of_mem hx
    have := h i (List.mem_range.2 hi)
    simp only [sndB, decide_eq_true_eq] at this
    rw [Int.dvd_iff_emod_eq_zero]
    simpa [pin, hi] using this
  · intro h i hi
    have hi := List.mem_range.1 hi
    have := h _ (pin_mem hi)
    rw [Int.dvd_iff_emod_eq_zero] at this
    simpa [sndB] using this
theorem open_time {V : List (Int × Int)} (hc : checkP V = 0) {T : Int} (h0 : 0 ≤ T) (h1 : T ≤ 1000000000000) : openE V [T] = 0 ∧ sndR V T = sndK V T V.length := by
  have : openE V [T] = 0 := by
    rw [openE_ok _ hc, if_neg]
    simp [outB]; omega
  exact ⟨this, by unfold sndR; rw [if_pos this]⟩
theorem least {P : Nat → Prop} (h : ∃ n, P n) : ∃ n, P n ∧ ∀ m, m < n → ¬ P m := by
  apply Classical.byContradiction
  intro hne
  have key : ∀ n, ¬ P n := by
    intro n
    induction n using Nat.strongRecOn with
    | _ n ih => exact fun hp => hne ⟨n, hp, ih⟩
  obtain ⟨n, hn⟩ := h
  exact key n hn
theorem first_ex {V : List (Int × Int)} (h : ¬ Free V) : ∃ i k, FirstCl V i k := by
  have h1 : ∃ i, ∃ k, i < k ∧ k < V.length ∧ clB (pin V i) (pin V k) = true := by
    apply Classical.byContradiction
    intro hne
    refine h fun i k hi hk => ?_
    cases hc : clB (pin V i) (pin V k) with
    | false => rfl
    | true => exact absurd ⟨i, k, hi, hk, hc⟩ hne
  obtain ⟨i, hi, hmi⟩ := least h1
  obtain ⟨k, ⟨k1, k2, k3⟩, hmk⟩ := least hi
  refine ⟨i, k, k1, k2, k3, fun a b h1 h2 h3 => ?_⟩
  have a1 : ¬ a < i := fun ha => hmi a ha ⟨b, h1, h2, h3⟩
  by_cases e : a = i
  · subst e
    have : ¬ b < k := fun hb => hmk b hb ⟨h1, h2, h3⟩
    omega
  · omega
theorem clash_yes {V : List (Int × Int)} (hc : checkP V = 0) (h : Free V) : clA V = 0 ∧ clK V = 0 ∧ clE' V = 5 := by
  unfold clA clK clE'
  rw [if_pos hc, if_pos hc, if_pos hc, if_pos h, clP_free h]
  exact ⟨rfl, rfl, rfl⟩
theorem clash_at {V : List (Int × Int)} (hc : checkP V = 0) {i k : Nat} (h : FirstCl V i k) : clA V = i ∧ clK V = k ∧ clE' V = 0 := by
  unfold clA clK clE'
  rw [if_pos hc, if_pos hc, if_pos hc, if_neg (fun hf => by have := hf i k h.lt h.len; rw [h.cl] at this; cases this), clP_of h]
  exact ⟨rfl, rfl, rfl⟩
theorem cc_at {V : List (Int × Int)} (hc : checkP V = 0) {i k : Nat} (hi : i < V.length) (hk : k < V.length) (hik : i ≠ k) :
    ccN V i k = (if clB (pin V i) (pin V k) then gcdI (pin V i).1 (pin V k).1 else 0) ∧ ccE V i k = if clB (pin V i) (pin V k) then 0 else 14 := by
  have hb : badTwo V i k = false := by simp [badTwo, outB]; omega
  have f1 : ccN V i k = if badTwo V i k then 0 else if clB (pin V (i : Int).toNat) (pin V (k : Int).toNat) then gcdI (pin V (i : Int).toNat).1 (pin V (k : Int).toNat).1 else 0 := by unfold ccN; rw [if_neg (by simpa using hc)]
  have f2 : ccE V i k = if badTwo V i k then 2 else if clB (pin V (i : Int).toNat) (pin V (k : Int).toNat) then 0 else 14 := by unfold ccE; rw [if_neg (by simpa using hc)]
  rw [f1, f2, hb]
  exact ⟨rfl, rfl⟩
end Go.Proofs.Ytooddicegkiiiaa
