/- Plain: pins of which no two clash sound together; no condition. -/
import Derived.Test.YtooddicegkiiiaaP3
import Derived.Test.YtooddicegkiiiaaV9
namespace Go.Proofs.Ytooddicegkiiiaa

theorem EI.exists {n s : Int} (hg : Int.gcd n s = 1) : ∀ (k : Nat) (X Y a b : Int), Y.toNat ≤ k → EI n s X Y a b → ∃ v, s ∣ n * v - 1
  | 0, X, Y, a, b, hk, h => by
    obtain rfl : Y = 0 := by have := h.y0; omega
    exact ⟨_, h.done hg⟩
  | k + 1, X, Y, a, b, hk, h => by
    by_cases hy : Y = 0
    · subst hy; exact ⟨_, h.done hg⟩
    · have := h.step hy
      have e : X - X / Y * Y = X % Y := by have := Int.mul_ediv_add_emod X Y; rw [Int.mul_comm]; omega
      have hlt := Int.emod_lt_of_pos X (b := Y) (by have := h.y0; omega)
      exact EI.exists hg k _ _ _ _ (by rw [e]; omega) this
theorem inv_exists {n s : Int} (hs : 1 ≤ s) (hg : Int.gcd n s = 1) : ∃ v, s ∣ n * v - 1 := EI.exists hg _ _ _ _ _ (Nat.le_refl _) (EI.start hs)
theorem free_of_pairwise {V : List (Int × Int)} : Free V ↔ V.Pairwise fun a b => clB a b = false := by
  rw [List.pairwise_iff_getElem]
  constructor
  · intro h i k hi hk hik
    have := h i k hik hk
    simpa [pin, hi, hk] using this
  · intro h i k hik hk
    have := h i k (by omega) hk hik
    simpa [pin, show i < V.length by omega, hk] using this
theorem Joined.exists : ∀ (k : Nat) (V : List (Int × Int)), V.length = k → (∀ x ∈ V, 1 ≤ x.1) → Free V → ∃ t p, Joined V t p
  | 0, V, hk, _, _ => by
    obtain rfl := List.length_eq_zero_iff.1 hk
    exact ⟨0, 1, Joined.nil⟩
  | k + 1, V, hk, hV, hF => by
    have hne : V ≠ [] := by intro h; subst h; cases hk
    obtain ⟨L, x, rfl⟩ : ∃ L x, V = L ++ [x] := ⟨V.dropLast, V.getLast hne, (List.dropLast_concat_getLast hne).symm⟩
    have hF2 := free_of_pairwise.1 hF
    rw [List.pairwise_append] at hF2
    obtain ⟨h1, _, h3⟩ := hF2
    obtain ⟨t, p, hJ⟩ := Joined.exists k L (by simpa using hk) (fun y hy => hV y (by simp [hy])) (free_of_pairwise.2 h1)
    have hx := hV x (by simp)
    have hp : 1 ≤ p := by have := hJ.t0; have := hJ.tp; omega
    obtain ⟨s1, _, _⟩ := steps_pos hp hx
    obtain ⟨v, hv⟩ := inv_exists s1 (coprime_div (P := x.1) hp)
    refine ⟨_, _, hJ.prog (v := v) (fun y hy => hV y (by simp [hy])) hx (fun y hy => ?_) (fun _ => hv)⟩
    have := h3 y hy x (by simp)
    rw [clB_comm, clB_false, gcdI_comm] at this
    exact this
theorem free_together {V : List (Int × Int)} (hV : ∀ x ∈ V, 1 ≤ x.1) : Free V ↔ Together V :=
  ⟨fun h => by obtain ⟨t, p, hJ⟩ := Joined.exists _ V rfl hV h; exact hJ.together, Together.free⟩
theorem jO_free {V : List (Int × Int)} (hV : OkV V) : jO V = true ↔ Free V := by
  rw [free_together fun x hx => (hV x hx).1]
  constructor
  · intro h; exact (j_true hV h).together
  · intro h
    cases hj : jO V with
    | true => rfl
    | false => exact absurd h (j_false hV hj).1
theorem grp_free {V : List (Int × Int)} {g : List Nat} : Grp V g ↔ Free (g.map (pin V)) := by
  rw [free_of_pairwise, List.pairwise_map]; rfl
end Go.Proofs.Ytooddicegkiiiaa
