/- Plain: 2^k noisy times one after another, of k pins: all later ones are noisy; no condition. -/
import Derived.Test.YtooddicegkiiiaaR13
namespace Go.Proofs.Ytooddicegkiiiaa

/-- Functions of a time and of as many numbers as wanted. -/
abbrev Fn := Int → (Nat → Int) → Int
/-- One step of a time less one step along S. -/
def stepF (S : Nat → Int) (G : Fn) : Fn := fun t u => G (t + 1) u - G t (fun n => u n - S n)
def killF : List (Nat → Int) → Fn → Fn
  | [], G => G
  | S :: r, G => killF r (stepF S G)
theorem kill_zeros : ∀ (r : List (Nat → Int)) (G : Fn) (t : Int), (∀ s u, killF r G s u = 0) → (∀ n : Nat, n < r.length → ∀ u, G (t + n) u = 0) → ∀ u, G (t + r.length) u = 0
  | [], G, t, h, _, u => by simpa [killF] using h t u
  | S :: r, G, t, h, hz, u => by
    have h1 := kill_zeros r (stepF S G) t h (fun n hn u => by
      unfold stepF
      have a := hz (n + 1) (by simp; omega) u
      have b := hz n (by simp; omega) (fun m => u m - S m)
      rw [show t + (n : Int) + 1 = t + ((n + 1 : Nat) : Int) by omega, a, b]; rfl) u
    unfold stepF at h1
    have b := hz r.length (by simp) (fun m => u m - S m)
    rw [b, show t + (r.length : Int) + 1 = t + ((S :: r).length : Int) by simp; omega] at h1
    omega
theorem step_comm (S S' : Nat → Int) (G : Fn) : stepF S (stepF S' G) = stepF S' (stepF S G) := by
  funext t u
  unfold stepF
  have e : (fun n => (fun n => u n - S n) n - S' n) = (fun n => (fun n => u n - S' n) n - S n) := by funext n; simp only; omega
  rw [e]
  omega
theorem kill_step (S : Nat → Int) : ∀ (r : List (Nat → Int)) (G : Fn), killF r (stepF S G) = stepF S (killF r G)
  | [], _ => rfl
  | S' :: r, G => by rw [killF, killF, step_comm, kill_step S r]
theorem kill_append : ∀ (r s : List (Nat → Int)) (G : Fn), killF (r ++ s) G = killF s (killF r G)
  | [], _, _ => rfl
  | S :: r, s, G => by rw [List.cons_append, killF, kill_append r s, killF]
theorem kill_comm : ∀ (r s : List (Nat → Int)) (G : Fn), killF r (killF s G) = killF s (killF r G)
  | [], _, _ => rfl
  | S :: r, s, G => by
    rw [killF, killF, ← kill_step, kill_comm r s]
theorem step_sub (S : Nat → Int) (G H : Fn) : stepF S (fun t u => G t u - H t u) = fun t u => stepF S G t u - stepF S H t u := by
  funext t u; simp only [stepF]; omega
theorem kill_sub : ∀ (r : List (Nat → Int)) (G H : Fn), killF r (fun t u => G t u - H t u) = fun t u => killF r G t u - killF r H t u
  | [], _, _ => rfl
  | S :: r, G, H => by rw [killF, step_sub, kill_sub r]; rfl
def zeroF : Fn := fun _ _ => 0
theorem kill_zero : ∀ r : List (Nat → Int), killF r zeroF = zeroF
  | [] => rfl
  | S :: r => by
    rw [killF]
    have : stepF S zeroF = zeroF := by funext t u; simp [stepF, zeroF]
    rw [this, kill_zero r]
def consS (a : Int) (S : Nat → Int) : Nat → Int := fun n => match n with | 0 => a | n + 1 => S n
def tailU (u : Nat → Int) : Nat → Int := fun n => u (n + 1)
theorem kill_still (d : Int → Int) : ∀ (r : List (Nat → Int)) (H : Fn), killF (r.map (consS 0)) (fun t u => d (u 0) * H t (tailU u)) = fun t u => d (u 0) * killF r H t (tailU u)
  | [], _ => rfl
  | S :: r, H => by
    rw [List.map_cons, killF, killF, ← kill_still d r]
    congr 1
    funext t u
    unfold stepF
    have e : tailU (fun n => u n - consS 0 S n) = fun n => tailU u n - S n := rfl
    have e0 : u 0 - consS 0 S 0 = u 0 := by simp [consS]
    simp only [e, e0]
    rw [Int.mul_sub]
theorem kill_move (d : Int → Int) : ∀ (r : List (Nat → Int)) (H : Fn) (c : Int), killF (r.map (consS 1)) (fun t u => d (u 0 - t + c) * H t (tailU u)) = fun t u => d (u 0 - t + c - r.length) * killF r H t (tailU u)
  | [], H, c => by funext t u; simp [killF]
  | S :: r, H, c => by
    rw [List.map_cons, killF, killF]
    have e : stepF (consS 1 S) (fun t u => d (u 0 - t + c) * H t (tailU u)) = fun t u => d (u 0 - t + (c - 1)) * stepF S H t (tailU u) := by
      funext t u
      unfold stepF
      have e1 : tailU (fun n => u n - consS 1 S n) = fun n => tailU u n - S n := rfl
      have e0 : u 0 - consS 1 S 0 = u 0 - 1 := rfl
      simp only [e1, e0]
      rw [Int.mul_sub, show u 0 - (t + 1) + c = u 0 - t + (c - 1) by omega, show u 0 - 1 - t + c = u 0 - t + (c - 1) by omega]
    rw [e, kill_move d r]
    funext t u
    rw [show u 0 - t + (c - 1) - (r.length : Int) = u 0 - t + c - ((S :: r).length : Int) by simp; omega]
def subsS : Nat → List (Nat → Int)
  | 0 => [fun _ => 0]
  | k + 1 => (subsS k).map (consS 0) ++ (subsS k).map (consS 1)
theorem subsS_len : ∀ k, (subsS k).length = 2 ^ k
  | 0 => rfl
  | k + 1 => by rw [subsS, List.length_append, List.length_map, List.length_map, subsS_len k]; omega
def delta (P a : Int) : Int := if P ∣ a then 1 else 0
/-- It is 0 wherever one of the pins sounds, and only there. -/
def noiseF : List (Int × Int) → Fn
  | [] => fun _ _ => 1
  | x :: V => fun t u => delta x.1 (u 0) * noiseF V t (tailU u) - delta x.1 (u 0 - t + x.2) * noiseF V t (tailU u)
theorem noise_kill : ∀ V : List (Int × Int), killF (subsS V.length) (noiseF V) = zeroF
  | [] => by funext t u; simp [subsS, killF, stepF, noiseF, zeroF]
  | x :: V => by
    have ih := noise_kill V
    rw [List.length_cons, subsS, noiseF, kill_sub]
    have h1 : killF ((subsS V.length).map (consS 0)) (fun t u => delta x.1 (u 0) * noiseF V t (tailU u)) = zeroF := by
      rw [kill_still, ih]; funext t u; simp [zeroF]
    have h2 : killF ((subsS V.length).map (consS 1)) (fun t u => delta x.1 (u 0 - t + x.2) * noiseF V t (tailU u)) = zeroF := by
      rw [kill_move, ih]; funext t u; simp [zeroF]
    rw [kill_append, kill_append, h1, kill_zero, kill_comm, h2, kill_zero]
    funext t u
    simp [zeroF]
theorem noise_zero : ∀ (V : List (Int × Int)) (t : Int), (∃ x ∈ V, x.1 ∣ t - x.2) → ∀ u, noiseF V t u = 0
  | [], _, ⟨_, h, _⟩, _ => by cases h
  | x :: V, t, ⟨y, hy, hd⟩, u => by
    simp only [noiseF]
    rcases List.mem_cons.1 hy with rfl | hy
    · have : delta y.1 (u 0 - t + y.2) = delta y.1 (u 0) := by
        unfold delta
        have h : (y.1 ∣ u 0 - t + y.2) ↔ (y.1 ∣ u 0) := by
          rw [show u 0 - t + y.2 = u 0 - (t - y.2) by omega]
          constructor
          · intro h
            have := Int.dvd_add h hd
            rwa [show u 0 - (t - y.2) + (t - y.2) = u 0 by omega] at this
          · intro h; exact Int.dvd_sub h hd
        simp only [h]
      rw [this, Int.sub_self]
    · rw [noise_zero V t ⟨y, hy, hd⟩]; simp
theorem noise_one : ∀ (V : List (Int × Int)) (t : Int), (∀ x ∈ V, ¬ x.1 ∣ t - x.2) → noiseF V t (fun _ => 0) = 1
  | [], _, _ => rfl
  | x :: V, t, h => by
    simp only [noiseF]
    have h1 : delta x.1 0 = 1 := by simp [delta]
    have h2 : delta x.1 (0 - t + x.2) = 0 := by
      unfold delta
      rw [if_neg]
      intro hd
      refine h x (by simp) ?_
      have := Int.dvd_neg.2 hd
      rwa [show -(0 - t + x.2) = t - x.2 by omega] at this
    have h3 := noise_one V t (fun y hy => h y (by simp [hy]))
    have e : tailU (fun _ => 0) = fun _ => (0 : Int) := rfl
    rw [h1, h2, e, h3]; rfl
theorem noisy_next (V : List (Int × Int)) (t : Int) (h : ∀ n : Nat, n < 2 ^ V.length → ∃ x ∈ V, x.1 ∣ t + n - x.2) : ∃ x ∈ V, x.1 ∣ t + (2 ^ V.length : Nat) - x.2 := by
  have hz := kill_zeros (subsS V.length) (noiseF V) t (fun s u => by rw [noise_kill]; rfl) (fun n hn u => noise_zero V _ (h n (by rw [subsS_len] at hn; exact hn)) u) (fun _ => 0)
  rw [subsS_len] at hz
  apply Classical.byContradiction
  intro hne
  have := noise_one V (t + (2 ^ V.length : Nat)) (fun x hx hd => hne ⟨x, hx, hd⟩)
  omega
theorem noisy_all (V : List (Int × Int)) : ∀ (m : Nat) (t : Int), (∀ n : Nat, n < 2 ^ V.length → ∃ x ∈ V, x.1 ∣ t + n - x.2) → ∃ x ∈ V, x.1 ∣ t + m - x.2
  | 0, _, h => h 0 (Nat.pos_of_ne_zero (by simp))
  | m + 1, t, h => by
    have := noisy_all V m (t + 1) (fun n hn => by
      by_cases e : n + 1 < 2 ^ V.length
      · have := h (n + 1) e
        rwa [show t + ((n + 1 : Nat) : Int) = t + 1 + n by omega] at this
      · have := noisy_next V t h
        rwa [show t + ((2 ^ V.length : Nat) : Int) = t + 1 + n by omega] at this)
    rwa [show t + 1 + (m : Int) = t + ((m + 1 : Nat) : Int) by omega] at this
theorem hush_not (V : List (Int × Int)) (t : Int) : hushB V t = false ↔ ∃ x ∈ V, x.1 ∣ t - x.2 := by
  unfold hushB
  rw [List.all_eq_false]
  simp [sndB, Int.dvd_iff_emod_eq_zero]
theorem quiet_enough (V : List (Int × Int)) (t : Int) (m : Nat) (hm : 2 ^ V.length ≤ m) : quietO V t m = quietO V t (2 ^ V.length) := by
  cases h : quietO V t (2 ^ V.length) with
  | none =>
    unfold quietO at h
    rw [List.find?_eq_none] at h
    refine quietO_none fun n _ => ?_
    rw [hush_not]
    refine noisy_all V n t fun k hk => ?_
    rw [← hush_not]
    have := h k (List.mem_range.2 hk)
    simpa using this
  | some n =>
    unfold quietO at h
    rw [List.find?_range_eq_some] at h
    obtain ⟨h1, h2, h3⟩ := h
    exact quietO_some (Nat.lt_of_lt_of_le (List.mem_range.1 h2) hm) (fun k hk => by have := h3 k hk; simpa using this) h1
theorem rquiet_eq (V : List (Int × Int)) (t : Int) : rquietN V t = quietN V t ∧ rquietE V t = quietE V t := by
  unfold rquietN quietN rquietE quietE
  by_cases h : openE V [t] = 0
  · have h5 := (okPins_of (openE_zero h).1).l5
    have : 2 ^ V.length ≤ 32 := Nat.pow_le_pow_right (n := 2) (by omega) h5
    rw [quiet_enough V t 32 this]
    exact ⟨rfl, rfl⟩
  · rw [if_neg h, if_neg h, if_neg h, if_neg h]
    exact ⟨rfl, rfl⟩
end Go.Proofs.Ytooddicegkiiiaa
