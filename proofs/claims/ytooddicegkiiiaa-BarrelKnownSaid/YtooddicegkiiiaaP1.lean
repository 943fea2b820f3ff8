/- Plain: pins that are joined, the Chinese remainder; no condition. -/
import Derived.Test.YtooddicegkiiiaaV4
namespace Go.Proofs.Ytooddicegkiiiaa

/-- The first time at which all of V sound, and the common period. -/
structure Joined (V : List (Int × Int)) (t p : Int) : Prop where
  t0 : 0 ≤ t
  tp : t < p
  per : ∀ d : Int, p ∣ d ↔ ∀ x ∈ V, x.1 ∣ d
  at_ : ∀ x ∈ V, x.1 ∣ t - x.2
/-- There is a time at which all sound. -/
def Together (V : List (Int × Int)) : Prop := ∃ T : Int, ∀ x ∈ V, x.1 ∣ T - x.2

theorem Joined.nil : Joined [] 0 1 := ⟨by omega, by omega, fun d => by simp [Int.one_dvd], by simp⟩
theorem Joined.together {V : List (Int × Int)} {t p : Int} (h : Joined V t p) : Together V := ⟨t, h.at_⟩
theorem dvd_small {p d : Int} (hp : 0 < p) (h : p ∣ d) (h1 : -p < d) (h2 : d < p) : d = 0 := by
  obtain ⟨k, rfl⟩ := h
  rcases Int.lt_trichotomy k 0 with hk | rfl | hk
  · have : p * k ≤ p * (-1) := Int.mul_le_mul_of_nonneg_left (by omega) (by omega)
    omega
  · simp
  · have : p * 1 ≤ p * k := Int.mul_le_mul_of_nonneg_left (by omega) (by omega)
    omega
theorem Joined.unique {V : List (Int × Int)} {t p t' p' : Int} (h : Joined V t p) (h' : Joined V t' p') : t = t' ∧ p = p' := by
  have hp : 0 < p := by have := h.t0; have := h.tp; omega
  have hp' : 0 < p' := by have := h'.t0; have := h'.tp; omega
  have e : p = p' := by
    have h1 : p ∣ p' := (h.per p').2 ((h'.per p').1 (Int.dvd_refl _))
    have h2 : p' ∣ p := (h'.per p).2 ((h.per p).1 (Int.dvd_refl _))
    have := Int.le_of_dvd hp' h1
    have := Int.le_of_dvd hp h2
    omega
  subst e
  refine ⟨?_, rfl⟩
  have hd : p ∣ t - t' := by
    rw [h.per]
    intro x hx
    have := Int.dvd_sub (h.at_ x hx) (h'.at_ x hx)
    rwa [show t - x.2 - (t' - x.2) = t - t' by omega] at this
  have := dvd_small hp hd (by have := h.t0; have := h'.tp; omega) (by have := h.tp; have := h'.t0; omega)
  omega
/-- Any common time is the first one, up to the common period. -/
theorem Joined.all {V : List (Int × Int)} {t p T : Int} (h : Joined V t p) : (∀ x ∈ V, x.1 ∣ T - x.2) ↔ p ∣ T - t := by
  rw [h.per]
  constructor
  · intro hT x hx
    have := Int.dvd_sub (hT x hx) (h.at_ x hx)
    rwa [show T - x.2 - (t - x.2) = T - t by omega] at this
  · intro hT x hx
    have := Int.dvd_add (hT x hx) (h.at_ x hx)
    rwa [show T - t + (t - x.2) = T - x.2 by omega] at this

theorem gcdI_dvd_left (a b : Int) : gcdI a b ∣ a := Int.gcd_dvd_left a b
theorem gcdI_dvd_right (a b : Int) : gcdI a b ∣ b := Int.gcd_dvd_right a b
theorem dvd_gcdI {a b d : Int} (h1 : d ∣ a) (h2 : d ∣ b) : d ∣ gcdI a b := Int.dvd_coe_gcd h1 h2
theorem gcdI_comm (a b : Int) : gcdI a b = gcdI b a := by unfold gcdI; rw [Int.gcd_comm]

/-- The common period of two. -/
theorem lcm_step {p P : Int} (hp : 1 ≤ p) (hP : 1 ≤ P) (d : Int) : p * (P / gcdI p P) ∣ d ↔ p ∣ d ∧ P ∣ d := by
  have hc := gcdI_pos p P hp
  obtain ⟨a, ha⟩ := gcdI_dvd_left p P
  obtain ⟨b, hb⟩ := gcdI_dvd_right p P
  have hs : P / gcdI p P = b := by rw [hb]; rw [← hb]; exact Int.ediv_eq_of_eq_mul_right (by omega) hb
  rw [hs]
  have hl : p * b = ((Int.lcm p P : Nat) : Int) := by
    have h1 : ((Int.gcd p P : Nat) : Int) * ((Int.lcm p P : Nat) : Int) = p * P := by
      rw [← Int.natCast_mul, Int.gcd_mul_lcm, Int.natCast_mul]
      rw [Int.natAbs_of_nonneg (by omega), Int.natAbs_of_nonneg (by omega)]
    have h2 : gcdI p P * (p * b) = gcdI p P * ((Int.lcm p P : Nat) : Int) := by
      rw [show gcdI p P * ((Int.lcm p P : Nat) : Int) = p * P from h1]
      conv => rhs; rw [hb]
      rw [← Int.mul_assoc, ← Int.mul_assoc, Int.mul_comm (gcdI p P) p]
    exact Int.eq_of_mul_eq_mul_left (by omega) h2
  rw [hl]
  exact Int.coe_lcm_dvd_iff
theorem steps_pos {p P : Int} (hp : 1 ≤ p) (hP : 1 ≤ P) : 1 ≤ P / gcdI p P ∧ P / gcdI p P ≤ P ∧ gcdI p P * (P / gcdI p P) = P := by
  have hc := gcdI_pos p P hp
  have h1 : gcdI p P * (P / gcdI p P) = P := Int.mul_ediv_cancel' (gcdI_dvd_right p P)
  refine ⟨?_, Int.ediv_le_self _ (by omega), h1⟩
  have : 0 < P / gcdI p P := Int.ediv_pos_of_pos_of_dvd (by omega) (by omega) (gcdI_dvd_right p P)
  omega
theorem Joined.snoc {V : List (Int × Int)} {t p n : Int} {x : Int × Int} (h : Joined V t p) (hP : 1 ≤ x.1) (hn : 0 ≤ n) (hs : n < x.1 / gcdI p x.1) (ha : x.1 ∣ t + n * p - x.2) : Joined (V ++ [x]) (t + n * p) (p * (x.1 / gcdI p x.1)) := by
  have hp : 1 ≤ p := by have := h.t0; have := h.tp; omega
  have hnp : 0 ≤ n * p := Int.mul_nonneg hn (by omega)
  refine ⟨by have := h.t0; omega, ?_, fun d => ?_, fun y hy => ?_⟩
  · have h1 : n * p ≤ (x.1 / gcdI p x.1 - 1) * p := Int.mul_le_mul_of_nonneg_right (by omega) (by omega)
    rw [Int.sub_mul, Int.one_mul, Int.mul_comm (x.1 / gcdI p x.1) p] at h1
    have := h.tp
    omega
  · rw [lcm_step hp hP, h.per]
    simp only [List.mem_append, List.mem_singleton]
    constructor
    · rintro ⟨h1, h2⟩ y (hy | rfl)
      · exact h1 y hy
      · exact h2
    · intro h1; exact ⟨fun y hy => h1 y (.inl hy), h1 x (.inr rfl)⟩
  · simp only [List.mem_append, List.mem_singleton] at hy
    rcases hy with hy | rfl
    · have h1 : y.1 ∣ p := (h.per p).1 (Int.dvd_refl _) y hy
      have := Int.dvd_add (h.at_ y hy) (Int.dvd_mul_of_dvd_right (b := n) h1)
      rwa [show t - y.2 + n * p = t + n * p - y.2 by omega] at this
    · exact ha
/-- If no step fits, there is no common time. -/
theorem Joined.none {V : List (Int × Int)} {t p : Int} {x : Int × Int} (h : Joined V t p) (hP : 1 ≤ x.1) (hno : ∀ n : Int, 0 ≤ n → n < x.1 / gcdI p x.1 → ¬ x.1 ∣ t + n * p - x.2) : ¬ Together (V ++ [x]) := by
  have hp : 1 ≤ p := by have := h.t0; have := h.tp; omega
  rintro ⟨T, hT⟩
  have h1 := h.all.1 fun y hy => hT y (by simp [hy])
  have h2 := hT x (by simp)
  obtain ⟨q, hq⟩ := h1
  obtain ⟨s1, _, _⟩ := steps_pos hp hP
  refine hno (q % (x.1 / gcdI p x.1)) (Int.emod_nonneg _ (by omega)) (Int.emod_lt_of_pos _ (by omega)) ?_
  have hx : x.1 ∣ p * (x.1 / gcdI p x.1) := ((lcm_step hp hP _).1 (Int.dvd_refl _)).2
  have h3 := Int.dvd_sub h2 (Int.dvd_mul_of_dvd_left (c := q / (x.1 / gcdI p x.1)) hx)
  have e := Int.mul_ediv_add_emod q (x.1 / gcdI p x.1)
  generalize x.1 / gcdI p x.1 = s at *
  have e2 : p * (s * (q / s)) + p * (q % s) = p * q := by rw [← Int.mul_add, e]
  rw [show t + q % s * p - x.2 = T - x.2 - p * s * (q / s) by rw [Int.mul_comm (q % s) p, Int.mul_assoc]; omega]
  exact h3
end Go.Proofs.Ytooddicegkiiiaa
