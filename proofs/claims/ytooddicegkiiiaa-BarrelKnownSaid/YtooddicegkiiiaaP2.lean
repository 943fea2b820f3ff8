/- Plain: pins sound together if no two clash; the document's search; no condition. -/
import Derived.Test.YtooddicegkiiiaaP1
namespace Go.Proofs.Ytooddicegkiiiaa

theorem gcd_lcm_dvd {a b P D : Nat} (ha : 0 < a) (h1 : Nat.gcd a P ∣ D) (h2 : Nat.gcd b P ∣ D) : Nat.gcd (Nat.lcm a b) P ∣ D := by
  have hd : 0 < Nat.gcd a b := Nat.gcd_pos_of_pos_left _ ha
  obtain ⟨a', ea⟩ := Nat.gcd_dvd_left a b
  obtain ⟨b', eb⟩ := Nat.gcd_dvd_right a b
  have hco : Nat.gcd a' b' = 1 := by
    have h : Nat.gcd a b * Nat.gcd a' b' = Nat.gcd a b * 1 := by
      rw [← Nat.gcd_mul_left, ← ea, ← eb, Nat.mul_one]
    exact Nat.eq_of_mul_eq_mul_left hd h
  have L1 : Nat.lcm a b = a * b' := by
    have h : Nat.gcd a b * Nat.lcm a b = Nat.gcd a b * (a * b') := by
      rw [Nat.gcd_mul_lcm]; conv => lhs; rw [eb]
      rw [← Nat.mul_assoc, ← Nat.mul_assoc, Nat.mul_comm a]
    exact Nat.eq_of_mul_eq_mul_left hd h
  have L2 : Nat.lcm a b = b * a' := by
    have h : Nat.gcd a b * Nat.lcm a b = Nat.gcd a b * (b * a') := by
      rw [Nat.gcd_mul_lcm]; conv => lhs; rw [ea]
      rw [← Nat.mul_assoc, Nat.mul_right_comm, Nat.mul_assoc]
    exact Nat.eq_of_mul_eq_mul_left hd h
  have k1 : Nat.gcd (Nat.lcm a b) P ∣ b' * D := by
    refine Nat.dvd_trans ?_ (Nat.mul_dvd_mul_left b' h1)
    rw [← Nat.gcd_mul_left, L1, Nat.mul_comm a b']
    exact Nat.dvd_gcd (Nat.gcd_dvd_left _ _) (Nat.dvd_trans (Nat.gcd_dvd_right _ _) (Nat.dvd_mul_left _ _))
  have k2 : Nat.gcd (Nat.lcm a b) P ∣ a' * D := by
    refine Nat.dvd_trans ?_ (Nat.mul_dvd_mul_left a' h2)
    rw [← Nat.gcd_mul_left, L2, Nat.mul_comm b a']
    exact Nat.dvd_gcd (Nat.gcd_dvd_left _ _) (Nat.dvd_trans (Nat.gcd_dvd_right _ _) (Nat.dvd_mul_left _ _))
  have := Nat.dvd_gcd k2 k1
  rwa [Nat.gcd_mul_right, hco, Nat.one_mul] at this
theorem gcdI_lcm_dvd {a b P D : Int} (ha : 1 ≤ a) (hb : 1 ≤ b) (h1 : gcdI a P ∣ D) (h2 : gcdI b P ∣ D) : gcdI (a * (b / gcdI a b)) P ∣ D := by
  have hL : a * (b / gcdI a b) = ((Int.lcm a b : Nat) : Int) := by
    have h1 : ((Int.gcd a b : Nat) : Int) * ((Int.lcm a b : Nat) : Int) = a * b := by
      rw [← Int.natCast_mul, Int.gcd_mul_lcm, Int.natCast_mul, Int.natAbs_of_nonneg (by omega), Int.natAbs_of_nonneg (by omega)]
    have h2 : gcdI a b * (b / gcdI a b) = b := Int.mul_ediv_cancel' (gcdI_dvd_right a b)
    have h3 : gcdI a b * (a * (b / gcdI a b)) = gcdI a b * ((Int.lcm a b : Nat) : Int) := by
      rw [show gcdI a b * ((Int.lcm a b : Nat) : Int) = a * b from h1, ← Int.mul_assoc, Int.mul_comm (gcdI a b) a, Int.mul_assoc, h2]
    exact Int.eq_of_mul_eq_mul_left (by have := gcdI_pos a b ha; omega) h3
  rw [hL]
  have := gcd_lcm_dvd (a := a.natAbs) (b := b.natAbs) (P := P.natAbs) (D := D.natAbs) (by omega) (Int.natAbs_dvd_natAbs.2 h1) (Int.natAbs_dvd_natAbs.2 h2)
  rw [← Int.natAbs_dvd_natAbs]
  exact this
theorem gcd_per {P D : Int} : ∀ (V : List (Int × Int)), (∀ x ∈ V, 1 ≤ x.1) → (∀ x ∈ V, gcdI x.1 P ∣ D) → ∃ p : Int, 1 ≤ p ∧ (∀ d : Int, p ∣ d ↔ ∀ x ∈ V, x.1 ∣ d) ∧ gcdI p P ∣ D
  | [], _, _ => ⟨1, by omega, fun d => by simp [Int.one_dvd], by simp [gcdI]⟩
  | x :: V, h, hg => by
    obtain ⟨p, hp, h1, h2⟩ := gcd_per V (fun y hy => h y (by simp [hy])) (fun y hy => hg y (by simp [hy]))
    have hx := h x (by simp)
    refine ⟨p * (x.1 / gcdI p x.1), ?_, fun d => ?_, gcdI_lcm_dvd hp hx h2 (hg x (by simp))⟩
    · have := (steps_pos hp hx).1
      have := Int.mul_le_mul_of_nonneg_left this (show 0 ≤ p by omega)
      omega
    · rw [lcm_step hp hx, h1]
      simp only [List.mem_cons]
      constructor
      · rintro ⟨h3, h4⟩ y (rfl | hy)
        · exact h4
        · exact h3 y hy
      · intro h3; exact ⟨fun y hy => h3 y (.inr hy), h3 x (.inl rfl)⟩
/-- The first time of joined pins fits one more if this clashes with none of them. -/
theorem Joined.fits {V : List (Int × Int)} {t p : Int} {x : Int × Int} (h : Joined V t p) (hV : ∀ y ∈ V, 1 ≤ y.1) (hn : ∀ y ∈ V, gcdI y.1 x.1 ∣ x.2 - y.2) : gcdI p x.1 ∣ x.2 - t := by
  obtain ⟨p', hp', h1, h2⟩ := gcd_per (P := x.1) (D := x.2 - t) V hV fun y hy => by
    have := Int.dvd_sub (hn y hy) (Int.dvd_trans (gcdI_dvd_left y.1 x.1) (h.at_ y hy))
    rwa [show x.2 - y.2 - (t - y.2) = x.2 - t by omega] at this
  have hp : 0 < p := by have := h.t0; have := h.tp; omega
  have k1 : p ∣ p' := (h.per p').2 ((h1 p').1 (Int.dvd_refl _))
  have k2 : p' ∣ p := (h1 p).2 ((h.per p).1 (Int.dvd_refl _))
  have := Int.le_of_dvd (by omega) k1
  have := Int.le_of_dvd hp k2
  obtain rfl : p = p' := by omega
  exact h2
/-- The step by a number that, times p / c, leaves 1. -/
theorem step_fits {p t c s v n P O : Int} (hc : 1 ≤ c) (hP : c * s = P) (hd : c ∣ O - t) (hcp : c ∣ p) (hv : s ∣ p / c * v - 1) (hn : s ∣ n - (O - t) / c * v) : P ∣ t + n * p - O := by
  obtain ⟨e, he⟩ := hd
  obtain ⟨q, hq⟩ := hcp
  have e1 : (O - t) / c = e := by rw [he]; exact Int.mul_ediv_cancel_left _ (by omega)
  have e2 : p / c = q := by rw [hq]; exact Int.mul_ediv_cancel_left _ (by omega)
  rw [e1] at hn
  rw [e2] at hv
  have k : s ∣ n * q - e := by
    have h1 := Int.dvd_mul_of_dvd_left (c := q) hn
    have h2 := Int.dvd_mul_of_dvd_left (c := e) hv
    have := Int.dvd_add h1 h2
    have e3 : (n - e * v) * q + (q * v - 1) * e = n * q - e := by
      rw [Int.sub_mul, Int.sub_mul, Int.one_mul, show e * v * q = q * v * e by rw [Int.mul_comm e v, Int.mul_comm (v * e) q, ← Int.mul_assoc]]
      omega
    rwa [e3] at this
  have := Int.mul_dvd_mul_left c k
  rw [hP, Int.mul_sub] at this
  have e4 : c * (n * q) = n * p := by rw [hq, ← Int.mul_assoc, ← Int.mul_assoc, Int.mul_comm c n]
  rwa [e4, ← he, show n * p - (O - t) = t + n * p - O by omega] at this

/-- No two of V clash. -/
def Free (V : List (Int × Int)) : Prop := ∀ i k : Nat, i < k → k < V.length → clB (pin V i) (pin V k) = false
theorem clB_false {a b : Int × Int} : clB a b = false ↔ gcdI a.1 b.1 ∣ a.2 - b.2 := by
  simp [clB, Int.dvd_iff_emod_eq_zero]
theorem clB_comm (a b : Int × Int) : clB a b = clB b a := by
  have : clB a b = false ↔ clB b a = false := by
    rw [clB_false, clB_false, gcdI_comm]
    rw [← Int.dvd_neg, show -(a.2 - b.2) = b.2 - a.2 by omega]
  cases h : clB a b <;> cases k : clB b a <;> simp_all
theorem clB_of_time {a b : Int × Int} {T : Int} (h1 : a.1 ∣ T - a.2) (h2 : b.1 ∣ T - b.2) : clB a b = false := by
  rw [clB_false]
  have := Int.dvd_sub (Int.dvd_trans (gcdI_dvd_right a.1 b.1) h2) (Int.dvd_trans (gcdI_dvd_left a.1 b.1) h1)
  rwa [show T - b.2 - (T - a.2) = a.2 - b.2 by omega] at this
theorem pin_mem {V : List (Int × Int)} {i : Nat} (h : i < V.length) : pin V i ∈ V := by
  have : pin V i = V[i] := by simp [pin, h]
  rw [this]; exact List.getElem_mem h
theorem Together.free {V : List (Int × Int)} (h : Together V) : Free V := by
  obtain ⟨T, hT⟩ := h
  exact fun i k hi hk => clB_of_time (hT _ (pin_mem (by omega))) (hT _ (pin_mem hk))

/-! The document's search. -/
def findN (t p : Int) (x : Int × Int) : Option Nat := (List.range (x.1 / gcdI p x.1).toNat).find? fun n => decide ((t + (n : Int) * p) % x.1 = x.2)
def joinS (o : Option (Int × Int)) (x : Int × Int) : Option (Int × Int) := o.bind fun q => (findN q.1 q.2 x).map fun n => (q.1 + (n : Int) * q.2, q.2 * (x.1 / gcdI q.2 x.1))
def joinO (V : List (Int × Int)) : Option (Int × Int) := V.foldl joinS (some (0, 1))
theorem joinO_snoc (V : List (Int × Int)) (x : Int × Int) : joinO (V ++ [x]) = joinS (joinO V) x := by simp [joinO, List.foldl_append]
theorem mod_iff {P O a : Int} (h0 : 0 ≤ O) (h1 : O < P) : a % P = O ↔ P ∣ a - O := by
  constructor
  · intro h
    have := Int.mul_ediv_add_emod a P
    exact ⟨a / P, by omega⟩
  · rintro ⟨k, hk⟩
    have : a = O + P * k := by omega
    rw [this, Int.add_mul_emod_self_left, Int.emod_eq_of_lt h0 h1]
theorem joinO_spec : ∀ (V : List (Int × Int)), (∀ x ∈ V, 1 ≤ x.1 ∧ 0 ≤ x.2 ∧ x.2 < x.1) → (∀ q, joinO V = some q → Joined V q.1 q.2) ∧ (joinO V = none → ¬ Together V) := by
  intro V
  suffices ∀ n (V : List (Int × Int)), V.length = n → (∀ x ∈ V, 1 ≤ x.1 ∧ 0 ≤ x.2 ∧ x.2 < x.1) → (∀ q, joinO V = some q → Joined V q.1 q.2) ∧ (joinO V = none → ¬ Together V) from this _ V rfl
  intro n
  induction n with
  | zero =>
    intro V hl _
    rw [List.length_eq_zero_iff] at hl
    subst hl
    exact ⟨fun q hq => by simp [joinO] at hq; subst hq; exact Joined.nil, fun h => by simp [joinO] at h⟩
  | succ n ih =>
    intro V hl hV
    obtain ⟨V, x, rfl⟩ : ∃ r x, V = r ++ [x] := by
      cases hr : V.reverse with
      | nil => have : V = [] := by simpa using hr
               subst this; simp at hl
      | cons x r => exact ⟨r.reverse, x, by rw [← List.reverse_reverse V, hr]; simp⟩
    have hx := hV x (by simp)
    obtain ⟨i1, i2⟩ := ih V (by simpa using hl) (fun y hy => hV y (by simp [hy]))
    rw [joinO_snoc]
    cases hj : joinO V with
    | none =>
      refine ⟨fun q hq => by simp [joinS] at hq, fun _ => ?_⟩
      rintro ⟨T, hT⟩
      exact i2 hj ⟨T, fun y hy => hT y (by simp [hy])⟩
    | some q =>
      have hJ := i1 q hj
      have hp : 1 ≤ q.2 := by have := hJ.t0; have := hJ.tp; omega
      obtain ⟨s1, _, _⟩ := steps_pos hp hx.1
      cases hf : findN q.1 q.2 x with
      | some m =>
        refine ⟨fun q' hq => ?_, fun h => by simp [joinS, hf] at h⟩
        simp [joinS, hf] at hq
        subst hq
        have h1 := List.find?_some hf
        have h2 := List.mem_of_find?_eq_some hf
        simp only [decide_eq_true_eq] at h1
        rw [List.mem_range] at h2
        exact hJ.snoc hx.1 (by omega) (by omega) ((mod_iff hx.2.1 hx.2.2).1 h1)
      | none =>
        refine ⟨fun q' hq => by simp [joinS, hf] at hq, fun _ => hJ.none hx.1 fun m h0 h1 hd => ?_⟩
        unfold findN at hf
        rw [List.find?_eq_none] at hf
        refine hf m.toNat (List.mem_range.2 (by omega)) ?_
        rw [decide_eq_true_eq, show ((m.toNat : Nat) : Int) = m by omega]
        exact (mod_iff hx.2.1 hx.2.2).2 hd
theorem joinO_of {V : List (Int × Int)} (hV : ∀ x ∈ V, 1 ≤ x.1 ∧ 0 ≤ x.2 ∧ x.2 < x.1) {t p : Int} (h : Joined V t p) : joinO V = some (t, p) := by
  obtain ⟨i1, i2⟩ := joinO_spec V hV
  cases hj : joinO V with
  | none => exact absurd h.together (i2 hj)
  | some q =>
    obtain ⟨rfl, rfl⟩ := (i1 q hj).unique h
    rfl
theorem joinO_none {V : List (Int × Int)} (hV : ∀ x ∈ V, 1 ≤ x.1 ∧ 0 ≤ x.2 ∧ x.2 < x.1) (h : ¬ Together V) : joinO V = none := by
  cases hj : joinO V with
  | none => rfl
  | some q => exact absurd ((joinO_spec V hV).1 q hj).together h
theorem joinO_some {V : List (Int × Int)} (hV : ∀ x ∈ V, 1 ≤ x.1 ∧ 0 ≤ x.2 ∧ x.2 < x.1) (h : Together V) : ∃ t p, joinO V = some (t, p) ∧ Joined V t p := by
  cases hj : joinO V with
  | none => exact absurd h ((joinO_spec V hV).2 hj)
  | some q => exact ⟨q.1, q.2, rfl, (joinO_spec V hV).1 q hj⟩
end Go.Proofs.Ytooddicegkiiiaa
