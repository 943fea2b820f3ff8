/- Plain: the program's step of join; no condition. -/
import Derived.Test.YtooddicegkiiiaaV6
namespace Go.Proofs.Ytooddicegkiiiaa

theorem coprime_div {p P : Int} (hp : 1 ≤ p) : Int.gcd (p / gcdI p P) (P / gcdI p P) = 1 := by
  have hc := gcdI_pos p P hp
  have h1 : gcdI p P * (p / gcdI p P) = p := Int.mul_ediv_cancel' (gcdI_dvd_left p P)
  have h2 : gcdI p P * (P / gcdI p P) = P := Int.mul_ediv_cancel' (gcdI_dvd_right p P)
  have h3 : Int.gcd (gcdI p P * (p / gcdI p P)) (gcdI p P * (P / gcdI p P)) = (gcdI p P).natAbs * Int.gcd (p / gcdI p P) (P / gcdI p P) := Int.gcd_mul_left ..
  rw [h1, h2] at h3
  have h4 : (gcdI p P).natAbs = Int.gcd p P := by unfold gcdI; simp
  rw [h4] at h3
  have h5 : 0 < Int.gcd p P := by rw [Int.gcd_pos_iff]; omega
  have : Int.gcd p P * Int.gcd (p / gcdI p P) (P / gcdI p P) = Int.gcd p P * 1 := by omega
  exact Nat.eq_of_mul_eq_mul_left h5 this
/-- The number of common periods that the program adds. -/
def addN (f O c s v : Int) : Int := ((((O - f).tdiv c).tmod s * v).tmod s + s).tmod s
theorem addN_bd (f O c s v : Int) (hs : 1 ≤ s) : 0 ≤ addN f O c s v ∧ addN f O c s v < s := by
  unfold addN
  have h := tmod_bd (((O - f).tdiv c).tmod s * v) s hs
  rw [Int.tmod_eq_emod_of_nonneg (by omega)]
  exact ⟨Int.emod_nonneg _ (by omega), Int.emod_lt_of_pos _ (by omega)⟩
theorem addN_cong (f O c s v : Int) (hd : c ∣ O - f) : s ∣ addN f O c s v - (O - f) / c * v := by
  have hm : ∀ a : Int, s ∣ a.tmod s - a := fun a => by rw [Int.tmod_def]; exact ⟨-(a.tdiv s), by rw [Int.mul_neg]; omega⟩
  unfold addN
  rw [Int.tdiv_eq_ediv_of_dvd hd]
  generalize (O - f) / c = q
  have h1 := hm ((q.tmod s * v).tmod s + s)
  have h2 := hm (q.tmod s * v)
  have h3 := Int.dvd_mul_of_dvd_left (c := v) (hm q)
  rw [Int.sub_mul] at h3
  have := Int.dvd_add (Int.dvd_add (Int.dvd_add h1 h2) h3) (Int.dvd_refl s)
  rwa [show ((q.tmod s * v).tmod s + s).tmod s - ((q.tmod s * v).tmod s + s) + ((q.tmod s * v).tmod s - q.tmod s * v) + (q.tmod s * v - q * v) + s = ((q.tmod s * v).tmod s + s).tmod s - q * v by omega] at this
theorem Joined.prog {V : List (Int × Int)} {f p v : Int} {x : Int × Int} (h : Joined V f p) (hV : ∀ y ∈ V, 1 ≤ y.1) (hx : 1 ≤ x.1) (hn : ∀ y ∈ V, gcdI y.1 x.1 ∣ x.2 - y.2)
    (hv : Int.gcd (p / gcdI p x.1) (x.1 / gcdI p x.1) = 1 → x.1 / gcdI p x.1 ∣ p / gcdI p x.1 * v - 1) :
    Joined (V ++ [x]) (f + addN f x.2 (gcdI p x.1) (x.1 / gcdI p x.1) v * p) (p * (x.1 / gcdI p x.1)) := by
  have hp : 1 ≤ p := by have := h.t0; have := h.tp; omega
  obtain ⟨s1, s2, s3⟩ := steps_pos hp hx
  have hd := h.fits hV hn
  obtain ⟨n0, n1⟩ := addN_bd f x.2 (gcdI p x.1) (x.1 / gcdI p x.1) v s1
  exact h.snoc hx n0 n1 (step_fits (gcdI_pos _ _ hp) s3 hd (gcdI_dvd_left _ _) (hv (coprime_div hp)) (addN_cong _ _ _ _ _ hd))
/-- What join returns. -/
def jA (V : List (Int × Int)) : Int := match joinO V with | some q => q.1 | none => 0
def jB (V : List (Int × Int)) : Int := match joinO V with | some q => q.2 | none => 0
def jO (V : List (Int × Int)) : Bool := (joinO V).isSome
theorem OkV.of {V : List (Int × Int)} (h : OkV V) : ∀ x ∈ V, 1 ≤ x.1 ∧ 0 ≤ x.2 ∧ x.2 < x.1 := fun x hx => by have := h x hx; omega
theorem j_of {V : List (Int × Int)} (hV : OkV V) {t p : Int} (h : Joined V t p) : jA V = t ∧ jB V = p ∧ jO V = true := by
  have := joinO_of hV.of h
  simp [jA, jB, jO, this]
theorem j_none {V : List (Int × Int)} (hV : OkV V) (h : ¬ Together V) : jA V = 0 ∧ jB V = 0 ∧ jO V = false := by
  have := joinO_none hV.of h
  simp [jA, jB, jO, this]
theorem j_true {V : List (Int × Int)} (hV : OkV V) (h : jO V = true) : Joined V (jA V) (jB V) := by
  unfold jO at h
  cases hj : joinO V with
  | none => rw [hj] at h; cases h
  | some q =>
    have := (joinO_spec V hV.of).1 q hj
    simpa [jA, jB, hj] using this
theorem j_false {V : List (Int × Int)} (hV : OkV V) (h : jO V = false) : ¬ Together V ∧ jA V = 0 ∧ jB V = 0 := by
  unfold jO at h
  cases hj : joinO V with
  | some q => rw [hj] at h; cases h
  | none => exact ⟨(joinO_spec V hV.of).2 hj, by simp [jA, hj], by simp [jB, hj]⟩
end Go.Proofs.Ytooddicegkiiiaa
