/- Merged texts: the answers agree; facts that stay; from a walk to the row; helpers of the laws. -/
import Derived.Test.YtooddicegkiiiaaGD
import Derived.Test.YtooddicegkiiiaaGC
import Derived.Test.YtooddicegkiiiaaGB
import Derived.ProofKit
import Derived.OpenShut
import Derived.Lib.SmallJoins
import Derived.Deep.Slices
namespace Go.Proofs.Ytooddicegkiiiaa

theorem Joined.ext {V : List (Int × Int)} {f p : Int} {x : Int × Int} (h : Joined V f p) (hx : 1 ≤ x.1) (hd : gcdI p x.1 ∣ x.2 - f) : ∃ t q, Joined (V ++ [x]) t q := by
  have hp : 1 ≤ p := by have := h.t0; have := h.tp; omega
  obtain ⟨s1, s2, s3⟩ := steps_pos hp hx
  obtain ⟨v, hv⟩ := inv_exists s1 (coprime_div (P := x.1) hp)
  obtain ⟨n0, n1⟩ := addN_bd f x.2 (gcdI p x.1) (x.1 / gcdI p x.1) v s1
  exact ⟨_, _, h.snoc hx n0 n1 (step_fits (gcdI_pos _ _ hp) s3 hd (gcdI_dvd_left _ _) hv (addN_cong _ _ _ _ _ hd))⟩
theorem together_congr {V W : List (Int × Int)} (h : ∀ x, x ∈ V ↔ x ∈ W) : Together V ↔ Together W :=
  ⟨fun ⟨T, hT⟩ => ⟨T, fun x hx => hT x ((h x).2 hx)⟩, fun ⟨T, hT⟩ => ⟨T, fun x hx => hT x ((h x).1 hx)⟩⟩
theorem setO_mem {V : List (Int × Int)} {i : Nat} (hi : i < V.length) (o : Int) (x : Int × Int) : x ∈ setO V i o ↔ x ∈ V.eraseIdx i ++ [((pin V i).1, o)] := by
  unfold setO
  rw [List.set_eq_take_append_cons_drop, if_pos hi, List.eraseIdx_eq_take_drop_succ]
  simp only [List.mem_append, List.mem_cons, List.not_mem_nil, or_false]
  constructor
  · rintro (h | h | h)
    · exact .inl (.inl h)
    · exact .inr h
    · exact .inl (.inr h)
  · rintro ((h | h) | h)
    · exact .inl h
    · exact .inr (.inr h)
    · exact .inr (.inl h)
theorem jO_together {V : List (Int × Int)} (hV : OkV V) : jO V = true ↔ Together V := by
  rw [jO_free hV, free_together fun x hx => (hV x hx).1]
theorem jO_setO {V : List (Int × Int)} (hV : OkV V) {i n : Nat} (hi : i < V.length) (hn : (n : Int) < (pin V i).1) :
    jO (setO V i (n : Int)) = true ↔ jO (V.eraseIdx i) = true ∧ offApart V i ∣ (n : Int) - jA (V.eraseIdx i) := by
  have hE := hV.erase i
  have hp := hV.at hi
  rw [jO_together (setO_ok hV hi hn), together_congr (setO_mem hi (n : Int))]
  constructor
  · rintro ⟨T, hT⟩
    have hTE : Together (V.eraseIdx i) := ⟨T, fun x hx => hT x (by simp [hx])⟩
    have hj := (jO_together hE).2 hTE
    have hJ := j_true hE hj
    refine ⟨hj, ?_⟩
    have h1 := hJ.all.1 (fun y hy => hT y (by simp [hy]))
    have h2 := hT ((pin V i).1, (n : Int)) (by simp)
    simp only at h2
    unfold offApart
    have := Int.dvd_sub (Int.dvd_trans (gcdI_dvd_left _ _) h1) (Int.dvd_trans (gcdI_dvd_right (jB (V.eraseIdx i)) _) h2)
    rwa [show T - jA (V.eraseIdx i) - (T - (n : Int)) = (n : Int) - jA (V.eraseIdx i) by omega] at this
  · rintro ⟨hj, hd⟩
    have hJ := j_true hE hj
    obtain ⟨t, q, h⟩ := hJ.ext (x := ((pin V i).1, (n : Int))) hp.1 hd
    exact h.together
theorem filter_one (r : Nat) : ∀ d : Nat, (List.range d).filter (fun x => decide (x = r)) = if r < d then [r] else []
  | 0 => rfl
  | d + 1 => by
    rw [List.range_succ, List.filter_append, filter_one r d]
    by_cases h1 : r < d
    · rw [if_pos h1, if_pos (by omega)]
      simp; omega
    · rw [if_neg h1]
      by_cases h2 : r = d
      · subst h2; simp
      · rw [if_neg (by omega)]; simp; omega
/-- The numbers below a multiple of d that leave r. -/
theorem filter_mod {d : Nat} (hd : 0 < d) (r : Nat) (hr : r < d) (p : Nat → Bool) (hp : ∀ n, p n = decide (n % d = r)) : ∀ m : Nat, (List.range (m * d)).filter p = (List.range m).map fun k => r + k * d
  | 0 => by simp
  | m + 1 => by
    rw [Nat.succ_mul, List.range_add, List.filter_append, filter_mod hd r hr p hp m, List.range_succ, List.map_append]
    congr 1
    have e : (List.map (fun x => m * d + x) (List.range d)).filter p = ((List.range d).filter fun x => decide (x = r)).map (fun x => m * d + x) := by
      rw [List.filter_map]
      congr 1
      apply List.filter_congr
      intro x hx
      have hx := List.mem_range.1 hx
      simp only [Function.comp, hp]
      rw [Nat.add_comm, Nat.add_mul_mod_self_right, Nat.mod_eq_of_lt hx]
    rw [e]
    have e2 := filter_one r d
    rw [if_pos hr] at e2
    rw [e2]
    simp only [List.map_cons, List.map_nil]
    congr 1
    omega
theorem rofL_eq (V : List (Int × Int)) (i : Int) : rofL V i = offL V i := by
  by_cases hc : checkP V = 0
  · have f1 : rofL V i = if outB 0 ((V.length : Int) - 1) i then [] else natL (rofN V i.toNat (pin V i.toNat).1.toNat) := by unfold rofL; rw [if_neg (by simpa using hc)]
    have f2 : offL V i = if outB 0 ((V.length : Int) - 1) i then [] else if jO (V.eraseIdx i.toNat) then (List.range (offN V i.toNat)).map (offAt V i.toNat) else [] := by unfold offL; rw [if_neg (by simpa using hc)]
    rw [f1, f2]; clear f1 f2
    cases ho : outB 0 ((V.length : Int) - 1) i
    · simp only [Bool.false_eq_true, if_false]
      have hV := (okPins_of hc).v
      have hb : 0 ≤ i ∧ i < V.length := by simp [outB] at ho; omega
      obtain ⟨n, rfl⟩ := Int.eq_ofNat_of_zero_le hb.1
      have hn : n < V.length := by omega
      rw [Int.toNat_natCast]
      have hp := hV.at hn
      have hE := hV.erase n
      cases hj : jO (V.eraseIdx n)
      · rw [if_neg (by decide)]
        unfold rofN
        rw [List.filter_eq_nil_iff.2]
        · rfl
        · intro k hk
          have hk := List.mem_range.1 hk
          rw [jO_setO hV hn (by omega), hj]
          simp
      · rw [if_pos rfl]
        have hJ := j_true hE hj
        have g1 : 1 ≤ offApart V n := gcdI_pos _ _ (by have := hJ.t0; have := hJ.tp; omega)
        obtain ⟨d, hd⟩ := Int.eq_ofNat_of_zero_le (show 0 ≤ offApart V n by omega)
        have hdv : offApart V n ∣ (pin V n).1 := gcdI_dvd_right _ _
        obtain ⟨m, hm⟩ := hdv
        have hm0 : 0 ≤ m := by
          rcases Int.lt_or_le m 0 with h | h
          · have : offApart V n * m ≤ offApart V n * (-1) := Int.mul_le_mul_of_nonneg_left (by omega) (by omega)
            omega
          · exact h
        obtain ⟨m', rfl⟩ := Int.eq_ofNat_of_zero_le hm0
        have e1 : (pin V n).1.toNat = m' * d := by rw [hm, hd, ← Int.natCast_mul, Int.toNat_natCast, Nat.mul_comm]
        have e2 : offN V n = m' := by unfold offN; rw [hm, Int.mul_ediv_cancel_left _ (by omega), Int.toNat_natCast]
        have hd0 : 0 < d := by omega
        have hr0 := Int.emod_nonneg (jA (V.eraseIdx n)) (b := offApart V n) (by omega)
        have hr1 := Int.emod_lt_of_pos (jA (V.eraseIdx n)) (b := offApart V n) (by omega)
        obtain ⟨r, hr⟩ := Int.eq_ofNat_of_zero_le hr0
        have hrd : r < d := by omega
        have hpf : ∀ k, k ∈ List.range (m' * d) → jO (setO V n ((k : Nat) : Int)) = decide (k % d = r) := fun k hk => by
          have hk := List.mem_range.1 hk
          rw [Bool.eq_iff_iff, jO_setO hV hn (by omega), hj, decide_eq_true_eq]
          simp only [true_and]
          rw [Int.dvd_iff_emod_eq_zero, ← Int.emod_eq_emod_iff_emod_sub_eq_zero, hr, hd]
          omega
        unfold rofN
        rw [e1, e2, List.filter_congr hpf, filter_mod hd0 r hrd _ (fun _ => rfl)]
        unfold natL
        rw [List.map_map]
        apply List.map_congr_left
        intro k _
        simp only [Function.comp]
        unfold offAt
        rw [hr, hd]
        push_cast
        rfl
    · rfl
  · unfold rofL offL; rw [if_pos (by simpa using hc), if_pos (by simpa using hc)]
end Go.Proofs.Ytooddicegkiiiaa

namespace Go.Proofs.Ytooddicegkiiiaa

/-- Functions of a time and of as many numbers as wanted. -/
abbrev Fn := Int → (Nat → Int) → Int
/-- One step of a time less one step along S. -/
def stepF (S : Nat → Int) (G : Fn) : Fn := fun t u => G (t + 1) u - G t (fun n => u n - S n)
def killF : List (Nat → Int) → Fn → Fn
  | [], G => G
  | S :: r, G => killF r (stepF S G)
theorem kill_zeros : ∀ (r : List (Nat → Int)) (G : Fn) (t : Int), (∀ s u, killF r G s u = 0) → (∀ n : Nat, n < r.length → ∀ u, G (t + n) u = 0) → ∀ u, G (t + r.length) u = 0
  | [], G, t, h, _, u => by simpa [killF] using h t u
  | S :: r, G, t, h, hz, u => by
    have h1 := kill_zeros r (stepF S G) t h (fun n hn u => by
      unfold stepF
      have a := hz (n + 1) (by simp; omega) u
      have b := hz n (by simp; omega) (fun m => u m - S m)
      rw [show t + (n : Int) + 1 = t + ((n + 1 : Nat) : Int) by omega, a, b]; rfl) u
    unfold stepF at h1
    have b := hz r.length (by simp) (fun m => u m - S m)
    rw [b, show t + (r.length : Int) + 1 = t + ((S :: r).length : Int) by simp; omega] at h1
    omega
theorem step_comm (S S' : Nat → Int) (G : Fn) : stepF S (stepF S' G) = stepF S' (stepF S G) := by
  funext t u
  unfold stepF
  have e : (fun n => (fun n => u n - S n) n - S' n) = (fun n => (fun n => u n - S' n) n - S n) := by funext n; simp only; omega
  rw [e]
  omega
theorem kill_step (S : Nat → Int) : ∀ (r : List (Nat → Int)) (G : Fn), killF r (stepF S G) = stepF S (killF r G)
  | [], _ => rfl
  | S' :: r, G => by rw [killF, killF, step_comm, kill_step S r]
theorem kill_append : ∀ (r s : List (Nat → Int)) (G : Fn), killF (r ++ s) G = killF s (killF r G)
  | [], _, _ => rfl
  | S :: r, s, G => by rw [List.cons_append, killF, kill_append r s, killF]
theorem kill_comm : ∀ (r s : List (Nat → Int)) (G : Fn), killF r (killF s G) = killF s (killF r G)
  | [], _, _ => rfl
  | S :: r, s, G => by
    rw [killF, killF, ← kill_step, kill_comm r s]
theorem step_sub (S : Nat → Int) (G H : Fn) : stepF S (fun t u => G t u - H t u) = fun t u => stepF S G t u - stepF S H t u := by
  funext t u; simp only [stepF]; omega
theorem kill_sub : ∀ (r : List (Nat → Int)) (G H : Fn), killF r (fun t u => G t u - H t u) = fun t u => killF r G t u - killF r H t u
  | [], _, _ => rfl
  | S :: r, G, H => by rw [killF, step_sub, kill_sub r]; rfl
def zeroF : Fn := fun _ _ => 0
theorem kill_zero : ∀ r : List (Nat → Int), killF r zeroF = zeroF
  | [] => rfl
  | S :: r => by
    rw [killF]
    have : stepF S zeroF = zeroF := by funext t u; simp [stepF, zeroF]
    rw [this, kill_zero r]
def consS (a : Int) (S : Nat → Int) : Nat → Int := fun n => match n with | 0 => a | n + 1 => S n
def tailU (u : Nat → Int) : Nat → Int := fun n => u (n + 1)
theorem kill_still (d : Int → Int) : ∀ (r : List (Nat → Int)) (H : Fn), killF (r.map (consS 0)) (fun t u => d (u 0) * H t (tailU u)) = fun t u => d (u 0) * killF r H t (tailU u)
  | [], _ => rfl
  | S :: r, H => by
    rw [List.map_cons, killF, killF, ← kill_still d r]
    congr 1
    funext t u
    unfold stepF
    have e : tailU (fun n => u n - consS 0 S n) = fun n => tailU u n - S n := rfl
    have e0 : u 0 - consS 0 S 0 = u 0 := by simp [consS]
    simp only [e, e0]
    rw [Int.mul_sub]
theorem kill_move (d : Int → Int) : ∀ (r : List (Nat → Int)) (H : Fn) (c : Int), killF (r.map (consS 1)) (fun t u => d (u 0 - t + c) * H t (tailU u)) = fun t u => d (u 0 - t + c - r.length) * killF r H t (tailU u)
  | [], H, c => by funext t u; simp [killF]
  | S :: r, H, c => by
    rw [List.map_cons, killF, killF]
    have e : stepF (consS 1 S) (fun t u => d (u 0 - t + c) * H t (tailU u)) = fun t u => d (u 0 - t + (c - 1)) * stepF S H t (tailU u) := by
      funext t u
      unfold stepF
      have e1 : tailU (fun n => u n - consS 1 S n) = fun n => tailU u n - S n := rfl
      have e0 : u 0 - consS 1 S 0 = u 0 - 1 := rfl
      simp only [e1, e0]
      rw [Int.mul_sub, show u 0 - (t + 1) + c = u 0 - t + (c - 1) by omega, show u 0 - 1 - t + c = u 0 - t + (c - 1) by omega]
    rw [e, kill_move d r]
    funext t u
    rw [show u 0 - t + (c - 1) - (r.length : Int) = u 0 - t + c - ((S :: r).length : Int) by simp; omega]
def subsS : Nat → List (Nat → Int)
  | 0 => [fun _ => 0]
  | k + 1 => (subsS k).map (consS 0) ++ (subsS k).map (consS 1)
theorem subsS_len : ∀ k, (subsS k).length = 2 ^ k
  | 0 => rfl
  | k + 1 => by rw [subsS, List.length_append, List.length_map, List.length_map, subsS_len k]; omega
def delta (P a : Int) : Int := if P ∣ a then 1 else 0
/-- It is 0 wherever one of the pins sounds, and only there. -/
def noiseF : List (Int × Int) → Fn
  | [] => fun _ _ => 1
  | x :: V => fun t u => delta x.1 (u 0) * noiseF V t (tailU u) - delta x.1 (u 0 - t + x.2) * noiseF V t (tailU u)
theorem noise_kill : ∀ V : List (Int × Int), killF (subsS V.length) (noiseF V) = zeroF
  | [] => by funext t u; simp [subsS, killF, stepF, noiseF, zeroF]
  | x :: V => by
    have ih := noise_kill V
    rw [List.length_cons, subsS, noiseF, kill_sub]
    have h1 : killF ((subsS V.length).map (consS 0)) (fun t u => delta x.1 (u 0) * noiseF V t (tailU u)) = zeroF := by
      rw [kill_still, ih]; funext t u; simp [zeroF]
    have h2 : killF ((subsS V.length).map (consS 1)) (fun t u => delta x.1 (u 0 - t + x.2) * noiseF V t (tailU u)) = zeroF := by
      rw [kill_move, ih]; funext t u; simp [zeroF]
    rw [kill_append, kill_append, h1, kill_zero, kill_comm, h2, kill_zero]
    funext t u
    simp [zeroF]
theorem noise_zero : ∀ (V : List (Int × Int)) (t : Int), (∃ x ∈ V, x.1 ∣ t - x.2) → ∀ u, noiseF V t u = 0
  | [], _, ⟨_, h, _⟩, _ => by cases h
  | x :: V, t, ⟨y, hy, hd⟩, u => by
    simp only [noiseF]
    rcases List.mem_cons.1 hy with rfl | hy
    · have : delta y.1 (u 0 - t + y.2) = delta y.1 (u 0) := by
        unfold delta
        have h : (y.1 ∣ u 0 - t + y.2) ↔ (y.1 ∣ u 0) := by
          rw [show u 0 - t + y.2 = u 0 - (t - y.2) by omega]
          constructor
          · intro h
            have := Int.dvd_add h hd
            rwa [show u 0 - (t - y.2) + (t - y.2) = u 0 by omega] at this
          · intro h; exact Int.dvd_sub h hd
        simp only [h]
      rw [this, Int.sub_self]
    · rw [noise_zero V t ⟨y, hy, hd⟩]; simp
theorem noise_one : ∀ (V : List (Int × Int)) (t : Int), (∀ x ∈ V, ¬ x.1 ∣ t - x.2) → noiseF V t (fun _ => 0) = 1
  | [], _, _ => rfl
  | x :: V, t, h => by
    simp only [noiseF]
    have h1 : delta x.1 0 = 1 := by simp [delta]
    have h2 : delta x.1 (0 - t + x.2) = 0 := by
      unfold delta
      rw [if_neg]
      intro hd
      refine h x (by simp) ?_
      have := Int.dvd_neg.2 hd
      rwa [show -(0 - t + x.2) = t - x.2 by omega] at this
    have h3 := noise_one V t (fun y hy => h y (by simp [hy]))
    have e : tailU (fun _ => 0) = fun _ => (0 : Int) := rfl
    rw [h1, h2, e, h3]; rfl
theorem noisy_next (V : List (Int × Int)) (t : Int) (h : ∀ n : Nat, n < 2 ^ V.length → ∃ x ∈ V, x.1 ∣ t + n - x.2) : ∃ x ∈ V, x.1 ∣ t + (2 ^ V.length : Nat) - x.2 := by
  have hz := kill_zeros (subsS V.length) (noiseF V) t (fun s u => by rw [noise_kill]; rfl) (fun n hn u => noise_zero V _ (h n (by rw [subsS_len] at hn; exact hn)) u) (fun _ => 0)
  rw [subsS_len] at hz
  apply Classical.byContradiction
  intro hne
  have := noise_one V (t + (2 ^ V.length : Nat)) (fun x hx hd => hne ⟨x, hx, hd⟩)
  omega
theorem noisy_all (V : List (Int × Int)) : ∀ (m : Nat) (t : Int), (∀ n : Nat, n < 2 ^ V.length → ∃ x ∈ V, x.1 ∣ t + n - x.2) → ∃ x ∈ V, x.1 ∣ t + m - x.2
  | 0, _, h => h 0 (Nat.pos_of_ne_zero (by simp))
  | m + 1, t, h => by
    have := noisy_all V m (t + 1) (fun n hn => by
      by_cases e : n + 1 < 2 ^ V.length
      · have := h (n + 1) e
        rwa [show t + ((n + 1 : Nat) : Int) = t + 1 + n by omega] at this
      · have := noisy_next V t h
        rwa [show t + ((2 ^ V.length : Nat) : Int) = t + 1 + n by omega] at this)
    rwa [show t + 1 + (m : Int) = t + ((m + 1 : Nat) : Int) by omega] at this
theorem hush_not (V : List (Int × Int)) (t : Int) : hushB V t = false ↔ ∃ x ∈ V, x.1 ∣ t - x.2 := by
  unfold hushB
  rw [List.all_eq_false]
  simp [sndB, Int.dvd_iff_emod_eq_zero]
theorem quiet_enough (V : List (Int × Int)) (t : Int) (m : Nat) (hm : 2 ^ V.length ≤ m) : quietO V t m = quietO V t (2 ^ V.length) := by
  cases h : quietO V t (2 ^ V.length) with
  | none =>
    unfold quietO at h
    rw [List.find?_eq_none] at h
    refine quietO_none fun n _ => ?_
    rw [hush_not]
    refine noisy_all V n t fun k hk => ?_
    rw [← hush_not]
    have := h k (List.mem_range.2 hk)
    simpa using this
  | some n =>
    unfold quietO at h
    rw [List.find?_range_eq_some] at h
    obtain ⟨h1, h2, h3⟩ := h
    exact quietO_some (Nat.lt_of_lt_of_le (List.mem_range.1 h2) hm) (fun k hk => by have := h3 k hk; simpa using this) h1
theorem rquiet_eq (V : List (Int × Int)) (t : Int) : rquietN V t = quietN V t ∧ rquietE V t = quietE V t := by
  unfold rquietN quietN rquietE quietE
  by_cases h : openE V [t] = 0
  · have h5 := (okPins_of (openE_zero h).1).l5
    have : 2 ^ V.length ≤ 32 := Nat.pow_le_pow_right (n := 2) (by omega) h5
    rw [quiet_enough V t 32 this]
    exact ⟨rfl, rfl⟩
  · rw [if_neg h, if_neg h, if_neg h, if_neg h]
    exact ⟨rfl, rfl⟩
end Go.Proofs.Ytooddicegkiiiaa

namespace Go.Proofs.Ytooddicegkiiiaa

/-- x is longer than y, or as long and comes before it. -/
def beats (x y : List Nat) : Prop := y.length < x.length ∨ (x.length = y.length ∧ befB (natL x) (natL y) = true)
def Top (S : List Nat → Prop) (r : List Nat) : Prop := S r ∧ ∀ x, S x → x = r ∨ beats r x
theorem bef_cons (a b : Nat) (x y : List Nat) : befB (natL (a :: x)) (natL (b :: y)) = if a = b then befB (natL x) (natL y) else decide (a < b) := by
  simp only [natL, List.map_cons, befB]
  by_cases h : a = b
  · subst h; simp
  · rw [if_neg (by omega), if_neg h]; simp
theorem bef_irr : ∀ x : List Nat, befB (natL x) (natL x) = false
  | [] => rfl
  | a :: x => by rw [bef_cons, if_pos rfl, bef_irr x]
theorem bef_asym : ∀ x y : List Nat, befB (natL x) (natL y) = true → befB (natL y) (natL x) = false
  | [], _, h => by simp [natL, befB] at h
  | _ :: _, [], h => by simp [natL, befB] at h
  | a :: x, b :: y, h => by
    rw [bef_cons] at h ⊢
    by_cases e : a = b
    · subst e
      rw [if_pos rfl] at h ⊢
      exact bef_asym x y h
    · rw [if_neg e] at h
      rw [if_neg (Ne.symm e)]
      simp at h ⊢; omega
theorem bef_trans : ∀ x y z : List Nat, befB (natL x) (natL y) = true → befB (natL y) (natL z) = true → befB (natL x) (natL z) = true
  | [], _, _, h, _ => by simp [natL, befB] at h
  | _ :: _, [], _, h, _ => by simp [natL, befB] at h
  | _ :: _, _ :: _, [], _, h => by simp [natL, befB] at h
  | a :: x, b :: y, c :: z, h1, h2 => by
    rw [bef_cons] at h1 h2 ⊢
    by_cases e : a = b
    · subst e
      rw [if_pos rfl] at h1
      by_cases e2 : a = c
      · subst e2
        rw [if_pos rfl] at h2 ⊢
        exact bef_trans x y z h1 h2
      · rw [if_neg e2] at h2 ⊢; exact h2
    · rw [if_neg e] at h1
      simp at h1
      by_cases e2 : b = c
      · subst e2; rw [if_neg e]; simp; omega
      · rw [if_neg e2] at h2
        simp at h2
        rw [if_neg (by omega)]; simp; omega
theorem bef_tri : ∀ x y : List Nat, x.length = y.length → befB (natL x) (natL y) = true ∨ x = y ∨ befB (natL y) (natL x) = true
  | [], [], _ => .inr (.inl rfl)
  | [], _ :: _, h => by simp at h
  | _ :: _, [], h => by simp at h
  | a :: x, b :: y, h => by
    rw [bef_cons, bef_cons]
    by_cases e : a = b
    · subst e
      rw [if_pos rfl, if_pos rfl]
      rcases bef_tri x y (by simpa using h) with h | h | h
      · exact .inl h
      · exact .inr (.inl (by rw [h]))
      · exact .inr (.inr h)
    · rw [if_neg e, if_neg (Ne.symm e)]
      rcases Nat.lt_or_gt_of_ne e with h | h
      · exact .inl (by simp; omega)
      · exact .inr (.inr (by simp; omega))
theorem bef_app (g : List Nat) (x y : List Nat) : befB (natL (g ++ x)) (natL (g ++ y)) = befB (natL x) (natL y) := by
  induction g with
  | nil => rfl
  | cons a g ih => rw [List.cons_append, List.cons_append, bef_cons, if_pos rfl, ih]
theorem beats_trans {x y z : List Nat} (h1 : beats x y) (h2 : beats y z) : beats x z := by
  rcases h1 with h1 | ⟨h1, k1⟩ <;> rcases h2 with h2 | ⟨h2, k2⟩
  · exact .inl (by omega)
  · exact .inl (by omega)
  · exact .inl (by omega)
  · exact .inr ⟨by omega, bef_trans _ _ _ k1 k2⟩
theorem beats_asym {x y : List Nat} (h1 : beats x y) (h2 : beats y x) : False := by
  rcases h1 with h1 | ⟨h1, k1⟩ <;> rcases h2 with h2 | ⟨h2, k2⟩
  · omega
  · omega
  · omega
  · rw [bef_asym _ _ k1] at k2; cases k2
theorem beats_tri (x y : List Nat) : beats x y ∨ x = y ∨ beats y x := by
  rcases Nat.lt_trichotomy x.length y.length with h | h | h
  · exact .inr (.inr (.inl h))
  · rcases bef_tri x y h with k | k | k
    · exact .inl (.inr ⟨h, k⟩)
    · exact .inr (.inl k)
    · exact .inr (.inr (.inr ⟨h.symm, k⟩))
  · exact .inl (.inl h)
theorem Top.unique {S : List Nat → Prop} {r r' : List Nat} (h : Top S r) (h' : Top S r') : r = r' := by
  rcases h.2 r' h'.1 with e | e
  · exact e.symm
  · rcases h'.2 r h.1 with e' | e'
    · exact e'
    · exact (beats_asym e e').elim
theorem Top.congr {S S' : List Nat → Prop} {r : List Nat} (h : Top S r) (e : ∀ x, S x ↔ S' x) : Top S' r := ⟨(e r).1 h.1, fun x hx => h.2 x ((e x).2 hx)⟩

/-! The program's. -/
theorem bestJ_spec (ls : List Nat) : ∀ n, (∀ k, k ≤ n → ls[k]?.getD 0 ≤ ls[bestJ ls n]?.getD 0) ∧ ∀ k, k < bestJ ls n → ls[k]?.getD 0 < ls[bestJ ls n]?.getD 0
  | 0 => ⟨fun k hk => by obtain rfl : k = 0 := by omega
                         exact Nat.le_refl _, fun k hk => absurd hk (Nat.not_lt_zero _)⟩
  | n + 1 => by
    obtain ⟨h1, h2⟩ := bestJ_spec ls n
    rw [bestJ]
    split
    · rename_i h
      refine ⟨fun k hk => ?_, fun k hk => ?_⟩
      · by_cases e : k = n + 1
        · subst e; exact Nat.le_refl _
        · have := h1 k (by omega); omega
      · have := h1 k (by omega); omega
    · rename_i h
      refine ⟨fun k hk => ?_, h2⟩
      by_cases e : k = n + 1
      · subst e; omega
      · exact h1 k (by omega)
theorem bestG_top (Os : List (List Nat)) (h : 1 ≤ Os.length) (hp : Os.Pairwise fun a b => a.length = b.length → befB (natL a) (natL b) = true) : Top (fun x => x ∈ Os) (bestG Os) := by
  refine ⟨bestG_mem Os h, fun x hx => ?_⟩
  obtain ⟨h1, h2⟩ := bestJ_spec (Os.map List.length) (Os.length - 1)
  have hle := bestJ_le (Os.map List.length) (Os.length - 1)
  have hb : bestG Os = Os[bestJ (Os.map List.length) (Os.length - 1)]?.getD [] := rfl
  generalize bestJ (Os.map List.length) (Os.length - 1) = j at *
  have hget : ∀ k (hk : k < Os.length), (Os.map List.length)[k]?.getD 0 = (Os[k]'hk).length := fun k hk => by simp [hk]
  obtain ⟨k, hk, rfl⟩ := List.getElem_of_mem hx
  have hj : j < Os.length := by omega
  rw [hb, List.getElem?_eq_getElem hj, Option.getD_some]
  rcases Nat.lt_trichotomy k j with e | e | e
  · have := h2 k e
    rw [hget k hk, hget j hj] at this
    exact .inr (.inl this)
  · subst e; exact .inl rfl
  · have h3 := h1 k (by omega)
    rw [hget k hk, hget j hj] at h3
    right
    rcases Nat.lt_or_eq_of_le h3 with h4 | h4
    · exact .inl h4
    · rw [List.pairwise_iff_getElem] at hp
      exact .inr ⟨h4.symm, hp j k hj hk e h4.symm⟩
/-- The groups that begin with g, and have others from m on. -/
def Beg (V : List (Int × Int)) (g : List Nat) (m : Nat) (x : List Nat) : Prop := ∃ s, x = g ++ s ∧ (∀ i ∈ s, m ≤ i) ∧ Inc V x ∧ Grp V x
theorem Beg.split {V : List (Int × Int)} {g : List Nat} {m : Nat} {x : List Nat} (h : Beg V g m x) : x = g ∨ ∃ i, m ≤ i ∧ i < V.length ∧ Grp V (g ++ [i]) ∧ Beg V (g ++ [i]) (i + 1) x := by
  obtain ⟨s, rfl, h1, h2, h3⟩ := h
  cases s with
  | nil => exact .inl (List.append_nil g)
  | cons i s =>
    refine .inr ⟨i, h1 i (by simp), h2.2 i (by simp), ?_, s, by simp, fun j hj => ?_, h2, h3⟩
    · unfold Grp at h3 ⊢
      rw [show g ++ i :: s = (g ++ [i]) ++ s by simp, List.pairwise_append] at h3
      exact h3.1
    · have h4 := h2.1
      rw [List.pairwise_append, List.pairwise_cons] at h4
      have := h4.2.1.1 j hj
      omega
theorem gre_top (V : List (Int × Int)) : ∀ (f : Nat) (g : List Nat) (m : Nat), V.length - m ≤ f → Inc V g → Grp V g → (∀ i ∈ g, i < m) → Top (Beg V g m) (gre V f g m)
  | 0, g, m, hf, hi, hg, hm => by
    rw [gre]
    refine ⟨⟨[], by simp, by simp, hi, hg⟩, fun x hx => ?_⟩
    rcases hx.split with h | ⟨i, h1, h2, _⟩
    · exact .inl h
    · omega
  | f + 1, g, m, hf, hi, hg, hm => by
    have ih : ∀ i, m ≤ i → i < V.length → Grp V (g ++ [i]) → Top (Beg V (g ++ [i]) (i + 1)) (gre V f (g ++ [i]) (i + 1)) := fun i h1 h2 h3 => by
      refine gre_top V f (g ++ [i]) (i + 1) (by omega) ⟨?_, ?_⟩ h3 ?_
      · rw [List.pairwise_append]
        refine ⟨hi.1, List.pairwise_singleton _ _, fun a ha b hb => ?_⟩
        rw [List.mem_singleton] at hb
        have := hm a ha
        omega
      · intro a ha
        rcases List.mem_append.1 ha with h | h
        · exact hi.2 a h
        · rw [List.mem_singleton] at h; omega
      · intro a ha
        rcases List.mem_append.1 ha with h | h
        · have := hm a h; omega
        · rw [List.mem_singleton] at h; omega
    have hmem : ∀ x, x ∈ (g :: ((List.range' m (V.length - m)).filter fun i => decide (Grp V (g ++ [i]))).map fun i => gre V f (g ++ [i]) (i + 1)) ↔ x = g ∨ ∃ i, m ≤ i ∧ i < V.length ∧ Grp V (g ++ [i]) ∧ gre V f (g ++ [i]) (i + 1) = x := fun x => by
      simp only [List.mem_cons, List.mem_map, List.mem_filter, List.mem_range'_1, decide_eq_true_eq]
      constructor
      · rintro (h | ⟨i, ⟨⟨h1, h2⟩, h3⟩, h4⟩)
        · exact .inl h
        · exact .inr ⟨i, h1, by omega, h3, h4⟩
      · rintro (h | ⟨i, h1, h2, h3, h4⟩)
        · exact .inl h
        · exact .inr ⟨i, ⟨⟨h1, by omega⟩, h3⟩, h4⟩
    have hlen : ∀ i, m ≤ i → i < V.length → Grp V (g ++ [i]) → ∃ s, gre V f (g ++ [i]) (i + 1) = g ++ i :: s := fun i h1 h2 h3 => by
      obtain ⟨s, hs, _⟩ := (ih i h1 h2 h3).1
      exact ⟨s, by rw [hs]; simp⟩
    have ht := bestG_top (g :: ((List.range' m (V.length - m)).filter fun i => decide (Grp V (g ++ [i]))).map fun i => gre V f (g ++ [i]) (i + 1)) (by simp) (by
      rw [List.pairwise_cons]
      refine ⟨fun x hx hl => ?_, ?_⟩
      · obtain ⟨i, hi', rfl⟩ := List.mem_map.1 hx
        simp only [List.mem_filter, List.mem_range'_1, decide_eq_true_eq] at hi'
        obtain ⟨s, hs⟩ := hlen i hi'.1.1 (by omega) hi'.2
        rw [hs] at hl
        simp at hl
      · rw [List.pairwise_map]
        refine List.Pairwise.imp_of_mem ?_ (List.Pairwise.filter _ List.pairwise_lt_range')
        intro a b ha hb hab _
        simp only [List.mem_filter, List.mem_range'_1, decide_eq_true_eq] at ha hb
        obtain ⟨s, hs⟩ := hlen a ha.1.1 (by omega) ha.2
        obtain ⟨s', hs'⟩ := hlen b hb.1.1 (by omega) hb.2
        rw [hs, hs', bef_app, bef_cons, if_neg (by omega)]
        simp; omega)
    rw [gre]
    obtain ⟨t1, t2⟩ := ht
    refine ⟨?_, fun x hx => ?_⟩
    · rcases (hmem _).1 t1 with h | ⟨i, h1, h2, h3, h4⟩
      · rw [h]; exact ⟨[], by simp, by simp, hi, hg⟩
      · rw [← h4]
        obtain ⟨s, k1, k2, k3, k4⟩ := (ih i h1 h2 h3).1
        refine ⟨i :: s, by rw [k1]; simp, fun j hj => ?_, k3, k4⟩
        rcases List.mem_cons.1 hj with h | h
        · omega
        · have := k2 j h; omega
    · rcases hx.split with h | ⟨i, h1, h2, h3, h4⟩
      · exact t2 x ((hmem x).2 (.inl h))
      · have t3 := t2 _ ((hmem _).2 (.inr ⟨i, h1, h2, h3, rfl⟩))
        rcases (ih i h1 h2 h3).2 x h4 with e | e
        · rw [e]; exact t3
        · rcases t3 with k | k
          · rw [k] at e; exact .inr e
          · exact .inr (beats_trans k e)

/-! The document's. -/
theorem btr2_beats (V : List (Int × Int)) (x b : List Nat) : btr2 V x b = true ↔ cgE V (natL x) = 0 ∧ beats x b := by
  unfold btr2 beats
  simp
theorem rgr_top (V : List (Int × Int)) (h0 : cgE V [] = 0) : ∀ m, Top (fun x => ∃ b, b ≤ m ∧ x = lst b V.length ∧ cgE V (natL x) = 0) (rgrK V (m + 1))
  | 0 => by
    have hl : lst 0 V.length = [] := by
      unfold lst
      rw [List.filter_eq_nil_iff]
      intro i _
      simp [bitB]
    have hr : rgrK V 1 = [] := by
      rw [rgrK, hl]
      split <;> rfl
    rw [hr]
    refine ⟨⟨0, Nat.le_refl _, hl.symm, h0⟩, ?_⟩
    rintro x ⟨b, hb, rfl, _⟩
    obtain rfl : b = 0 := by omega
    exact .inl hl
  | m + 1 => by
    obtain ⟨⟨b, h1, h2, h3⟩, h4⟩ := rgr_top V h0 m
    rw [show rgrK V (m + 1 + 1) = if btr2 V (lst (m + 1) V.length) (rgrK V (m + 1)) then lst (m + 1) V.length else rgrK V (m + 1) from rfl]
    generalize rgrK V (m + 1) = r at *
    cases hb : btr2 V (lst (m + 1) V.length) r
    · rw [if_neg (by decide)]
      refine ⟨⟨b, by omega, h2, h3⟩, ?_⟩
      rintro x ⟨c, hc, rfl, hx⟩
      by_cases e : c = m + 1
      · subst e
        rcases beats_tri (lst (m + 1) V.length) r with k | k | k
        · have := (btr2_beats V _ _).2 ⟨hx, k⟩
          rw [hb] at this; cases this
        · exact .inl k
        · exact .inr k
      · exact h4 _ ⟨c, by omega, rfl, hx⟩
    · rw [if_pos rfl]
      obtain ⟨k1, k2⟩ := (btr2_beats V _ _).1 hb
      refine ⟨⟨m + 1, Nat.le_refl _, rfl, k1⟩, ?_⟩
      rintro x ⟨c, hc, rfl, hx⟩
      by_cases e : c = m + 1
      · subst e; exact .inl rfl
      · rcases h4 _ ⟨c, by omega, rfl, hx⟩ with k | k
        · rw [k]; exact .inr k2
        · exact .inr (beats_trans k2 k)
theorem lst_inc (b n : Nat) : (lst b n).Pairwise (· < ·) ∧ ∀ i ∈ lst b n, i < n := by
  unfold lst
  exact ⟨List.Pairwise.filter _ List.pairwise_lt_range, fun i hi => List.mem_range.1 (List.mem_filter.1 hi).1⟩
theorem bit_add (b n i : Nat) (h : i < n) : bitB (b + 2 ^ n) i = bitB b i := by
  unfold bitB
  obtain ⟨k, rfl⟩ : ∃ k, n = i + 1 + k := ⟨n - i - 1, by omega⟩
  have e : 2 ^ (i + 1 + k) = 2 ^ i * (2 * 2 ^ k) := by rw [Nat.pow_add, Nat.pow_succ, Nat.mul_assoc]
  rw [e, Nat.add_mul_div_left _ _ (Nat.pow_pos (by omega)), Nat.add_mul_mod_self_left]
theorem bit_top (b n : Nat) (h : b < 2 ^ n) : bitB (b + 2 ^ n) n = true ∧ bitB b n = false := by
  unfold bitB
  rw [Nat.add_div_right _ (Nat.pow_pos (by omega)), Nat.div_eq_of_lt h]
  exact ⟨rfl, rfl⟩
theorem lst_all : ∀ (n : Nat) (x : List Nat), x.Pairwise (· < ·) → (∀ i ∈ x, i < n) → ∃ b, b < 2 ^ n ∧ lst b n = x
  | 0, x, _, h => by
    have : x = [] := List.eq_nil_iff_forall_not_mem.2 fun i hi => absurd (h i hi) (Nat.not_lt_zero _)
    subst this
    exact ⟨0, by simp, rfl⟩
  | n + 1, x, hp, h => by
    by_cases hn : n ∈ x
    · obtain ⟨s, t, rfl⟩ := List.append_of_mem hn
      rw [List.pairwise_append, List.pairwise_cons] at hp
      obtain ⟨p1, ⟨p2, _⟩, p3⟩ := hp
      have ht : t = [] := List.eq_nil_iff_forall_not_mem.2 fun i hi => by
        have := p2 i hi
        have := h i (by simp [hi])
        omega
      subst ht
      obtain ⟨b, hb, hl⟩ := lst_all n s p1 (fun i hi => p3 i hi n (by simp))
      refine ⟨b + 2 ^ n, by rw [Nat.pow_succ]; omega, ?_⟩
      rw [lst_succ, if_pos (bit_top b n hb).1]
      have : lst (b + 2 ^ n) n = lst b n := by
        unfold lst
        exact List.filter_congr fun i hi => bit_add b n i (List.mem_range.1 hi)
      rw [this, hl]
    · obtain ⟨b, hb, hl⟩ := lst_all n x hp (fun i hi => by
        have := h i hi
        have : i ≠ n := fun e => hn (e ▸ hi)
        omega)
      refine ⟨b, by rw [Nat.pow_succ]; omega, ?_⟩
      rw [lst_succ, if_neg (by rw [(bit_top b n hb).2]; decide), hl]
theorem ixs_natL (x : List Nat) : ixs (natL x) = x := by
  unfold ixs natL
  rw [List.map_map]
  have : (Int.toNat ∘ fun (n : Nat) => (n : Int)) = id := by funext n; simp
  rw [this, List.map_id]
theorem incB_of {n : Nat} : ∀ (x : List Nat) (N : Nat), x.Pairwise (· < ·) → (∀ i ∈ x, N ≤ i ∧ i < n) → incB n (N : Int) (natL x) = true
  | [], _, _, _ => rfl
  | i :: x, N, hp, h => by
    rw [List.pairwise_cons] at hp
    have hi := h i (by simp)
    have ih := incB_of x (i + 1) hp.2 (fun j hj => ⟨hp.1 j hj, (h j (by simp [hj])).2⟩)
    simp only [natL, List.map_cons, incB, Bool.and_eq_true, Bool.not_eq_true']
    refine ⟨?_, ih⟩
    simp [outB]; omega
theorem cg_grp {V : List (Int × Int)} (hc : checkP V = 0) {x : List Nat} (hi : Inc V x) : cgE V (natL x) = 0 ↔ Grp V x := by
  have h1 : incB V.length 0 (natL x) = true := incB_of x 0 hi.1 (fun i hx => ⟨Nat.zero_le _, hi.2 i hx⟩)
  unfold cgE
  rw [if_neg (by simpa using hc), if_pos h1, ixs_natL]
  by_cases h : Grp V x
  · rw [if_pos h]; simp [h]
  · rw [if_neg h]; simp [h]
theorem rgr_eq (V : List (Int × Int)) : rgrN V = grpN V := by
  unfold rgrN grpN
  by_cases hc : checkP V = 0
  · rw [if_pos hc, if_pos hc]
    have hp : 1 ≤ 2 ^ V.length := Nat.pow_pos (by omega)
    have h0 : cgE V [] = 0 := (cg_grp hc (x := []) ⟨List.Pairwise.nil, by simp⟩).2 List.Pairwise.nil
    have t1 := rgr_top V h0 (2 ^ V.length - 1)
    rw [Nat.sub_add_cancel hp] at t1
    have t2 := gre_top V V.length [] 0 (Nat.sub_le _ _) ⟨List.Pairwise.nil, by simp⟩ List.Pairwise.nil (by simp)
    refine t1.unique (t2.congr fun x => ?_)
    constructor
    · rintro ⟨s, _, _, h3, h4⟩
      obtain ⟨b, hb, hl⟩ := lst_all V.length x h3.1 h3.2
      exact ⟨b, by omega, hl.symm, (cg_grp hc h3).2 h4⟩
    · rintro ⟨b, hb, rfl, hx⟩
      have hi : Inc V (lst b V.length) := lst_inc b V.length
      exact ⟨_, rfl, fun _ _ => Nat.zero_le _, hi, (cg_grp hc hi).1 hx⟩
  · rw [if_neg hc, if_neg hc]
end Go.Proofs.Ytooddicegkiiiaa

namespace Go.Proofs.Ytooddicegkiiiaa
open Go.RowKit Go.Shelf

def Keep (w : World) (G : World → Prop) : Prop := ∀ w', Below w.heap.size w w' → G w'
theorem Keep.here {w : World} {G : World → Prop} (h : Keep w G) : G w := h w (bz w)
theorem Keep.up {w w' : World} {G : World → Prop} (h : Keep w G) (hb : Below w.heap.size w w') : Keep w' G := fun w2 h2 => h w2 (btr hb h2)
theorem Keep.and {w : World} {G G' : World → Prop} (h : Keep w G) (k : Keep w G') : Keep w (fun w => G' w ∧ G w) := fun w' hb => ⟨k w' hb, h w' hb⟩
theorem Keep.name {w : World} {G : World → Prop} (h : Keep w G) : ∃ G' : World → Prop, Keep w G' ∧ ∀ w, G' w → G w := ⟨G, h, fun _ h => h⟩
theorem Keep.imp {w : World} {G G' : World → Prop} (h : Keep w G) (k : ∀ w, G w → G' w) : Keep w G' := fun w' hb => k w' (h w' hb)
theorem keepI {w : World} {k : IntKind} {v : Value} {xs : List Int} (h : RdI w k v xs) : Keep w (fun w => RdI w k v xs) := fun _ hb => h.mono hb
theorem keepP {w : World} {v : Value} {V : List (Int × Int)} (h : RdP w v V) : Keep w (fun w => RdP w v V) := fun _ hb => h.mono hb
theorem keepC {w : World} {p : Addr} {v : Value} (h : w.cell? p = some v) : Keep w (fun w => w.cell? p = some v) := fun _ hb => (hb.cell (World.block_lt_of_cell? w _ h)).trans h
theorem keepB {w0 w : World} (h : Below w0.heap.size w0 w) : Keep w (fun w => Below w0.heap.size w0 w) := fun _ hb => btr h hb
theorem keepZ {w : World} {b : Nat} (h : b < w.heap.size) : Keep w (fun w => b < w.heap.size) := fun _ hb => Nat.lt_of_lt_of_le h hb.size
theorem keep_true (w : World) : Keep w (fun _ => True) := fun _ _ => trivial

theorem rdI_new (w : World) (xs : List Int) (t : TypeId) (h : xs.length ≤ 1000) : RdI (w.alloc (.cells (arrI xs) t)) .i64 (.slice (some ⟨w.heap.size, 0, none⟩) xs.length xs.length) xs := by
  refine ⟨_, _, rfl, Nat.le_refl _, by unfold maxLen; omega, fun _ => ⟨w.heap.size, 0, rfl, by simp, fun j u hj => ?_⟩⟩
  exact cnew rfl (by simpa [arrI] using hj)
theorem rdI_at (w : World) (xs : List Int) (t : TypeId) (b : Nat) (hb : b = w.heap.size) (h : xs.length ≤ 1000) : RdI (w.alloc (.cells (arrI xs) t)) .i64 (.slice (some ⟨b, 0, none⟩) xs.length xs.length) xs := by
  subst hb; exact rdI_new w xs t h
theorem RdP.ex {w : World} {v : Value} {V : List (Int × Int)} (h : RdP w v V) (n : Nat) (hn : V.length = n) : ∃ a c, v = .slice a n c := by
  obtain ⟨a, c, h, _⟩ := h; exact ⟨a, c, by rw [h, hn]⟩
theorem RdI.ex {w : World} {k : IntKind} {v : Value} {V : List Int} (h : RdI w k v V) (n : Nat) (hn : V.length = n) : ∃ a c, v = .slice a n c := by
  obtain ⟨a, c, h, _⟩ := h; exact ⟨a, c, by rw [h, hn]⟩
end Go.Proofs.Ytooddicegkiiiaa

namespace Go.Proofs.Ytooddicegkiiiaa
open Go.ChangeShapes Go.WideShapes Go.ChangeAt Go.RowKit Go.Deep Go.Joins

theorem Try.own : ownKnob Try.prog.godebug = none := by kernel_rfl
theorem Try.laidOut : laidOutB Try.prog = true := by kernel_rfl

section
variable {H : Type} {enc : TypeId × Value → H} {P : Program} {W W' : World}
theorem trodAll_later (hl : laidOutB P = true) (hb : Below W.heap.size W W') : ∀ (ts : List TypeId) (vs : List Value) (ds : List (DataW H)) (ps : List MemPlace), ts.all (fun t => P.readableRec t && decide (t < P.types.size)) = true →
    DataW.TrodAll enc P W 0 (fun _ => true) true ts vs ds ps → (∀ x ∈ ps, x.block < W.heap.size) → DataW.TrodAll enc P W' 0 (fun b => decide (b < W.heap.size)) true ts vs ds ps
  | [], [], [], _, _, h, _ => h
  | t :: ts, v :: vs, d :: ds, ps, hr, ⟨p, q, h1, h2, he⟩, hlt => by
    subst he
    simp only [List.all_cons, Bool.and_eq_true, decide_eq_true_eq] at hr
    exact ⟨p, q, Below.trod hl hr.1.1 hr.1.2 h1 hb (fun x hx => hlt x (List.mem_append_left _ hx)), trodAll_later hl hb ts vs ds q hr.2 h2 (fun x hx => hlt x (List.mem_append_right _ hx)), rfl⟩
  | [], _ :: _, _, _, _, h, _ => h.elim
  | [], [], _ :: _, _, _, h, _ => h.elim
  | _ :: _, [], _, _, _, h, _ => h.elim
  | _ :: _, _ :: _, [], _, _, h, _ => h.elim

theorem law_post {f : Func} {s : ChangeSpec} {args : Array Value} {ds : List (DataW H)} {before : List MemPlace} {b4 : TypeId} (hl : laidOutB P = true) (h4 : P.underlying b4 = some .bool)
    (hW : DataW.Whole enc P f.params.toList s.vars false W args.toList ds [] before) (hA : DataW.TrodAll enc P W 0 (fun _ => true) true f.params.toList args.toList ds before) (hrt : f.resultTypes = #[b4]) (hr : (s.fn H (ds ++ [])).results = [.lit (.bool true)]) (ha : (s.fn H (ds ++ [])).args = ds)
    (hv : s.vars = []) (hvv : (s.fn H (ds ++ [])).vars = []) (hread : f.params.toList.all (fun t => P.readableRec t && decide (t < P.types.size)) = true) (hb : Below W.heap.size W W') :
    s.post enc P f false true false false W args (.bool true) W' := by
  refine ⟨ds, [], before, [], before, [], hW, ?_, ?_, ?_, hb.frame _, fun h => by cases h⟩
  · rw [hr, hrt]
    exact trodAll_cons_mk (shut_bool h4 _) trodAll_mk0
  · rw [ha]
    exact trodAll_later hl hb _ _ _ _ hread hA hW.lt
  · rw [hv, hvv]; rfl
end

section
variable {H : Type} {enc : TypeId × Value → H} {W : World}
set_option maxRecDepth 100000 in
theorem open_ints_rd {r : Reach} {b0 : Nat} {t e : TypeId} {k : IntKind} {v : Value} {d : DataW H} {p : List MemPlace} (ht : Try.prog.underlying t = some (.slice e)) (he : Try.prog.underlying e = some (.int k)) (hc : Try.prog.cellsOf e = 1)
    (hv : Value.okWide Try.prog W r b0 t v) (h : DataW.Trod enc Try.prog W 0 (fun _ => true) true t v d p) (hlt : ∀ x ∈ p, x.block < W.heap.size) : ∃ xs : List Int, RdI W k v xs ∧ ∀ n ∈ xs, (Lit.int k n).wf = true := by
  obtain ⟨a0, len, cap, rfl⟩ := okWide_slice ht hv
  obtain ⟨fuel, hf⟩ := h
  rcases open_ints ht he hc hf with ⟨hcs, hx⟩ | ⟨a, len', cap', zs, hcs, _, hl, hm, hz, hx, hcell, hwz⟩
  · simp [Value.cells] at hcs
    obtain ⟨rfl, rfl, rfl⟩ := hcs
    exact ⟨[], ⟨none, 0, rfl, Nat.le_refl _, Nat.zero_le _, fun h => absurd rfl h⟩, fun n hn => by cases hn⟩
  · simp [Value.cells] at hcs
    obtain ⟨rfl, rfl, rfl⟩ := hcs
    simp only [Prod.mk.injEq] at hx
    obtain ⟨rfl, rfl⟩ := hx
    simp only [if_true] at hz
    have hlen : (zs.take len).length = len := by rw [List.length_take]; omega
    refine ⟨zs.take len, ⟨some a, cap, by rw [hlen], by rw [hlen]; exact hl, hm, fun hne => ?_⟩, fun n hn => hwz n (List.mem_of_mem_take hn)⟩
    have hl0 : 0 < len := by
      rcases Nat.eq_zero_or_pos len with h0 | h0
      · subst h0; simp at hne
      · exact h0
    obtain ⟨b, off, spot⟩ := a
    have hspot : spot = none := by simpa [Addr.add] using World.cell?_spot (hcell 0 (by omega))
    subst hspot
    refine ⟨b, off, rfl, hlt (.cell b off) (MemPlace.mem_row.2 ⟨0, by omega, by simp⟩), fun j u hj => ?_⟩
    have hjl : j < len := by have := (List.getElem?_eq_some_iff.1 hj).1; simp at this; omega
    have hjz : j < zs.length := by omega
    have := hcell j hjz
    rw [add_plain] at this
    rw [this, ← hj]
    simp [hjl, List.getD, hjz]

set_option maxRecDepth 100000 in
theorem open_pairs_rd {fuel : Nat} {cs : List Value} {y : DataW H × List MemPlace} (h : DataW.trod enc Try.prog W 0 (fun _ => true) true fuel 22 cs = some y) (v : Value) (hcs : cs = [v]) (hlt : ∀ x ∈ y.2, x.block < W.heap.size) : ∃ V : List (Int × Int), RdP W v V ∧ ∀ x ∈ V, (Lit.int .i64 x.1).wf = true ∧ (Lit.int .i64 x.2).wf = true := by
  have c55 : Try.prog.cellsOf 55 = 2 := by kernel_rfl
  have c2 : Try.prog.cellsOf 2 = 1 := by kernel_rfl
  subst hcs
  rcases open_slice Try.underlying22 h with ⟨hc, rfl⟩ | ⟨a, len, cap, m, n, D, Pl, hc, _, hl, hm, hmm, rfl, hi⟩
  · simp at hc
    subst hc
    exact ⟨[], rdP_nil _, by simp⟩
  · simp at hc
    subst hc
    simp only [if_true] at hmm
    subst hmm
    rw [c55] at hi hlt
    have key : ∀ i, i < len → ∃ q : Int × Int, (W.cell? (a.add (i * 2)) = some (.int .i64 q.1) ∧ W.cell? (a.add (i * 2 + 1)) = some (.int .i64 q.2)) ∧ (Lit.int .i64 q.1).wf = true ∧ (Lit.int .i64 q.2).wf = true := by
      intro i hil
      obtain ⟨cs', h1, h2⟩ := hi i (by omega)
      obtain ⟨_, hcl, hat⟩ := World.cells?_some h1
      match cs', hcl with
      | [c0, c1], _ =>
        obtain ⟨y0, y1, n, _, _, h0, h1'⟩ := trod_struct2 Try.underlying55 h2
        rw [c2] at h0 h1'
        obtain ⟨n0, e0, _, k1'⟩ := DataW.trod_int Try.underlying2 h0
        obtain ⟨n1, e1, _, k2'⟩ := DataW.trod_int Try.underlying2 h1'
        simp at e0 e1
        subst e0; subst e1
        refine ⟨(n0, n1), ⟨?_, ?_⟩, ?_⟩
        · have := hat 0 (by omega); rw [Go.Deep.add_add] at this; simpa using this
        · have := hat 1 (by omega); rw [Go.Deep.add_add] at this; simpa using this
        · exact ⟨k1', k2'⟩
    obtain ⟨f, hf⟩ := choose_lt key
    refine ⟨(List.range len).map f, ⟨some a, m, by simp, by simpa using hl, hm, fun hne => ?_⟩, fun x hx => by
      obtain ⟨i, hi, rfl⟩ := List.mem_map.1 hx
      exact (hf i (List.mem_range.1 hi)).2⟩
    have hl0 : 0 < len := by
      rcases Nat.eq_zero_or_pos len with h0 | h0
      · subst h0; simp [prs] at hne
      · exact h0
    obtain ⟨b, off, spot⟩ := a
    have hspot : spot = none := by simpa [Addr.add] using World.cell?_spot (hf 0 hl0).1.1
    subst hspot
    refine ⟨b, off, rfl, hlt (.cell b off) (List.mem_append_left _ (MemPlace.mem_row.2 ⟨0, by omega, by simp⟩)), fun j u hj => ?_⟩
    have hjl : j < len * 2 := by have := (List.getElem?_eq_some_iff.1 hj).1; rw [prs_length] at this; simpa using this
    obtain ⟨g1, g2⟩ := prs_get ((List.range len).map f) (j / 2) (by simp; omega)
    have hfj := (hf (j / 2) (by omega)).1
    have hlt2 : j / 2 < len := by omega
    simp [hlt2] at g1 g2
    rw [add_plain, add_plain] at hfj
    rcases Nat.mod_two_eq_zero_or_one j with hp | hp
    · have e : j / 2 * 2 = j := by omega
      rw [e] at hfj g1
      rw [hfj.1, ← hj, g1]
    · have e : j / 2 * 2 + 1 = j := by omega
      rw [e] at hfj g2
      rw [hfj.2, ← hj, g2]

set_option maxRecDepth 100000 in
theorem open_pins {r : Reach} {b0 : Nat} {v : Value} {d : DataW H} {p : List MemPlace} (hv : Value.okWide Try.prog W r b0 22 v) (h : DataW.Trod enc Try.prog W 0 (fun _ => true) true 22 v d p) (hlt : ∀ x ∈ p, x.block < W.heap.size) :
    ∃ V : List (Int × Int), RdP W v V ∧ ∀ x ∈ V, (Lit.int .i64 x.1).wf = true ∧ (Lit.int .i64 x.2).wf = true := by
  obtain ⟨a0, len, cap, rfl⟩ := okWide_slice Try.underlying22 hv
  obtain ⟨fuel, hf⟩ := h
  exact open_pairs_rd hf _ rfl hlt
end
end Go.Proofs.Ytooddicegkiiiaa

namespace Go.Proofs.Ytooddicegkiiiaa
open Go.RowKit Go.Shelf

theorem of_id (x : Value) (w : World) : Calls Try.prog 54 #[x] w fun e w' => e = .returned x ∧ w = w' := by
  go_enter Try.func54, Try.ntmps54
  go_wp2_with fail
  go_ret
  exact ⟨rfl, rfl⟩
theorem longs_id (x : Value) (w : World) : Calls Try.prog 55 #[x] w fun e w' => e = .returned x ∧ w = w' := by
  go_enter Try.func55, Try.ntmps55
  go_wp2_with fail
  go_ret
  exact ⟨rfl, rfl⟩
theorem great_any (a : Option Addr) (n c : Nat) (w : World) : Calls Try.prog 18 #[.slice a n c] w fun e w' => e = .returned (.bool (decide (9 < n))) ∧ w = w' := by
  by_cases h : 9 < n
  · rw [decide_eq_true h]
    have h2 : (9 : Int) < (n : Int) := by omega
    go_enter Try.func18, Try.ntmps18
    go_wp2_with fail
    go_ret
    exact ⟨rfl, rfl⟩
  · rw [decide_eq_false h]
    have h2 : ¬ (9 : Int) < (n : Int) := by omega
    go_enter Try.func18, Try.ntmps18
    go_wp2_with fail
    go_ret
    exact ⟨rfl, rfl⟩
theorem checkP_many {V : List (Int × Int)} (h : 5 < V.length) : checkP V = 6 := by
  unfold checkP
  rw [if_pos (by simp; omega)]
theorem fine_any (x : Value) (V : List (Int × Int)) (w : World) (hx0 : RdP w x V) : Calls Try.prog 44 #[x] w fun e w' => e = .returned (.bool (checkP V == 0)) ∧ Below w.heap.size w w' := by
  obtain ⟨a, ca, rfl, _, _, _⟩ := hx0.form
  by_cases h : 9 < V.length
  · rw [show (checkP V == 0) = false from by rw [checkP_many (by omega)]; rfl]
    have HG := Lib.hid (great_any a V.length ca)
    rw [decide_eq_true h] at HG
    clear h
    go_enter Try.func44, Try.ntmps44
    go_wp2_with fail
    refine (HG.out _).mono ?_
    rintro e w2 ⟨rfl, rfl⟩
    go_wp2_with fail
    go_ret
    exact ⟨rfl, bz _⟩
  · have HG := Lib.hid (great_any a V.length ca)
    have HK := Lib.hid (rcheck_any _ V w hx0 (by omega))
    rw [decide_eq_false h] at HG
    clear h
    generalize checkP V = q at *
    go_enter Try.func44, Try.ntmps44
    go_wp2_with fail
    refine (HG.out _).mono ?_
    rintro e w2 ⟨rfl, rfl⟩
    go_wp2_with fail
    refine HK.out.mono ?_
    rintro e w2 ⟨rfl, hB⟩
    go_wp2_with fail
    go_ret
    exact ⟨rfl, hB⟩
theorem timed_any (n : Int) (w : World) (h0 : 0 ≤ n) (_h1 : n < 18446744073709551616) : Calls Try.prog 46 #[.int .u64 n] w fun e w' => e = .returned (.int .i64 (n % 1000000000001)) ∧ w = w' := by
  have e1 : n.tmod 1000000000001 = n % 1000000000001 := Int.tmod_eq_emod_of_nonneg h0
  have w1 : IntKind.u64.wrap (n % 1000000000001) = n % 1000000000001 := by rw [IntKind.wrap_u64]; omega
  have w2 : IntKind.i64.wrap (n % 1000000000001) = n % 1000000000001 := IntWalk.i64_in _ (by omega)
  go_enter Try.func46, Try.ntmps46
  go_wp2_with fail
  go_ret
  exact ⟨rfl, rfl⟩
theorem first_ok {V : List (Int × Int)} (hc : checkP V = 0) : firstA V = jA V ∧ firstB V = jB V ∧ firstE V = if jO V then 0 else 21 := by
  refine ⟨?_, ?_, ?_⟩
  · unfold firstA; rw [if_neg (by simpa using hc)]
  · unfold firstB; rw [if_neg (by simpa using hc)]
  · unfold firstE; rw [if_neg (by simpa using hc)]
theorem results_tmp4 {fn : Func} {t u v x : Tmp} (h : fn.results = #[.tmp t, .tmp u, .tmp v, .tmp x]) (tmps : Array Value) (P : Program) (w : World) :
    (results fn tmps).run P w = .ok (.tuple #[tmps.getD t undef, tmps.getD u undef, tmps.getD v undef, tmps.getD x undef]) w := by
  simp [results, h]
set_option maxHeartbeats 1000000 in
theorem together_ok (x : Value) (V : List (Int × Int)) (w : World) (hx0 : RdP w x V) (hc : checkP V = 0) :
    Calls Try.prog 45 #[x] w fun e w' => e = .returned (.tuple #[.int .i64 (jA V), .int .i64 (jB V), .bool (jO V), .bool true]) ∧ Below w.heap.size w w' := by
  have hV := okPins_of hc
  have h5 := hV.l5
  obtain ⟨h1, h2, h3⟩ := first_ok hc
  have HF := Lib.hid (first_any x V w hx0 (by omega))
  rw [h1, h2, h3] at HF
  obtain ⟨hb1, hb2⟩ := jbd hV.v hV.l5
  clear h1 h2 h3 hc hV
  generalize jO V = o at *
  generalize jA V = A at *
  generalize jB V = B at *
  cases o
  · obtain ⟨rfl, rfl⟩ := hb2 rfl
    simp only [Bool.false_eq_true, if_false] at HF
    clear hb1 hb2
    go_enter Try.func45, Try.ntmps45
    go_wp2_with fail
    refine HF.out.mono ?_
    rintro e w2 ⟨rfl, hB⟩
    go_wp2_with fail
    refine bodyPost_ret (results_tmp4 rfl _ _ _) rfl ?_
    exact ⟨rfl, hB⟩
  · obtain ⟨a0, a1, a2⟩ := hb1 rfl
    simp only [if_true] at HF
    clear hb1 hb2
    go_enter Try.func45, Try.ntmps45
    go_wp2_with fail
    refine HF.out.mono ?_
    rintro e w2 ⟨rfl, hB⟩
    go_wp2_with fail
    refine bodyPost_ret (results_tmp4 rfl _ _ _) rfl ?_
    exact ⟨rfl, hB⟩

def prK (l : List Int) (k : Nat) : List (Int × Int) := (List.range k).map fun i => (l[2 * i]?.getD 0, l[2 * i + 1]?.getD 0)
theorem prK_succ (l : List Int) (k : Nat) : prK l (k + 1) = prK l k ++ [(l[2 * k]?.getD 0, l[2 * k + 1]?.getD 0)] := by simp [prK, List.range_succ]
theorem prK_len (l : List Int) (k : Nat) : (prK l k).length = k := by simp [prK]
set_option maxRecDepth 100000 in
set_option maxHeartbeats 2000000 in
theorem pins_any (x : Value) (l : List Int) (w : World) (hx0 : RdI w .i64 x l) (hl : l.length ≤ 1000) :
    Calls Try.prog 53 #[x] w fun e w' => ∃ v, e = .returned v ∧ RdP w' v (prK l (l.length / 2)) ∧ Below w.heap.size w w' := by
  obtain ⟨a, ca, rfl, hca, hca2, hxf⟩ := hx0.form
  clear hca2 hx0
  go_enter Try.func53, Try.ntmps53
  go_wp2_with fail
  go_loopw [3, 4] (fun s3 i wr => ∃ (k : Nat) (v : Value), k ≤ l.length / 2 ∧ v = s3 ∧ i = .int .i64 ((2 * k : Nat) : Int) ∧ wr.ownsRow w.heap.size 55 2 v (prK l k).length (prs (prK l k)) ∧ Below w.heap.size w wr) (fun _ i _ => l.length - (intOf i).toNat)
  case atStart => exact ⟨0, _, Nat.zero_le _, rfl, rfl, World.ownsRow_nil _ _ _ _, bz _⟩
  case round =>
    obtain ⟨k, v, hk, rfl, rfl, hor, hB⟩ := hrel
    obtain ⟨av, cv, rfl⟩ := owns_form hor
    by_cases hlt : 2 * k + 1 < l.length
    · have hlti : ((2 * k : Nat) : Int) + 1 < (l.length : Int) := by omega
      obtain ⟨bx, ox, rfl, hbx, hcx⟩ := hxf (by omega)
      have gx := (hB.cell (p := ⟨bx, ox + 2 * k, none⟩) hbx).trans (hcx (2 * k) (by omega))
      have gy := (hB.cell (p := ⟨bx, ox + (2 * k + 1), none⟩) hbx).trans (hcx (2 * k + 1) hlt)
      have HS := Lib.hid (prK_succ l k)
      have HKL := Lib.hid (prK_len l k)
      have HK := Lib.hid hk
      have HOR := Lib.hid hor; have HB := Lib.hid hB
      clear hor hB hxf hcx hk
      generalize l[2 * k]?.getD 0 = u1 at *
      generalize l[2 * k + 1]?.getD 0 = u2 at *
      generalize prK l k = U at *
      generalize hj : 2 * k = j at *
      have HJ := Lib.hid hj; clear hj
      go_wp2_with fail
      refine wp_region_flow [] [([0, 1, 2, 3, 4, 5, 6, 7, 8, 9, 10], 11, true), ([], 12, false), ([], 13, false)] [] (by kernel_rfl) (by kernel_rfl) ?_
      intro wc hBc hh
      have d0 := (hBc.cell (World.block_lt_of_cell? wr _ gx)).trans gx
      have d1 := (hBc.cell (World.block_lt_of_cell? wr _ gy)).trans gy
      have z1 := World.block_lt_of_cell? wc _ d0
      simp only at z1
      have hL := @Later.cell wc
      have HBC := Lib.hid (btr HB.out hBc)
      have HORC := Lib.hid (owns_kept HOR.out hBc)
      clear hh hBc gx gy
      simp only [flowP, flow, pickL, List.getElem?_cons_succ, List.getElem?_cons_zero]
      refine wpQuiet_nil ?_
      repeat (go_big_quiet_step (fail))
      refine wpQuiet_nil ?_
      go_wp2
      refine seg_grow ⟨⟨_, bal (bz _) _⟩, rfl⟩ ?_
      refine wpQuiet_nil ?_
      have hbz : w.heap.size ≤ wc.heap.size := HBC.out.size
      refine wpList_append_pair rfl _ _ rfl Try.underlying22 info55 HORC.out hbz u1 u2 rfl rfl rfl (by have := HKL.out; have := HK.out; omega) ?_
      intro v' w' hown hgrow
      have HBN := Lib.hid (append_below (bal HBC.out _) (HORC.out.alloc _) hgrow (Nat.le_refl _))
      have HOWN := Lib.hid hown
      clear hown hgrow d0 d1
      go_wp2
      refine seg_write ?_
      refine wpQuiet_nil ?_
      go_wp2
      refine seg_write ?_
      refine wpQuiet_nil ?_
      refine only_done ?_
      go_wp2_with fail
      go_roundw
      case rel =>
        refine ⟨k + 1, v', by have := HK.out; have := HJ.out; omega, rfl, ?_, by rw [HS.out]; exact HOWN.out, HBN.out⟩
        have := HJ.out
        congr 1
        omega
      case measure => simp [intOf]; omega
    · have hkl : k = l.length / 2 := by omega
      have hlti : ¬ ((2 * k : Nat) : Int) + 1 < (l.length : Int) := by omega
      have HORF := Lib.hid (RdP.of_owns hor)
      rw [hkl] at HORF hor
      have HB := Lib.hid hB
      clear hor hB
      have HKL := Lib.hid hkl; clear hkl
      go_wp2_with fail
      go_ret
      exact ⟨_, rfl, by have h := HORF.out; rw [← HKL.out] at h ⊢; exact h, HB.out⟩
end Go.Proofs.Ytooddicegkiiiaa
