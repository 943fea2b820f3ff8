/- Plain: pins that clash alike; pins turned and scaled; no condition. -/
import Derived.Test.YtooddicegkiiiaaP8
namespace Go.Proofs.Ytooddicegkiiiaa

/-- Two lists of pins, as long, of which the same clash. -/
structure Alike (V W : List (Int × Int)) : Prop where
  len : V.length = W.length
  cl : ∀ i k, i < V.length → k < V.length → clB (pin V i) (pin V k) = clB (pin W i) (pin W k)
theorem Alike.symm {V W : List (Int × Int)} (h : Alike V W) : Alike W V := ⟨h.len.symm, fun i k hi hk => (h.cl i k (by rw [h.len]; exact hi) (by rw [h.len]; exact hk)).symm⟩
theorem Alike.free1 {V W : List (Int × Int)} (h : Alike V W) (hf : Free V) : Free W := fun i k hi hk => by
  have hk' : k < V.length := by rw [h.len]; exact hk
  rw [← h.cl i k (by omega) hk']; exact hf i k hi hk'
theorem Alike.free {V W : List (Int × Int)} (h : Alike V W) : Free V ↔ Free W := ⟨h.free1, h.symm.free1⟩
theorem Alike.first {V W : List (Int × Int)} (h : Alike V W) {i k : Nat} (hf : FirstCl V i k) : FirstCl W i k := by
  have hl := h.len
  have hlt := hf.lt; have hkl := hf.len
  refine ⟨hlt, by omega, ?_, fun a b h1 h2 h3 => ?_⟩
  · rw [← h.cl i k (by omega) hkl]; exact hf.cl
  · rw [← h.cl a b (by omega) (by omega)] at h3
    exact hf.min a b h1 (by omega) h3
theorem Alike.clash {V W : List (Int × Int)} (h : Alike V W) (hV : checkP V = 0) (hW : checkP W = 0) : clA V = clA W ∧ clK V = clK W ∧ clE' V = clE' W := by
  by_cases hf : Free V
  · obtain ⟨a, b, c⟩ := clash_yes hV hf
    obtain ⟨a', b', c'⟩ := clash_yes hW (h.free.1 hf)
    rw [a, b, c, a', b', c']; exact ⟨rfl, rfl, rfl⟩
  · obtain ⟨i, k, hk⟩ := first_ex hf
    obtain ⟨a, b, c⟩ := clash_at hV hk
    obtain ⟨a', b', c'⟩ := clash_at hW (h.first hk)
    rw [a, b, c, a', b', c']; exact ⟨rfl, rfl, rfl⟩
theorem Alike.grp {V W : List (Int × Int)} (h : Alike V W) {g : List Nat} (hi : ∀ i ∈ g, i < V.length) (hg : Grp V g) : Grp W g := by
  unfold Grp at hg ⊢
  refine hg.imp_of_mem ?_
  intro a b ha hb hab
  rw [← h.cl a b (hi a ha) (hi b hb)]; exact hab
theorem Alike.beg {V W : List (Int × Int)} (h : Alike V W) {x : List Nat} (hx : Beg V [] 0 x) : Beg W [] 0 x := by
  obtain ⟨s, h1, h2, h3, h4⟩ := hx
  exact ⟨s, h1, h2, ⟨h3.1, fun i hi => by rw [← h.len]; exact h3.2 i hi⟩, h.grp h3.2 h4⟩
theorem grp_top {V : List (Int × Int)} (hc : checkP V = 0) : Top (Beg V [] 0) (grpN V) := by
  unfold grpN
  rw [if_pos hc]
  exact gre_top V V.length [] 0 (Nat.sub_le _ _) ⟨List.Pairwise.nil, by simp⟩ List.Pairwise.nil (by simp)
theorem Alike.group {V W : List (Int × Int)} (h : Alike V W) (hV : checkP V = 0) (hW : checkP W = 0) : grpN V = grpN W :=
  (grp_top hV).unique ((grp_top hW).congr fun _ => ⟨h.symm.beg, h.beg⟩)
theorem checkP_of {V : List (Int × Int)} (h1 : 1 ≤ V.length) (h5 : V.length ≤ 5) (hV : OkV V) : checkP V = 0 := check_of_ok ⟨h1, h5, hV⟩

/-- Pins turned on. -/
def turnP (b : Int) (x : Int × Int) : Int × Int := (x.1, (x.2 + b) % x.1)
theorem pin_map (f : Int × Int → Int × Int) (V : List (Int × Int)) {i : Nat} (h : i < V.length) : pin (V.map f) i = f (pin V i) := by simp [pin, h]
theorem mod_dvd (a p : Int) : p ∣ a % p - a := by
  have := Int.mul_ediv_add_emod a p
  exact ⟨-(a / p), by rw [Int.mul_neg]; omega⟩
theorem turn_ok {V : List (Int × Int)} (hV : OkV V) (b : Int) : OkV (V.map (turnP b)) := by
  intro x hx
  obtain ⟨y, hy, rfl⟩ := List.mem_map.1 hx
  have h := hV y hy
  have h1 := Int.emod_nonneg (y.2 + b) (b := y.1) (by omega)
  have h2 := Int.emod_lt_of_pos (y.2 + b) (b := y.1) (by omega)
  simp only [turnP]
  omega
theorem turn_cl (b : Int) (x y : Int × Int) : clB (turnP b x) (turnP b y) = clB x y := by
  have key : clB (turnP b x) (turnP b y) = false ↔ clB x y = false := by
    rw [clB_false, clB_false]
    simp only [turnP]
    have d1 := Int.dvd_trans (gcdI_dvd_left x.1 y.1) (mod_dvd (x.2 + b) x.1)
    have d2 := Int.dvd_trans (gcdI_dvd_right x.1 y.1) (mod_dvd (y.2 + b) y.1)
    have d3 := Int.dvd_sub d1 d2
    constructor
    · intro h
      have := Int.dvd_sub h d3
      rwa [show (x.2 + b) % x.1 - (y.2 + b) % y.1 - ((x.2 + b) % x.1 - (x.2 + b) - ((y.2 + b) % y.1 - (y.2 + b))) = x.2 - y.2 by omega] at this
    · intro h
      have := Int.dvd_add h d3
      rwa [show x.2 - y.2 + ((x.2 + b) % x.1 - (x.2 + b) - ((y.2 + b) % y.1 - (y.2 + b))) = (x.2 + b) % x.1 - (y.2 + b) % y.1 by omega] at this
  cases h : clB (turnP b x) (turnP b y) <;> cases k : clB x y <;> simp_all
theorem turn_alike (b : Int) (V : List (Int × Int)) : Alike V (V.map (turnP b)) := ⟨by simp, fun i k hi hk => by rw [pin_map _ _ hi, pin_map _ _ hk, turn_cl]⟩
theorem turn_joined {V : List (Int × Int)} {f p : Int} (h : Joined V f p) (b : Int) : Joined (V.map (turnP b)) ((f + b) % p) p := by
  have hp : 0 < p := by have := h.t0; have := h.tp; omega
  refine ⟨Int.emod_nonneg _ (by omega), Int.emod_lt_of_pos _ hp, fun d => ?_, fun x hx => ?_⟩
  · rw [h.per]
    constructor
    · intro hd x hx
      obtain ⟨y, hy, rfl⟩ := List.mem_map.1 hx
      exact hd y hy
    · intro hd y hy
      exact hd (turnP b y) (List.mem_map_of_mem (f := turnP b) hy)
  · obtain ⟨y, hy, rfl⟩ := List.mem_map.1 hx
    have hyp := (h.per p).1 (Int.dvd_refl _) y hy
    have d1 := Int.dvd_trans hyp (mod_dvd (f + b) p)
    have d2 := mod_dvd (y.2 + b) y.1
    have d3 := h.at_ y hy
    have := Int.dvd_add (Int.dvd_sub d1 d2) d3
    simp only [turnP]
    rwa [show (f + b) % p - (f + b) - ((y.2 + b) % y.1 - (y.2 + b)) + (f - y.2) = (f + b) % p - (y.2 + b) % y.1 by omega] at this
theorem turn_j {V : List (Int × Int)} (hV : OkV V) (b : Int) : jO (V.map (turnP b)) = jO V ∧ (jO V = true → jA (V.map (turnP b)) = (jA V + b) % jB V) ∧ jB (V.map (turnP b)) = jB V := by
  have hT := turn_ok hV b
  cases h : jO V
  · have hf : ¬ Free V := fun hf => by rw [(jO_free hV).2 hf] at h; cases h
    have hf2 : ¬ Free (V.map (turnP b)) := fun k => hf ((turn_alike b V).free.2 k)
    cases h2 : jO (V.map (turnP b))
    · exact ⟨rfl, fun h => (by cases h), by rw [(j_false hT h2).2.2, (j_false hV h).2.2]⟩
    · exact absurd ((jO_free hT).1 h2) hf2
  · obtain ⟨a, b', c⟩ := j_of hT (turn_joined (j_true hV h) b)
    exact ⟨c, fun _ => a, b'⟩
theorem turn_snd (b : Int) (V : List (Int × Int)) (t : Int) : sndK (V.map (turnP b)) (t + b) (V.map (turnP b)).length = sndK V t V.length := by
  rw [List.length_map]
  unfold sndK sndN
  congr 1
  refine List.filter_congr fun i hi => ?_
  rw [pin_map _ _ (List.mem_range.1 hi)]
  unfold sndB
  rw [decide_eq_decide, ← Int.dvd_iff_emod_eq_zero, ← Int.dvd_iff_emod_eq_zero]
  simp only [turnP]
  have d := mod_dvd ((pin V i).2 + b) (pin V i).1
  constructor
  · intro h
    have := Int.dvd_add h d
    rwa [show t + b - ((pin V i).2 + b) % (pin V i).1 + (((pin V i).2 + b) % (pin V i).1 - ((pin V i).2 + b)) = t - (pin V i).2 by omega] at this
  · intro h
    have := Int.dvd_sub h d
    rwa [show t - (pin V i).2 - (((pin V i).2 + b) % (pin V i).1 - ((pin V i).2 + b)) = t + b - ((pin V i).2 + b) % (pin V i).1 by omega] at this

/-- Pins made larger. -/
def timesP (c : Int) (x : Int × Int) : Int × Int := (c * x.1, c * x.2)
theorem times_gcd (c a b : Int) (hc : 1 ≤ c) : gcdI (c * a) (c * b) = c * gcdI a b := by
  unfold gcdI
  rw [Int.gcd_mul_left, Int.natCast_mul, Int.natAbs_of_nonneg (by omega)]
theorem times_cl (c : Int) (hc : 1 ≤ c) (x y : Int × Int) : clB (timesP c x) (timesP c y) = clB x y := by
  have key : clB (timesP c x) (timesP c y) = false ↔ clB x y = false := by
    rw [clB_false, clB_false]
    simp only [timesP]
    rw [times_gcd c _ _ hc, ← Int.mul_sub]
    exact Int.mul_dvd_mul_iff_left (by omega)
  cases h : clB (timesP c x) (timesP c y) <;> cases k : clB x y <;> simp_all
theorem times_alike (c : Int) (hc : 1 ≤ c) (V : List (Int × Int)) : Alike V (V.map (timesP c)) := ⟨by simp, fun i k hi hk => by rw [pin_map _ _ hi, pin_map _ _ hk, times_cl c hc]⟩
theorem times_joined {V : List (Int × Int)} {f p : Int} (h : Joined V f p) (hne : V ≠ []) (c : Int) (hc : 1 ≤ c) : Joined (V.map (timesP c)) (c * f) (c * p) := by
  have h0 := h.t0; have h1 := h.tp
  refine ⟨Int.mul_nonneg (by omega) h0, Int.mul_lt_mul_of_pos_left h1 (by omega), fun d => ?_, fun x hx => ?_⟩
  · constructor
    · intro hd x hx
      obtain ⟨y, hy, rfl⟩ := List.mem_map.1 hx
      exact Int.dvd_trans (Int.mul_dvd_mul_left c ((h.per p).1 (Int.dvd_refl _) y hy)) hd
    · intro hd
      obtain ⟨y, hy⟩ := List.exists_mem_of_ne_nil V hne
      have hcd : c ∣ d := Int.dvd_trans (Int.dvd_mul_right c y.1) (hd _ (List.mem_map_of_mem (f := timesP c) hy))
      obtain ⟨e, rfl⟩ := hcd
      refine Int.mul_dvd_mul_left c ((h.per e).2 fun z hz => ?_)
      exact (Int.mul_dvd_mul_iff_left (by omega)).1 (hd _ (List.mem_map_of_mem (f := timesP c) hz))
  · obtain ⟨y, hy, rfl⟩ := List.mem_map.1 hx
    simp only [timesP]
    rw [← Int.mul_sub]
    exact Int.mul_dvd_mul_left c (h.at_ y hy)
end Go.Proofs.Ytooddicegkiiiaa
