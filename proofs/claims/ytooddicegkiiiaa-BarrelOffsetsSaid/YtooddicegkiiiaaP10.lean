/- Plain: times counted, quiet times, Offsets, groups and one pin more; no condition. -/
import Derived.Test.YtooddicegkiiiaaP9
namespace Go.Proofs.Ytooddicegkiiiaa

theorem quiet_none_all {V : List (Int × Int)} (hV : OkV V) {t : Int} (h : quietO V t (2 ^ V.length) = none) (s : Int) : hushB V s = false := by
  unfold quietO at h
  rw [List.find?_eq_none] at h
  obtain ⟨d, d1, _, hd⟩ := prod_bd V hV
  rw [hush_not]
  have h0 : 0 ≤ (s - t) + (s - t).natAbs * d := by
    have : ((s - t).natAbs : Int) * 1 ≤ (s - t).natAbs * d := Int.mul_le_mul_of_nonneg_left d1 (by omega)
    omega
  obtain ⟨x, hx, hxd⟩ := noisy_all V ((s - t) + (s - t).natAbs * d).toNat t fun k hk => by
    rw [← hush_not]
    have := h k (List.mem_range.2 hk)
    simpa using this
  refine ⟨x, hx, ?_⟩
  rw [Int.toNat_of_nonneg h0] at hxd
  have := Int.dvd_sub hxd (Int.dvd_mul_of_dvd_right (a := x.1) (b := ((s - t).natAbs : Int)) (hd x hx))
  rwa [show t + ((s - t) + (s - t).natAbs * d) - x.2 - (s - t).natAbs * d = s - x.2 by omega] at this
theorem quiet_some {V : List (Int × Int)} {t : Int} {n m : Nat} (h : quietO V t m = some n) : n < m ∧ hushB V (t + n) = true ∧ ∀ k, k < n → hushB V (t + (k : Int)) = false := by
  unfold quietO at h
  rw [List.find?_range_eq_some] at h
  obtain ⟨h1, h2, h3⟩ := h
  exact ⟨List.mem_range.1 h2, h1, fun k hk => by have := h3 k hk; simpa using this⟩
theorem hush_len (V : List (Int × Int)) (T : Int) : ((sndK V T V.length).length = 0) = (hushB V T = true) := propext (sndK_hush V T)

theorem blw_step {A B : Int} {o : Bool} {t : Int} (hA : o = true → 0 ≤ A ∧ A < B) (t0 : 0 ≤ t) : blwN A B o (t + 1) = blwN A B o t + if o = true ∧ B ∣ t - A then 1 else 0 := by
  unfold blwN
  cases o
  · simp
  · obtain ⟨a0, a1⟩ := hA rfl
    simp only [Bool.true_eq_false, false_or, true_and]
    by_cases h1 : t + 1 ≤ A
    · rw [if_pos h1, if_pos (by omega), if_neg]; · rfl
      intro hd
      have := dvd_small (by omega) hd (by omega) (by omega)
      omega
    · rw [if_neg h1]
      by_cases h2 : t ≤ A
      · have e : t = A := by omega
        subst e
        rw [if_pos (Int.le_refl _), if_pos (by simp)]
        rw [show t + 1 - t + B - 1 = B * 1 by omega, Int.mul_ediv_cancel_left _ (by omega)]; rfl
      · rw [if_neg h2]
        have e := Int.mul_ediv_add_emod (t - A) B
        have f := Int.emod_nonneg (t - A) (b := B) (by omega)
        have g := Int.emod_lt_of_pos (t - A) (b := B) (by omega)
        have k1 : (t + 1 - A + B - 1) / B = (t - A) / B + 1 := by
          rw [show t + 1 - A + B - 1 = (t - A) + B * 1 by omega, Int.add_mul_ediv_left _ _ (by omega)]
        rw [k1]
        by_cases hd : B ∣ t - A
        · rw [if_pos hd]
          have hz := Int.emod_eq_zero_of_dvd hd
          have : (t - A + B - 1) / B = (t - A) / B := by
            rw [show t - A + B - 1 = (B - 1) + B * ((t - A) / B) by omega, Int.add_mul_ediv_left _ _ (by omega), Int.ediv_eq_zero_of_lt (by omega) (by omega)]; omega
          omega
        · rw [if_neg hd]
          have hz : (t - A) % B ≠ 0 := fun h => hd (Int.dvd_of_emod_eq_zero h)
          have : (t - A + B - 1) / B = (t - A) / B + 1 := by
            rw [show t - A + B - 1 = ((t - A) % B - 1) + B * ((t - A) / B + 1) by rw [Int.mul_add]; omega, Int.add_mul_ediv_left _ _ (by omega), Int.ediv_eq_zero_of_lt (by omega) (by omega)]; omega
          omega
theorem blw_mono {A B : Int} {o : Bool} (hA : o = true → 0 ≤ A ∧ A < B) {t : Int} (t0 : 0 ≤ t) : ∀ n : Nat, blwN A B o t ≤ blwN A B o (t + n)
  | 0 => by simp
  | n + 1 => by
    have h := blw_mono hA t0 n
    have s := blw_step hA (t := t + n) (by omega)
    rw [show t + ((n + 1 : Nat) : Int) = t + n + 1 by omega, s]
    split <;> omega
theorem blw_round {A B : Int} {t : Int} (hA : 0 ≤ A ∧ A < B) (t0 : 0 ≤ t) : blwN A B true (t + B) - blwN A B true t = 1 := by
  unfold blwN
  simp only [Bool.true_eq_false, false_or]
  rw [if_neg (by omega)]
  have k1 : (t + B - A + B - 1) / B = (t - A + B - 1) / B + 1 := by
    rw [show t + B - A + B - 1 = (t - A + B - 1) + B * 1 by omega, Int.add_mul_ediv_left _ _ (by omega)]
  rw [k1]
  by_cases h : t ≤ A
  · rw [if_pos h, Int.ediv_eq_zero_of_lt (by omega) (by omega)]; rfl
  · rw [if_neg h]; omega
/-- All pins sound just at the times of the common formula. -/
theorem snd_just {V : List (Int × Int)} (hV : OkV V) {T : Int} : ((sndK V T V.length).length = V.length) ↔ (jO V = true ∧ jB V ∣ T - jA V) := by
  rw [snd_all]
  constructor
  · intro h
    have hj := (jO_together hV).2 ⟨T, h⟩
    exact ⟨hj, (j_true hV hj).all.1 h⟩
  · rintro ⟨hj, hd⟩
    exact (j_true hV hj).all.2 hd

theorem off_at {V : List (Int × Int)} (hc : checkP V = 0) {i : Nat} (hi : i < V.length) : offE V i = 0 ∧ offL V i = (if jO (V.eraseIdx i) then (List.range (offN V i)).map (offAt V i) else []) ∧ ∀ n : Nat, ((n : Int) ∈ offL V i ↔ (n : Int) < (pin V i).1 ∧ jO (setO V i n) = true) := by
  have hb : outB 0 ((V.length : Int) - 1) (i : Int) = false := by simp [outB]; omega
  refine ⟨?_, ?_, fun n => ?_⟩
  · unfold offE; rw [if_neg (by simpa using hc), hb]; rfl
  · unfold offL; rw [if_neg (by simpa using hc), hb, Int.toNat_natCast]; rfl
  · rw [← rofL_eq]
    unfold rofL
    rw [if_neg (by simpa using hc), hb, Int.toNat_natCast]
    simp only [Bool.false_eq_true, if_false]
    have hp := (okPins_of hc).v.at hi
    unfold natL rofN
    rw [List.mem_map]
    constructor
    · rintro ⟨k, hk, he⟩
      have : k = n := by omega
      subst this
      have h1 := List.mem_filter.1 hk
      have := List.mem_range.1 h1.1
      exact ⟨by omega, h1.2⟩
    · rintro ⟨h1, h2⟩
      exact ⟨n, List.mem_filter.2 ⟨List.mem_range.2 (by omega), h2⟩, rfl⟩
/-- The numbers of Offsets: how many there are, and how far apart. -/
theorem off_parts {V : List (Int × Int)} (hV : OkV V) {i : Nat} (hi : i < V.length) (hj : jO (V.eraseIdx i) = true) :
    1 ≤ offApart V i ∧ 1 ≤ offN V i ∧ offApart V i * offN V i = (pin V i).1 ∧ (0 ≤ offAt V i 0 ∧ offAt V i 0 < offApart V i) ∧ ∀ k, offAt V i (k + 1) = offAt V i k + offApart V i := by
  have hJ := j_true (hV.erase i) hj
  have hp := hV.at hi
  have g1 : 1 ≤ offApart V i := gcdI_pos _ _ (by have := hJ.t0; have := hJ.tp; omega)
  have hdv : offApart V i ∣ (pin V i).1 := gcdI_dvd_right _ _
  have e1 := Int.mul_ediv_cancel' hdv
  have q0 : 1 ≤ (pin V i).1 / offApart V i := by
    rcases Int.lt_or_le 0 ((pin V i).1 / offApart V i) with h | h
    · omega
    · have := Int.mul_le_mul_of_nonneg_left h (show 0 ≤ offApart V i by omega)
      simp at this; omega
  have e2 : ((offN V i : Nat) : Int) = (pin V i).1 / offApart V i := by unfold offN; omega
  refine ⟨g1, by omega, by rw [e2]; exact e1, ⟨?_, ?_⟩, fun k => ?_⟩
  · unfold offAt; have := Int.emod_nonneg (jA (V.eraseIdx i)) (b := offApart V i) (by omega); simp; omega
  · unfold offAt; have := Int.emod_lt_of_pos (jA (V.eraseIdx i)) (b := offApart V i) (by omega); simp; omega
  · unfold offAt; push_cast; rw [Int.add_mul]; omega
theorem erase_one {V : List (Int × Int)} (h : V.length = 1) {i : Nat} (hi : i < V.length) : jO (V.eraseIdx i) = true := by
  match V, h with
  | [x], _ =>
    have : i = 0 := by simp at hi; omega
    subst this
    rfl

theorem clB_gcd {a b : Int × Int} (ha : 1 ≤ a.1) (h : clB a b = true) : 2 ≤ gcdI a.1 b.1 := by
  have g := gcdI_pos a.1 b.1 ha
  rcases Int.lt_or_le 1 (gcdI a.1 b.1) with h1 | h1
  · omega
  · have e : gcdI a.1 b.1 = 1 := by omega
    have : clB a b = false := clB_false.2 (by rw [e]; exact Int.one_dvd _)
    rw [h] at this; cases this

theorem Top.beats {S : List Nat → Prop} {r x : List Nat} (h : Top S r) (hx : S x) : x.length ≤ r.length ∧ (x.length = r.length → x = r ∨ befB (natL r) (natL x) = true) := by
  rcases h.2 x hx with rfl | hb
  · exact ⟨Nat.le_refl _, fun _ => .inl rfl⟩
  · rcases hb with hb | ⟨h1, h2⟩
    · exact ⟨by omega, fun _ => by omega⟩
    · exact ⟨by omega, fun _ => .inr h2⟩
theorem beg_iff {V : List (Int × Int)} {x : List Nat} : Beg V [] 0 x ↔ Inc V x ∧ Grp V x := by
  constructor
  · rintro ⟨s, rfl, _, h3, h4⟩; exact ⟨h3, h4⟩
  · rintro ⟨h3, h4⟩; exact ⟨x, rfl, fun _ _ => Nat.zero_le _, h3, h4⟩
theorem bef_first : ∀ (x y : List Nat), befB (natL x) (natL y) = true → x.length = y.length → ∃ i, i < x.length ∧ (∀ k, k < i → x[k]?.getD 0 = y[k]?.getD 0) ∧ x[i]?.getD 0 < y[i]?.getD 0
  | [], [], h, _ => by cases h
  | a :: x, b :: y, h, hl => by
    rw [bef_cons] at h
    by_cases e : a = b
    · rw [if_pos e] at h
      obtain ⟨i, h1, h2, h3⟩ := bef_first x y h (by simpa using hl)
      refine ⟨i + 1, by simp; omega, fun k hk => ?_, by simpa using h3⟩
      rcases k with _ | k
      · simpa using e
      · simpa using h2 k (by omega)
    · rw [if_neg e] at h
      exact ⟨0, by simp, fun k hk => by omega, by simpa using h⟩
  | [], _ :: _, _, hl => by simp at hl
  | _ :: _, [], _, hl => by simp at hl

theorem pin_app_l {V : List (Int × Int)} (x : Int × Int) {i : Nat} (h : i < V.length) : pin (V ++ [x]) i = pin V i := by simp [pin, h, List.getElem?_append_left h]
theorem more_inc {V : List (Int × Int)} {x : Int × Int} {g : List Nat} (h : Inc V g) (hg : Grp V g) : Inc (V ++ [x]) g ∧ Grp (V ++ [x]) g := by
  refine ⟨⟨h.1, fun i hi => by have := h.2 i hi; simp; omega⟩, ?_⟩
  unfold Grp at hg ⊢
  refine hg.imp_of_mem ?_
  intro a b ha hb hab
  rw [pin_app_l x (h.2 a ha), pin_app_l x (h.2 b hb)]; exact hab
theorem less_inc {V : List (Int × Int)} {x : Int × Int} {g : List Nat} (h : Inc (V ++ [x]) g) (hg : Grp (V ++ [x]) g) : ∃ g', Inc V g' ∧ Grp V g' ∧ g.length ≤ g'.length + 1 := by
  have key : ∀ g', (∀ i ∈ g', i < V.length) → g'.Sublist g → Inc V g' ∧ Grp V g' := by
    intro g' hb hs
    refine ⟨⟨h.1.sublist hs, hb⟩, ?_⟩
    have hg2 : g'.Pairwise fun a b => clB (pin (V ++ [x]) a) (pin (V ++ [x]) b) = false := List.Pairwise.sublist hs hg
    unfold Grp
    refine hg2.imp_of_mem ?_
    intro a b ha hb' hab
    rwa [pin_app_l x (hb a ha), pin_app_l x (hb b hb')] at hab
  refine ⟨g.dropLast, ?_⟩
  have h2 : ∀ i ∈ g.dropLast, i < V.length := by
    intro i hi
    rcases g.eq_nil_or_concat with rfl | ⟨g0, z, rfl⟩
    · simp at hi
    · rw [List.concat_eq_append] at *
      rw [List.dropLast_concat] at hi
      have h1 := (List.pairwise_append.1 h.1).2.2 i hi z (by simp)
      have := h.2 z (by simp)
      simp at this; omega
  obtain ⟨a, b⟩ := key _ h2 (List.dropLast_sublist g)
  exact ⟨a, b, by simp; omega⟩
theorem more_groups {V : List (Int × Int)} {x : Int × Int} (hV : checkP V = 0) (hW : checkP (V ++ [x]) = 0) : (grpN V).length ≤ (grpN (V ++ [x])).length ∧ (grpN (V ++ [x])).length ≤ (grpN V).length + 1 := by
  have h1 := grp_top hV; have h2 := grp_top hW
  refine ⟨?_, ?_⟩
  · obtain ⟨a, b⟩ := beg_iff.1 h1.1
    obtain ⟨c, d⟩ := more_inc (x := x) a b
    exact (h2.beats (beg_iff.2 ⟨c, d⟩)).1
  · obtain ⟨a, b⟩ := beg_iff.1 h2.1
    obtain ⟨g', c, d, e⟩ := less_inc a b
    have := (h1.beats (beg_iff.2 ⟨c, d⟩)).1
    omega
theorem more_join {V : List (Int × Int)} {x : Int × Int} (hV : OkV V) (hW : OkV (V ++ [x])) (hj : jO (V ++ [x]) = true) :
    jO V = true ∧ jB V ∣ jB (V ++ [x]) ∧ x.1 ∣ jB (V ++ [x]) ∧ jA V ≤ jA (V ++ [x]) ∧ jB V ∣ jA (V ++ [x]) - jA V := by
  have hJ := j_true hW hj
  have h1 : ∀ y ∈ V, y.1 ∣ jA (V ++ [x]) - y.2 := fun y hy => hJ.at_ y (by simp [hy])
  have hv := (jO_together hV).2 ⟨_, h1⟩
  have hK := j_true hV hv
  have hp := (hJ.per _).1 (Int.dvd_refl _)
  have hd := hK.all.1 h1
  refine ⟨hv, (hK.per _).2 fun y hy => hp y (by simp [hy]), hp x (by simp), ?_, hd⟩
  rcases Int.lt_or_le (jA (V ++ [x])) (jA V) with h | h
  · have := hJ.t0; have := hK.tp
    have := dvd_small (by have := hK.t0; omega) hd (by omega) (by omega)
    omega
  · exact h
theorem hush_more {V : List (Int × Int)} {x : Int × Int} {t : Int} (h : hushB (V ++ [x]) t = true) : hushB V t = true := by
  unfold hushB at h ⊢
  rw [List.all_append, Bool.and_eq_true] at h
  exact h.1
theorem more_quiet {V : List (Int × Int)} {x : Int × Int} {t : Int} {n : Nat} (h : quietO (V ++ [x]) t (2 ^ (V ++ [x]).length) = some n) : ∃ m, quietO V t (2 ^ V.length) = some m ∧ m ≤ n := by
  obtain ⟨h1, h2, _⟩ := quiet_some h
  have e := quiet_enough V t (2 ^ (V ++ [x]).length) (Nat.pow_le_pow_right (by omega) (by simp))
  cases hq : quietO V t (2 ^ (V ++ [x]).length) with
  | none =>
    unfold quietO at hq
    rw [List.find?_eq_none] at hq
    have := hq n (List.mem_range.2 h1)
    rw [hush_more h2] at this
    exact absurd rfl this
  | some m =>
    refine ⟨m, by rw [← e, hq], ?_⟩
    obtain ⟨_, _, h5⟩ := quiet_some hq
    rcases Nat.lt_or_ge n m with hlt | hge
    · have := h5 n hlt; rw [hush_more h2] at this; cases this
    · exact hge
end Go.Proofs.Ytooddicegkiiiaa
