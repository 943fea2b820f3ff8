/- Plain: the document's Offsets are the program's; no condition. -/
import Derived.Test.YtooddicegkiiiaaR12
namespace Go.Proofs.Ytooddicegkiiiaa

theorem Joined.ext {V : List (Int × Int)} {f p : Int} {x : Int × Int} (h : Joined V f p) (hx : 1 ≤ x.1) (hd : gcdI p x.1 ∣ x.2 - f) : ∃ t q, Joined (V ++ [x]) t q := by
  have hp : 1 ≤ p := by have := h.t0; have := h.tp; omega
  obtain ⟨s1, s2, s3⟩ := steps_pos hp hx
  obtain ⟨v, hv⟩ := inv_exists s1 (coprime_div (P := x.1) hp)
  obtain ⟨n0, n1⟩ := addN_bd f x.2 (gcdI p x.1) (x.1 / gcdI p x.1) v s1
  exact ⟨_, _, h.snoc hx n0 n1 (step_fits (gcdI_pos _ _ hp) s3 hd (gcdI_dvd_left _ _) hv (addN_cong _ _ _ _ _ hd))⟩
theorem together_congr {V W : List (Int × Int)} (h : ∀ x, x ∈ V ↔ x ∈ W) : Together V ↔ Together W :=
  ⟨fun ⟨T, hT⟩ => ⟨T, fun x hx => hT x ((h x).2 hx)⟩, fun ⟨T, hT⟩ => ⟨T, fun x hx => hT x ((h x).1 hx)⟩⟩
theorem setO_mem {V : List (Int × Int)} {i : Nat} (hi : i < V.length) (o : Int) (x : Int × Int) : x ∈ setO V i o ↔ x ∈ V.eraseIdx i ++ [((pin V i).1, o)] := by
  unfold setO
  rw [List.set_eq_take_append_cons_drop, if_pos hi, List.eraseIdx_eq_take_drop_succ]
  simp only [List.mem_append, List.mem_cons, List.not_mem_nil, or_false]
  constructor
  · rintro (h | h | h)
    · exact .inl (.inl h)
    · exact .inr h
    · exact .inl (.inr h)
  · rintro ((h | h) | h)
    · exact .inl h
    · exact .inr (.inr h)
    · exact .inr (.inl h)
theorem jO_together {V : List (Int × Int)} (hV : OkV V) : jO V = true ↔ Together V := by
  rw [jO_free hV, free_together fun x hx => (hV x hx).1]
theorem jO_setO {V : List (Int × Int)} (hV : OkV V) {i n : Nat} (hi : i < V.length) (hn : (n : Int) < (pin V i).1) :
    jO (setO V i (n : Int)) = true ↔ jO (V.eraseIdx i) = true ∧ offApart V i ∣ (n : Int) - jA (V.eraseIdx i) := by
  have hE := hV.erase i
  have hp := hV.at hi
  rw [jO_together (setO_ok hV hi hn), together_congr (setO_mem hi (n : Int))]
  constructor
  · rintro ⟨T, hT⟩
    have hTE : Together (V.eraseIdx i) := ⟨T, fun x hx => hT x (by simp [hx])⟩
    have hj := (jO_together hE).2 hTE
    have hJ := j_true hE hj
    refine ⟨hj, ?_⟩
    have h1 := hJ.all.1 (fun y hy => hT y (by simp [hy]))
    have h2 := hT ((pin V i).1, (n : Int)) (by simp)
    simp only at h2
    unfold offApart
    have := Int.dvd_sub (Int.dvd_trans (gcdI_dvd_left _ _) h1) (Int.dvd_trans (gcdI_dvd_right (jB (V.eraseIdx i)) _) h2)
    rwa [show T - jA (V.eraseIdx i) - (T - (n : Int)) = (n : Int) - jA (V.eraseIdx i) by omega] at this
  · rintro ⟨hj, hd⟩
    have hJ := j_true hE hj
    obtain ⟨t, q, h⟩ := hJ.ext (x := ((pin V i).1, (n : Int))) hp.1 hd
    exact h.together
theorem filter_one (r : Nat) : ∀ d : Nat, (List.range d).filter (fun x => decide (x = r)) = if r < d then [r] else []
  | 0 => rfl
  | d + 1 => by
    rw [List.range_succ, List.filter_append, filter_one r d]
    by_cases h1 : r < d
    · rw [if_pos h1, if_pos (by omega)]
      simp; omega
    · rw [if_neg h1]
      by_cases h2 : r = d
      · subst h2; simp
      · rw [if_neg (by omega)]; simp; omega
/-- The numbers below a multiple of d that leave r. -/
theorem filter_mod {d : Nat} (hd : 0 < d) (r : Nat) (hr : r < d) (p : Nat → Bool) (hp : ∀ n, p n = decide (n % d = r)) : ∀ m : Nat, (List.range (m * d)).filter p = (List.range m).map fun k => r + k * d
  | 0 => by simp
  | m + 1 => by
    rw [Nat.succ_mul, List.range_add, List.filter_append, filter_mod hd r hr p hp m, List.range_succ, List.map_append]
    congr 1
    have e : (List.map (fun x => m * d + x) (List.range d)).filter p = ((List.range d).filter fun x => decide (x = r)).map (fun x => m * d + x) := by
      rw [List.filter_map]
      congr 1
      apply List.filter_congr
      intro x hx
      have hx := List.mem_range.1 hx
      simp only [Function.comp, hp]
      rw [Nat.add_comm, Nat.add_mul_mod_self_right, Nat.mod_eq_of_lt hx]
    rw [e]
    have e2 := filter_one r d
    rw [if_pos hr] at e2
    rw [e2]
    simp only [List.map_cons, List.map_nil]
    congr 1
    omega
theorem rofL_eq (V : List (Int × Int)) (i : Int) : rofL V i = offL V i := by
  by_cases hc : checkP V = 0
  · have f1 : rofL V i = if outB 0 ((V.length : Int) - 1) i then [] else natL (rofN V i.toNat (pin V i.toNat).1.toNat) := by unfold rofL; rw [if_neg (by simpa using hc)]
    have f2 : offL V i = if outB 0 ((V.length : Int) - 1) i then [] else if jO (V.eraseIdx i.toNat) then (List.range (offN V i.toNat)).map (offAt V i.toNat) else [] := by unfold offL; rw [if_neg (by simpa using hc)]
    rw [f1, f2]; clear f1 f2
    cases ho : outB 0 ((V.length : Int) - 1) i
    · simp only [Bool.false_eq_true, if_false]
      have hV := (okPins_of hc).v
      have hb : 0 ≤ i ∧ i < V.length := by simp [outB] at ho; omega
      obtain ⟨n, rfl⟩ := Int.eq_ofNat_of_zero_le hb.1
      have hn : n < V.length := by omega
      rw [Int.toNat_natCast]
      have hp := hV.at hn
      have hE := hV.erase n
      cases hj : jO (V.eraseIdx n)
      · rw [if_neg (by decide)]
        unfold rofN
        rw [List.filter_eq_nil_iff.2]
        · rfl
        · intro k hk
          have hk := List.mem_range.1 hk
          rw [jO_setO hV hn (by omega), hj]
          simp
      · rw [if_pos rfl]
        have hJ := j_true hE hj
        have g1 : 1 ≤ offApart V n := gcdI_pos _ _ (by have := hJ.t0; have := hJ.tp; omega)
        obtain ⟨d, hd⟩ := Int.eq_ofNat_of_zero_le (show 0 ≤ offApart V n by omega)
        have hdv : offApart V n ∣ (pin V n).1 := gcdI_dvd_right _ _
        obtain ⟨m, hm⟩ := hdv
        have hm0 : 0 ≤ m := by
          rcases Int.lt_or_le m 0 with h | h
          · have : offApart V n * m ≤ offApart V n * (-1) := Int.mul_le_mul_of_nonneg_left (by omega) (by omega)
            omega
          · exact h
        obtain ⟨m', rfl⟩ := Int.eq_ofNat_of_zero_le hm0
        have e1 : (pin V n).1.toNat = m' * d := by rw [hm, hd, ← Int.natCast_mul, Int.toNat_natCast, Nat.mul_comm]
        have e2 : offN V n = m' := by unfold offN; rw [hm, Int.mul_ediv_cancel_left _ (by omega), Int.toNat_natCast]
        have hd0 : 0 < d := by omega
        have hr0 := Int.emod_nonneg (jA (V.eraseIdx n)) (b := offApart V n) (by omega)
        have hr1 := Int.emod_lt_of_pos (jA (V.eraseIdx n)) (b := offApart V n) (by omega)
        obtain ⟨r, hr⟩ := Int.eq_ofNat_of_zero_le hr0
        have hrd : r < d := by omega
        have hpf : ∀ k, k ∈ List.range (m' * d) → jO (setO V n ((k : Nat) : Int)) = decide (k % d = r) := fun k hk => by
          have hk := List.mem_range.1 hk
          rw [Bool.eq_iff_iff, jO_setO hV hn (by omega), hj, decide_eq_true_eq]
          simp only [true_and]
          rw [Int.dvd_iff_emod_eq_zero, ← Int.emod_eq_emod_iff_emod_sub_eq_zero, hr, hd]
          omega
        unfold rofN
        rw [e1, e2, List.filter_congr hpf, filter_mod hd0 r hrd _ (fun _ => rfl)]
        unfold natL
        rw [List.map_map]
        apply List.map_congr_left
        intro k _
        simp only [Function.comp]
        unfold offAt
        rw [hr, hd]
        push_cast
        rfl
    · rfl
  · unfold rofL offL; rw [if_pos (by simpa using hc), if_pos (by simpa using hc)]
end Go.Proofs.Ytooddicegkiiiaa
