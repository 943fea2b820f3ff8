/- Plain: by the first two rules there are at most Room times as many fetches as can be; how many different reamers there are; valid days. -/
import Derived.Test.YtjajdpggoggoiaaQ10
namespace Go.Proofs.Ytjajdpggoggoiaa

theorem leaves {P : Nat → Prop} : ∀ {d s : Nat}, P s → ¬ P (s + d) → ∃ v, s ≤ v ∧ v < s + d ∧ P v ∧ ¬ P (v + 1)
  | 0, _, h, h' => absurd h h'
  | d + 1, s, h, h' => by
    by_cases g : P (s + d)
    · exact ⟨s + d, by omega, by omega, g, h'⟩
    · obtain ⟨v, v1, v2, v3, v4⟩ := leaves h g
      exact ⟨v, v1, by omega, v3, v4⟩
/-- Between two fetches of a reamer as many others are wanted as there is room for. -/
theorem gap {R rule : Int} {W : List Int} (hd : OkD R W) (hr : rule ≠ 3) {s t : Nat} (hst : s < t) (ht : t < W.length) (hs : want W s ∉ runL R rule W s) (htm : want W t ∉ runL R rule W t) (e : want W s = want W t) :
    ∃ m : List Int, m.Nodup ∧ (m.length : Int) = R ∧ want W s ∉ m ∧ ∀ y ∈ m, ∃ k, s < k ∧ k < t ∧ want W k = y := by
  have hz := run_lazy (rule := rule) hd
  have hin := (hz.trace hd).has s (by omega)
  change want W s ∈ runL R rule W (s + 1) at hin
  obtain ⟨v, v1, v2, v3, v4⟩ := leaves (P := fun u => want W s ∈ runL R rule W u) (s := s + 1) (d := t - (s + 1)) hin (by rw [show s + 1 + (t - (s + 1)) = t by omega, e]; exact htm)
  have hok := run_ok (rule := rule) hd v (by omega)
  obtain ⟨h1, h2, _⟩ := key_ok (rule := rule) hd hr v (by omega)
  have hks : s + 1 ≤ keyK R rule W v (want W s) := by
    have g1 : keyK R rule W (s + 1) (want W s) = s + 1 := keyK_fresh (.inr hs)
    have := keyK_mono R rule W (want W s) (s + 1) (v - (s + 1))
    rw [show s + 1 + (v - (s + 1)) = v by omega] at this
    omega
  rw [runL_succ] at v4
  generalize want W s = x at *
  by_cases hm : want W v ∈ runL R rule W v
  · rw [if_pos hm] at v4
    by_cases hr2 : rule = 2
    · rw [if_pos hr2, without_erase hok.nodup] at v4
      by_cases hx : x = want W v
      · exact absurd (by rw [hx]; simp) v4
      · exact absurd (List.mem_append_left _ (hok.nodup.mem_erase_iff.2 ⟨hx, v3⟩)) v4
    · rw [if_neg hr2] at v4; exact absurd v3 v4
  · rw [if_neg hm] at v4
    by_cases hf : ((runL R rule W v).length : Int) = R
    · rw [if_pos hf] at v4
      cases hl : runL R rule W v with
      | nil => rw [hl] at v3; cases v3
      | cons x0 l =>
        have ha : awayD W rule (runL R rule W v) v = x0 := by unfold awayD; rw [if_neg hr, hl]; rfl
        rw [ha, without_erase hok.nodup, hl, List.erase_cons_head] at v4
        rw [hl] at v3 h1 h2 hm hok hf
        have hx0 : x = x0 := by
          rcases List.mem_cons.1 v3 with g | g
          · exact g
          · exact absurd (List.mem_append_left _ g) v4
        subst hx0
        have h1' := List.pairwise_cons.1 h1
        have hnd := List.nodup_cons.1 hok.nodup
        refine ⟨l ++ [want W v], ?_, by simp at hf ⊢; omega, fun hc => v4 hc, fun y hy => ?_⟩
        · rw [List.nodup_append]
          refine ⟨hnd.2, by simp, fun a ha b hb => ?_⟩
          simp at hb; subst hb
          intro e2; subst e2
          exact hm (by simp [ha])
        · rcases List.mem_append.1 hy with g | g
          · have := h1'.1 y g
            obtain ⟨k, k1, k2, k3⟩ := keyK_at R rule W y v (by omega)
            exact ⟨k, by omega, by omega, k2⟩
          · simp at g; subst g
            exact ⟨v, by omega, by omega, rfl⟩
    · rw [if_neg hf] at v4
      exact absurd (List.mem_append_left _ v3) v4
/-- If more are wanted than there is room for, there is a fetch behind the first want. -/
theorem opt_window {R : Nat} {W : List Int} {B : Nat → List Int} (ht : Dual.Trace R W B) {s e : Nat} (hse : s ≤ e) (he : e < W.length) {m : List Int} (hm : m.Nodup) (hl : R + 1 ≤ m.length) (hmm : ∀ y ∈ m, ∃ k, s ≤ k ∧ k ≤ e ∧ want W k = y) : ∃ k, s < k ∧ k ≤ e ∧ want W k ∉ B k := by
  refine Classical.byContradiction fun hn => ?_
  have hno : ∀ k, s < k → k ≤ e → want W k ∈ B k := fun k k1 k2 => Classical.byContradiction fun h => hn ⟨k, k1, k2, h⟩
  have down : ∀ d, s + 1 + d ≤ e + 1 → ∀ x ∈ B (s + 1 + d), x ∈ B (s + 1) := by
    intro d
    induction d with
    | zero => intro _ x hx; exact hx
    | succ d ih =>
      intro hd x hx
      rcases ht.sub (s + 1 + d) (by omega) x hx with g | g
      · exact ih (by omega) x (by rw [g]; exact hno _ (by omega) (by omega))
      · exact ih (by omega) x g
  have hle := Dual.nodup_sub_len m (B (s + 1)) hm fun y hy => by
    obtain ⟨k, k1, k2, rfl⟩ := hmm y hy
    by_cases g : k = s
    · subst g; exact ht.has k (by omega)
    · have := down (k - (s + 1)) (by omega) (want W k) (by rw [show s + 1 + (k - (s + 1)) = k by omega]; exact hno k (by omega) k2)
      exact this
  have := (ht.nodup (s + 1) (by omega)).2
  omega
theorem fault_at (W : List Int) (L : Nat → List Int) : ∀ (i : Nat) (m : Int), 0 ≤ m → m < fetN W L i → ∃ s, s < i ∧ want W s ∉ L s ∧ fetN W L s = m
  | 0, m, h0, h => by have : fetN W L 0 = 0 := rfl
                      omega
  | i + 1, m, h0, h => by
    rw [fetN_succ] at h
    by_cases g : want W i ∈ L i
    · rw [if_pos g] at h
      obtain ⟨s, s1, s2, s3⟩ := fault_at W L i m h0 (by omega)
      exact ⟨s, by omega, s2, s3⟩
    · rw [if_neg g] at h
      by_cases h2 : m < fetN W L i
      · obtain ⟨s, s1, s2, s3⟩ := fault_at W L i m h0 h2
        exact ⟨s, by omega, s2, s3⟩
      · exact ⟨i, by omega, g, by omega⟩
theorem fetN_mono2 (W : List Int) (L : Nat → List Int) (i : Nat) : ∀ d, fetN W L i ≤ fetN W L (i + d)
  | 0 => Int.le_refl _
  | d + 1 => by
    have := fetN_mono2 W L i d
    rw [← Nat.add_assoc, fetN_succ]
    split <;> omega
theorem fetN_more {W : List Int} {L : Nat → List Int} {i k e : Nat} (h1 : i ≤ k) (h2 : k < e) (h : want W k ∉ L k) : fetN W L i + 1 ≤ fetN W L e := by
  have a := fetN_mono2 W L i (k - i)
  have b := fetN_mono2 W L (k + 1) (e - (k + 1))
  rw [show i + (k - i) = k by omega] at a
  rw [show k + 1 + (e - (k + 1)) = e by omega, fetN_succ, if_neg h] at b
  omega
theorem cnt_between (W : List Int) (L : Nat → List Int) (s : Nat) : ∀ k, fetN W L (s + k) - fetN W L s = (Dual.cnt (s + k) (fun i => decide (s ≤ i) && !decide (want W i ∈ L i)) : Int)
  | 0 => by
    rw [Nat.add_zero, Dual.cnt_zero (fun i hi => by simp; omega)]; omega
  | k + 1 => by
    have ih := cnt_between W L s k
    rw [← Nat.add_assoc, fetN_succ, Dual.cnt_succ]
    by_cases g : want W (s + k) ∈ L (s + k)
    · simp [g]; omega
    · simp [g]; omega
theorem bound_run {R rule : Int} {W : List Int} (hd : OkD R W) (hr : rule ≠ 3) {B : Nat → List Int} (ht : Dual.Trace R.toNat W B) : fetN W (runL R rule W) W.length ≤ fetN W B W.length * R := by
  have hr1 := hd.r1
  have key : ∀ (c s : Nat), s < W.length → want W s ∉ runL R rule W s → fetN W (runL R rule W) s = (c : Int) * R → (c : Int) + 1 ≤ fetN W B (s + 1) := by
    intro c
    induction c with
    | zero =>
      intro s hs _ _
      have : want W 0 ∉ B 0 := by rw [ht.zero]; simp
      have := fetN_more (L := B) (W := W) (i := 0) (k := 0) (e := s + 1) (by omega) (by omega) this
      have h0 : fetN W B 0 = 0 := rfl
      omega
    | succ c ih =>
      intro s' hs' hf' hn'
      have hcr : ((c + 1 : Nat) : Int) * R = (c : Int) * R + R := by rw [Int.natCast_add, Int.add_mul]; simp
      have hc0 : 0 ≤ (c : Int) * R := Int.mul_nonneg (by omega) (by omega)
      obtain ⟨s, s1, s2, s3⟩ := fault_at W (runL R rule W) s' ((c : Int) * R) hc0 (by omega)
      have i1 := ih s (by omega) s2 s3
      obtain ⟨d1, d2⟩ := dedup_ok (subW W s (s' + 1))
      have hmem : ∀ y, y ∈ dedup (subW W s (s' + 1)) ↔ ∃ k, s ≤ k ∧ k < s' + 1 ∧ want W k = y := fun y => by rw [d2, mem_subW (by omega) (by omega)]
      have hlen : R.toNat + 1 ≤ (dedup (subW W s (s' + 1))).length := by
        by_cases hinj : ∀ a b, s ≤ a → a < b → b ≤ s' → want W a ∉ runL R rule W a → want W b ∉ runL R rule W b → want W a ≠ want W b
        · have hb := cnt_between W (runL R rule W) s (s' + 1 - s)
          rw [show s + (s' + 1 - s) = s' + 1 by omega, fetN_succ, if_neg hf'] at hb
          have hle := Dual.cnt_inj (n := s' + 1) (p := fun i => decide (s ≤ i) && !decide (want W i ∈ runL R rule W i)) (want W) (dedup (subW W s (s' + 1))) (fun i j hi hj pi pj e => by
            simp only [Bool.and_eq_true, decide_eq_true_eq, Bool.not_eq_true', decide_eq_false_iff_not] at pi pj
            rcases Nat.lt_trichotomy i j with g | g | g
            · exact absurd e (hinj i j pi.1 g (by omega) pi.2 pj.2)
            · exact g
            · exact absurd e.symm (hinj j i pj.1 g (by omega) pj.2 pi.2)) (fun i hi pi => by
            simp only [Bool.and_eq_true, decide_eq_true_eq, Bool.not_eq_true', decide_eq_false_iff_not] at pi
            exact (hmem _).2 ⟨i, pi.1, hi, rfl⟩)
          omega
        · obtain ⟨a, hinj⟩ := Classical.not_forall.1 hinj
          obtain ⟨b, hinj⟩ := Classical.not_forall.1 hinj
          simp only [Classical.not_imp, ne_eq, Classical.not_not] at hinj
          obtain ⟨a1, a2, a3, a4, a5, a6⟩ := hinj
          obtain ⟨m, m1, m2, m3, m4⟩ := gap hd hr a2 (by omega) a4 a5 a6
          have := Dual.nodup_sub_len (want W a :: m) (dedup (subW W s (s' + 1))) (List.nodup_cons.2 ⟨m3, m1⟩) fun y hy => by
            rcases List.mem_cons.1 hy with rfl | hy
            · exact (hmem _).2 ⟨a, a1, by omega, rfl⟩
            · obtain ⟨k, k1, k2, k3⟩ := m4 y hy
              exact (hmem _).2 ⟨k, by omega, by omega, k3⟩
          rw [List.length_cons] at this
          omega
      obtain ⟨k, k1, k2, k3⟩ := opt_window ht (s := s) (e := s') (by omega) hs' d1 hlen fun y hy => by
        obtain ⟨k, k1, k2, k3⟩ := (hmem y).1 hy
        exact ⟨k, k1, by omega, k3⟩
      have := fetN_more (L := B) (W := W) (i := s + 1) (k := k) (e := s' + 1) (by omega) (by omega) k3
      omega
  have hb := fetN_bd W (runL R rule W) W.length
  have hO := fetN_bd W B W.length
  obtain ⟨N, hN⟩ : ∃ N : Nat, fetN W (runL R rule W) W.length = (N : Int) := Int.eq_ofNat_of_zero_le hb.1
  obtain ⟨r, hrr⟩ : ∃ r : Nat, R = (r : Int) := Int.eq_ofNat_of_zero_le (by omega)
  rcases Nat.eq_zero_or_pos N with h0 | h0
  · rw [hN, h0]; exact Int.mul_nonneg hO.1 (by omega)
  · have hdm := Nat.div_add_mod (N - 1) r
    have hmod := Nat.mod_lt (N - 1) (show 0 < r by omega)
    obtain ⟨c, hc⟩ : ∃ c, (N - 1) / r = c := ⟨_, rfl⟩
    rw [hc] at hdm
    have hcr : (c : Int) * R = ((r * c : Nat) : Int) := by rw [hrr, Int.natCast_mul, Int.mul_comm]
    obtain ⟨s, s1, s2, s3⟩ := fault_at W (runL R rule W) W.length ((c : Int) * R) (by rw [hcr]; omega) (by rw [hN, hcr]; omega)
    have := key c s s1 s2 s3
    have hm := fetN_mono2 W B (s + 1) (W.length - (s + 1))
    rw [show s + 1 + (W.length - (s + 1)) = W.length by omega] at hm
    have h3 : ((c : Int) + 1) * R ≤ fetN W B W.length * R := Int.mul_le_mul_of_nonneg_right (by omega) (by omega)
    rw [Int.add_mul, hcr, hrr] at h3
    rw [hN, hrr]
    omega
/-- How many different reamers are wanted: how many wants are the first of theirs. -/
def diffN (W : List Int) (k : Nat) : Int := fetN W (fun i => W.take i) k
theorem mem_take {W : List Int} {i : Nat} (hi : i ≤ W.length) {x : Int} : x ∈ W.take i ↔ ∃ k, k < i ∧ want W k = x := by
  rw [List.mem_take_iff_getElem]
  constructor
  · rintro ⟨k, hk, rfl⟩; exact ⟨k, by omega, by simp [want, show k < W.length by omega]⟩
  · rintro ⟨k, hk, rfl⟩; exact ⟨k, by omega, by simp [want, show k < W.length by omega]⟩
theorem fetN_anti {W : List Int} {L M : Nat → List Int} : ∀ k, (∀ i, i < k → want W i ∈ M i → want W i ∈ L i) → fetN W L k ≤ fetN W M k
  | 0, _ => Int.le_refl _
  | k + 1, h => by
    have := fetN_anti (L := L) (M := M) k fun i hi => h i (by omega)
    have := h k (by omega)
    rw [fetN_succ, fetN_succ]
    by_cases g : want W k ∈ M k
    · rw [if_pos g, if_pos (this g)]; omega
    · rw [if_neg g]; split <;> omega
theorem diff_le {R : Nat} {W : List Int} {B : Nat → List Int} (ht : Dual.Trace R W B) : diffN W W.length ≤ fetN W B W.length :=
  fetN_anti _ fun i hi hm => by
    obtain ⟨j, j1, j2, _⟩ := ht.since i (by omega) _ hm
    exact (mem_take (by omega)).2 ⟨j, j1, j2⟩
theorem sub_diff (W : List Int) : ∀ (k : Nat), k ≤ W.length → ∀ m : List Int, m.Nodup → (∀ y ∈ m, y ∈ W.take k) → (m.length : Int) ≤ diffN W k
  | 0, _, m, _, h => by
    have : m = [] := List.eq_nil_iff_forall_not_mem.2 fun y hy => by have := h y hy; simp at this
    subst this; exact Int.le_refl _
  | k + 1, hk, m, hm, h => by
    have e : diffN W (k + 1) = diffN W k + if want W k ∈ W.take k then 0 else 1 := rfl
    have hs : ∀ y, y ∈ W.take (k + 1) ↔ y = want W k ∨ y ∈ W.take k := fun y => by
      rw [mem_take hk, mem_take (by omega)]
      constructor
      · rintro ⟨j, j1, rfl⟩
        by_cases g : j = k
        · subst g; exact .inl rfl
        · exact .inr ⟨j, by omega, rfl⟩
      · rintro (rfl | ⟨j, j1, rfl⟩)
        · exact ⟨k, by omega, rfl⟩
        · exact ⟨j, by omega, rfl⟩
    rw [e]
    by_cases g : want W k ∈ W.take k
    · rw [if_pos g, Int.add_zero]
      exact sub_diff W k (by omega) m hm fun y hy => by
        rcases (hs y).1 (h y hy) with rfl | h2
        · exact g
        · exact h2
    · rw [if_neg g]
      have ih := sub_diff W k (by omega) (m.erase (want W k)) (hm.erase _) fun y hy => by
        rw [hm.mem_erase_iff] at hy
        rcases (hs y).1 (h y hy.2) with e2 | h2
        · exact absurd e2 hy.1
        · exact h2
      have : m.length ≤ (m.erase (want W k)).length + 1 := by
        rw [List.length_erase]; split <;> omega
      omega
/-- If there is room for all, only the first want of each is fetched. -/
theorem enough {R rule : Int} {W : List Int} (hd : OkD R W) (h : diffN W W.length ≤ R) : fetN W (runL R rule W) W.length = diffN W W.length := by
  have hz := run_lazy (rule := rule) hd
  have all : ∀ i, i ≤ W.length → ∀ x, x ∈ W.take i → x ∈ runL R rule W i := by
    intro i
    induction i with
    | zero => intro _ x hx; simp at hx
    | succ i ih =>
      intro hi x hx
      have ih := ih (by omega)
      have hok := run_ok (rule := rule) hd i (by omega)
      have hxx : x = want W i ∨ x ∈ runL R rule W i := by
        obtain ⟨k, k1, rfl⟩ := (mem_take hi).1 hx
        by_cases g : k = i
        · subst g; exact .inl rfl
        · exact .inr (ih _ ((mem_take (by omega)).2 ⟨k, by omega, rfl⟩))
      by_cases hm : want W i ∈ runL R rule W i
      · refine (hz.kept i (by omega) hm).1.mem_iff.2 ?_
        rcases hxx with rfl | g
        · exact hm
        · exact g
      · have hnf : ((runL R rule W i).length : Int) ≠ R := by
          intro hf
          have := sub_diff W W.length (Nat.le_refl _) (want W i :: runL R rule W i) (List.nodup_cons.2 ⟨hm, hok.nodup⟩) fun y hy => by
            rcases List.mem_cons.1 hy with rfl | hy
            · exact (mem_take (Nat.le_refl _)).2 ⟨i, by omega, rfl⟩
            · obtain ⟨j, j1, j2, _⟩ := (hz.trace hd).since i (by omega) y hy
              exact (mem_take (Nat.le_refl _)).2 ⟨j, by omega, j2⟩
          rw [List.length_cons] at this
          omega
        refine (hz.room i (by omega) hm hnf).2.mem_iff.2 ?_
        rcases hxx with rfl | g
        · simp
        · simp [g]
  refine Int.le_antisymm ?_ (diff_le (hz.trace hd))
  exact fetN_anti _ fun i hi hm => all i (by omega) _ hm
end Go.Proofs.Ytjajdpggoggoiaa
