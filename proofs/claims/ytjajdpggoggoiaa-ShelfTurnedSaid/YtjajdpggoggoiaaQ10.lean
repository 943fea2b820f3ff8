/- Plain: the first two rules by when reamers came, or were wanted; depths; how many more fetches there are; valid days. -/
import Derived.Test.YtjajdpggoggoiaaQ9
namespace Go.Proofs.Ytjajdpggoggoiaa

/-- When a reamer came to the bench (1), or was wanted last (2), plus 1; 0: never. -/
def keyK (R rule : Int) (W : List Int) : Nat → Int → Nat
  | 0, _ => 0
  | u + 1, y => if want W u = y ∧ (rule = 2 ∨ y ∉ runL R rule W u) then u + 1 else keyK R rule W u y
theorem keyK_le (R rule : Int) (W : List Int) (y : Int) : ∀ u, keyK R rule W u y ≤ u
  | 0 => Nat.le_refl _
  | u + 1 => by
    have := keyK_le R rule W y u
    unfold keyK; split <;> omega
theorem keyK_mono (R rule : Int) (W : List Int) (y : Int) (u : Nat) : ∀ d, keyK R rule W u y ≤ keyK R rule W (u + d) y
  | 0 => Nat.le_refl _
  | d + 1 => by
    have := keyK_mono R rule W y u d
    have h2 := keyK_le R rule W y (u + d)
    show keyK R rule W u y ≤ (if want W (u + d) = y ∧ (rule = 2 ∨ y ∉ runL R rule W (u + d)) then u + d + 1 else keyK R rule W (u + d) y)
    split <;> omega
theorem keyK_at (R rule : Int) (W : List Int) (y : Int) : ∀ u, 0 < keyK R rule W u y → ∃ k, k < u ∧ want W k = y ∧ keyK R rule W u y = k + 1
  | 0, h => by simp [keyK] at h
  | u + 1, h => by
    unfold keyK at h ⊢
    by_cases hc : want W u = y ∧ (rule = 2 ∨ y ∉ runL R rule W u)
    · rw [if_pos hc]; exact ⟨u, by omega, hc.1, rfl⟩
    · rw [if_neg hc] at h ⊢
      obtain ⟨k, k1, k2, k3⟩ := keyK_at R rule W y u h
      exact ⟨k, by omega, k2, k3⟩
theorem keyK_other {R rule : Int} {W : List Int} {u : Nat} {y : Int} (h : want W u ≠ y) : keyK R rule W (u + 1) y = keyK R rule W u y := by
  show (if want W u = y ∧ _ then u + 1 else keyK R rule W u y) = _
  rw [if_neg (fun hc => h hc.1)]
theorem keyK_fresh {R rule : Int} {W : List Int} {u : Nat} (h : rule = 2 ∨ want W u ∉ runL R rule W u) : keyK R rule W (u + 1) (want W u) = u + 1 := by
  show (if want W u = want W u ∧ _ then u + 1 else _) = _
  rw [if_pos ⟨rfl, h⟩]
theorem keyK_same {R rule : Int} {W : List Int} {u : Nat} (h1 : rule ≠ 2) {y : Int} (hy : y ∈ runL R rule W u) : keyK R rule W (u + 1) y = keyK R rule W u y := by
  show (if want W u = y ∧ (rule = 2 ∨ y ∉ runL R rule W u) then u + 1 else keyK R rule W u y) = _
  rw [if_neg (fun hc => by rcases hc.2 with g | g; exact h1 g; exact g hy)]
/-- The list is in the order of the keys; by the second rule, who is not there any more was wanted before all that are. -/
structure KeyOk (R rule : Int) (W : List Int) (u : Nat) : Prop where
  sorted : (runL R rule W u).Pairwise fun a b => keyK R rule W u a < keyK R rule W u b
  pos : ∀ x ∈ runL R rule W u, 0 < keyK R rule W u x
  gone : rule = 2 → ∀ x, x ∉ runL R rule W u → 0 < keyK R rule W u x → ((runL R rule W u).length : Int) = R ∧ ∀ y ∈ runL R rule W u, keyK R rule W u x < keyK R rule W u y
theorem runL_succ (R rule : Int) (W : List Int) (i : Nat) : runL R rule W (i + 1) =
    if want W i ∈ runL R rule W i then (if rule = 2 then withoutL (runL R rule W i) (want W i) ++ [want W i] else runL R rule W i)
    else if ((runL R rule W i).length : Int) = R then withoutL (runL R rule W i) (awayD W rule (runL R rule W i) i) ++ [want W i]
    else runL R rule W i ++ [want W i] := by
  show (runK R rule W (i + 1)).list = _
  rw [runK_succ]
  split
  · rfl
  · split <;> rfl
theorem pair_snoc {l : List Int} {q : Int} {f : Int → Nat} (h : l.Pairwise fun a b => f a < f b) (hq : ∀ x ∈ l, f x < f q) : (l ++ [q]).Pairwise fun a b => f a < f b := by
  rw [List.pairwise_append]
  exact ⟨h, by simp, fun a ha b hb => by simp at hb; subst hb; exact hq a ha⟩
theorem pair_congr {l : List Int} {f g : Int → Nat} (h : l.Pairwise fun a b => f a < f b) (he : ∀ x ∈ l, f x = g x) : l.Pairwise fun a b => g a < g b := by
  refine List.Pairwise.imp_of_mem ?_ h
  intro a b ha hb hab
  rw [← he a ha, ← he b hb]; exact hab
theorem key_ok {R rule : Int} {W : List Int} (hd : OkD R W) (hr : rule ≠ 3) : ∀ u, u ≤ W.length → KeyOk R rule W u
  | 0, _ => ⟨List.Pairwise.nil, (by intro x hx; cases hx), fun _ x _ h => (by simp [keyK] at h)⟩
  | u + 1, hu => by
    obtain ⟨h1, h2, h3⟩ := key_ok hd hr u (by omega)
    have hok := run_ok (rule := rule) hd u (by omega)
    have hle := fun y => keyK_le R rule W y u
    obtain ⟨q, hq⟩ : ∃ q, want W u = q := ⟨_, rfl⟩
    have hs := runL_succ R rule W u
    rw [hq] at hs
    by_cases hm : q ∈ runL R rule W u
    · rw [if_pos hm] at hs
      by_cases hr2 : rule = 2
      · rw [if_pos hr2, without_erase hok.nodup] at hs
        have kq : keyK R rule W (u + 1) q = u + 1 := by rw [← hq]; exact keyK_fresh (.inl hr2)
        have ko : ∀ x, x ≠ q → keyK R rule W (u + 1) x = keyK R rule W u x := fun x hx => keyK_other (by rw [hq]; exact Ne.symm hx)
        have hmem : ∀ x, x ∈ (runL R rule W u).erase q → x ≠ q ∧ x ∈ runL R rule W u := fun x hx => hok.nodup.mem_erase_iff.1 hx
        rw [show KeyOk R rule W (u + 1) ↔ _ from ⟨fun h => h, fun h => h⟩]
        refine ⟨?_, ?_, fun _ x hx hp => ?_⟩
        · rw [hs]
          refine pair_snoc (pair_congr (h1.sublist List.erase_sublist) fun x hx => (ko x (hmem x hx).1).symm) fun x hx => ?_
          rw [ko x (hmem x hx).1, kq]
          have := hle x; omega
        · rw [hs]
          intro x hx
          rcases List.mem_append.1 hx with g | g
          · rw [ko x (hmem x g).1]; exact h2 x (hmem x g).2
          · simp at g; subst g; rw [kq]; omega
        · rw [hs] at hx ⊢
          have hxq : x ≠ q := fun e => hx (by simp [e])
          have hxl : x ∉ runL R rule W u := fun g => hx (List.mem_append_left _ (hok.nodup.mem_erase_iff.2 ⟨hxq, g⟩))
          rw [ko x hxq] at hp ⊢
          obtain ⟨g1, g2⟩ := h3 hr2 x hxl hp
          refine ⟨by rw [List.length_append, List.length_erase_of_mem hm]; have := List.length_pos_of_mem hm; simp; omega, fun y hy => ?_⟩
          rcases List.mem_append.1 hy with g | g
          · rw [ko y (hmem y g).1]; exact g2 y (hmem y g).2
          · simp at g; subst g; rw [kq]; have := hle x; omega
      · rw [if_neg hr2] at hs
        have ko : ∀ x ∈ runL R rule W u, keyK R rule W (u + 1) x = keyK R rule W u x := fun x hx => keyK_same hr2 hx
        refine ⟨?_, ?_, fun h => absurd h hr2⟩
        · rw [hs]; exact pair_congr h1 fun x hx => (ko x hx).symm
        · rw [hs]; intro x hx; rw [ko x hx]; exact h2 x hx
    · rw [if_neg hm] at hs
      have kq : keyK R rule W (u + 1) q = u + 1 := by rw [← hq]; exact keyK_fresh (.inr (by rw [hq]; exact hm))
      have ko : ∀ x, x ≠ q → keyK R rule W (u + 1) x = keyK R rule W u x := fun x hx => keyK_other (by rw [hq]; exact Ne.symm hx)
      have hxq : ∀ x ∈ runL R rule W u, x ≠ q := fun x hx e => hm (e ▸ hx)
      by_cases hf : ((runL R rule W u).length : Int) = R
      · rw [if_pos hf] at hs
        have hr1 := hd.r1
        cases hl : runL R rule W u with
        | nil => rw [hl] at hf; simp at hf; omega
        | cons x0 l =>
          have ha : awayD W rule (runL R rule W u) u = x0 := by unfold awayD; rw [if_neg hr, hl]; rfl
          rw [ha, without_erase hok.nodup, hl, List.erase_cons_head] at hs
          rw [hl] at h1 h2 hxq hok hf
          have h1' := List.pairwise_cons.1 h1
          refine ⟨?_, ?_, fun hr2 x hx hp => ?_⟩
          · rw [hs]
            refine pair_snoc (pair_congr h1'.2 fun x hx => (ko x (hxq x (by simp [hx]))).symm) fun x hx => ?_
            rw [ko x (hxq x (by simp [hx])), kq]
            have := hle x; omega
          · rw [hs]
            intro x hx
            rcases List.mem_append.1 hx with g | g
            · rw [ko x (hxq x (by simp [g]))]; exact h2 x (by simp [g])
            · simp at g; subst g; rw [kq]; omega
          · rw [hs] at hx ⊢
            have hxq2 : x ≠ q := fun e => hx (by simp [e])
            have hxl : x ∉ l := fun g => hx (List.mem_append_left _ g)
            rw [ko x hxq2] at hp ⊢
            refine ⟨by simp at hf ⊢; omega, fun y hy => ?_⟩
            rcases List.mem_append.1 hy with g | g
            · rw [ko y (hxq y (by simp [g]))]
              by_cases e : x = x0
              · subst e; exact h1'.1 y g
              · exact (h3 hr2 x (by rw [hl]; simp [e, hxl]) hp).2 y (by rw [hl]; simp [g])
            · simp at g; subst g; rw [kq]; have := hle x; omega
      · rw [if_neg hf] at hs
        refine ⟨?_, ?_, fun hr2 x hx hp => ?_⟩
        · rw [hs]
          refine pair_snoc (pair_congr h1 fun x hx => (ko x (hxq x hx)).symm) fun x hx => ?_
          rw [ko x (hxq x hx), kq]
          have := hle x; omega
        · rw [hs]
          intro x hx
          rcases List.mem_append.1 hx with g | g
          · rw [ko x (hxq x g)]; exact h2 x g
          · simp at g; subst g; rw [kq]; omega
        · rw [hs] at hx
          have hxq2 : x ≠ q := fun e => hx (by simp [e])
          have hxl : x ∉ runL R rule W u := fun g => hx (List.mem_append_left _ g)
          rw [ko x hxq2] at hp
          exact absurd (h3 hr2 x hxl hp).1 hf
/-- By the second rule the key is when it was wanted last. -/
theorem key_last {R : Int} {W : List Int} {y : Int} : ∀ {u j : Nat}, j < u → want W j = y → (∀ k, j < k → k < u → want W k ≠ y) → keyK R 2 W u y = j + 1
  | 0, _, h, _, _ => by omega
  | u + 1, j, h, e, hk => by
    by_cases g : j = u
    · subst g
      rw [← e]; exact keyK_fresh (.inl rfl)
    · rw [keyK_other (hk u (by omega) (by omega))]
      exact key_last (by omega) e fun k k1 k2 => hk k k1 (by omega)
theorem key_ge {R : Int} {W : List Int} {y : Int} {u j : Nat} (h : j < u) (e : want W j = y) : j + 1 ≤ keyK R 2 W u y := by
  have h1 : keyK R 2 W (j + 1) y = j + 1 := by rw [← e]; exact keyK_fresh (.inl rfl)
  have := keyK_mono R 2 W y (j + 1) (u - (j + 1))
  rw [show j + 1 + (u - (j + 1)) = u by omega] at this
  omega
/-- By the second rule a want is fetched just if its depth is 0, or above Room. -/
theorem deep_run {R : Int} {W : List Int} (hd : OkD R W) {i : Nat} (hi : i < W.length) : want W i ∈ runL R 2 W i ↔ ¬ (depthD W i = 0 ∨ R < depthD W i) := by
  obtain ⟨h1, h2, h3⟩ := key_ok (rule := 2) hd (by omega) i (by omega)
  have hok := run_ok (rule := 2) hd i (by omega)
  by_cases hs : ∃ a, a < i ∧ pauseB W a i = true
  · obtain ⟨a, ha, hp⟩ := hs
    have hp0 := hp
    unfold pauseB at hp
    rw [Bool.and_eq_true, decide_eq_true_eq, soleB_iff ha hi] at hp
    have hkq : keyK R 2 W i (want W i) = a + 1 := key_last ha hp.1.symm fun k k1 k2 => hp.2 k k1 k2
    obtain ⟨d1, d2⟩ := dedup_ok (subW W a i)
    have hdp : depthD W i = ((dedup (subW W a i)).length : Int) := by
      rw [depth_pause hd hi ha hp0]
      exact sum_onL_any (fun x hx => by
        obtain ⟨k, _, k2, rfl⟩ := (mem_subW (by omega) (by omega)).1 hx
        exact hd.at (by omega)) d1 d2
    have hmem : ∀ y, y ∈ dedup (subW W a i) ↔ a + 1 ≤ keyK R 2 W i y := by
      intro y
      rw [d2, mem_subW (by omega) (by omega)]
      constructor
      · rintro ⟨k, k1, k2, k3⟩
        have := key_ge (R := R) k2 k3; omega
      · intro h
        obtain ⟨k, k1, k2, k3⟩ := keyK_at R 2 W y i (by omega)
        exact ⟨k, by omega, k1, k2⟩
    have hpos : 0 < (dedup (subW W a i)).length := List.length_pos_of_mem ((hmem (want W i)).2 (by omega))
    rw [hdp]
    constructor
    · intro hm
      have : (dedup (subW W a i)).length ≤ (runL R 2 W i).length := Dual.nodup_sub_len _ _ d1 fun y hy => by
        refine Classical.byContradiction fun hn => ?_
        have hy2 := (hmem y).1 hy
        have := (h3 rfl y hn (by omega)).2 _ hm
        omega
      have := hok.le
      omega
    · intro hn
      refine Classical.byContradiction fun hm => ?_
      obtain ⟨g1, g2⟩ := h3 rfl _ hm (by omega)
      have : (want W i :: runL R 2 W i).length ≤ (dedup (subW W a i)).length := Dual.nodup_sub_len _ _ (List.nodup_cons.2 ⟨hm, hok.nodup⟩) fun y hy => by
        rcases List.mem_cons.1 hy with rfl | hy
        · exact (hmem _).2 (by omega)
        · have := g2 y hy
          exact (hmem y).2 (by omega)
      rw [List.length_cons] at this
      omega
  · have h0 : depthD W i = 0 := depth_none hi fun a ha => by
      rw [← Bool.not_eq_true]; exact fun h => hs ⟨a, ha, h⟩
    rw [h0]
    constructor
    · intro hm
      obtain ⟨k, k1, k2, _⟩ := keyK_at R 2 W _ i (h2 _ hm)
      obtain ⟨a, _, a2, a3⟩ := again_pause hi k k1 k2
      exact absurd ⟨a, a2, a3⟩ hs
    · intro h; exact absurd (Or.inl rfl) h
theorem depth_bd {R : Int} {W : List Int} (hd : OkD R W) {i : Nat} (hi : i < W.length) : 0 ≤ depthD W i ∧ depthD W i ≤ 8 ∧ (depthD W i = 0 ↔ ∀ k, k < i → want W k ≠ want W i) := by
  by_cases hs : ∃ a, a < i ∧ pauseB W a i = true
  · obtain ⟨a, ha, hp⟩ := hs
    obtain ⟨d1, d2⟩ := dedup_ok (subW W a i)
    have hdp : depthD W i = ((dedup (subW W a i)).length : Int) := by
      rw [depth_pause hd hi ha hp]
      exact sum_onL_any (fun x hx => by
        obtain ⟨k, _, k2, rfl⟩ := (mem_subW (by omega) (by omega)).1 hx
        exact hd.at (by omega)) d1 d2
    have h8 := Dual.nodup_sub_len (dedup (subW W a i)) ((List.range 8).map fun (n : Nat) => (n : Int) + 1) d1 (fun x hx => by
      rw [d2] at hx
      obtain ⟨k, _, k2, rfl⟩ := (mem_subW (by omega) (by omega)).1 hx
      have := hd.at (show k < W.length by omega)
      exact List.mem_map.2 ⟨(want W k - 1).toNat, List.mem_range.2 (by omega), by omega⟩)
    have hpos : 0 < (dedup (subW W a i)).length := List.length_pos_of_mem (a := want W a) ((d2 _).2 ((mem_subW (by omega) (by omega)).2 ⟨a, Nat.le_refl _, ha, rfl⟩))
    simp at h8
    unfold pauseB at hp
    rw [Bool.and_eq_true, decide_eq_true_eq] at hp
    refine ⟨by omega, by omega, ⟨fun h => by omega, fun h => absurd hp.1.symm (h a ha)⟩⟩
  · have h0 : depthD W i = 0 := depth_none hi fun a ha => by
      rw [← Bool.not_eq_true]; exact fun h => hs ⟨a, ha, h⟩
    refine ⟨by omega, by omega, ⟨fun _ k hk e => ?_, fun _ => h0⟩⟩
    obtain ⟨a, _, a2, a3⟩ := again_pause hi k hk e
    exact hs ⟨a, a2, a3⟩
/-- With more room no want more is fetched by the second rule. -/
theorem lru_wider {R R' : Int} {W : List Int} (hd : OkD R W) (hd' : OkD R' W) (h : R ≤ R') {i : Nat} (hi : i < W.length) (hm : want W i ∈ runL R 2 W i) : want W i ∈ runL R' 2 W i := by
  rw [deep_run hd hi] at hm
  rw [deep_run hd' hi]
  omega
end Go.Proofs.Ytjajdpggoggoiaa
