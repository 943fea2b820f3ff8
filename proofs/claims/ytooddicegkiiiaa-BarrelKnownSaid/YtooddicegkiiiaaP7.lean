/- Plain: the document's Group is the program's; no condition. -/
import Derived.Test.YtooddicegkiiiaaP6
import Derived.Test.YtooddicegkiiiaaX1
namespace Go.Proofs.Ytooddicegkiiiaa

/-- x is longer than y, or as long and comes before it. -/
def beats (x y : List Nat) : Prop := y.length < x.length ∨ (x.length = y.length ∧ befB (natL x) (natL y) = true)
def Top (S : List Nat → Prop) (r : List Nat) : Prop := S r ∧ ∀ x, S x → x = r ∨ beats r x
theorem bef_cons (a b : Nat) (x y : List Nat) : befB (natL (a :: x)) (natL (b :: y)) = if a = b then befB (natL x) (natL y) else decide (a < b) := by
  simp only [natL, List.map_cons, befB]
  by_cases h : a = b
  · subst h; simp
  · rw [if_neg (by omega), if_neg h]; simp
theorem bef_irr : ∀ x : List Nat, befB (natL x) (natL x) = false
  | [] => rfl
  | a :: x => by rw [bef_cons, if_pos rfl, bef_irr x]
theorem bef_asym : ∀ x y : List Nat, befB (natL x) (natL y) = true → befB (natL y) (natL x) = false
  | [], _, h => by simp [natL, befB] at h
  | _ :: _, [], h => by simp [natL, befB] at h
  | a :: x, b :: y, h => by
    rw [bef_cons] at h ⊢
    by_cases e : a = b
    · subst e
      rw [if_pos rfl] at h ⊢
      exact bef_asym x y h
    · rw [if_neg e] at h
      rw [if_neg (Ne.symm e)]
      simp at h ⊢; omega
theorem bef_trans : ∀ x y z : List Nat, befB (natL x) (natL y) = true → befB (natL y) (natL z) = true → befB (natL x) (natL z) = true
  | [], _, _, h, _ => by simp [natL, befB] at h
  | _ :: _, [], _, h, _ => by simp [natL, befB] at h
  | _ :: _, _ :: _, [], _, h => by simp [natL, befB] at h
  | a :: x, b :: y, c :: z, h1, h2 => by
    rw [bef_cons] at h1 h2 ⊢
    by_cases e : a = b
    · subst e
      rw [if_pos rfl] at h1
      by_cases e2 : a = c
      · subst e2
        rw [if_pos rfl] at h2 ⊢
        exact bef_trans x y z h1 h2
      · rw [if_neg e2] at h2 ⊢; exact h2
    · rw [if_neg e] at h1
      simp at h1
      by_cases e2 : b = c
      · subst e2; rw [if_neg e]; simp; omega
      · rw [if_neg e2] at h2
        simp at h2
        rw [if_neg (by omega)]; simp; omega
theorem bef_tri : ∀ x y : List Nat, x.length = y.length → befB (natL x) (natL y) = true ∨ x = y ∨ befB (natL y) (natL x) = true
  | [], [], _ => .inr (.inl rfl)
  | [], _ :: _, h => by simp at h
  | _ :: _, [], h => by simp at h
  | a :: x, b :: y, h => by
    rw [bef_cons, bef_cons]
    by_cases e : a = b
    · subst e
      rw [if_pos rfl, if_pos rfl]
      rcases bef_tri x y (by simpa using h) with h | h | h
      · exact .inl h
      · exact .inr (.inl (by rw [h]))
      · exact .inr (.inr h)
    · rw [if_neg e, if_neg (Ne.symm e)]
      rcases Nat.lt_or_gt_of_ne e with h | h
      · exact .inl (by simp; omega)
      · exact .inr (.inr (by simp; omega))
theorem bef_app (g : List Nat) (x y : List Nat) : befB (natL (g ++ x)) (natL (g ++ y)) = befB (natL x) (natL y) := by
  induction g with
  | nil => rfl
  | cons a g ih => rw [List.cons_append, List.cons_append, bef_cons, if_pos rfl, ih]
theorem beats_trans {x y z : List Nat} (h1 : beats x y) (h2 : beats y z) : beats x z := by
  rcases h1 with h1 | ⟨h1, k1⟩ <;> rcases h2 with h2 | ⟨h2, k2⟩
  · exact .inl (by omega)
  · exact .inl (by omega)
  · exact .inl (by omega)
  · exact .inr ⟨by omega, bef_trans _ _ _ k1 k2⟩
theorem beats_asym {x y : List Nat} (h1 : beats x y) (h2 : beats y x) : False := by
  rcases h1 with h1 | ⟨h1, k1⟩ <;> rcases h2 with h2 | ⟨h2, k2⟩
  · omega
  · omega
  · omega
  · rw [bef_asym _ _ k1] at k2; cases k2
theorem beats_tri (x y : List Nat) : beats x y ∨ x = y ∨ beats y x := by
  rcases Nat.lt_trichotomy x.length y.length with h | h | h
  · exact .inr (.inr (.inl h))
  · rcases bef_tri x y h with k | k | k
    · exact .inl (.inr ⟨h, k⟩)
    · exact .inr (.inl k)
    · exact .inr (.inr (.inr ⟨h.symm, k⟩))
  · exact .inl (.inl h)
theorem Top.unique {S : List Nat → Prop} {r r' : List Nat} (h : Top S r) (h' : Top S r') : r = r' := by
  rcases h.2 r' h'.1 with e | e
  · exact e.symm
  · rcases h'.2 r h.1 with e' | e'
    · exact e'
    · exact (beats_asym e e').elim
theorem Top.congr {S S' : List Nat → Prop} {r : List Nat} (h : Top S r) (e : ∀ x, S x ↔ S' x) : Top S' r := ⟨(e r).1 h.1, fun x hx => h.2 x ((e x).2 hx)⟩

/-! The program's. -/
theorem bestJ_spec (ls : List Nat) : ∀ n, (∀ k, k ≤ n → ls[k]?.getD 0 ≤ ls[bestJ ls n]?.getD 0) ∧ ∀ k, k < bestJ ls n → ls[k]?.getD 0 < ls[bestJ ls n]?.getD 0
  | 0 => ⟨fun k hk => by obtain rfl : k = 0 := by omega
                         exact Nat.le_refl _, fun k hk => absurd hk (Nat.not_lt_zero _)⟩
  | n + 1 => by
    obtain ⟨h1, h2⟩ := bestJ_spec ls n
    rw [bestJ]
    split
    · rename_i h
      refine ⟨fun k hk => ?_, fun k hk => ?_⟩
      · by_cases e : k = n + 1
        · subst e; exact Nat.le_refl _
        · have := h1 k (by omega); omega
      · have := h1 k (by omega); omega
    · rename_i h
      refine ⟨fun k hk => ?_, h2⟩
      by_cases e : k = n + 1
      · subst e; omega
      · exact h1 k (by omega)
theorem bestG_top (Os : List (List Nat)) (h : 1 ≤ Os.length) (hp : Os.Pairwise fun a b => a.length = b.length → befB (natL a) (natL b) = true) : Top (fun x => x ∈ Os) (bestG Os) := by
  refine ⟨bestG_mem Os h, fun x hx => ?_⟩
  obtain ⟨h1, h2⟩ := bestJ_spec (Os.map List.length) (Os.length - 1)
  have hle := bestJ_le (Os.map List.length) (Os.length - 1)
  have hb : bestG Os = Os[bestJ (Os.map List.length) (Os.length - 1)]?.getD [] := rfl
  generalize bestJ (Os.map List.length) (Os.length - 1) = j at *
  have hget : ∀ k (hk : k < Os.length), (Os.map List.length)[k]?.getD 0 = (Os[k]'hk).length := fun k hk => by simp [hk]
  obtain ⟨k, hk, rfl⟩ := List.getElem_of_mem hx
  have hj : j < Os.length := by omega
  rw [hb, List.getElem?_eq_getElem hj, Option.getD_some]
  rcases Nat.lt_trichotomy k j with e | e | e
  · have := h2 k e
    rw [hget k hk, hget j hj] at this
    exact .inr (.inl this)
  · subst e; exact .inl rfl
  · have h3 := h1 k (by omega)
    rw [hget k hk, hget j hj] at h3
    right
    rcases Nat.lt_or_eq_of_le h3 with h4 | h4
    · exact .inl h4
    · rw [List.pairwise_iff_getElem] at hp
      exact .inr ⟨h4.symm, hp j k hj hk e h4.symm⟩
/-- The groups that begin with g, and have others from m on. -/
def Beg (V : List (Int × Int)) (g : List Nat) (m : Nat) (x : List Nat) : Prop := ∃ s, x = g ++ s ∧ (∀ i ∈ s, m ≤ i) ∧ Inc V x ∧ Grp V x
theorem Beg.split {V : List (Int × Int)} {g : List Nat} {m : Nat} {x : List Nat} (h : Beg V g m x) : x = g ∨ ∃ i, m ≤ i ∧ i < V.length ∧ Grp V (g ++ [i]) ∧ Beg V (g ++ [i]) (i + 1) x := by
  obtain ⟨s, rfl, h1, h2, h3⟩ := h
  cases s with
  | nil => exact .inl (List.append_nil g)
  | cons i s =>
    refine .inr ⟨i, h1 i (by simp), h2.2 i (by simp), ?_, s, by simp, fun j hj => ?_, h2, h3⟩
    · unfold Grp at h3 ⊢
      rw [show g ++ i :: s = (g ++ [i]) ++ s by simp, List.pairwise_append] at h3
      exact h3.1
    · have h4 := h2.1
      rw [List.pairwise_append, List.pairwise_cons] at h4
      have := h4.2.1.1 j hj
      omega
theorem gre_top (V : List (Int × Int)) : ∀ (f : Nat) (g : List Nat) (m : Nat), V.length - m ≤ f → Inc V g → Grp V g → (∀ i ∈ g, i < m) → Top (Beg V g m) (gre V f g m)
  | 0, g, m, hf, hi, hg, hm => by
    rw [gre]
    refine ⟨⟨[], by simp, by simp, hi, hg⟩, fun x hx => ?_⟩
    rcases hx.split with h | ⟨i, h1, h2, _⟩
    · exact .inl h
    · omega
  | f + 1, g, m, hf, hi, hg, hm => by
    have ih : ∀ i, m ≤ i → i < V.length → Grp V (g ++ [i]) → Top (Beg V (g ++ [i]) (i + 1)) (gre V f (g ++ [i]) (i + 1)) := fun i h1 h2 h3 => by
      refine gre_top V f (g ++ [i]) (i + 1) (by omega) ⟨?_, ?_⟩ h3 ?_
      · rw [List.pairwise_append]
        refine ⟨hi.1, List.pairwise_singleton _ _, fun a ha b hb => ?_⟩
        rw [List.mem_singleton] at hb
        have := hm a ha
        omega
      · intro a ha
        rcases List.mem_append.1 ha with h | h
        · exact hi.2 a h
        · rw [List.mem_singleton] at h; omega
      · intro a ha
        rcases List.mem_append.1 ha with h | h
        · have := hm a h; omega
        · rw [List.mem_singleton] at h; omega
    have hmem : ∀ x, x ∈ (g :: ((List.range' m (V.length - m)).filter fun i => decide (Grp V (g ++ [i]))).map fun i => gre V f (g ++ [i]) (i + 1)) ↔ x = g ∨ ∃ i, m ≤ i ∧ i < V.length ∧ Grp V (g ++ [i]) ∧ gre V f (g ++ [i]) (i + 1) = x := fun x => by
      simp only [List.mem_cons, List.mem_map, List.mem_filter, List.mem_range'_1, decide_eq_true_eq]
      constructor
      · rintro (h | ⟨i, ⟨⟨h1, h2⟩, h3⟩, h4⟩)
        · exact .inl h
        · exact .inr ⟨i, h1, by omega, h3, h4⟩
      · rintro (h | ⟨i, h1, h2, h3, h4⟩)
        · exact .inl h
        · exact .inr ⟨i, ⟨⟨h1, by omega⟩, h3⟩, h4⟩
    have hlen : ∀ i, m ≤ i → i < V.length → Grp V (g ++ [i]) → ∃ s, gre V f (g ++ [i]) (i + 1) = g ++ i :: s := fun i h1 h2 h3 => by
      obtain ⟨s, hs, _⟩ := (ih i h1 h2 h3).1
      exact ⟨s, by rw [hs]; simp⟩
    have ht := bestG_top (g :: ((List.range' m (V.length - m)).filter fun i => decide (Grp V (g ++ [i]))).map fun i => gre V f (g ++ [i]) (i + 1)) (by simp) (by
      rw [List.pairwise_cons]
      refine ⟨fun x hx hl => ?_, ?_⟩
      · obtain ⟨i, hi', rfl⟩ := List.mem_map.1 hx
        simp only [List.mem_filter, List.mem_range'_1, decide_eq_true_eq] at hi'
        obtain ⟨s, hs⟩ := hlen i hi'.1.1 (by omega) hi'.2
        rw [hs] at hl
        simp at hl
      · rw [List.pairwise_map]
        refine List.Pairwise.imp_of_mem ?_ (List.Pairwise.filter _ List.pairwise_lt_range')
        intro a b ha hb hab _
        simp only [List.mem_filter, List.mem_range'_1, decide_eq_true_eq] at ha hb
        obtain ⟨s, hs⟩ := hlen a ha.1.1 (by omega) ha.2
        obtain ⟨s', hs'⟩ := hlen b hb.1.1 (by omega) hb.2
        rw [hs, hs', bef_app, bef_cons, if_neg (by omega)]
        simp; omega)
    rw [gre]
    obtain ⟨t1, t2⟩ := ht
    refine ⟨?_, fun x hx => ?_⟩
    · rcases (hmem _).1 t1 with h | ⟨i, h1, h2, h3, h4⟩
      · rw [h]; exact ⟨[], by simp, by simp, hi, hg⟩
      · rw [← h4]
        obtain ⟨s, k1, k2, k3, k4⟩ := (ih i h1 h2 h3).1
        refine ⟨i :: s, by rw [k1]; simp, fun j hj => ?_, k3, k4⟩
        rcases List.mem_cons.1 hj with h | h
        · omega
        · have := k2 j h; omega
    · rcases hx.split with h | ⟨i, h1, h2, h3, h4⟩
      · exact t2 x ((hmem x).2 (.inl h))
      · have t3 := t2 _ ((hmem _).2 (.inr ⟨i, h1, h2, h3, rfl⟩))
        rcases (ih i h1 h2 h3).2 x h4 with e | e
        · rw [e]; exact t3
        · rcases t3 with k | k
          · rw [k] at e; exact .inr e
          · exact .inr (beats_trans k e)

/-! The document's. -/
theorem btr2_beats (V : List (Int × Int)) (x b : List Nat) : btr2 V x b = true ↔ cgE V (natL x) = 0 ∧ beats x b := by
  unfold btr2 beats
  simp
theorem rgr_top (V : List (Int × Int)) (h0 : cgE V [] = 0) : ∀ m, Top (fun x => ∃ b, b ≤ m ∧ x = lst b V.length ∧ cgE V (natL x) = 0) (rgrK V (m + 1))
  | 0 => by
    have hl : lst 0 V.length = [] := by
      unfold lst
      rw [List.filter_eq_nil_iff]
      intro i _
      simp [bitB]
    have hr : rgrK V 1 = [] := by
      rw [rgrK, hl]
      split <;> rfl
    rw [hr]
    refine ⟨⟨0, Nat.le_refl _, hl.symm, h0⟩, ?_⟩
    rintro x ⟨b, hb, rfl, _⟩
    obtain rfl : b = 0 := by omega
    exact .inl hl
  | m + 1 => by
    obtain ⟨⟨b, h1, h2, h3⟩, h4⟩ := rgr_top V h0 m
    rw [show rgrK V (m + 1 + 1) = if btr2 V (lst (m + 1) V.length) (rgrK V (m + 1)) then lst (m + 1) V.length else rgrK V (m + 1) from rfl]
    generalize rgrK V (m + 1) = r at *
    cases hb : btr2 V (lst (m + 1) V.length) r
    · rw [if_neg (by decide)]
      refine ⟨⟨b, by omega, h2, h3⟩, ?_⟩
      rintro x ⟨c, hc, rfl, hx⟩
      by_cases e : c = m + 1
      · subst e
        rcases beats_tri (lst (m + 1) V.length) r with k | k | k
        · have := (btr2_beats V _ _).2 ⟨hx, k⟩
          rw [hb] at this; cases this
        · exact .inl k
        · exact .inr k
      · exact h4 _ ⟨c, by omega, rfl, hx⟩
    · rw [if_pos rfl]
      obtain ⟨k1, k2⟩ := (btr2_beats V _ _).1 hb
      refine ⟨⟨m + 1, Nat.le_refl _, rfl, k1⟩, ?_⟩
      rintro x ⟨c, hc, rfl, hx⟩
      by_cases e : c = m + 1
      · subst e; exact .inl rfl
      · rcases h4 _ ⟨c, by omega, rfl, hx⟩ with k | k
        · rw [k]; exact .inr k2
        · exact .inr (beats_trans k2 k)
theorem lst_inc (b n : Nat) : (lst b n).Pairwise (· < ·) ∧ ∀ i ∈ lst b n, i < n := by
  unfold lst
  exact ⟨List.Pairwise.filter _ List.pairwise_lt_range, fun i hi => List.mem_range.1 (List.mem_filter.1 hi).1⟩
theorem bit_add (b n i : Nat) (h : i < n) : bitB (b + 2 ^ n) i = bitB b i := by
  unfold bitB
  obtain ⟨k, rfl⟩ : ∃ k, n = i + 1 + k := ⟨n - i - 1, by omega⟩
  have e : 2 ^ (i + 1 + k) = 2 ^ i * (2 * 2 ^ k) := by rw [Nat.pow_add, Nat.pow_succ, Nat.mul_assoc]
  rw [e, Nat.add_mul_div_left _ _ (Nat.pow_pos (by omega)), Nat.add_mul_mod_self_left]
theorem bit_top (b n : Nat) (h : b < 2 ^ n) : bitB (b + 2 ^ n) n = true ∧ bitB b n = false := by
  unfold bitB
  rw [Nat.add_div_right _ (Nat.pow_pos (by omega)), Nat.div_eq_of_lt h]
  exact ⟨rfl, rfl⟩
theorem lst_all : ∀ (n : Nat) (x : List Nat), x.Pairwise (· < ·) → (∀ i ∈ x, i < n) → ∃ b, b < 2 ^ n ∧ lst b n = x
  | 0, x, _, h => by
    have : x = [] := List.eq_nil_iff_forall_not_mem.2 fun i hi => absurd (h i hi) (Nat.not_lt_zero _)
    subst this
    exact ⟨0, by simp, rfl⟩
  | n + 1, x, hp, h => by
    by_cases hn : n ∈ x
    · obtain ⟨s, t, rfl⟩ := List.append_of_mem hn
      rw [List.pairwise_append, List.pairwise_cons] at hp
      obtain ⟨p1, ⟨p2, _⟩, p3⟩ := hp
      have ht : t = [] := List.eq_nil_iff_forall_not_mem.2 fun i hi => by
        have := p2 i hi
        have := h i (by simp [hi])
        omega
      subst ht
      obtain ⟨b, hb, hl⟩ := lst_all n s p1 (fun i hi => p3 i hi n (by simp))
      refine ⟨b + 2 ^ n, by rw [Nat.pow_succ]; omega, ?_⟩
      rw [lst_succ, if_pos (bit_top b n hb).1]
      have : lst (b + 2 ^ n) n = lst b n := by
        unfold lst
        exact List.filter_congr fun i hi => bit_add b n i (List.mem_range.1 hi)
      rw [this, hl]
    · obtain ⟨b, hb, hl⟩ := lst_all n x hp (fun i hi => by
        have := h i hi
        have : i ≠ n := fun e => hn (e ▸ hi)
        omega)
      refine ⟨b, by rw [Nat.pow_succ]; omega, ?_⟩
      rw [lst_succ, if_neg (by rw [(bit_top b n hb).2]; decide), hl]
theorem ixs_natL (x : List Nat) : ixs (natL x) = x := by
  unfold ixs natL
  rw [List.map_map]
  have : (Int.toNat ∘ fun (n : Nat) => (n : Int)) = id := by funext n; simp
  rw [this, List.map_id]
theorem incB_of {n : Nat} : ∀ (x : List Nat) (N : Nat), x.Pairwise (· < ·) → (∀ i ∈ x, N ≤ i ∧ i < n) → incB n (N : Int) (natL x) = true
  | [], _, _, _ => rfl
  | i :: x, N, hp, h => by
    rw [List.pairwise_cons] at hp
    have hi := h i (by simp)
    have ih := incB_of x (i + 1) hp.2 (fun j hj => ⟨hp.1 j hj, (h j (by simp [hj])).2⟩)
    simp only [natL, List.map_cons, incB, Bool.and_eq_true, Bool.not_eq_true']
    refine ⟨?_, ih⟩
    simp [outB]; omega
theorem cg_grp {V : List (Int × Int)} (hc : checkP V = 0) {x : List Nat} (hi : Inc V x) : cgE V (natL x) = 0 ↔ Grp V x := by
  have h1 : incB V.length 0 (natL x) = true := incB_of x 0 hi.1 (fun i hx => ⟨Nat.zero_le _, hi.2 i hx⟩)
  unfold cgE
  rw [if_neg (by simpa using hc), if_pos h1, ixs_natL]
  by_cases h : Grp V x
  · rw [if_pos h]; simp [h]
  · rw [if_neg h]; simp [h]
theorem rgr_eq (V : List (Int × Int)) : rgrN V = grpN V := by
  unfold rgrN grpN
  by_cases hc : checkP V = 0
  · rw [if_pos hc, if_pos hc]
    have hp : 1 ≤ 2 ^ V.length := Nat.pow_pos (by omega)
    have h0 : cgE V [] = 0 := (cg_grp hc (x := []) ⟨List.Pairwise.nil, by simp⟩).2 List.Pairwise.nil
    have t1 := rgr_top V h0 (2 ^ V.length - 1)
    rw [Nat.sub_add_cancel hp] at t1
    have t2 := gre_top V V.length [] 0 (Nat.sub_le _ _) ⟨List.Pairwise.nil, by simp⟩ List.Pairwise.nil (by simp)
    refine t1.unique (t2.congr fun x => ?_)
    constructor
    · rintro ⟨s, _, _, h3, h4⟩
      obtain ⟨b, hb, hl⟩ := lst_all V.length x h3.1 h3.2
      exact ⟨b, by omega, hl.symm, (cg_grp hc h3).2 h4⟩
    · rintro ⟨b, hb, rfl, hx⟩
      have hi : Inc V (lst b V.length) := lst_inc b V.length
      exact ⟨_, rfl, fun _ _ => Nat.zero_le _, hi, (cg_grp hc hi).1 hx⟩
  · rw [if_neg hc, if_neg hc]
end Go.Proofs.Ytooddicegkiiiaa
