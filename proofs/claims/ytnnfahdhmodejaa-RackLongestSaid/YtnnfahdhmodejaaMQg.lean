/- Piles fall, and runs from pile to pile rise: the longest rising run and the fewest falling ones; plain. -/
import Derived.Test.YtnnfahdhmodejaaMGI
import Derived.Test.YtnnfahdhmodejaaMGJ
import Derived.Test.YtnnfahdhmodejaaMQh
namespace Go.Proofs.Ytnnfahdhmodejaa

/-- What the first row tells of the indexes so far. -/
structure Row0 (s : List Int) (k : Nat) : Prop where
  below : ∀ j, j < k → elt (row (bldR s k).1 0) (atP s j) ≤ elt s j ∧ atP s j < (row (bldR s k).1 0).length
  last : ∀ j, j < k → (∀ i, j < i → i < k → atP s i ≠ atP s j) → elt (row (bldR s k).1 0) (atP s j) = elt s j
theorem row0_next (s : List Int) (k : Nat) : row (bldR s (k + 1)).1 0 = if atP s k = (row (bldR s k).1 0).length then row (bldR s k).1 0 ++ [elt s k] else (row (bldR s k).1 0).set (atP s k) (elt s k) := by
  have hb : (bldR s (k + 1)).1 = (putR (bldR s k).1 (elt s k)).1 := rfl
  obtain ⟨j, h1, h2, h3⟩ := put_head (bldR s k).1 (elt s k)
  have e : ∀ R : List (List Int), row R 0 = hd R := fun R => by cases R <;> rfl
  rw [hb, e, e, h3, h2]
  unfold atP
  rw [e]
theorem row0_elt (s : List Int) (k i : Nat) : elt (row (bldR s (k + 1)).1 0) i = if i = atP s k then elt s k else elt (row (bldR s k).1 0) i := by
  rw [row0_next]
  by_cases h : atP s k = (row (bldR s k).1 0).length
  · rw [if_pos h, elt_snoc, h]
  · rw [if_neg h, elt_set (by have := ins_le (row (bldR s k).1 0) (elt s k); unfold atP at h ⊢; omega)]
theorem row0_len (s : List Int) (k : Nat) : (row (bldR s k).1 0).length ≤ (row (bldR s (k + 1)).1 0).length ∧ atP s k < (row (bldR s (k + 1)).1 0).length := by
  rw [row0_next]
  have := ins_le (row (bldR s k).1 0) (elt s k)
  by_cases h : atP s k = (row (bldR s k).1 0).length
  · rw [if_pos h]; simp; omega
  · rw [if_neg h]; unfold atP at h ⊢; simp; omega
theorem row0_up (s : List Int) (k : Nat) : Up (row (bldR s k).1 0) := ((tab_row (bld_pair s k).tab) 0).1
theorem row0 (s : List Int) : ∀ k, Row0 s k
  | 0 => ⟨fun j h => by omega, fun j h => by omega⟩
  | k + 1 => by
    have ih := row0 s k
    have hl := row0_len s k
    refine ⟨fun j hj => ?_, fun j hj hlast => ?_⟩
    · rw [row0_elt]
      by_cases e : j = k
      · subst e; rw [if_pos rfl]; exact ⟨Int.le_refl _, hl.2⟩
      · obtain ⟨h1, h2⟩ := ih.below j (by omega)
        refine ⟨?_, by omega⟩
        split
        · rename_i e2
          have h3 : atP s k < (row (bldR s k).1 0).length := by omega
          have h4 := ins_at (l := row (bldR s k).1 0) (t := elt s k) h3
          change elt s k < elt (row (bldR s k).1 0) (atP s k) at h4
          rw [← e2] at h4
          omega
        · exact h1
    · rw [row0_elt]
      by_cases e : j = k
      · subst e; rw [if_pos rfl]
      · rw [if_neg (fun e2 => hlast k (by omega) (by omega) e2.symm)]
        exact ih.last j (by omega) fun i h1 h2 => hlast i h1 (by omega)
/-- Of two indexes of one pile the later one has the lesser number. -/
theorem pile_fall {s : List Int} {j i : Nat} (h : j < i) (e : atP s j = atP s i) : elt s i < elt s j := by
  obtain ⟨h1, h2⟩ := (row0 s i).below j h
  rw [e] at h1 h2
  have h4 := ins_at (l := row (bldR s i).1 0) (t := elt s i) h2
  change elt s i < elt (row (bldR s i).1 0) (atP s i) at h4
  omega
/-- A later index that is no less lies on a later pile. -/
theorem pile_rise {s : List Int} {j i : Nat} (h : j < i) (e : elt s j ≤ elt s i) : atP s j < atP s i := by
  obtain ⟨h1, h2⟩ := (row0 s i).below j h
  rcases Nat.lt_or_ge (atP s j) (atP s i) with h3 | h3
  · exact h3
  · exfalso
    have h5 : atP s i < (row (bldR s i).1 0).length := by omega
    have h4 := ins_at (l := row (bldR s i).1 0) (t := elt s i) h5
    change elt s i < elt (row (bldR s i).1 0) (atP s i) at h4
    have := row0_up s i _ _ h3 h2
    omega
/-- The piles, index by index. -/
theorem pil_row (s : List Int) : ∀ (k i : Nat), row (pilP s k).1 i = ((List.range k).filter (fun j => decide (atP s j = i))).map (fun (j : Nat) => (j : Int))
  | 0, i => by simp [pilP, row]
  | k + 1, i => by
    have ih := pil_row s k i
    have hp : (pilP s (k + 1)).1 = addO (pilP s k).1 (atP s k) (k : Int) := rfl
    rw [hp, addP_row _ (atP_le (pilOk s k)), ih, List.range_succ, List.filter_append, List.map_append]
    by_cases e : i = atP s k
    · rw [if_pos e, List.filter_cons_of_pos (by simp [e])]; rfl
    · rw [if_neg e, List.filter_cons_of_neg (by simp; exact fun h => e h.symm)]; simp
theorem pil_mem {s : List Int} {k i : Nat} {x : Int} : x ∈ row (pilP s k).1 i ↔ ∃ j : Nat, j < k ∧ atP s j = i ∧ x = (j : Int) := by
  rw [pil_row, List.mem_map]
  constructor
  · rintro ⟨j, hj, rfl⟩
    rw [List.mem_filter, List.mem_range, decide_eq_true_eq] at hj
    exact ⟨j, hj.1, hj.2, rfl⟩
  · rintro ⟨j, h1, h2, rfl⟩
    exact ⟨j, List.mem_filter.2 ⟨List.mem_range.2 h1, by simpa using h2⟩, rfl⟩
theorem pil_up (s : List Int) (k i : Nat) : (row (pilP s k).1 i).Pairwise (· < ·) := by
  rw [pil_row, List.pairwise_map]
  refine List.Pairwise.imp (fun h => by omega) (List.Pairwise.filter _ (List.pairwise_lt_range (n := k)))
theorem pil_len (s : List Int) : (pilP s s.length).1.length = (row (bldR s s.length).1 0).length := (pilOk s s.length).len
theorem pil_flat (s : List Int) : (pilP s s.length).1.flatten.Nodup ∧ ∀ x : Int, x ∈ (pilP s s.length).1.flatten ↔ 0 ≤ x ∧ x < (s.length : Int) := by
  refine ⟨flat_nodup (fun i => (pil_up s _ i).imp (fun h => by omega)) (fun i j x hi hj => ?_), fun x => ⟨fun hx => ?_, fun hx => ?_⟩⟩
  · obtain ⟨a, _, h1, rfl⟩ := pil_mem.1 hi
    obtain ⟨b, _, h2, h3⟩ := pil_mem.1 hj
    have : a = b := by omega
    subst this; omega
  · obtain ⟨m, hm, hx⟩ := List.mem_flatten.1 hx
    obtain ⟨i, hi, e⟩ := List.getElem_of_mem hm
    have hx : x ∈ row (pilP s s.length).1 i := by rw [row_lt hi, e]; exact hx
    obtain ⟨j, h1, _, rfl⟩ := pil_mem.1 hx
    omega
  · have h1 : x ∈ row (pilP s s.length).1 (atP s x.toNat) := pil_mem.2 ⟨x.toNat, by omega, rfl, by omega⟩
    exact flat_mem h1
theorem nodup_count {l : List Int} {n : Nat} (hn : l.Nodup) (h : ∀ x : Int, x ∈ l ↔ 0 ≤ x ∧ x < (n : Int)) : l.length = n := by
  have h1 : l.length ≤ n := by
    have := nodup_sub (m := (List.range n).map (fun (k : Nat) => (k : Int))) hn (fun x hx => by
      have := (h x).1 hx
      exact List.mem_map.2 ⟨x.toNat, List.mem_range.2 (by omega), by omega⟩)
    simpa using this
  have h2 : n ≤ l.length := by
    have := nodup_sub (l := (List.range n).map (fun (k : Nat) => (k : Int))) (m := l) (List.Pairwise.map _ (fun a b hab e => hab (by omega)) List.nodup_range) (fun x hx => by
      obtain ⟨j, hj, rfl⟩ := List.mem_map.1 hx
      exact (h _).2 ⟨by omega, by have := List.mem_range.1 hj; omega⟩)
    simpa using this
  omega
/-- The piles cover the sequence, and fall. -/
theorem pil_falE {s : List Int} (hs : seqC s = 0) : falE s (pilP s s.length).1 = (((row (bldR s s.length).1 0).length : Int), 0) := by
  obtain ⟨h1, h2⟩ := pil_flat s
  unfold falE
  have hany : (pilP s s.length).1.flatten.any (outB 0 ((s.length : Int) - 1)) = false := by
    rw [List.any_eq_false]
    intro x hx
    have := (h2 x).1 hx
    simp [outB]; omega
  rw [if_neg (by simp [hs]), hany, if_neg (by simp)]
  have hfull : fullB (pilP s s.length).1 = true := (fullB_iff _).2 fun i hi => by have := (pilOk s s.length).pos i hi; omega
  have hfal : falB s (pilP s s.length).1 = true := (falB_iff _ _).2 fun p hp q hq h0 => by
    have h3 := pil_up s s.length p
    have h4 := strict_of h3 (q - 1) q (by omega) hq
    obtain ⟨a, _, ha, e1⟩ := pil_mem.1 (elt_mem (l := row (pilP s s.length).1 p) (j := q - 1) (by omega))
    obtain ⟨b, _, hb, e2⟩ := pil_mem.1 (elt_mem (l := row (pilP s s.length).1 p) (j := q) hq)
    unfold num
    rw [e1, e2] at h4 ⊢
    refine ⟨h4, ?_⟩
    rw [Int.toNat_natCast, Int.toNat_natCast]
    exact pile_fall (by omega) (by omega)
  rw [hfull, hfal, decide_eq_true h1, decide_eq_true (nodup_count h1 h2), pil_len]
  rfl
theorem fallsE_ok {s : List Int} (hs : seqC s = 0) : fallsE s = ((pilP s s.length).1, 0) := by unfold fallsE; rw [if_neg (by simp [hs])]
/-- A rising run has at most one index on each pile. -/
theorem run_short {s A : List Int} (h : RunS s A s.length) : A.length ≤ (row (bldR s s.length).1 0).length := by
  have key : ∀ i, i < A.length → i ≤ atP s (elt A i).toNat := by
    intro i
    induction i with
    | zero => intro _; omega
    | succ i ih =>
      intro hi
      have h1 := ih (by omega)
      have h2 := h.up (i + 1) (by omega) hi
      have h3 := h.ris (i + 1) (by omega) hi
      rw [Nat.add_sub_cancel] at h2 h3
      have b1 := h.bd i (by omega)
      have := pile_rise (s := s) (j := (elt A i).toNat) (i := (elt A (i + 1)).toNat) (by omega) h3
      omega
  rcases Nat.eq_zero_or_pos A.length with h0 | h0
  · omega
  · have h1 := key (A.length - 1) (by omega)
    have b1 := h.bd (A.length - 1) (by omega)
    have := ((row0 s s.length).below (elt A (A.length - 1)).toNat (by omega)).2
    omega
theorem bef_elt (s : List Int) : ∀ (k j : Nat), j < k → elt (pilP s k).2 j = if atP s j = 0 then -1 else lastP (pilP s j).1 (atP s j - 1)
  | 0, j, h => by omega
  | k + 1, j, h => by
    have hb : (pilP s (k + 1)).2 = (pilP s k).2 ++ [if atP s k = 0 then -1 else lastP (pilP s k).1 (atP s k - 1)] := rfl
    rw [hb, elt_snocP, (pilOk s k).bef]
    by_cases e : j = k
    · rw [if_pos e, e]
    · rw [if_neg e]; exact bef_elt s k j (by omega)
/-- What lies before an index: an earlier one on the pile before, whose number is no greater. -/
theorem bef_ok {s : List Int} {n j m : Nat} (hj : j < n) (h : atP s j = m + 1) : ∃ q : Nat, elt (pilP s n).2 j = (q : Int) ∧ q < j ∧ atP s q = m ∧ elt s q ≤ elt s j := by
  have hk := pilOk s j
  have hle := atP_le hk
  have hpos := hk.pos m (by omega)
  have hmem := elt_mem (l := row (pilP s j).1 m) (j := (row (pilP s j).1 m).length - 1) (by omega)
  obtain ⟨q, hq, hqa, e⟩ := pil_mem.1 hmem
  refine ⟨q, ?_, hq, hqa, ?_⟩
  · rw [bef_elt s n j hj, if_neg (by omega), h, Nat.add_sub_cancel]; exact e
  · have h1 := (row0 s j).last q hq fun i hi1 hi2 hi3 => by
      have h2 : (i : Int) ∈ row (pilP s j).1 m := pil_mem.2 ⟨i, hi2, by omega, rfl⟩
      obtain ⟨t, ht, e2⟩ := mem_row_elt h2
      have h3 := srt_up (l := row (pilP s j).1 m) ((pil_up s j m).imp (fun h => by omega)) t ((row (pilP s j).1 m).length - 1) (by omega) (by omega)
      rw [e2, e] at h3
      omega
    rw [← h1, hqa]
    refine ins_lo ?_
    change m < atP s j
    omega
theorem RunS.cons {s l : List Int} {a b : Int} {n : Nat} (h : RunS s (a :: l) n) (h0 : 0 ≤ b) (h1 : b < a) (h2 : elt s b.toNat ≤ elt s a.toNat) : RunS s (b :: a :: l) n := by
  have hb := h.bd 0 (by simp)
  rw [elt_cons_zero] at hb
  refine ⟨fun i hi => ?_, fun i h3 hi => ?_, fun i h3 hi => ?_⟩
  · cases i with
    | zero => rw [elt_cons_zero]; omega
    | succ i => rw [elt_cons_succ]; exact h.bd i (by simpa using hi)
  · obtain ⟨i, rfl⟩ : ∃ k, i = k + 1 := ⟨i - 1, by omega⟩
    rw [Nat.add_sub_cancel, elt_cons_succ]
    cases i with
    | zero => rw [elt_cons_zero, elt_cons_zero]; exact h1
    | succ i => rw [elt_cons_succ]; have := h.up (i + 1) (by omega) (by simpa using hi); rwa [Nat.add_sub_cancel] at this
  · obtain ⟨i, rfl⟩ : ∃ k, i = k + 1 := ⟨i - 1, by omega⟩
    rw [Nat.add_sub_cancel, elt_cons_succ]
    cases i with
    | zero => rw [elt_cons_zero, elt_cons_zero]; exact h2
    | succ i => rw [elt_cons_succ]; have := h.ris (i + 1) (by omega) (by simpa using hi); rwa [Nat.add_sub_cancel] at this
theorem chain_ok {s : List Int} {n : Nat} : ∀ (m : Nat) (a : Nat) (acc : List Int), a < n → atP s a = m → RunS s ((a : Int) :: acc) n →
    RunS s (chainR (pilP s n).2 (m + 1) (a : Int) acc) n ∧ (chainR (pilP s n).2 (m + 1) (a : Int) acc).length = m + 1 + acc.length
  | 0, a, acc, _, _, h => by simp only [chainR]; exact ⟨h, by simp; omega⟩
  | m + 1, a, acc, ha, hat, h => by
    obtain ⟨q, e, h1, h2, h3⟩ := bef_ok ha hat
    have ih := chain_ok m q ((a : Int) :: acc) (by omega) h2 (h.cons (by omega) (by omega) (by simpa using h3))
    unfold chainR
    rw [Int.toNat_natCast, e, show max (0 : Int) (q : Int) = (q : Int) by omega]
    refine ⟨ih.1, ?_⟩
    rw [ih.2]; simp; omega
/-- What Rising returns is a run, as long as the first row. -/
theorem rising_ok {s : List Int} (hs : seqC s = 0) : ∃ A, risingE s = (A, 0) ∧ RunS s A s.length ∧ A.length = (row (bldR s s.length).1 0).length := by
  refine ⟨_, by unfold risingE; rw [if_neg (by simp [hs])], ?_⟩
  have hl := pil_len s
  cases hL : (pilP s s.length).1.length with
  | zero =>
    rw [hL] at hl
    simp only [chainR]
    exact ⟨⟨fun i h => by simp at h, fun i _ h => by simp at h, fun i _ h => by simp at h⟩, by simpa using hl⟩
  | succ m =>
    have hpos := (pilOk s s.length).pos m (by omega)
    obtain ⟨a, ha, hat, e⟩ := pil_mem.1 (elt_mem (l := row (pilP s s.length).1 m) (j := 0) hpos)
    unfold num
    rw [Nat.add_sub_cancel, e]
    have h1 : RunS s [(a : Int)] s.length := ⟨fun i hi => by
      obtain rfl : i = 0 := by simpa using hi
      rw [elt_cons_zero]; omega, fun i h0 hi => by simp at hi; omega, fun i h0 hi => by simp at hi; omega⟩
    obtain ⟨h2, h3⟩ := chain_ok m a [] ha hat h1
    exact ⟨h2, by rw [h3, ← hl, hL]; rfl⟩
theorem fal_far {s : List Int} {R : List (List Int)} (h : Fal s R) {p : Nat} (hp : p < R.length) : ∀ d q, q + d + 1 < (row R p).length → num R p q < num R p (q + d + 1) ∧ elt s (num R p (q + d + 1)).toNat < elt s (num R p q).toNat
  | 0, q, hq => by
    have := h p hp (q + 1) hq (by omega)
    rwa [Nat.add_sub_cancel] at this
  | d + 1, q, hq => by
    obtain ⟨h1, h2⟩ := fal_far h hp d q (by omega)
    have := h p hp (q + (d + 1) + 1) hq (by omega)
    rw [Nat.add_sub_cancel, show q + (d + 1) = q + d + 1 by omega] at this
    rw [show q + (d + 1) + 1 = q + d + 1 + 1 by omega]
    omega
/-- Falling runs that cover a sequence are not fewer than the tapers of a rising run. -/
theorem cover_most {s A : List Int} {R : List (List Int)} {y : Int} (hs : seqC s = 0) (hA : RunS s A s.length) (h : falE s R = (y, 0)) : (A.length : Int) ≤ y := by
  unfold falE at h
  rw [if_neg (by simp [hs])] at h
  split at h
  · simp at h
  · rename_i hany
    split at h
    · rename_i hc
      split at h
      · rename_i hf
        have hy : (R.length : Int) = y := by simpa using h
        simp only [Bool.and_eq_true, decide_eq_true_eq] at hc
        obtain ⟨⟨_, hn⟩, hlen⟩ := hc
        have hF := (falB_iff s R).1 hf
        have hb : ∀ x ∈ R.flatten, 0 ≤ x ∧ x ≤ (s.length : Int) - 1 := fun x hx => outB_bd (by have := List.any_eq_false.1 (by simpa using hany) x hx; simpa using this)
        have hall : ∀ x : Int, 0 ≤ x → x < (s.length : Int) → x ∈ R.flatten := fun x h0 h1 => by
          have hn2 : (R.flatten.map (· + 1)).Nodup := List.Pairwise.map _ (fun a b hab e => hab (by omega)) hn
          have := nodup_all hn2 (fun z hz => by
            obtain ⟨t, ht, rfl⟩ := List.mem_map.1 hz
            have := hb t ht
            rw [List.length_map, hlen]; omega) (x + 1) (by omega) (by rw [List.length_map, hlen]; omega)
          obtain ⟨t, ht, e⟩ := List.mem_map.1 this
          rwa [show t = x by omega] at ht
        have hrow : ∀ i, i < A.length → ∃ p, p < R.length ∧ elt A i ∈ row R p := fun i hi => by
          have hbd := hA.bd i hi
          obtain ⟨m, hm, hx⟩ := List.mem_flatten.1 (hall _ hbd.1 hbd.2)
          obtain ⟨p, hp, e⟩ := List.getElem_of_mem hm
          exact ⟨p, hp, by rw [row_lt hp, e]; exact hx⟩
        have hmono : ∀ d i, i + d + 1 < A.length → elt A i < elt A (i + d + 1) ∧ elt s (elt A i).toNat ≤ elt s (elt A (i + d + 1)).toNat := by
          intro d
          induction d with
          | zero => intro i hi; have h1 := hA.up (i + 1) (by omega) hi; have h2 := hA.ris (i + 1) (by omega) hi; rw [Nat.add_sub_cancel] at h1 h2; exact ⟨h1, h2⟩
          | succ d ih =>
            intro i hi
            obtain ⟨h1, h2⟩ := ih i (by omega)
            have h3 := hA.up (i + (d + 1) + 1) (by omega) hi
            have h4 := hA.ris (i + (d + 1) + 1) (by omega) hi
            rw [Nat.add_sub_cancel, show i + (d + 1) = i + d + 1 by omega] at h3 h4
            rw [show i + (d + 1) + 1 = i + d + 1 + 1 by omega]
            omega
        have hdis : ∀ i j p, i < j → j < A.length → elt A i ∈ row R p → elt A j ∈ row R p → False := fun i j p hij hj hi' hj' => by
          obtain ⟨m1, m2⟩ := hmono (j - i - 1) i (by omega)
          rw [show i + (j - i - 1) + 1 = j by omega] at m1 m2
          obtain ⟨a, ha, ea⟩ := mem_row_elt hi'
          obtain ⟨b, hb', eb⟩ := mem_row_elt hj'
          have hp := row_mem_lt hi'
          rcases Nat.lt_trichotomy a b with hab | hab | hab
          · obtain ⟨_, f2⟩ := fal_far hF hp (b - a - 1) a (by omega)
            rw [show a + (b - a - 1) + 1 = b by omega] at f2
            unfold num at f2
            rw [ea, eb] at f2
            omega
          · subst hab; omega
          · obtain ⟨f1, _⟩ := fal_far hF hp (a - b - 1) b (by omega)
            rw [show b + (a - b - 1) + 1 = a by omega] at f1
            unfold num at f1
            rw [ea, eb] at f1
            omega
        have hex : ∃ f : Nat → Nat, ∀ i, i < A.length → f i < R.length ∧ elt A i ∈ row R (f i) := by
          classical
          exact ⟨fun i => if h : i < A.length then Classical.choose (hrow i h) else 0, fun i hi => by simp only [dif_pos hi]; exact Classical.choose_spec (hrow i hi)⟩
        obtain ⟨f, hf2⟩ := hex
        have := nodup_sub (l := (List.range A.length).map fun i => (f i : Int)) (m := (List.range R.length).map fun (i : Nat) => (i : Int)) (by
          refine List.pairwise_map.2 ((List.pairwise_lt_range (n := A.length)).imp_of_mem fun {a b} ha hb' hab e => ?_)
          have ha := List.mem_range.1 ha
          have hb' := List.mem_range.1 hb'
          have e2 : f a = f b := by omega
          exact hdis a b (f a) hab hb' (hf2 a ha).2 (by rw [e2]; exact (hf2 b hb').2)) (fun x hx => by
          obtain ⟨i, hi, rfl⟩ := List.mem_map.1 hx
          exact List.mem_map.2 ⟨f i, List.mem_range.2 (hf2 i (List.mem_range.1 hi)).1, rfl⟩)
        simp only [List.length_map, List.length_range] at this
        omega
      · simp at h
    · simp at h
end Go.Proofs.Ytnnfahdhmodejaa
