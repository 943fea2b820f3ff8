/- Two works side by side, and one behind the other; plain, no condition. -/
import Derived.Test.YteknehlkdgamjaaGreatMU1
import Derived.Test.YteknehlkdgamjaaGreatMGS
namespace Go.Proofs.YteknehlkdgamjaaGreat
open Go.RowKit Go.Shelf

/-- K is work J1 with J2 beside it (B false) or behind it (B true). -/
structure Cat (J1 J2 K : List Job) (B : Bool) : Prop where
  len : K.length = J1.length + J2.length
  d1 : ∀ c, c < J1.length → loD K c = loD J1 c ∧ hiD K c = hiD J1 c
  d2 : ∀ c, c < J2.length → loD K (J1.length + c) = loD J2 c ∧ hiD K (J1.length + c) = hiD J2 c
  e1 : ∀ b c, c < J1.length → (edg K b c = true ↔ edg J1 b c = true)
  e2 : ∀ b c, c < J2.length → (edg K b (J1.length + c) = true ↔ (∃ b', b = J1.length + b' ∧ edg J2 b' c = true) ∨ (B = true ∧ (job J2 c).ws = [] ∧ b < J1.length ∧ nxt J1 b = []))
section
variable {J1 J2 K : List Job} {B : Bool}
theorem Cat.rch (h : Cat J1 J2 K B) (h1 : FineJ J1) {b c : Nat} (hr : Rch K b c) :
    (c < J1.length → b < J1.length ∧ Rch J1 b c) ∧ (J1.length ≤ c → (J1.length ≤ b ∧ Rch J2 (b - J1.length) (c - J1.length)) ∨ (B = true ∧ b < J1.length)) := by
  have key : ∀ {b c : Nat}, edg K b c = true → (c < J1.length → b < J1.length ∧ edg J1 b c = true) ∧ (J1.length ≤ c → (J1.length ≤ b ∧ edg J2 (b - J1.length) (c - J1.length) = true) ∨ (B = true ∧ b < J1.length)) := fun {b c} he => by
    refine ⟨fun hc => ?_, fun hc => ?_⟩
    · have := (h.e1 b c hc).1 he
      exact ⟨h1.edge_lt this, this⟩
    · have hl := edg_lt he
      rw [h.len] at hl
      have he' : edg K b (J1.length + (c - J1.length)) = true := by rw [show J1.length + (c - J1.length) = c by omega]; exact he
      rcases (h.e2 b (c - J1.length) (by omega)).1 he' with ⟨b', rfl, h3⟩ | ⟨h3, _, h4, _⟩
      · exact .inl ⟨by omega, by rw [show J1.length + b' - J1.length = b' by omega]; exact h3⟩
      · exact .inr ⟨h3, h4⟩
  induction hr with
  | one he =>
    obtain ⟨k1, k2⟩ := key he
    refine ⟨fun hc => ⟨(k1 hc).1, .one (k1 hc).2⟩, fun hc => ?_⟩
    rcases k2 hc with ⟨h3, h4⟩ | h3
    · exact .inl ⟨h3, .one h4⟩
    · exact .inr h3
  | cons he _ ih =>
    rename_i b i c _
    obtain ⟨k1, k2⟩ := key he
    refine ⟨fun hc => ?_, fun hc => ?_⟩
    · obtain ⟨h3, h4⟩ := ih.1 hc
      exact ⟨(k1 h3).1, .cons (k1 h3).2 h4⟩
    · rcases ih.2 hc with ⟨h3, h4⟩ | ⟨h3, h4⟩
      · rcases k2 h3 with ⟨h5, h6⟩ | h5
        · exact .inl ⟨h5, .cons h6 h4⟩
        · exact .inr h5
      · exact .inr ⟨h3, (k1 h4).1⟩
theorem Cat.cir (h : Cat J1 J2 K B) (h1 : FineJ J1) (c1 : cir J1 = false) (c2 : cir J2 = false) : cir K = false := cir_of_none fun i hr => by
  obtain ⟨k1, k2⟩ := h.rch h1 hr
  rcases Nat.lt_or_ge i J1.length with hi | hi
  · exact cir_none c1 (k1 hi).2
  · rcases k2 hi with ⟨_, h3⟩ | ⟨_, h3⟩
    · exact cir_none c2 h3
    · omega
theorem Cat.to1 (h : Cat J1 J2 K B) {b c : Nat} (hr : Rch J1 b c) : Rch K b c := by
  induction hr with
  | one he => exact .one ((h.e1 _ _ (edg_lt he)).2 he)
  | cons he _ ih => exact .cons ((h.e1 _ _ (edg_lt he)).2 he) ih
theorem Cat.to2 (h : Cat J1 J2 K B) {b c : Nat} (hr : Rch J2 b c) : Rch K (J1.length + b) (J1.length + c) := by
  induction hr with
  | one he => exact .one ((h.e2 _ _ (edg_lt he)).2 (.inl ⟨_, rfl, he⟩))
  | cons he _ ih => exact .cons ((h.e2 _ _ (edg_lt he)).2 (.inl ⟨_, rfl, he⟩)) ih
theorem last_ex {J : List Job} (hJ : FineJ J) (hc : Go.Proofs.YteknehlkdgamjaaGreat.cir J = false) {D : Nat → Int} (hD : ∀ i, i < J.length → 0 ≤ D i) : ∃ k, k < J.length ∧ nxt J k = [] ∧ takes J D ≤ beg J D k + D k := by
  obtain ⟨l, h1, h2⟩ := long_ex hJ hc hD
  have hn : l ≠ [] := by
    obtain ⟨⟨s, hs, _⟩, _⟩ := h1
    intro e; rw [e] at hs; cases hs
  obtain ⟨m, k, rfl⟩ : ∃ m k, l = m ++ [k] := ⟨l.dropLast, l.getLast hn, (List.dropLast_concat_getLast hn).symm⟩
  have hk := h1.2.1.lt hJ k (by simp)
  have h3 := sum_down hJ hc (D := D) hk h1.2.1 (c := 0) (beg_nn _ _ _) (by omega)
  exact ⟨k, hk, h1.2.2 k (by simp), by omega⟩
variable {D D1 D2 : Nat → Int}
theorem Cat.beg1 (h : Cat J1 J2 K B) (h1 : FineJ J1) (h2 : FineJ J2) (hK : FineJ K) (c1 : Go.Proofs.YteknehlkdgamjaaGreat.cir J1 = false) (c2 : Go.Proofs.YteknehlkdgamjaaGreat.cir J2 = false)
    (e1 : ∀ c, c < J1.length → D c = D1 c) (e2 : ∀ c, c < J2.length → D (J1.length + c) = D2 c) :
    (∀ c, c < J1.length → beg K D c = beg J1 D1 c) ∧ ∀ c, c < J2.length → beg K D (J1.length + c) ≤ (if B = true then takes J1 D1 else 0) + beg J2 D2 c := by
  have cK := h.cir h1 c1 c2
  have hS : 0 ≤ (if B = true then takes J1 D1 else 0) := by split; exact takes_nn _ _; exact Int.le_refl _
  have up : ∀ {c : Nat}, c < K.length → beg K D c ≤ (if c < J1.length then beg J1 D1 c else (if B = true then takes J1 D1 else 0) + beg J2 D2 (c - J1.length)) := fun {c} hc =>
    beg_least hK D (fun c => if c < J1.length then beg J1 D1 c else (if B = true then takes J1 D1 else 0) + beg J2 D2 (c - J1.length)) (fun i _ => by
      try dsimp only
      split
      · exact beg_nn _ _ _
      · have := beg_nn J2 D2 (i - J1.length); omega) (fun k i he => by
      try dsimp only
      by_cases hi : i < J1.length
      · have h3 := (h.e1 k i hi).1 he
        have hk := h1.edge_lt h3
        rw [if_pos hi, if_pos hk, e1 k hk]
        exact beg_ge h1 c1 D1 h3
      · have hl := edg_lt he
        rw [h.len] at hl
        rw [if_neg hi]
        have he' : edg K k (J1.length + (i - J1.length)) = true := by rw [show J1.length + (i - J1.length) = i by omega]; exact he
        rcases (h.e2 k (i - J1.length) (by omega)).1 he' with ⟨b', rfl, h3⟩ | ⟨h3, _, h4, _⟩
        · have hb := h2.edge_lt h3
          rw [if_neg (by omega), show J1.length + b' - J1.length = b' by omega, e2 b' hb]
          have := beg_ge h2 c2 D2 h3
          omega
        · rw [if_pos h4, h3, if_pos rfl, e1 k h4]
          have := takes_ge (J := J1) D1 h4
          have := beg_nn J2 D2 (i - J1.length)
          omega) hc
  refine ⟨fun c hc => ?_, fun c hc => ?_⟩
  · have h3 := up (c := c) (by rw [h.len]; omega)
    rw [if_pos hc] at h3
    have h4 := beg_least h1 D1 (fun c => beg K D c) (fun _ _ => beg_nn _ _ _) (fun k i he => by
      have hk := h1.edge_lt he
      try dsimp only
      rw [← e1 k hk]
      exact beg_ge hK cK D ((h.e1 k i (edg_lt he)).2 he)) hc
    try dsimp only at h4
    omega
  · have h3 := up (c := J1.length + c) (by rw [h.len]; omega)
    rw [if_neg (by omega), show J1.length + c - J1.length = c by omega] at h3
    exact h3
theorem Cat.beg2 (h : Cat J1 J2 K B) (h1 : FineJ J1) (h2 : FineJ J2) (hK : FineJ K) (c1 : Go.Proofs.YteknehlkdgamjaaGreat.cir J1 = false) (c2 : Go.Proofs.YteknehlkdgamjaaGreat.cir J2 = false)
    (e1 : ∀ c, c < J1.length → D c = D1 c) (e2 : ∀ c, c < J2.length → D (J1.length + c) = D2 c) (n1 : ∀ c, c < J1.length → 0 ≤ D1 c) (n2 : ∀ c, c < J2.length → 0 ≤ D2 c) :
    ∀ c, c < J2.length → beg K D (J1.length + c) = (if B = true then takes J1 D1 else 0) + beg J2 D2 c := by
  have cK := h.cir h1 c1 c2
  obtain ⟨b1, b2⟩ := h.beg1 h1 h2 hK c1 c2 e1 e2
  have low : ∀ (m : Nat) {c : Nat}, c < J2.length → prd J2 c ≤ m → (if B = true then takes J1 D1 else 0) ≤ beg K D (J1.length + c) := by
    intro m
    have base : ∀ {c : Nat}, c < J2.length → (job J2 c).ws = [] → (if B = true then takes J1 D1 else 0) ≤ beg K D (J1.length + c) := fun {c} hc hw => by
      cases hB : B with
      | false => simp; exact beg_nn _ _ _
      | true =>
        obtain ⟨k, k1, k2, k3⟩ := last_ex h1 c1 n1
        have h3 := beg_ge hK cK D ((h.e2 k c hc).2 (.inr ⟨hB, hw, k1, k2⟩))
        rw [b1 k k1, e1 k k1] at h3
        simp; omega
    have next : ∀ {c b : Nat}, c < J2.length → edg J2 b c = true → (if B = true then takes J1 D1 else 0) ≤ beg K D (J1.length + b) → (if B = true then takes J1 D1 else 0) ≤ beg K D (J1.length + c) := fun {c b} hc he hb => by
      have h3 := beg_ge hK cK D ((h.e2 (J1.length + b) c hc).2 (.inl ⟨b, rfl, he⟩))
      have h4 := n2 b (h2.edge_lt he)
      rw [e2 b (h2.edge_lt he)] at h3
      omega
    have pick : ∀ {c : Nat}, c < J2.length → (job J2 c).ws ≠ [] → ∃ b, b < J2.length ∧ edg J2 b c = true := fun {c} hc hw => by
      obtain ⟨b, _, hb, he⟩ := h2.wait hc (j := 0) (by cases hh : (job J2 c).ws with | nil => exact absurd hh hw | cons _ _ => simp)
      exact ⟨b, hb, he⟩
    induction m with
    | zero =>
      intro c hc hm
      by_cases hw : (job J2 c).ws = []
      · exact base hc hw
      · obtain ⟨b, hb, he⟩ := pick hc hw
        have := prd_lt c2 he hb; omega
    | succ m ih =>
      intro c hc hm
      by_cases hw : (job J2 c).ws = []
      · exact base hc hw
      · obtain ⟨b, hb, he⟩ := pick hc hw
        exact next hc he (ih hb (by have := prd_lt c2 he hb; omega))
  intro c hc
  have h3 := b2 c hc
  have h4 := beg_least h2 D2 (fun c => beg K D (J1.length + c) - (if B = true then takes J1 D1 else 0)) (fun i hi => by have := low _ hi (Nat.le_refl _); omega) (fun k i he => by
    have hk := h2.edge_lt he
    have h5 := beg_ge hK cK D ((h.e2 (J1.length + k) i (edg_lt he)).2 (.inl ⟨k, rfl, he⟩))
    try dsimp only
    rw [e2 k hk] at h5
    omega) hc
  try dsimp only at h4
  omega
theorem Cat.takes' (h : Cat J1 J2 K B) (h1 : FineJ J1) (h2 : FineJ J2) (hK : FineJ K) (c1 : Go.Proofs.YteknehlkdgamjaaGreat.cir J1 = false) (c2 : Go.Proofs.YteknehlkdgamjaaGreat.cir J2 = false)
    (e1 : ∀ c, c < J1.length → D c = D1 c) (e2 : ∀ c, c < J2.length → D (J1.length + c) = D2 c) (n1 : ∀ c, c < J1.length → 0 ≤ D1 c) (n2 : ∀ c, c < J2.length → 0 ≤ D2 c) :
    takes K D = if B = true then takes J1 D1 + takes J2 D2 else max (takes J1 D1) (takes J2 D2) := by
  have b1 := (h.beg1 h1 h2 hK c1 c2 e1 e2).1
  have b2 := h.beg2 h1 h2 hK c1 c2 e1 e2 n1 n2
  obtain ⟨i1, hi1, t1⟩ := takes_wit D1 h1 n1
  obtain ⟨i2, hi2, t2⟩ := takes_wit D2 h2 n2
  have g1 := takes_ge (J := K) D (i := i1) (by rw [h.len]; omega)
  have g2 := takes_ge (J := K) D (i := J1.length + i2) (by rw [h.len]; omega)
  rw [b1 i1 hi1, e1 i1 hi1] at g1
  rw [b2 i2 hi2, e2 i2 hi2] at g2
  have p1 := takes_nn J1 D1
  have p2 := takes_nn J2 D2
  have up : takes K D ≤ if B = true then takes J1 D1 + takes J2 D2 else max (takes J1 D1) (takes J2 D2) := by
    refine takes_le (by split <;> omega) fun c hc => ?_
    rw [h.len] at hc
    rcases Nat.lt_or_ge c J1.length with hh | hh
    · have := takes_ge (J := J1) D1 hh
      rw [b1 c hh, e1 c hh]
      split <;> omega
    · have := takes_ge (J := J2) D2 (i := c - J1.length) (by omega)
      have h5 := b2 (c - J1.length) (by omega)
      have h6 := e2 (c - J1.length) (by omega)
      rw [show J1.length + (c - J1.length) = c by omega] at h5 h6
      rw [h5, h6]
      split <;> omega
  cases hB : B with
  | true => rw [hB] at up g2; simp only [if_true] at up g2 ⊢; omega
  | false => rw [hB] at up g2; simp only [Bool.false_eq_true, if_false] at up g2 ⊢; omega
theorem Cat.lenR (h : Cat J1 J2 K B) (hK : FineJ K) (h1 : errC J1 = 0) (h2 : errC J2 = 0) :
    errC K = 0 ∧ Go.Proofs.YteknehlkdgamjaaGreat.lenR K = (if B = true then takes J1 (loD J1) + takes J2 (loD J2) else max (takes J1 (loD J1)) (takes J2 (loD J2)), if B = true then takes J1 (hiD J1) + takes J2 (hiD J2) else max (takes J1 (hiD J1)) (takes J2 (hiD J2))) := by
  obtain ⟨f1, c1⟩ := fine_err h1
  obtain ⟨f2, c2⟩ := fine_err h2
  have he : errC K = 0 := by unfold errC; rw [if_pos (work_fineU hK), h.cir f1 c1 c2]; rfl
  refine ⟨he, ?_⟩
  unfold Go.Proofs.YteknehlkdgamjaaGreat.lenR
  rw [if_pos he]
  have l1 : ∀ c, c < J1.length → 0 ≤ loD J1 c := fun c hc => (f1.days c hc).1
  have l2 : ∀ c, c < J2.length → 0 ≤ loD J2 c := fun c hc => (f2.days c hc).1
  have u1 : ∀ c, c < J1.length → 0 ≤ hiD J1 c := fun c hc => by have := f1.days c hc; unfold hiD; omega
  have u2 : ∀ c, c < J2.length → 0 ≤ hiD J2 c := fun c hc => by have := f2.days c hc; unfold hiD; omega
  rw [h.takes' f1 f2 hK c1 c2 (D := loD K) (D1 := loD J1) (D2 := loD J2) (fun c hc => (h.d1 c hc).1) (fun c hc => (h.d2 c hc).1) l1 l2,
    h.takes' f1 f2 hK c1 c2 (D := hiD K) (D1 := hiD J1) (D2 := hiD J2) (fun c hc => (h.d1 c hc).2) (fun c hc => (h.d2 c hc).2) u1 u2]
theorem len_split (p : Nat → Bool) : ∀ l : List Nat, l.length = (l.filter p).length + (l.filter fun x => !p x).length
  | [] => rfl
  | a :: l => by
    have ih := len_split p l
    rw [List.filter_cons, List.filter_cons, List.length_cons, ih]
    cases p a <;> simp <;> omega
/-- As many are free side by side as in both. -/
theorem Cat.free (h : Cat J1 J2 K false) (hK : FineJ K) (h1 : errC J1 = 0) (h2 : errC J2 = 0) {l1 l2 l : List Nat} (f1 : FreQ J1 l1) (f2 : FreQ J2 l2) (f : FreQ K l) : l.length = l1.length + l2.length := by
  obtain ⟨g1, c1⟩ := fine_err h1
  obtain ⟨g2, c2⟩ := fine_err h2
  have cK := h.cir g1 c1 c2
  obtain ⟨nx1, bf1, F1, G1, m1, r1, rfl⟩ := f1
  obtain ⟨nx2, bf2, F2, G2, m2, r2, rfl⟩ := f2
  obtain ⟨nx, bf, F, G, m, r, rfl⟩ := f
  have fr := r.free
  have fr1 := r1.free
  have fr2 := r2.free
  generalize hl1 : frTo F1 G1 J1.length = l1 at *
  generalize hl2 : frTo F2 G2 J2.length = l2 at *
  generalize hl : frTo F G K.length = l at *
  have a1 : FreeN J1 (l.filter fun x => decide (x < J1.length)) := by
    refine ⟨fr.1.filter _, fun i hi => by simpa using (List.mem_filter.1 hi).2, fun i hi k hk => ?_⟩
    obtain ⟨i1, i2⟩ := List.mem_filter.1 hi
    obtain ⟨k1, k2⟩ := List.mem_filter.1 hk
    cases ha : aft J1 i k with
    | false => rfl
    | true =>
      have h3 := (aft_iff (fr.2.1 i i1)).2 (h.to1 ((aft_iff (by simpa using i2)).1 ha))
      rw [fr.2.2 i i1 k k1] at h3; cases h3
  have a2 : FreeN J2 ((l.filter fun x => !decide (x < J1.length)).map fun x => x - J1.length) := by
    have hge : ∀ x ∈ l.filter (fun x => !decide (x < J1.length)), x ∈ l ∧ J1.length ≤ x := fun x hx => by
      obtain ⟨x1, x2⟩ := List.mem_filter.1 hx
      exact ⟨x1, by simpa using x2⟩
    refine ⟨?_, fun i hi => ?_, fun i hi k hk => ?_⟩
    · unfold List.Nodup
      rw [List.pairwise_map]
      refine List.Pairwise.imp_of_mem (fun {a b} ha hb hne e => hne ?_) (fr.1.filter _)
      have := (hge a ha).2; have := (hge b hb).2; omega
    · obtain ⟨x, hx, rfl⟩ := List.mem_map.1 hi
      have h3 := hge x hx
      have h4 := fr.2.1 x h3.1
      rw [h.len] at h4; omega
    · obtain ⟨x, hx, rfl⟩ := List.mem_map.1 hi
      obtain ⟨y, hy, rfl⟩ := List.mem_map.1 hk
      have h3 := hge x hx
      have h4 := hge y hy
      have h5 := fr.2.1 x h3.1
      rw [h.len] at h5
      cases ha : aft J2 (x - J1.length) (y - J1.length) with
      | false => rfl
      | true =>
        have h6 := h.to2 ((aft_iff (by omega)).1 ha)
        rw [show J1.length + (x - J1.length) = x by omega, show J1.length + (y - J1.length) = y by omega] at h6
        have h7 := (aft_iff (fr.2.1 x h3.1)).2 h6
        rw [fr.2.2 x h3.1 y h4.1] at h7; cases h7
  have a3 : FreeN K (l1 ++ l2.map fun x => J1.length + x) := by
    have p2 : ∀ x ∈ l2.map (fun x => J1.length + x), ∃ y ∈ l2, x = J1.length + y := fun x hx => by
      obtain ⟨y, hy, rfl⟩ := List.mem_map.1 hx; exact ⟨y, hy, rfl⟩
    refine ⟨?_, fun i hi => ?_, fun i hi k hk => ?_⟩
    · rw [List.nodup_append]
      refine ⟨fr1.1, ?_, fun a ha b hb e => ?_⟩
      · unfold List.Nodup
        rw [List.pairwise_map]
        exact List.Pairwise.imp (fun {a b} hne e => hne (by omega)) fr2.1
      · obtain ⟨y, _, rfl⟩ := p2 b hb
        have := fr1.2.1 a ha; omega
    · rw [h.len]
      rcases List.mem_append.1 hi with hh | hh
      · have := fr1.2.1 i hh; omega
      · obtain ⟨y, hy, rfl⟩ := p2 i hh
        have := fr2.2.1 y hy; omega
    · have hiK : i < K.length := by
        rw [h.len]
        rcases List.mem_append.1 hi with hh | hh
        · have := fr1.2.1 i hh; omega
        · obtain ⟨y, hy, rfl⟩ := p2 i hh
          have := fr2.2.1 y hy; omega
      cases ha : aft K i k with
      | false => rfl
      | true =>
        obtain ⟨k1, k2⟩ := h.rch g1 ((aft_iff hiK).1 ha)
        rcases List.mem_append.1 hk with hh | hh
        · have hk1 := fr1.2.1 k hh
          obtain ⟨h5, h6⟩ := k1 hk1
          rcases List.mem_append.1 hi with hi1 | hi2
          · have h7 := (aft_iff h5).2 h6
            rw [fr1.2.2 i hi1 k hh] at h7; cases h7
          · obtain ⟨y, _, rfl⟩ := p2 i hi2; omega
        · obtain ⟨y, hy, rfl⟩ := p2 k hh
          rcases k2 (by omega) with ⟨h5, h6⟩ | ⟨h5, _⟩
          · rcases List.mem_append.1 hi with hi1 | hi2
            · have := fr1.2.1 i hi1; omega
            · obtain ⟨z, hz, rfl⟩ := p2 i hi2
              rw [show J1.length + z - J1.length = z by omega, show J1.length + y - J1.length = y by omega] at h6
              have h7 := (aft_iff (fr2.2.1 z hz)).2 h6
              rw [fr2.2.2 z hz y hy] at h7; cases h7
          · cases h5
  have t1 := free_most g1 c1 m1 r1 a1
  have t2 := free_most g2 c2 m2 r2 a2
  have t3 := free_most hK cK m r a3
  rw [hl1] at t1
  rw [hl2] at t2
  rw [hl] at t3
  rw [List.length_map] at t2
  rw [List.length_append, List.length_map] at t3
  have t4 := len_split (fun x => decide (x < J1.length)) l
  omega
end
end Go.Proofs.YteknehlkdgamjaaGreat
