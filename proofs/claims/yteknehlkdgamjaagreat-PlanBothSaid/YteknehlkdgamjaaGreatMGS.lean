/- Merged texts: plain facts: more waits, free sets, covers; no condition. -/
import Derived.Test.YteknehlkdgamjaaGreatMGC
import Derived.Test.YteknehlkdgamjaaGreatMGG
import Derived.Test.YteknehlkdgamjaaGreatMGH
import Derived.Test.YteknehlkdgamjaaGreatMGE
namespace Go.Proofs.YteknehlkdgamjaaGreat

/-- K has all waits of J. -/
structure SubE (J K : List Job) : Prop where
  len : J.length = K.length
  sub : ∀ b i, edg J b i = true → edg K b i = true
theorem SubE.refl (J : List Job) : SubE J J := ⟨rfl, fun _ _ h => h⟩
theorem SubE.rch {J K : List Job} (h : SubE J K) {b k : Nat} (hr : Rch J b k) : Rch K b k := by
  induction hr with
  | one he => exact .one (h.sub _ _ he)
  | cons he _ ih => exact .cons (h.sub _ _ he) ih
theorem SubE.aftS {J K : List Job} (h : SubE J K) {b k : Nat} (hb : b < J.length) (hr : aft J b k = true) : aft K b k = true :=
  (aft_iff (by rw [← h.len]; exact hb)).2 (h.rch ((aft_iff hb).1 hr))
theorem cir_of_none {J : List Job} (h : ∀ i, ¬ Rch J i i) : cir J = false := by
  unfold cir
  rw [List.any_eq_false]
  intro i hi
  have hin := List.mem_range.1 hi
  intro hc
  exact h i ((aft_iff hin).1 hc)
theorem SubE.cirM {J K : List Job} (h : SubE J K) (hc : cir K = false) : cir J = false := cir_of_none fun _ hr => cir_none hc (h.rch hr)
theorem SubE.begM {J K : List Job} (h : SubE J K) (hJ : FineJ J) (hK : FineJ K) (hc : cir K = false) {D E : Nat → Int} (hD : ∀ i, i < J.length → D i ≤ E i) {i : Nat} (hi : i < J.length) : beg J D i ≤ beg K E i :=
  beg_least hJ D (fun i => beg K E i) (fun _ _ => beg_nn _ _ _) (fun k i he => by
    have h1 := beg_ge hK hc E (h.sub _ _ he)
    have h2 := hD k (hJ.edge_lt he)
    show beg K E k + D k ≤ beg K E i
    omega) hi
theorem SubE.takM {J K : List Job} (h : SubE J K) (hJ : FineJ J) (hK : FineJ K) (hc : cir K = false) {D E : Nat → Int} (hD : ∀ i, i < J.length → D i ≤ E i) : takes J D ≤ takes K E :=
  takes_le (takes_nn _ _) fun i hi => by
    have h1 := h.begM hJ hK hc hD hi
    have h2 := takes_ge (J := K) E (i := i) (by rw [← h.len]; exact hi)
    have h3 := hD i hi
    omega
theorem SubE.turn {J K : List Job} (h : SubE J K) (hJ : FineJ J) (hK : FineJ K) : SubE (turnJ J) (turnJ K) :=
  ⟨by rw [turn_len, turn_len, h.len], fun b i he => (turn_edge hK).2 (h.sub _ _ ((turn_edge hJ).1 he))⟩
theorem SubE.tlM {J K : List Job} (h : SubE J K) (hJ : FineJ J) (hK : FineJ K) (hc : cir K = false) {D E : Nat → Int} (hD : ∀ i, i < J.length → D i ≤ E i) {i : Nat} (hi : i < J.length) : tl J D i ≤ tl K E i :=
  (h.turn hJ hK).begM (turn_fine hJ) (turn_fine hK) (turn_cir hK hc) (fun i hi => hD i (by rwa [turn_len] at hi)) (by rw [turn_len]; exact hi)
/-- Two works with the same waits. -/
structure SamE (J K : List Job) : Prop where
  fwd : SubE J K
  of' : SubE K J
theorem SamE.begM {J K : List Job} (h : SamE J K) (hJ : FineJ J) (hK : FineJ K) (hc : cir J = false) {D E : Nat → Int} (hD : ∀ i, i < J.length → D i = E i) {i : Nat} (hi : i < J.length) : beg J D i = beg K E i := by
  have h1 := h.fwd.begM hJ hK (h.of'.cirM hc) (D := D) (E := E) (fun i hi => by have := hD i hi; omega) hi
  have h2 := h.of'.begM hK hJ hc (D := E) (E := D) (fun i hi => by have := hD i (by rw [h.fwd.len]; exact hi); omega) (i := i) (by rw [← h.fwd.len]; exact hi)
  omega
theorem SamE.takM {J K : List Job} (h : SamE J K) (hJ : FineJ J) (hK : FineJ K) (hc : cir J = false) {D E : Nat → Int} (hD : ∀ i, i < J.length → D i = E i) : takes J D = takes K E := by
  have h1 := h.fwd.takM hJ hK (h.of'.cirM hc) (D := D) (E := E) (fun i hi => by have := hD i hi; omega)
  have h2 := h.of'.takM hK hJ hc (D := E) (E := D) (fun i hi => by have := hD i (by rw [h.fwd.len]; exact hi); omega)
  omega
/-- The work in which job i takes just D i days. -/
def exA (J : List Job) (D : Nat → Int) (i : Nat) : Job := ⟨D i, D i, (job J i).ws⟩
def exJ (J : List Job) (D : Nat → Int) : List Job := (List.range J.length).map (exA J D)
theorem ex_len (J : List Job) (D : Nat → Int) : (exJ J D).length = J.length := by simp [exJ]
theorem ex_at {J : List Job} {D : Nat → Int} {i : Nat} (h : i < J.length) : job (exJ J D) i = exA J D i := by simp [job, exJ, h]
theorem ex_edg (J : List Job) (D : Nat → Int) (b k : Nat) : edg (exJ J D) b k = edg J b k := by
  unfold edg
  rw [ex_len]
  by_cases h : k < J.length
  · rw [ex_at h]; rfl
  · rw [decide_eq_false h]; rfl
theorem ex_same (J : List Job) (D : Nat → Int) : SamE J (exJ J D) :=
  ⟨⟨(ex_len J D).symm, fun b i h => by rw [ex_edg]; exact h⟩, ⟨ex_len J D, fun b i h => by rw [ex_edg] at h; exact h⟩⟩
theorem ex_fine {J : List Job} (hJ : FineJ J) {D : Nat → Int} (hD : ∀ i, i < J.length → 0 ≤ D i ∧ D i ≤ 1000) : FineJ (exJ J D) := by
  refine ⟨by rw [ex_len]; exact hJ.n1, by rw [ex_len]; exact hJ.n12, fun i hi => ?_, fun i hi => ?_, fun i hi => ?_⟩
  · rw [ex_len] at hi
    rw [ex_at hi]
    have := hD i hi
    unfold exA
    exact ⟨this.1, Int.le_refl _, this.2⟩
  · rw [ex_len] at hi
    rw [ex_at hi, ex_len]
    exact hJ.lst i hi
  · rw [ex_len] at hi
    rw [ex_at hi]
    exact hJ.self i hi
theorem ex_cir {J : List Job} (hc : cir J = false) (D : Nat → Int) : cir (exJ J D) = false := (ex_same J D).of'.cirM hc
/-- A truth, by numbers. -/
def truD (J : List Job) (by' : List Int) (i : Nat) : Int := if by'.length = 0 then (job J i).lo else (job J i).lo + (elt by' (i % by'.length)) % ((job J i).hi - (job J i).lo + 1)
theorem truD_bd {J : List Job} (hJ : FineJ J) (by' : List Int) {i : Nat} (hi : i < J.length) : (job J i).lo ≤ truD J by' i ∧ truD J by' i ≤ (job J i).hi := by
  have h1 := hJ.days i hi
  unfold truD
  split
  · omega
  · have h2 := Int.emod_nonneg (elt by' (i % by'.length)) (b := (job J i).hi - (job J i).lo + 1) (by omega)
    have h3 := Int.emod_lt_of_pos (elt by' (i % by'.length)) (b := (job J i).hi - (job J i).lo + 1) (by omega)
    omega
theorem truD_01 {J : List Job} (hJ : FineJ J) (by' : List Int) {i : Nat} (hi : i < J.length) : 0 ≤ truD J by' i ∧ truD J by' i ≤ 1000 := by
  have h1 := hJ.days i hi
  have h2 := truD_bd hJ by' hi
  omega
/-- Free jobs of a work with more waits are free. -/
theorem SubE.free {J K : List Job} (h : SubE J K) {l : List Nat} (hl : FreeN K l) : FreeN J l :=
  ⟨hl.1, fun i hi => by rw [h.len]; exact hl.2.1 i hi, fun i hi k hk => by
    cases ha : aft J i k with
    | false => rfl
    | true =>
      have := h.aftS (by rw [h.len]; exact hl.2.1 i hi) ha
      rw [hl.2.2 i hi k hk] at this; cases this⟩
end Go.Proofs.YteknehlkdgamjaaGreat

namespace Go.Proofs.YteknehlkdgamjaaGreat
open Go.RowKit Go.Shelf

theorem sumN_sub (f g : Nat → Int) : ∀ l : List Nat, sumN (fun i => f i - g i) l = sumN f l - sumN g l
  | [] => rfl
  | i :: l => by rw [sumN_cons, sumN_cons, sumN_cons, sumN_sub f g l]; omega
theorem sumN_perm {f : Nat → Int} {l m : List Nat} (h : l.Perm m) : sumN f l = sumN f m := by
  induction h with
  | nil => rfl
  | cons x _ ih => rw [sumN_cons, sumN_cons, ih]
  | swap x y l => rw [sumN_cons, sumN_cons, sumN_cons, sumN_cons]; omega
  | trans _ _ ih1 ih2 => rw [ih1, ih2]
theorem sumN_nn {f : Nat → Int} : ∀ {l : List Nat}, (∀ x ∈ l, 0 ≤ f x) → 0 ≤ sumN f l
  | [], _ => Int.le_refl _
  | x :: l, h => by
    rw [sumN_cons]
    have h1 := h x (by simp)
    have h2 := sumN_nn (f := f) (l := l) fun y hy => h y (List.mem_cons_of_mem _ hy)
    omega
theorem sumN_part {f : Nat → Int} : ∀ {k l : List Nat}, k.Nodup → (∀ x ∈ k, x ∈ l) → (∀ x ∈ l, 0 ≤ f x) → sumN f k ≤ sumN f l
  | [], l, _, _, h => sumN_nn h
  | x :: k, l, hn, hs, h => by
    have hx := hs x (by simp)
    rw [sumN_perm (List.perm_cons_erase hx), sumN_cons, sumN_cons]
    obtain ⟨h1, h2⟩ := List.nodup_cons.1 hn
    have := sumN_part (f := f) (k := k) (l := l.erase x) h2 (fun y hy => (List.mem_erase_of_ne (fun e => h1 (by rw [← e]; exact hy))).2 (hs y (List.mem_cons_of_mem _ hy))) (fun y hy => h y (List.mem_of_mem_erase hy))
    omega
theorem sumN_filter {f : Nat → Int} {p : Nat → Bool} : ∀ {l : List Nat}, (∀ x ∈ l, p x = false → f x ≤ 0) → sumN f l ≤ sumN f (l.filter p)
  | [], _ => Int.le_refl _
  | x :: l, h => by
    have ih := sumN_filter (f := f) (p := p) (l := l) fun y hy => h y (List.mem_cons_of_mem _ hy)
    rw [sumN_cons, List.filter_cons]
    split
    · rw [sumN_cons]; omega
    · rename_i hp
      have := h x (by simp) (by simpa using hp)
      omega
theorem chD_in {J : List Job} {l : List Nat} {i : Nat} (h : i ∈ l) : chD J l i = hiD J i := by
  unfold chD; rw [if_pos (by rw [List.contains_iff_mem]; exact ints_mem.2 h)]
theorem chD_out {J : List Job} {l : List Nat} {i : Nat} (h : i ∉ l) : chD J l i = loD J i := by
  unfold chD; rw [if_neg (by rw [List.contains_iff_mem]; exact fun hc => h (ints_mem.1 hc))]
theorem chD_bd {J : List Job} (hJ : FineJ J) (l : List Nat) {i : Nat} (hi : i < J.length) : 0 ≤ chD J l i ∧ chD J l i ≤ 1000 := by
  have := hJ.days i hi
  by_cases h : i ∈ l
  · rw [chD_in h]; unfold hiD; omega
  · rw [chD_out h]; unfold loD; omega
/-- A truth. -/
def Tru (J : List Job) (D : Nat → Int) : Prop := ∀ i, i < J.length → loD J i ≤ D i ∧ D i ≤ hiD J i
theorem Tru.nn {J : List Job} (hJ : FineJ J) {D : Nat → Int} (h : Tru J D) : ∀ i, i < J.length → 0 ≤ D i := fun i hi => by
  have h1 := hJ.days i hi; have h2 := h i hi; unfold loD at h2; omega
/-- No chain gains more, by the days of chain l, than l. -/
theorem gain {J : List Job} (hJ : FineJ J) (hc : cir J = false) {D : Nat → Int} (hD : Tru J D) {l m : List Nat} (hl : IsCh J l) (hm : IsCh J m) : sumN (chD J l) m - sumN D m ≤ sumN (chD J l) l - sumN D l := by
  rw [← sumN_sub, ← sumN_sub]
  refine Int.le_trans (sumN_filter (p := fun x => decide (x ∈ l)) fun x hx hp => ?_) (sumN_part ((hm.nodup hc).filter _) (fun x hx => ?_) fun x hx => ?_)
  · have hxl : x ∉ l := by simpa using hp
    show chD J l x - D x ≤ 0
    rw [chD_out hxl]
    have := hD x (hm.lt hJ x hx); omega
  · rw [List.mem_filter] at hx; simpa using hx.2
  · show 0 ≤ chD J l x - D x
    rw [chD_in hx]
    have := hD x (hl.lt hJ x hx); omega
theorem chD_nn {J : List Job} (hJ : FineJ J) (l : List Nat) : ∀ i, i < J.length → 0 ≤ chD J l i := fun _ hi => (chD_bd hJ l hi).1
/-- A longest chain stays so by its own days. -/
theorem long_own {J : List Job} (hJ : FineJ J) (hc : cir J = false) {D : Nat → Int} (hD : Tru J D) {l : List Nat} (hl : IsCh J l) (ht : sumN D l = takes J D) : sumN (chD J l) l = takes J (chD J l) := by
  obtain ⟨m, h1, h2⟩ := long_ex hJ hc (chD_nn hJ l)
  have h3 := gain hJ hc hD hl h1.2.1
  have h4 := ch_takes hJ hc (D := D) h1.2.1
  have h5 := ch_takes hJ hc (D := chD J l) hl
  omega
theorem onB_iff {J : List Job} (hJ : FineJ J) (hc : cir J = false) {i : Nat} (hi : i < J.length) (l : List Nat) : onB J i l = true ↔ ∃ c, Full J c ∧ i ∈ c ∧ sumN (chD J l) c = takes J (chD J l) := by
  unfold onB
  rw [decide_eq_true_iff]
  exact on_iff hJ hc (chD_nn hJ l) hi
theorem off_zero {J : List Job} {i : Nat} : offN J i (chs J) = 0 ↔ ∀ l ∈ chs J, onB J i l = true := by
  unfold offN
  rw [List.length_eq_zero_iff, List.filter_eq_nil_iff]
  constructor
  · intro h l hl
    have := h l hl
    simpa using this
  · intro h l hl
    rw [h l hl]; simp
theorem on_zero {J : List Job} {i : Nat} : onN J i (chs J) = 0 ↔ ∀ l ∈ chs J, onB J i l = false := by
  unfold onN
  rw [List.length_eq_zero_iff, List.filter_eq_nil_iff]
  constructor
  · intro h l hl
    have := h l hl
    simpa using this
  · intro h l hl
    rw [h l hl]; simp
theorem kind_two {J : List Job} (hJ : FineJ J) (hc : cir J = false) {i : Nat} : kindR J i = 2 ↔ ∀ l, Full J l → onB J i l = true := by
  unfold kindR
  constructor
  · intro h
    split at h
    · rename_i h0; exact fun l hl => off_zero.1 h0 l ((chs_mem hJ hc l).2 hl)
    · split at h <;> omega
  · intro h
    rw [if_pos (off_zero.2 fun l hl => h l ((chs_mem hJ hc l).1 hl))]
theorem kind_zero {J : List Job} (hJ : FineJ J) (hc : cir J = false) {i : Nat} : kindR J i = 0 ↔ ∀ l, Full J l → onB J i l = false := by
  obtain ⟨m, hm, _⟩ := long_ex hJ hc (D := loD J) (fun i hi => (hJ.days i hi).1)
  unfold kindR
  constructor
  · intro h
    split at h
    · omega
    · split at h
      · rename_i h0; exact fun l hl => on_zero.1 h0 l ((chs_mem hJ hc l).2 hl)
      · omega
  · intro h
    rw [if_neg (fun h0 => by have := off_zero.1 h0 m ((chs_mem hJ hc m).2 hm); rw [h m hm] at this; cases this), if_pos (on_zero.2 fun l hl => h l ((chs_mem hJ hc l).1 hl))]
theorem kind_012 (J : List Job) (i : Nat) : kindR J i = 0 ∨ kindR J i = 1 ∨ kindR J i = 2 := by
  unfold kindR; split
  · simp
  · split <;> simp
/-- A job that never is on a longest chain is on none in any truth. -/
theorem never_out {J : List Job} (hJ : FineJ J) (hc : cir J = false) {D : Nat → Int} (hD : Tru J D) {i : Nat} (hi : i < J.length) (h : kindR J i = 0) {l : List Nat} (hl : Full J l) (ht : sumN D l = takes J D) : i ∉ l := fun hm => by
  have h1 := (kind_zero hJ hc).1 h l hl
  have h2 := (onB_iff hJ hc hi l).2 ⟨l, hl, hm, long_own hJ hc hD hl.2.1 ht⟩
  rw [h1] at h2; cases h2
/-- A job that always is on a longest chain is on one in any truth. -/
theorem always_on {J : List Job} (hJ : FineJ J) (hc : cir J = false) {D : Nat → Int} (hD : Tru J D) {i : Nat} (hi : i < J.length) (h : kindR J i = 2) : ∃ c, Full J c ∧ i ∈ c ∧ sumN D c = takes J D := by
  obtain ⟨m, h1, h2⟩ := long_ex hJ hc (hD.nn hJ)
  have h3 := (kind_two hJ hc).1 h m h1
  obtain ⟨c, c1, c2, c3⟩ := (onB_iff hJ hc hi m).1 h3
  have h4 := gain hJ hc hD h1.2.1 c1.2.1
  have h5 := ch_takes hJ hc (D := D) c1.2.1
  have h6 := ch_takes hJ hc (D := chD J m) h1.2.1
  exact ⟨c, c1, c2, by omega⟩
/-- Some job is always, or two are perhaps, on a longest chain. -/
theorem kind_some {J : List Job} (hJ : FineJ J) (hc : cir J = false) : (∃ i, i < J.length ∧ kindR J i = 2) ∨ ∃ i j, i < J.length ∧ j < J.length ∧ i ≠ j ∧ kindR J i = 1 ∧ kindR J j = 1 := by
  have hlo : Tru J (loD J) := fun i hi => by have := hJ.days i hi; unfold loD hiD; omega
  have two : ∀ i j, i < J.length → j < J.length → i ≠ j → kindR J i ≠ 0 → kindR J j ≠ 0 → (∃ i, i < J.length ∧ kindR J i = 2) ∨ ∃ i j, i < J.length ∧ j < J.length ∧ i ≠ j ∧ kindR J i = 1 ∧ kindR J j = 1 := fun i j hi hj hne h1 h2 => by
    rcases kind_012 J i with k1 | k1 | k1
    · exact absurd k1 h1
    · rcases kind_012 J j with k2 | k2 | k2
      · exact absurd k2 h2
      · exact .inr ⟨i, j, hi, hj, hne, k1, k2⟩
      · exact .inl ⟨j, hj, k2⟩
    · exact .inl ⟨i, hi, k1⟩
  have nz : ∀ {D : Nat → Int} {l : List Nat} {i : Nat}, Tru J D → Full J l → sumN D l = takes J D → i ∈ l → kindR J i ≠ 0 := fun {D l i} hD hl ht hm h0 => never_out hJ hc hD (hl.2.1.lt hJ i hm) h0 hl ht hm
  obtain ⟨l, hl, ht⟩ := long_ex hJ hc (hlo.nn hJ)
  obtain ⟨s, hs, _⟩ := hl.1
  match l, hl, ht, hs with
  | [i], hl, ht, _ =>
    have hi := hl.2.1.lt hJ i (by simp)
    have h1 := nz hlo hl ht (i := i) (by simp)
    rcases kind_012 J i with k1 | k1 | k1
    · exact absurd k1 h1
    · have hne : ¬ ∀ m, Full J m → onB J i m = true := fun h => by have := (kind_two hJ hc).2 h; omega
      simp only [Classical.not_forall] at hne
      obtain ⟨m, hm, ho⟩ := hne
      have hT : Tru J (chD J m) := fun i hi => by
        have := hJ.days i hi
        by_cases h : i ∈ m
        · rw [chD_in h]; unfold loD hiD; omega
        · rw [chD_out h]; unfold loD hiD; omega
      obtain ⟨c, c1, c2⟩ := long_ex hJ hc (chD_nn hJ m)
      have hni : i ∉ c := fun h => ho ((onB_iff hJ hc hi m).2 ⟨c, c1, h, c2⟩)
      obtain ⟨j, hj1, _⟩ := c1.1
      have hjc : j ∈ c := List.mem_of_mem_head? hj1
      exact two i j hi (c1.2.1.lt hJ j hjc) (fun e => hni (e ▸ hjc)) h1 (nz hT c1 c2 hjc)
    · exact .inl ⟨i, hi, k1⟩
  | i :: k :: l, hl, ht, _ =>
    have hnd := hl.2.1.nodup hc
    refine two i k (hl.2.1.lt hJ i (by simp)) (hl.2.1.lt hJ k (by simp)) (fun e => ?_) (nz hlo hl ht (by simp)) (nz hlo hl ht (by simp))
    subst e
    simp at hnd
end Go.Proofs.YteknehlkdgamjaaGreat

namespace Go.Proofs.YteknehlkdgamjaaGreat

theorem FrI.one {J : List Job} {nx bf F G : List Int} {W : List Nat} {i k : Nat} (hm : Mat J nx bf (-1)) (h : FrI J nx bf F G W i k) (hi : i < J.length) (hk : k < J.length) :
    ∃ F' G' W', FrI J nx bf F' G' W' i (k + 1) ∧ 2 * zer J.length F' + W'.length ≤ 2 * zer J.length F + W.length := by
  cases ha : aft J i k with
  | false => exact ⟨F, G, W, h.skip (.inl ha), Nat.le_refl _⟩
  | true =>
    rcases h.mG.2 k hk with hg | hg
    · rcases hm.right k hk with hb | ⟨b, hb, he, _⟩
      · exact ⟨F, _, W, h.mark hi hk ha (.inl hb), Nat.le_refl _⟩
      · rcases h.mF.2 b hb with hf | hf
        · refine ⟨_, _, _, h.push hi hk ha hb he hf, ?_⟩
          have := zer_set h.mF hb hf
          rw [List.length_append, List.length_singleton]
          omega
        · exact ⟨F, _, W, h.mark hi hk ha (.inr ⟨b, hb, he, hf⟩), Nat.le_refl _⟩
    · exact ⟨F, G, W, h.skip (.inr hg), Nat.le_refl _⟩
theorem FrI.row {J : List Job} {nx bf F G : List Int} {W : List Nat} {i : Nat} (hm : Mat J nx bf (-1)) (h : FrI J nx bf F G W i 0) (hi : i < J.length) : ∀ k, k ≤ J.length →
    ∃ F' G' W', FrI J nx bf F' G' W' i k ∧ 2 * zer J.length F' + W'.length ≤ 2 * zer J.length F + W.length
  | 0, _ => ⟨F, G, W, h, Nat.le_refl _⟩
  | k + 1, hk => by
    obtain ⟨F1, G1, W1, h1, h2⟩ := FrI.row hm h hi k (by omega)
    obtain ⟨F2, G2, W2, h3, h4⟩ := h1.one hm hi (by omega)
    exact ⟨F2, G2, W2, h3, by omega⟩
theorem FrI.all {J : List Job} {nx bf : List Int} (hm : Mat J nx bf (-1)) : ∀ (m : Nat) {F G : List Int} {W : List Nat}, FrI J nx bf F G W J.length 0 → 2 * zer J.length F + W.length ≤ m → ∃ F' G', FrI J nx bf F' G' [] J.length 0
  | m, F, G, [], h, _ => ⟨F, G, h⟩
  | 0, F, G, i :: W, h, hm => by simp at hm
  | m + 1, F, G, i :: W, h, hl => by
    have hi := (h.wlt i (by simp)).1
    obtain ⟨F1, G1, W1, h1, h2⟩ := h.pop.row hm hi J.length (Nat.le_refl _)
    exact FrI.all hm m (h1.done hi) (by simp at hl; omega)
theorem unI_ex (n : Nat) (nx : List Int) : ∀ k, k ≤ n → ∃ F, UnI n nx F k
  | 0, _ => ⟨_, UnI.zero n nx⟩
  | k + 1, hk => by
    obtain ⟨F, h⟩ := unI_ex n nx k (by omega)
    by_cases h0 : elt nx k < 0
    · exact ⟨_, h.yes (by omega) h0⟩
    · exact ⟨_, h.no h0⟩
theorem free_ex {J : List Job} {nx bf : List Int} (hm : MatI J nx bf J.length) : ∃ F G, FrI J nx bf F G [] J.length 0 := by
  obtain ⟨F, h⟩ := unI_ex J.length nx J.length (Nat.le_refl _)
  exact FrI.all hm.mat _ (h.fri hm) (Nat.le_refl _)
/-- No free jobs are more than those that are told. -/
theorem free_most {J : List Job} (hJ : FineJ J) (hc : cir J = false) {nx bf F G : List Int} (hm : MatI J nx bf J.length) (h : FrI J nx bf F G [] J.length 0) {l : List Nat} (hl : FreeN J l) : l.length ≤ (frTo F G J.length).length := by
  rw [h.both hJ hc hm]
  have h2 := cover_ok hJ hc hm.mat
  exact weak h2.lt h2.all h2.aft hl
/-- As many free jobs as lists, by whatever matches. -/
theorem free_cover {J : List Job} (hJ : FineJ J) (hc : cir J = false) {nx bf F G nx' bf' : List Int} (hm : MatI J nx bf J.length) (h : FrI J nx bf F G [] J.length 0) (hm' : MatI J nx' bf' J.length) : (frTo F G J.length).length = (covTo J nx' bf' J.length).length := by
  obtain ⟨F', G', h'⟩ := free_ex hm'
  have h1 := free_most hJ hc hm' h' h.free
  have h2 := free_most hJ hc hm h h'.free
  rw [← h'.both hJ hc hm']
  omega
theorem frTo_sub (F G : List Int) (n : Nat) : (frTo F G n).Sublist (List.range n) := List.filter_sublist
end Go.Proofs.YteknehlkdgamjaaGreat

namespace Go.Proofs.YteknehlkdgamjaaGreat
open Go.RowKit Go.Shelf

theorem afc_get {J : List Job} : ∀ {l : List Nat}, AfC J l → ∀ i, i + 1 < l.length → aft J (l[i]?.getD 0) (l[i + 1]?.getD 0) = true
  | [], _, i, h => by simp at h
  | [_], _, i, h => by simp at h
  | a :: b :: l, hl, 0, _ => hl.1
  | a :: b :: l, hl, i + 1, h => by
    have := afc_get (l := b :: l) hl.2 i (by simpa using h)
    simpa using this
theorem afc_of {J : List Job} : ∀ {l : List Nat}, (∀ i, i + 1 < l.length → aft J (l[i]?.getD 0) (l[i + 1]?.getD 0) = true) → AfC J l
  | [], _ => trivial
  | [_], _ => trivial
  | a :: b :: l, h => ⟨h 0 (by simp), afc_of (l := b :: l) fun i hi => by
    have := h (i + 1) (by simpa using hi)
    simpa using this⟩
theorem elt_ints {l : List Nat} (i : Nat) (h : i < l.length) : (elt (ints l) i).toNat = l[i]?.getD 0 := by
  rw [ints_at h, Int.toNat_natCast, List.getElem?_eq_getElem h]; rfl
theorem ruTo_iff {J : List Job} {l : List Nat} : ruTo J (ints l) (ints l).length = true ↔ AfC J l := by
  unfold ruTo
  rw [List.all_eq_true]
  constructor
  · intro h
    refine afc_of fun i hi => ?_
    have := h (i + 1) (List.mem_range.2 (by rw [ints_len]; exact hi))
    rw [show ((i + 1 == 0) = false) from rfl, Bool.false_or, Nat.add_sub_cancel, elt_ints i (by omega), elt_ints (i + 1) hi] at this
    exact this
  · intro h i hi
    rw [List.mem_range, ints_len] at hi
    cases i with
    | zero => rfl
    | succ i =>
      rw [show ((i + 1 == 0) = false) from rfl, Bool.false_or, Nat.add_sub_cancel, elt_ints i (by omega), elt_ints (i + 1) hi]
      exact afc_get h i hi
theorem ints_nodup {l : List Nat} : (ints l).Nodup ↔ l.Nodup := by
  unfold ints
  constructor
  · intro h
    refine (List.pairwise_map.1 h).imp fun {a b} hab e => hab (by rw [e])
  · intro h
    exact List.pairwise_map.2 (h.imp fun {a b} hab e => hab (by exact Int.ofNat.inj e))
theorem ints_flatten (R : List (List Nat)) : (R.map ints).flatten = ints R.flatten := by
  unfold ints; rw [List.map_flatten]
theorem isJ_ints {n : Nat} {l : List Nat} : isJ n (ints l) = true ↔ ∀ x ∈ l, x < n := by
  rw [isJ_all]
  constructor
  · intro h x hx
    have := h (x : Int) (ints_mem.2 hx)
    omega
  · intro h y hy
    unfold ints at hy
    obtain ⟨x, hx, rfl⟩ := List.mem_map.1 hy
    have := h x hx
    omega
theorem full_len {l : List Nat} {n : Nat} (hn : l.Nodup) (hl : ∀ x ∈ l, x < n) : l.length = n ↔ ∀ x, x < n → x ∈ l := by
  have h1 := sub_len hn hl
  constructor
  · intro he x hx
    refine Classical.byContradiction fun hc => ?_
    have h2 := inj_len id l ((List.range n).erase x) hn (fun _ _ _ _ e => e) (fun y hy => (List.mem_erase_of_ne (fun e => hc (by rw [← e]; exact hy))).2 (List.mem_range.2 (hl y hy)))
    rw [List.length_erase_of_mem (List.mem_range.2 hx), List.length_range] at h2
    omega
  · intro h
    have h2 := inj_len id (List.range n) l List.nodup_range (fun _ _ _ _ e => e) (fun y hy => h y (List.mem_range.1 hy))
    rw [List.length_range] at h2
    omega
theorem row_map {R : List (List Nat)} {i : Nat} (h : i < R.length) : row (R.map ints) i = ints R[i] := by
  unfold row; simp [h]
theorem rusTo_iff {J : List Job} {R : List (List Nat)} : rusTo J (R.map ints) (R.map ints).length = true ↔ ∀ l ∈ R, AfC J l := by
  unfold rusTo
  rw [List.all_eq_true, List.length_map]
  constructor
  · intro h l hl
    obtain ⟨i, hi, rfl⟩ := List.getElem_of_mem hl
    have := h i (List.mem_range.2 hi)
    rw [row_map hi] at this
    exact ruTo_iff.1 this
  · intro h i hi
    have hi := List.mem_range.1 hi
    rw [row_map hi]
    exact ruTo_iff.2 (h _ (List.getElem_mem hi))
theorem rows_full {R : List (List Nat)} : (R.map ints).any noneL = false ↔ ∀ l ∈ R, l ≠ [] := by
  rw [List.any_eq_false]
  constructor
  · intro h l hl e
    subst e
    exact h [] (List.mem_map.2 ⟨[], hl, rfl⟩) rfl
  · intro h l hl
    obtain ⟨m, hm, rfl⟩ := List.mem_map.1 hl
    have := h m hm
    unfold noneL
    rw [ints_len]
    cases m with
    | nil => exact absurd rfl this
    | cons a m => simp
/-- What is checked of lists of jobs. -/
theorem cover_iff {J : List Job} (h0 : errC J = 0) {R : List (List Nat)} : coverC J (R.map ints) = 0 ↔ CovN J R := by
  have hlen : ∀ l ∈ R, l.length = (ints l).length := fun l _ => (ints_len l).symm
  unfold coverC
  rw [if_pos h0]
  constructor
  · intro h
    split at h
    · rename_i h1
      split at h
      · rename_i h2
        split at h
        · rename_i h3
          rw [ints_flatten] at h1
          have h1 := isJ_ints.1 h1
          unfold eqB at h2
          simp only [Bool.and_eq_true, decide_eq_true_eq, Bool.not_eq_true'] at h2
          rw [ints_flatten, ints_len, ints_nodup] at h2
          refine ⟨fun l hl x hx => h1 x (List.mem_flatten.2 ⟨l, hl, hx⟩), rows_full.1 h2.2, h2.1.2, fun x hx => ?_, rusTo_iff.1 h3⟩
          obtain ⟨l, hl, hxl⟩ := List.mem_flatten.1 ((full_len h2.1.2 h1).1 h2.1.1 x hx)
          exact ⟨l, hl, hxl⟩
        · omega
      · omega
    · omega
  · intro h
    have hl : ∀ x ∈ R.flatten, x < J.length := fun x hx => by
      obtain ⟨l, hl, hxl⟩ := List.mem_flatten.1 hx
      exact h.lt l hl x hxl
    rw [if_pos (by rw [ints_flatten]; exact isJ_ints.2 hl), if_pos ?_, if_pos (rusTo_iff.2 h.aft)]
    unfold eqB
    simp only [Bool.and_eq_true, decide_eq_true_eq, Bool.not_eq_true']
    rw [ints_flatten, ints_len, ints_nodup]
    refine ⟨⟨(full_len h.nodup hl).2 fun x hx => ?_, h.nodup⟩, rows_full.2 h.ne⟩
    obtain ⟨l, h1, h2⟩ := h.all x hx
    exact List.mem_flatten.2 ⟨l, h1, h2⟩
theorem cover_good {J : List Job} (h0 : errC J = 0) {nx bf : List Int} (hm : MatI J nx bf J.length) : coverC J (covI J nx bf J.length) = 0 ∧ coverV J (covI J nx bf J.length) = ((covTo J nx bf J.length).length : Int) := by
  have hf := fine_err h0
  have h1 : coverC J (covI J nx bf J.length) = 0 := (cover_iff h0).2 (cover_ok hf.1 hf.2 hm.mat)
  refine ⟨h1, ?_⟩
  unfold coverV
  rw [if_pos h1]
  unfold covI
  rw [List.length_map]
theorem cover_sml {J : List Job} (h0 : errC J = 0) {nx bf : List Int} (hm : MatI J nx bf J.length) : Sml (covI J nx bf J.length) := by
  have hf := fine_err h0
  have h12 := hf.1.n12
  have hc := cover_ok hf.1 hf.2 hm.mat
  refine ⟨by have := covI_len J nx bf J.length; omega, fun i => ?_⟩
  rcases Nat.lt_or_ge i (covTo J nx bf J.length).length with hi | hi
  · unfold covI
    rw [row_map hi, ints_len]
    have hm := List.getElem_mem hi
    have := sub_len (AfC.nodup hf.2 (hc.lt _ hm) (hc.aft _ hm)) (hc.lt _ hm)
    omega
  · rw [row_ge (by unfold covI; rw [List.length_map]; exact hi)]; simp
/-- Checked lists are lists of jobs. -/
theorem cover_nat {J : List Job} {R : List (List Int)} (h : coverC J R = 0) : ∃ R' : List (List Nat), R = R'.map ints := by
  refine ⟨R.map fun l => l.map Int.toNat, ?_⟩
  unfold coverC at h
  split at h
  · split at h
    · rename_i h1
      rw [isJ_all] at h1
      rw [List.map_map]
      conv => lhs; rw [← List.map_id R]
      refine List.map_congr_left fun l hl => ?_
      show l = (l.map Int.toNat).map fun n : Nat => (n : Int)
      rw [List.map_map]
      conv => lhs; rw [← List.map_id l]
      refine List.map_congr_left fun x hx => ?_
      have := h1 x (List.mem_flatten.2 ⟨l, hl, hx⟩)
      show x = ((x.toNat : Nat) : Int)
      omega
    · omega
  · rename_i h0; exact absurd h h0
theorem cir_nodup {J : List Job} {l : List Int} (h : cirTo J l l.length = true) : l.Nodup := by
  unfold cirTo at h
  rw [List.all_eq_true] at h
  have key : ∀ k, k ≤ l.length → (l.take k).Nodup := by
    intro k
    induction k with
    | zero => intro _; simp
    | succ k ih =>
      intro hk
      have h1 := h k (List.mem_range.2 (by omega))
      unfold cirAt at h1
      simp only [Bool.and_eq_true, Bool.not_eq_true'] at h1
      rw [List.take_succ_eq_append_getElem (by omega), List.nodup_append]
      refine ⟨ih (by omega), by simp, fun a ha b hb e => ?_⟩
      rw [List.mem_singleton] at hb
      subst e; subst hb
      rw [← elt_lt (by omega), ← List.contains_iff_mem, h1.1] at ha
      cases ha
  have := key l.length (Nat.le_refl _)
  rwa [List.take_length] at this
theorem isCir_len {J : List Job} {l : List Int} (h12 : J.length ≤ 12) (h : IsCir J l) : l.length ≤ 12 := by
  obtain ⟨h1, h2, h3⟩ := h
  have hn := cir_nodup h3
  have h0 := isJ_all.1 h1
  have h4 := inj_len Int.toNat l (List.range J.length) hn (fun x hx y hy e => by have := h0 x hx; have := h0 y hy; omega) (fun x hx => List.mem_range.2 (by have := h0 x hx; omega))
  rw [List.length_range] at h4
  omega
/-- No free jobs are more than lists that cover. -/
theorem cover_most {J : List Job} {R : List (List Int)} (h : coverC J R = 0) {l : List Nat} (hl : FreeN J l) : l.length ≤ R.length ∧ coverV J R = R.length := by
  obtain ⟨R', rfl⟩ := cover_nat h
  have h0 : errC J = 0 := by
    unfold coverC at h
    split at h
    · assumption
    · rename_i h1; exact absurd h h1
  have hc := (cover_iff h0).1 h
  rw [List.length_map]
  exact ⟨weak hc.lt hc.all hc.aft hl, by unfold coverV; rw [if_pos h, List.length_map]⟩
end Go.Proofs.YteknehlkdgamjaaGreat

namespace Go.Proofs.YteknehlkdgamjaaGreat

theorem isCh_iff {J : List Job} : ∀ {l : List Nat}, (∀ x ∈ l, x < J.length) → (IsCh J l ↔ ∀ j (h : j + 1 < l.length), edg J l[j] l[j + 1] = true)
  | [], _ => ⟨fun _ j h => by simp at h, fun _ => trivial⟩
  | [i], h => ⟨fun _ j h => by simp at h, fun _ => h i (by simp)⟩
  | i :: k :: l, h => by
    have ih := isCh_iff (J := J) (l := k :: l) (fun x hx => h x (List.mem_cons_of_mem _ hx))
    constructor
    · rintro ⟨h1, h2⟩ j hj
      cases j with
      | zero => exact h1
      | succ j => exact ih.1 h2 j (by simpa using hj)
    · intro g
      exact ⟨g 0 (by simp), ih.2 fun j hj => g (j + 1) (by simpa using hj)⟩
theorem chTo_iff {J : List Job} {l : List Int} {k : Nat} : chTo J l k = true ↔ ∀ i, i < k → stepOk J l i = true := by
  unfold chTo; rw [List.all_eq_true]
  exact ⟨fun h i hi => h i (List.mem_range.2 hi), fun h i hi => h i (List.mem_range.1 hi)⟩
theorem step_ints {J : List Job} {l : List Nat} (hl : ∀ x ∈ l, x < J.length) {j : Nat} (h : j + 1 < l.length) : stepOk J (ints l) (j + 1) = edg J l[j] l[j + 1] := by
  unfold stepOk edg
  rw [ints_at h, show j + 1 - 1 = j from rfl, ints_at (show j < l.length by omega)]
  have h1 : l[j + 1] < J.length := hl _ (List.getElem_mem h)
  simp [h1]
theorem chTo_ints {J : List Job} {l : List Nat} (hl : ∀ x ∈ l, x < J.length) : chTo J (ints l) (ints l).length = true ↔ IsCh J l := by
  rw [chTo_iff, isCh_iff hl, ints_len]
  constructor
  · intro h j hj
    rw [← step_ints hl hj]; exact h _ hj
  · intro h i hi
    cases i with
    | zero => rfl
    | succ j => rw [step_ints hl hi]; exact h j hi
theorem chainC_of {J : List Job} (h0 : errC J = 0) {l : List Nat} (hn : l ≠ []) (hl : ∀ x ∈ l, x < J.length) (h : IsCh J l) : chainC J (ints l) = 0 := by
  unfold chainC
  rw [if_pos h0, if_neg (by rw [ints_len]; exact fun e => hn (List.length_eq_zero_iff.1 e)), if_pos (isJ_ints.2 hl), if_pos ((chTo_ints hl).2 h)]
theorem full_ne {J : List Job} {l : List Nat} (h : Full J l) : l ≠ [] := by
  rintro rfl
  obtain ⟨⟨s, h1, _⟩, _⟩ := h
  simp at h1
theorem chainC_full {J : List Job} (hJ : FineJ J) (h0 : errC J = 0) {l : List Nat} (h : Full J l) : chainC J (ints l) = 0 := chainC_of h0 (full_ne h) (h.2.1.lt hJ) h.2.1
theorem ints_of {n : Nat} {l : List Int} (h : isJ n l = true) : ∃ m : List Nat, l = ints m ∧ ∀ x ∈ m, x < n := by
  rw [isJ_all] at h
  refine ⟨l.map Int.toNat, ?_, ?_⟩
  · unfold ints
    rw [List.map_map]
    conv => lhs; rw [← List.map_id l]
    refine List.map_congr_left fun x hx => ?_
    have := h x hx
    simp; omega
  · intro x hx
    obtain ⟨y, hy, rfl⟩ := List.mem_map.1 hx
    have := h y hy
    omega
theorem chainC_isCh {J : List Job} {l : List Int} (h : chainC J l = 0) : errC J = 0 ∧ ∃ m : List Nat, l = ints m ∧ m ≠ [] ∧ (∀ x ∈ m, x < J.length) ∧ IsCh J m := by
  unfold chainC at h
  by_cases h0 : errC J = 0
  · rw [if_pos h0] at h
    by_cases h1 : l.length = 0
    · rw [if_pos h1] at h; cases h
    · rw [if_neg h1] at h
      by_cases h2 : isJ J.length l = true
      · rw [if_pos h2] at h
        by_cases h3 : chTo J l l.length = true
        · obtain ⟨m, rfl, hm⟩ := ints_of h2
          exact ⟨h0, m, rfl, fun e => h1 (by rw [e]; rfl), hm, (chTo_ints hm).1 h3⟩
        · rw [if_neg h3] at h; cases h
      · rw [if_neg h2] at h; cases h
  · rw [if_neg h0] at h; exact absurd h h0
theorem sumTo_take {D : Nat → Int} {l : List Nat} : ∀ {k : Nat}, k ≤ l.length → sumTo D (ints l) k = sumN D (l.take k)
  | 0, _ => by simp [sumTo, sumN]
  | k + 1, h => by
    have hk : k < l.length := h
    show sumTo D (ints l) k + D (elt (ints l) k).toNat = _
    rw [sumTo_take (k := k) (by omega), List.take_succ_eq_append_getElem hk, sumN_append, sumN_cons, sumN_nil, ints_at hk]
    simp
theorem sumTo_ints {D : Nat → Int} {l : List Nat} : sumTo D (ints l) (ints l).length = sumN D l := by
  rw [ints_len, sumTo_take (Nat.le_refl _), List.take_length]
theorem ints_le {J : List Job} (hJ : FineJ J) (hc : cir J = false) {l : List Nat} (h : IsCh J l) : (ints l).length ≤ 1000 := by
  rw [ints_len]; have h1 := h.length hJ hc; have h2 := hJ.n12; omega
end Go.Proofs.YteknehlkdgamjaaGreat
