/- Works that are turned: as long, the same kinds, as many free; plain, no condition. -/
import Derived.Test.YteknehlkdgamjaaGreatMGS
namespace Go.Proofs.YteknehlkdgamjaaGreat
open Go.RowKit Go.Shelf

theorem IsCh.rev {J : List Job} (hJ : FineJ J) : ∀ {l : List Nat}, IsCh J l → IsCh (turnJ J) l.reverse
  | [], _ => trivial
  | [i], h => by
    show i < (turnJ J).length
    rw [turn_len]; exact h
  | i :: k :: l, h => by
    have ih := IsCh.rev hJ h.2
    rw [List.reverse_cons] at ih ⊢
    rw [List.reverse_cons]
    exact ih.snoc ((turn_edge hJ).2 h.1)
theorem Full.rev {J : List Job} (hJ : FineJ J) {l : List Nat} (h : Full J l) : Full (turnJ J) l.reverse := by
  obtain ⟨⟨s, h1, h2⟩, h3, h4⟩ := h
  obtain ⟨k, hk⟩ : ∃ k, l.getLast? = some k := by
    cases l with
    | nil => cases h1
    | cons a l => exact ⟨_, List.getLast?_eq_some_getLast (by simp)⟩
  have hkl := h3.lt hJ k (List.mem_of_getLast? hk)
  refine ⟨⟨k, by rw [List.head?_reverse]; exact hk, by rw [turn_len]; exact hkl, fun b => ?_⟩, h3.rev hJ, fun q hq => ?_⟩
  · have := nxt_nil (k := b) (h4 k hk)
    cases he : edg (turnJ J) b k with
    | false => rfl
    | true => rw [(turn_edge hJ).1 he] at this; cases this
  · rw [List.getLast?_reverse, h1] at hq
    cases hq
    rw [List.eq_nil_iff_forall_not_mem]
    intro b hb
    have := (turn_edge hJ).1 (nxt_mem.1 hb)
    rw [h2.2 b] at this; cases this
theorem turn_same {J : List Job} (hJ : FineJ J) : SamE J (turnJ (turnJ J)) :=
  ⟨⟨by rw [turn_len, turn_len], fun b i h => (turn_edge (turn_fine hJ)).2 ((turn_edge hJ).2 h)⟩,
   ⟨by rw [turn_len, turn_len], fun b i h => (turn_edge hJ).1 ((turn_edge (turn_fine hJ)).1 h)⟩⟩
theorem takes_turn_ge {J : List Job} (hJ : FineJ J) (hc : cir J = false) {D : Nat → Int} (hD : ∀ i, i < J.length → 0 ≤ D i) : takes J D ≤ takes (turnJ J) D := by
  obtain ⟨l, h1, h2⟩ := long_ex hJ hc hD
  have h3 := ch_takes (turn_fine hJ) (turn_cir hJ hc) (D := D) (h1.2.1.rev hJ)
  rw [sumN_perm (List.reverse_perm l)] at h3
  omega
theorem takes_turn {J : List Job} (hJ : FineJ J) (hc : cir J = false) {D : Nat → Int} (hD : ∀ i, i < J.length → 0 ≤ D i) : takes (turnJ J) D = takes J D := by
  have h1 := takes_turn_ge hJ hc hD
  have h2 := takes_turn_ge (turn_fine hJ) (turn_cir hJ hc) (D := D) (fun i hi => hD i (by rwa [turn_len] at hi))
  have h3 := (turn_same hJ).takM hJ (turn_fine (turn_fine hJ)) hc (D := D) (E := D) (fun _ _ => rfl)
  omega
theorem tl_turn {J : List Job} (hJ : FineJ J) (hc : cir J = false) (D : Nat → Int) {i : Nat} (hi : i < J.length) : tl (turnJ J) D i = beg J D i :=
  ((turn_same hJ).begM hJ (turn_fine (turn_fine hJ)) hc (D := D) (E := D) (fun _ _ => rfl) hi).symm
theorem turn_days {J : List Job} {i : Nat} (hi : i < J.length) : loD (turnJ J) i = loD J i ∧ hiD (turnJ J) i = hiD J i := by
  unfold loD hiD
  rw [turn_at hi]
  exact ⟨rfl, rfl⟩
theorem begM_same {J : List Job} (hJ : FineJ J) (hc : cir J = false) {D E : Nat → Int} (h : ∀ i, i < J.length → D i = E i) {i : Nat} (hi : i < J.length) : beg J D i = beg J E i :=
  (⟨SubE.refl J, SubE.refl J⟩ : SamE J J).begM hJ hJ hc h hi
theorem takM_same {J : List Job} (hJ : FineJ J) (hc : cir J = false) {D E : Nat → Int} (h : ∀ i, i < J.length → D i = E i) : takes J D = takes J E :=
  (⟨SubE.refl J, SubE.refl J⟩ : SamE J J).takM hJ hJ hc h
theorem turn_chD {J : List Job} {l m : List Nat} (hm : ∀ x, x ∈ l ↔ x ∈ m) {i : Nat} (hi : i < J.length) : chD (turnJ J) l i = chD J m i := by
  by_cases h : i ∈ l
  · rw [chD_in h, chD_in ((hm i).1 h), (turn_days hi).2]
  · rw [chD_out h, chD_out (fun hx => h ((hm i).2 hx)), (turn_days hi).1]
theorem onB_turn {J : List Job} (hJ : FineJ J) (hc : cir J = false) {l m : List Nat} (hm : ∀ x, x ∈ l ↔ x ∈ m) {i : Nat} (hi : i < J.length) : onB (turnJ J) i l = onB J i m := by
  have hK := turn_fine hJ
  have hcK := turn_cir hJ hc
  have hs : ∀ i, i < (turnJ J).length → chD (turnJ J) l i = chD J m i := fun i hi => turn_chD hm (by rwa [turn_len] at hi)
  have hiK : i < (turnJ J).length := by rw [turn_len]; exact hi
  unfold onB
  rw [begM_same hK hcK hs hiK, takM_same hK hcK hs, hs i hiK, takes_turn hJ hc (chD_nn hJ m)]
  have h1 : tl (turnJ J) (chD (turnJ J) l) i = tl (turnJ J) (chD J m) i := by
    unfold tl
    exact begM_same (turn_fine hK) (turn_cir hK hcK) (fun i hi => hs i (by rwa [turn_len] at hi)) (by rw [turn_len]; exact hiK)
  rw [h1, tl_turn hJ hc _ hi]
  have h2 : beg (turnJ J) (chD J m) i = tl J (chD J m) i := rfl
  rw [h2]
  rw [show tl J (chD J m) i + chD J m i + beg J (chD J m) i = beg J (chD J m) i + chD J m i + tl J (chD J m) i by omega]
theorem Full.back {J : List Job} (hJ : FineJ J) {l : List Nat} (h : Full (turnJ J) l) : Full J l.reverse := by
  obtain ⟨⟨s, h1, h2⟩, h3, h4⟩ := h.rev (turn_fine hJ)
  have hs := turn_same hJ
  refine ⟨⟨s, h1, by rw [hs.fwd.len]; exact h2.1, fun k => ?_⟩, ?_, fun k hk => ?_⟩
  · cases he : edg J k s with
    | false => rfl
    | true => have := hs.fwd.sub _ _ he; rw [h2.2 k] at this; cases this
  · have key : ∀ {l : List Nat}, IsCh (turnJ (turnJ J)) l → IsCh J l := by
      intro l
      induction l with
      | nil => intro _; trivial
      | cons a l ih =>
        intro h
        cases l with
        | nil => show a < J.length; rw [hs.fwd.len]; exact h
        | cons b l => exact ⟨hs.of'.sub _ _ h.1, ih h.2⟩
    exact key h3
  · have := h4 k hk
    rw [List.eq_nil_iff_forall_not_mem]
    intro b hb
    have h5 := nxt_mem.2 (hs.fwd.sub _ _ (nxt_mem.1 hb))
    rw [this] at h5; cases h5
theorem kind_turn {J : List Job} (hJ : FineJ J) (hc : cir J = false) {i : Nat} (hi : i < J.length) : kindR (turnJ J) i = kindR J i := by
  have hK := turn_fine hJ
  have hcK := turn_cir hJ hc
  have e2 : kindR (turnJ J) i = 2 ↔ kindR J i = 2 := by
    rw [kind_two hK hcK, kind_two hJ hc]
    constructor
    · intro h l hl
      rw [← onB_turn hJ hc (l := l.reverse) (m := l) (fun x => List.mem_reverse) hi]
      exact h _ (hl.rev hJ)
    · intro h l hl
      rw [onB_turn hJ hc (l := l) (m := l.reverse) (fun x => List.mem_reverse.symm) hi]
      exact h _ (hl.back hJ)
  have e0 : kindR (turnJ J) i = 0 ↔ kindR J i = 0 := by
    rw [kind_zero hK hcK, kind_zero hJ hc]
    constructor
    · intro h l hl
      rw [← onB_turn hJ hc (l := l.reverse) (m := l) (fun x => List.mem_reverse) hi]
      exact h _ (hl.rev hJ)
    · intro h l hl
      rw [onB_turn hJ hc (l := l) (m := l.reverse) (fun x => List.mem_reverse.symm) hi]
      exact h _ (hl.back hJ)
  rcases kind_012 (turnJ J) i with h | h | h <;> rcases kind_012 J i with g | g | g
  · omega
  · have := e0.1 h; omega
  · have := e0.1 h; omega
  · have := e0.2 g; omega
  · omega
  · have := e2.2 g; omega
  · have := e2.1 h; omega
  · have := e2.1 h; omega
  · omega
theorem free_turn {J : List Job} (hJ : FineJ J) {l : List Nat} (hl : FreeN J l) : FreeN (turnJ J) l := by
  refine ⟨hl.1, fun i hi => by rw [turn_len]; exact hl.2.1 i hi, fun i hi k hk => ?_⟩
  cases ha : aft (turnJ J) i k with
  | false => rfl
  | true =>
    have h1 := turn_rch hJ ((aft_iff (by rw [turn_len]; exact hl.2.1 i hi)).1 ha)
    have h2 := (aft_iff (hl.2.1 k hk)).2 h1
    rw [hl.2.2 k hk i hi] at h2; cases h2
/-- As many jobs are free, by whatever matches. -/
theorem free_turn_len {J : List Job} (hJ : FineJ J) (hc : cir J = false) {nx bf F G nx' bf' F' G' : List Int} (hm : MatI J nx bf J.length) (h : FrI J nx bf F G [] J.length 0)
    (hm' : MatI (turnJ J) nx' bf' J.length) (h' : FrI (turnJ J) nx' bf' F' G' [] J.length 0) : (frTo F' G' J.length).length = (frTo F G J.length).length := by
  have hl := turn_len J
  have h1 := free_most (turn_fine hJ) (turn_cir hJ hc) (nx := nx') (bf := bf') (F := F') (G := G') (by rw [hl]; exact hm') (by rw [hl]; exact h') (free_turn hJ h.free)
  have h2 : FreeN (turnJ J) (frTo F' G' (turnJ J).length) := FrI.free (nx := nx') (bf := bf') (by rw [hl]; exact h')
  have h3 := (turn_same hJ).fwd.free (free_turn (turn_fine hJ) h2)
  have h4 := free_most hJ hc hm h h3
  rw [hl] at h1 h4
  omega
end Go.Proofs.YteknehlkdgamjaaGreat
