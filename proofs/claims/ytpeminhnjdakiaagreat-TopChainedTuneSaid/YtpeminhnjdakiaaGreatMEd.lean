/- Merged texts: the evaluator: regions that draw; calls by what their arguments hold; no condition. -/
import Derived.Test.YtpeminhnjdakiaaGreatMEc
section
namespace Go.Ev

structure Run (P : Program) (R : Rec) (ops : List Oper) (S : Nat → DrawSt) (V : Nat → AV) (nx : Nat) : Prop where
  step : ∀ k o, ops[k]? = some o → Step P R ops (ancs ops []) o (S k) (S (k + 1)) (V k)
  i0 : (S 0).i = 0
  cm0 : (S 0).cm = 0
  nm0 : (S 0).nm = nx
  pend0 : (S 0).pend = []
  next0 : (S 0).h.next = nx + creN ops
  slots : slotsB ops.toArray (ancs ops []) [] ops 0 = true
  apart : apartL ops nx (ancs ops []) (S ops.length).rd (S ops.length).wr = true
noncomputable def obF (P : Program) (ops : List Oper) (S : Nat → DrawSt) (k : Nat) : Option AObj := (ops[k]?).bind fun o => if wanted ops (S k).a o = true ∧ kindOf o = .cre then creOp P (S k).a o else none
def Chain (ops : List Oper) (S : Nat → DrawSt) (k : Nat) : Prop := ∃ o, ops[k]? = some o ∧ wanted ops (S k).a o = true ∧ Ch (kindOf o)
def U (P : Program) (ops : List Oper) (S : Nat → DrawSt) (q k : Nat) (ob : AObj) : Prop := obF P ops S k = some ob ∧ ∀ e, e < q → Chain ops S e → k < e → bit (ancOf (ancs ops []) e) k = false
structure Facts (ops : List Oper) (S : Nat → DrawSt) (k : Nat) : Prop where
  next : Chain ops S k → (S k).h.next ≤ (S (k + 1)).h.next
  mods : Chain ops S k → ∀ r, r < (S k).h.next → r ∉ (S (k + 1)).h.mods → (S (k + 1)).h.rows.get r = (layP (ancOf (ancs ops []) k) (S k)).rows.get r
  alive : Chain ops S k → ∀ r o, r < (S k).h.next → (S (k + 1)).h.rows.get r = some o → o ≠ .dead → ∃ o0, (layP (ancOf (ancs ops []) k) (S k)).rows.get r = some o0 ∧ o0 ≠ .dead
  reads : ∀ o, ops[k]? = some o → wanted ops (S k).a o = true → kindOf o = .val → ∀ r ∈ readsOf (S k).a o, r < (S k).h.next
def IsT (P : Program) (ops : List Oper) (S : Nat → DrawSt) (q r : Nat) (x : Option AObj) : Prop :=
  (∃ k ob, U P ops S q k ob ∧ (S k).nm = r ∧ x = some ob) ∨ ((∀ k ob, U P ops S q k ob → (S k).nm ≠ r) ∧ x = (S q).h.rows.get r)

theorem addP_rest : ∀ (l : List (Nat × Nat × AObj)) (h : Hp), (addP h l).next = h.next ∧ (addP h l).grps = h.grps ∧ (addP h l).mods = h.mods
  | [], _ => ⟨rfl, rfl, rfl⟩
  | (_, nm, o) :: r, h => addP_rest r (h.put nm o)
theorem addP_get : ∀ (l : List (Nat × Nat × AObj)) (h : Hp) (r : Nat), (∃ p ∈ l, p.2.1 = r ∧ (addP h l).rows.get r = some p.2.2) ∨ ((∀ p ∈ l, p.2.1 ≠ r) ∧ (addP h l).rows.get r = h.rows.get r)
  | [], _, _ => .inr ⟨fun _ h => absurd h List.not_mem_nil, rfl⟩
  | (i, nm, o) :: l, h, r => by
    rcases addP_get l (h.put nm o) r with ⟨p, h1, h2, h3⟩ | ⟨h1, h2⟩
    · exact .inl ⟨p, List.mem_cons_of_mem _ h1, h2, h3⟩
    · have h2 : (addP h ((i, nm, o) :: l)).rows.get r = (h.rows.set nm (some o)).get r := h2
      rw [Tr.get_set] at h2
      by_cases hr : r = nm
      · rw [if_pos hr] at h2
        exact .inl ⟨_, List.mem_cons_self .., hr.symm, h2⟩
      · rw [if_neg hr] at h2
        refine .inr ⟨fun p hp => ?_, h2⟩
        rcases List.mem_cons.1 hp with rfl | hp
        · exact fun e => hr e.symm
        · exact h1 p hp
theorem layP_eq (m : Nat) (s : DrawSt) : layP m s = addP s.h (s.pend.filter fun p => bit m p.1) := by
  unfold layP
  split
  · rename_i h; rw [h]; rfl
  · rfl
theorem keepP_eq (m : Nat) (l : List (Nat × Nat × AObj)) : keepP m l = l.filter fun p => !(bit m p.1) := by
  unfold keepP
  split <;> rfl
theorem creN_cons (o : Oper) (l : List Oper) : creN (o :: l) = creN l + creK (kindOf o) := by
  change Kind.rec (motive := fun _ => Nat) (creN l) (Nat.succ (creN l)) (creN l) (creN l) (kindOf o) = _
  cases kindOf o <;> rfl

section
variable {P : Program} {R : Rec} {ops : List Oper} {S : Nat → DrawSt} {V : Nat → AV} {nx : Nat}
theorem op_at {k : Nat} (h : k < ops.length) : ∃ o, ops[k]? = some o := ⟨ops[k], List.getElem?_eq_getElem h⟩
theorem op_lt {k : Nat} {o : Oper} (h : ops[k]? = some o) : k < ops.length := (List.getElem?_eq_some_iff.1 h).1
theorem obF_some {k : Nat} {ob : AObj} (h : obF P ops S k = some ob) : ∃ o, ops[k]? = some o ∧ wanted ops (S k).a o = true ∧ kindOf o = .cre ∧ creOp P (S k).a o = some ob := by
  unfold obF at h
  cases ho : ops[k]? with
  | none => rw [ho] at h; cases h
  | some o =>
    rw [ho, Option.bind_some] at h
    split at h
    · rename_i hc; exact ⟨o, rfl, hc.1, hc.2, h⟩
    · cases h
theorem Chain.lt {k : Nat} (h : Chain ops S k) : k < ops.length := let ⟨_, h, _⟩ := h; op_lt h
theorem U.mono {q q' k : Nat} {ob : AObj} (h : U P ops S q' k ob) (hq : q ≤ q') : U P ops S q k ob := ⟨h.1, fun e he => h.2 e (by omega)⟩
namespace Run
variable (hr : Run P R ops S V nx)
include hr
theorem idx : ∀ k, k ≤ ops.length → (S k).i = k
  | 0, _ => hr.i0
  | k + 1, h => by
    obtain ⟨o, ho⟩ := op_at (ops := ops) (k := k) (by omega)
    rw [(hr.step k o ho).i, idx k (by omega)]
theorem cm : ∀ k, k ≤ ops.length → ∀ e, e < k → Chain ops S e → bit (S k).cm e = true
  | 0, _, e, h, _ => by omega
  | k + 1, h, e, h1, h2 => by
    obtain ⟨o, ho⟩ := op_at (ops := ops) (k := k) (by omega)
    have st := hr.step k o ho
    by_cases hc : wanted ops (S k).a o = true ∧ Ch (kindOf o)
    · rw [(st.chain hc.1 hc.2).2.2.1, bit_lor, bit_one, hr.idx k (by omega)]
      by_cases he : e = k
      · subst he; simp
      · rw [cm k (by omega) e (by omega) h2]; rfl
    · rw [(st.heap hc).2]
      refine cm k (by omega) e ?_ h2
      rcases Nat.lt_or_ge e k with h3 | h3
      · exact h3
      · have : e = k := by omega
        subst this
        obtain ⟨o', h4, h5⟩ := h2
        rw [ho] at h4; cases h4
        exact absurd h5 hc
theorem before {e j : Nat} (hj : Chain ops S j) (he : Chain ops S e) (h : e < j) : bit (ancOf (ancs ops []) j) e = true := by
  obtain ⟨o, h1, h2, h3⟩ := hj
  have := ((hr.step j o h1).chain h2 h3).1
  rw [hr.idx j (Nat.le_of_lt (op_lt h1))] at this
  exact land_bit this (hr.cm j (Nat.le_of_lt (op_lt h1)) e h he)
theorem heap {k : Nat} (h : k < ops.length) (hc : ¬ Chain ops S k) : (S (k + 1)).h = (S k).h := by
  obtain ⟨o, ho⟩ := op_at h
  exact ((hr.step k o ho).heap fun h => hc ⟨o, ho, h⟩).1
theorem nm_le {k : Nat} : ∀ (k' : Nat), k ≤ k' → k' ≤ ops.length → (S k).nm ≤ (S k').nm
  | 0, h, _ => by have : k = 0 := by omega
                  subst this; exact Nat.le_refl _
  | k' + 1, h, h' => by
    rcases Nat.lt_or_ge k (k' + 1) with h1 | h1
    · obtain ⟨o, ho⟩ := op_at (ops := ops) (k := k') (by omega)
      rw [(hr.step k' o ho).nm]
      exact Nat.le_trans (nm_le k' (by omega) (by omega)) (Nat.le_add_right _ _)
    · have : k = k' + 1 := by omega
      subst this; exact Nat.le_refl _
theorem nm_succ {k : Nat} {ob : AObj} (h : obF P ops S k = some ob) : (S k).nm < (S (k + 1)).nm ∧ k < ops.length := by
  obtain ⟨o, h1, h2, h3, h4⟩ := obF_some h
  refine ⟨?_, op_lt h1⟩
  rw [(hr.step k o h1).nm, h3]
  exact Nat.lt_succ_self _
theorem nm_all : ∀ k, k ≤ ops.length → (S k).nm + creN (ops.drop k) = nx + creN ops
  | 0, _ => by rw [hr.nm0]; rfl
  | k + 1, h => by
    obtain ⟨o, ho⟩ := op_at (ops := ops) (k := k) (by omega)
    have h1 := nm_all k (by omega)
    have h2 : ops.drop k = o :: ops.drop (k + 1) := by
      rw [List.drop_eq_getElem_cons (by omega)]
      congr 1
      rw [List.getElem?_eq_getElem (by omega)] at ho
      exact Option.some.inj ho
    rw [h2, creN_cons] at h1
    rw [(hr.step k o ho).nm]
    omega
theorem nm_lt {k : Nat} {ob : AObj} (h : obF P ops S k = some ob) : nx ≤ (S k).nm ∧ (S k).nm < nx + creN ops := by
  obtain ⟨h1, h2⟩ := hr.nm_succ h
  have h3 := hr.nm_le (k := 0) k (Nat.zero_le _) (by omega)
  have h4 := hr.nm_all (k + 1) (by omega)
  rw [hr.nm0] at h3
  omega
theorem nm_inj {k k' : Nat} {ob ob' : AObj} (h : obF P ops S k = some ob) (h' : obF P ops S k' = some ob') (e : (S k).nm = (S k').nm) : k = k' := by
  obtain ⟨h1, h2⟩ := hr.nm_succ h
  obtain ⟨h3, h4⟩ := hr.nm_succ h'
  rcases Nat.lt_trichotomy k k' with hlt | rfl | hlt
  · have := hr.nm_le (k := k + 1) k' (by omega) (by omega); omega
  · rfl
  · have := hr.nm_le (k := k' + 1) k (by omega) (by omega); omega
theorem pend : ∀ q, q ≤ ops.length → ∀ k m ob, (k, m, ob) ∈ (S q).pend ↔ k < q ∧ U P ops S q k ob ∧ m = (S k).nm
  | 0, _, k, m, ob => by rw [hr.pend0]; simp
  | q + 1, h, k, m, ob => by
    obtain ⟨o, ho⟩ := op_at (ops := ops) (k := q) (by omega)
    have st := hr.step q o ho
    have ih := pend q (by omega) k m ob
    have hi := hr.idx q (by omega)
    have obq : ∀ ob, obF P ops S q = some ob → wanted ops (S q).a o = true ∧ kindOf o = .cre ∧ creOp P (S q).a o = some ob := by
      intro ob h1
      obtain ⟨o', h2, h3⟩ := obF_some h1
      rw [ho] at h2; cases h2
      exact h3
    by_cases hc : wanted ops (S q).a o = true ∧ Ch (kindOf o)
    · have hch : Chain ops S q := ⟨o, ho, hc⟩
      rw [(st.chain hc.1 hc.2).2.2.2.1, keepP_eq, List.mem_filter, ih, hi]
      constructor
      · rintro ⟨⟨h1, h2, h3⟩, h4⟩
        simp only [Bool.not_eq_true'] at h4
        refine ⟨by omega, ⟨h2.1, fun e he hce hlt => ?_⟩, h3⟩
        by_cases heq : e = q
        · subst heq; exact h4
        · exact h2.2 e (by omega) hce hlt
      · rintro ⟨h1, h2, h3⟩
        have hne : k ≠ q := by
          rintro rfl
          have := obq ob h2.1
          exact not_cre (this.2.1 ▸ hc.2)
        refine ⟨⟨by omega, h2.mono (by omega), h3⟩, ?_⟩
        simp only [Bool.not_eq_true']
        exact h2.2 q (by omega) hch (by omega)
    · have hch : ¬ Chain ops S q := by
        rintro ⟨o', h1, h2⟩
        rw [ho] at h1; cases h1
        exact hc h2
      have hU : ∀ k ob, U P ops S (q + 1) k ob ↔ U P ops S q k ob := fun k ob => ⟨fun h => h.mono (by omega), fun h => ⟨h.1, fun e he hce hlt => h.2 e (by
        rcases Nat.lt_or_ge e q with h3 | h3
        · exact h3
        · have : e = q := by omega
          subst this; exact absurd hce hch) hce hlt⟩⟩
      by_cases hk : wanted ops (S q).a o = true ∧ kindOf o = .cre
      · obtain ⟨ob', h1, h2, h3⟩ := st.cre hk.1 hk.2
        have hob : obF P ops S q = some ob' := by
          unfold obF
          rw [ho, Option.bind_some, if_pos hk]
          exact h1
        rw [h3, List.mem_append, ih, hi, hU]
        simp only [List.mem_singleton, Prod.mk.injEq]
        constructor
        · rintro (⟨h4, h5, h6⟩ | ⟨rfl, rfl, rfl⟩)
          · exact ⟨by omega, h5, h6⟩
          · exact ⟨by omega, ⟨hob, fun e he _ hlt => by omega⟩, rfl⟩
        · rintro ⟨h4, h5, h6⟩
          by_cases hkq : k = q
          · subst hkq
            have := h5.1
            rw [hob] at this; cases this
            exact .inr ⟨rfl, h6, rfl⟩
          · exact .inl ⟨by omega, h5, h6⟩
      · rw [st.pend (fun h => by
          rcases h with ⟨h1, h2 | h2⟩
          · exact hc ⟨h1, h2⟩
          · exact hk ⟨h1, h2⟩), ih, hU]
        constructor
        · rintro ⟨h4, h5, h6⟩; exact ⟨by omega, h5, h6⟩
        · rintro ⟨h4, h5, h6⟩
          refine ⟨?_, h5, h6⟩
          rcases Nat.lt_or_ge k q with h7 | h7
          · exact h7
          · have : k = q := by omega
            subst this
            have := obq ob h5.1
            exact absurd ⟨this.1, this.2.1⟩ hk
theorem lay_in {q k m : Nat} {ob : AObj} (hq : q ≤ ops.length) (hk : k < q) (hU : U P ops S q k ob) (hb : bit m k = true) : (layP m (S q)).rows.get (S k).nm = some ob := by
  rw [layP_eq]
  rcases addP_get ((S q).pend.filter fun p => bit m p.1) (S q).h (S k).nm with ⟨⟨k', m', ob'⟩, h1, h2, h3⟩ | ⟨h1, h2⟩
  · rw [List.mem_filter] at h1
    obtain ⟨h4, h5, h6⟩ := (hr.pend q hq k' m' ob').1 h1.1
    simp only at h2 h3
    have : k' = k := hr.nm_inj h5.1 hU.1 (by rw [← h6, h2])
    subst this
    have h7 := h5.1
    rw [hU.1] at h7; cases h7
    exact h3
  · exact absurd rfl (h1 (k, (S k).nm, ob) (List.mem_filter.2 ⟨(hr.pend q hq _ _ _).2 ⟨hk, hU, rfl⟩, hb⟩))
theorem lay_out {q m r : Nat} (hq : q ≤ ops.length) (h : ∀ k ob, k < q → U P ops S q k ob → bit m k = true → (S k).nm ≠ r) : (layP m (S q)).rows.get r = (S q).h.rows.get r := by
  rw [layP_eq]
  rcases addP_get ((S q).pend.filter fun p => bit m p.1) (S q).h r with ⟨⟨k', m', ob'⟩, h1, h2, h3⟩ | ⟨h1, h2⟩
  · rw [List.mem_filter] at h1
    obtain ⟨h4, h5, h6⟩ := (hr.pend q hq k' m' ob').1 h1.1
    exact absurd (h6.symm.trans h2) (h k' ob' h4 h5 h1.2)
  · exact h2
omit hr in
theorem lay_rest (m q : Nat) : (layP m (S q)).next = (S q).h.next ∧ (layP m (S q)).grps = (S q).h.grps := by
  rw [layP_eq]; exact ⟨(addP_rest _ _).1, (addP_rest _ _).2.1⟩
omit hr in
theorem U_succ {e k : Nat} {ob : AObj} (hc : ¬ Chain ops S e) (h : U P ops S e k ob) : U P ops S (e + 1) k ob := ⟨h.1, fun e' he hce hlt => h.2 e' (by
  rcases Nat.lt_or_ge e' e with h3 | h3
  · exact h3
  · have : e' = e := by omega
    subst this; exact absurd hce hc) hce hlt⟩
omit hr in
theorem isT_total (q r : Nat) : ∃ x, IsT P ops S q r x := by
  by_cases h : ∃ k ob, U P ops S q k ob ∧ (S k).nm = r
  · obtain ⟨k, ob, h1, h2⟩ := h; exact ⟨_, .inl ⟨k, ob, h1, h2, rfl⟩⟩
  · exact ⟨_, .inr ⟨fun k ob h1 h2 => h ⟨k, ob, h1, h2⟩, rfl⟩⟩
theorem isT_uniq {q r : Nat} {x y : Option AObj} (h : IsT P ops S q r x) (h' : IsT P ops S q r y) : x = y := by
  rcases h with ⟨k, ob, h1, h2, rfl⟩ | ⟨h1, rfl⟩ <;> rcases h' with ⟨k', ob', h3, h4, rfl⟩ | ⟨h3, rfl⟩
  · have := hr.nm_inj h1.1 h3.1 (h2.trans h4.symm)
    subst this
    rw [← h1.1, ← h3.1]
  · exact absurd h2 (h3 k ob h1)
  · exact absurd h4 (h1 k' ob' h3)
  · rfl
variable {M : Nat} (hM : M ≤ ops.length) (hF : ∀ e, e < M → Facts ops S e)
include hM hF
theorem next_le {q : Nat} : ∀ q', q ≤ q' → q' ≤ M → (S q).h.next ≤ (S q').h.next
  | 0, h, _ => by have : q = 0 := by omega
                  subst this; exact Nat.le_refl _
  | q' + 1, h, h' => by
    rcases Nat.lt_or_ge q (q' + 1) with h1 | h1
    · refine Nat.le_trans (next_le q' (by omega) (by omega)) ?_
      by_cases hc : Chain ops S q'
      · exact (hF q' (by omega)).next hc
      · rw [hr.heap (by omega) hc]; exact Nat.le_refl _
    · have : q = q' + 1 := by omega
      subst this; exact Nat.le_refl _
theorem nm_next {k q : Nat} {ob : AObj} (h : obF P ops S k = some ob) (hq : q ≤ M) : (S k).nm < (S q).h.next := by
  have h1 := hr.next_le hM hF (q := 0) q (Nat.zero_le _) hq
  rw [hr.next0] at h1
  have := hr.nm_lt h
  omega
theorem notLive (h0 : ∀ r o, nx ≤ r → (S 0).h.rows.get r = some o → o = .dead) : ∀ q, q ≤ M → ∀ k ob, U P ops S q k ob → ∀ o, (S q).h.rows.get (S k).nm = some o → o = .dead
  | 0, _, k, ob, h, o, e => h0 _ o (hr.nm_lt h.1).1 e
  | q + 1, hq, k, ob, h, o, e => by
    have h1 : U P ops S q k ob := h.mono (by omega)
    by_cases hc : Chain ops S q
    · by_cases hd : o = .dead
      · exact hd
      · obtain ⟨o0, h2, h3⟩ := (hF q (by omega)).alive hc _ o (hr.nm_next hM hF h.1 (by omega)) e hd
        rw [hr.lay_out (by omega)] at h2
        · exact absurd (notLive h0 q (by omega) k ob h1 o0 h2) h3
        · intro k' ob' h4 h5 h6 h7
          have := hr.nm_inj h5.1 h.1 h7
          subst this
          rw [h.2 q (by omega) hc h4] at h6
          cases h6
    · rw [hr.heap (by omega) hc] at e
      exact notLive h0 q (by omega) k ob h1 o e
theorem T_succ {e r : Nat} {x : Option AObj} (he : e < M) (hn : Chain ops S e → r ∉ (S (e + 1)).h.mods ∧ r < (S e).h.next) (h : IsT P ops S e r x) : IsT P ops S (e + 1) r x := by
  by_cases hc : Chain ops S e
  · obtain ⟨h1, h2⟩ := hn hc
    have hm := (hF e he).mods hc r h2 h1
    rcases h with ⟨k, ob, h3, h4, rfl⟩ | ⟨h3, rfl⟩
    · by_cases hb : k < e ∧ bit (ancOf (ancs ops []) e) k = true
      · refine .inr ⟨fun k' ob' h5 h6 => ?_, ?_⟩
        · have := hr.nm_inj h5.1 h3.1 (h6.trans h4.symm)
          subst this
          rw [h5.2 e (by omega) hc hb.1] at hb
          cases hb.2
        · rw [hm, ← h4, hr.lay_in (by omega) hb.1 h3 hb.2]
      · refine .inl ⟨k, ob, ⟨h3.1, fun e' he' hce hlt => ?_⟩, h4, rfl⟩
        by_cases hee : e' = e
        · subst hee
          cases hbb : bit (ancOf (ancs ops []) e') k with
          | false => rfl
          | true => exact absurd ⟨hlt, hbb⟩ hb
        · exact h3.2 e' (by omega) hce hlt
    · refine .inr ⟨fun k ob h5 => h3 k ob (h5.mono (by omega)), ?_⟩
      rw [hm, hr.lay_out (by omega) (fun k ob _ h5 _ => h3 k ob h5)]
  · rcases h with ⟨k, ob, h3, h4, rfl⟩ | ⟨h3, rfl⟩
    · exact .inl ⟨k, ob, U_succ hc h3, h4, rfl⟩
    · exact .inr ⟨fun k ob h5 => h3 k ob (h5.mono (by omega)), by rw [hr.heap (by omega) hc]⟩
theorem T_range {q r : Nat} {x : Option AObj} : ∀ q', q ≤ q' → q' ≤ M → (∀ e, q ≤ e → e < q' → Chain ops S e → r ∉ (S (e + 1)).h.mods ∧ r < (S e).h.next) → (IsT P ops S q r x ↔ IsT P ops S q' r x) := by
  have key : ∀ q', q ≤ q' → q' ≤ M → (∀ e, q ≤ e → e < q' → Chain ops S e → r ∉ (S (e + 1)).h.mods ∧ r < (S e).h.next) → ∀ x, IsT P ops S q r x → IsT P ops S q' r x := by
    intro q'
    induction q' with
    | zero => intro h _ _ x hx; have : q = 0 := by omega
              subst this; exact hx
    | succ q' ih =>
      intro h h1 h2 x hx
      rcases Nat.lt_or_ge q (q' + 1) with h3 | h3
      · exact hr.T_succ hM hF (by omega) (h2 q' (by omega) (by omega)) (ih (by omega) (by omega) (fun e h4 h5 => h2 e h4 (by omega)) x hx)
      · have : q = q' + 1 := by omega
        subst this; exact hx
  intro q' h h1 h2
  refine ⟨key q' h h1 h2 x, fun hx => ?_⟩
  obtain ⟨y, hy⟩ := isT_total (P := P) (ops := ops) (S := S) q r
  have := hr.isT_uniq (key q' h h1 h2 y hy) hx
  subst this
  exact hy
omit hM hF
theorem rdwr : ∀ k', k' ≤ ops.length → ∀ k, k ≤ k' → (∀ p ∈ (S k).rd, p ∈ (S k').rd) ∧ ∀ p ∈ (S k).wr, p ∈ (S k').wr
  | 0, _, k, h => by have : k = 0 := by omega
                     subst this; exact ⟨fun _ h => h, fun _ h => h⟩
  | k' + 1, h', k, h => by
    rcases Nat.lt_or_ge k (k' + 1) with h1 | h1
    · obtain ⟨o, ho⟩ := op_at (ops := ops) (k := k') (by omega)
      have st := hr.step k' o ho
      obtain ⟨h2, h3⟩ := rdwr k' (by omega) k (by omega)
      exact ⟨fun p hp => st.rd p (h2 p hp), fun p hp => st.wr p (h3 p hp)⟩
    · have : k = k' + 1 := by omega
      subst this; exact ⟨fun _ h => h, fun _ h => h⟩
theorem inWr {e : Nat} (he : Chain ops S e) : (e, (S (e + 1)).h.mods) ∈ (S ops.length).wr := by
  obtain ⟨o, h1, h2, h3⟩ := he
  have := ((hr.step e o h1).chain h2 h3).2.2.2.2
  rw [hr.idx e (Nat.le_of_lt (op_lt h1))] at this
  exact (hr.rdwr _ (Nat.le_refl _) (e + 1) (op_lt h1)).2 _ this
theorem notMod {k e r : Nat} {o : Oper} (ho : ops[k]? = some o) (hw : wanted ops (S k).a o = true) (hk : kindOf o = .val) (hrd : r ∈ readsOf (S k).a o) (he : Chain ops S e) (hm : r ∈ (S (e + 1)).h.mods) (hsoft : softB ops nx k e (readsOf (S k).a o) = false) : (k ≤ e → bit (ancOf (ancs ops []) e) k = true) ∧ (e < k → bit (ancOf (ancs ops []) k) e = true) := by
  have := ((hr.step k o ho).val hw hk).2
  rw [hr.idx k (Nat.le_of_lt (op_lt ho))] at this
  exact apart_ok hr.apart ((hr.rdwr _ (Nat.le_refl _) (k + 1) (op_lt ho)).1 _ this) (hr.inWr he) hrd hm hsoft
end Run

/-! Frames. -/
def dstF (ops : List Oper) (k : Nat) : Option Tmp := (ops[k]?).bind (·.dst)
noncomputable def fD (ops : List Oper) (V : Nat → AV) (D : Nat → Bool) (a : Fr) : Nat → Fr
  | 0 => a
  | m + 1 => if D m = true then Fr.put (fD ops V D a m) (dstF ops m) (V m) else fD ops V D a m
theorem get_put_ne {a : Fr} {d : Option Nat} {v : AV} {t : Nat} (h : d ≠ some t) : (a.put d v).get t = a.get t := by
  cases d with
  | none => rfl
  | some d => rw [Fr.get_put, if_neg (fun h' => h (by rw [h'.2]))]
theorem fD_nt (D : Nat → Bool) (a : Fr) : ∀ m, (fD ops V D a m).nt = a.nt
  | 0 => rfl
  | m + 1 => by
    unfold fD
    split
    · rw [Fr.put_nt]; exact fD_nt D a m
    · exact fD_nt D a m
theorem fD_marks (D : Nat → Bool) (a : Fr) : ∀ m, (fD ops V D a m).marks = a.marks
  | 0 => rfl
  | m + 1 => by
    unfold fD
    split
    · rw [Fr.put_marks]; exact fD_marks D a m
    · exact fD_marks D a m
theorem fD_read {D : Nat → Bool} {a : Fr} {t j : Nat} (h1 : ∀ k, k < j → dstF ops k = some t → D k = true) (h2 : ∀ k, j ≤ k → D k = true → dstF ops k ≠ some t) : ∀ m, (fD ops V D a m).get t = (fD ops V (fun _ => true) a (min m j)).get t
  | 0 => by rw [Nat.zero_min]; rfl
  | m + 1 => by
    have ih := fD_read h1 h2 (a := a) m
    rcases Nat.lt_or_ge m j with hm | hm
    · rw [Nat.min_eq_left (by omega)] at ih ⊢
      by_cases hd : dstF ops m = some t
      · simp only [fD, h1 m hm hd, if_true]
        rw [hd, Fr.get_put, Fr.get_put, fD_nt, fD_nt]
        split
        · rfl
        · exact ih
      · simp only [fD, if_true]
        rw [get_put_ne hd]
        split
        · rw [get_put_ne hd]; exact ih
        · exact ih
    · rw [Nat.min_eq_right (by omega)] at ih ⊢
      simp only [fD]
      split
      · rename_i hD
        rw [get_put_ne (h2 m hm hD)]; exact ih
      · exact ih
theorem fD_low {D D' : Nat → Bool} {a : Fr} {j : Nat} (h : ∀ k, k ≠ j → D' k = D k) : ∀ m, m ≤ j → fD ops V D' a m = fD ops V D a m
  | 0, _ => rfl
  | m + 1, hm => by
    simp only [fD, h m (by omega), fD_low h m (by omega)]
theorem fD_add {D D' : Nat → Bool} {a : Fr} {j : Nat} (h : ∀ k, k ≠ j → D' k = D k) (h' : D' j = true) (hj : D j = false) (h2 : ∀ k, j < k → D k = true → ∀ t, dstF ops j = some t → dstF ops k ≠ some t) (t : Nat) : ∀ m, j < m → (fD ops V D' a m).get t = ((fD ops V D a m).put (dstF ops j) (V j)).get t
  | 0, hm => by omega
  | m + 1, hm => by
    by_cases hmj : m = j
    · subst hmj
      simp only [fD, h', hj, if_true, fD_low h m (Nat.le_refl _)]
      rfl
    · have ih := fD_add h h' hj h2 t m (a := a) (by omega)
      simp only [fD, h m hmj]
      split
      · rename_i hD
        have h3 := h2 m (by omega) hD
        cases hdj : dstF ops j with
        | none =>
          rw [hdj, Fr.put_none] at ih
          rw [Fr.put_none]
          cases hdm : dstF ops m with
          | none => exact ih
          | some d => rw [Fr.get_put, Fr.get_put, fD_nt, fD_nt, ih]
        | some dj =>
          rw [hdj, Fr.get_put, fD_nt] at ih
          rw [Fr.get_put, Fr.put_nt, fD_nt]
          cases hdm : dstF ops m with
          | none => rw [Fr.put_none, Fr.put_none]; exact ih
          | some d =>
            have hne : dj ≠ d := fun e => h3 dj hdj (by rw [hdm, e])
            rw [Fr.get_put, Fr.get_put, fD_nt, fD_nt, ih]
            by_cases e1 : d < a.nt ∧ t = d
            · rw [if_pos e1, if_neg (fun e2 => hne (e2.2.symm.trans e1.2)), if_pos e1]
            · rw [if_neg e1, if_neg e1]
      · exact ih
theorem FrR.ext {ρ : Rn} {a b : Fr} {tm : Array Value} (h : FrR ρ a tm) (h1 : b.nt = a.nt) (h2 : ∀ t, b.get t = a.get t) : FrR ρ b tm := ⟨by rw [h1]; exact h.size, fun t => by rw [h2]; exact h.get t⟩
theorem Run.frame (hr : Run P R ops S V nx) : ∀ j, j ≤ ops.length → (S j).a = fD ops V (fun _ => true) (S 0).a j
  | 0, _ => rfl
  | j + 1, h => by
    obtain ⟨o, ho⟩ := op_at (ops := ops) (k := j) (by omega)
    rw [(hr.step j o ho).a, hr.frame j (by omega)]
    simp only [fD, if_true, dstF, ho, Option.bind_some]
end
end Go.Ev
end

section
namespace Go.Ev

structure Inv (P : Program) (ops : List Oper) (S : Nat → DrawSt) (V : Nat → AV) (base : Nat) (ρ0 : Rn) (h0 : Hp) (w0 : World) (D : Nat → Bool) (x : Act) (w : World) (ρ : Rn) (q : Nat) (hd : Hp) : Prop where
  front : q = 0 ∨ ∃ e, q = e + 1 ∧ D e = true
  chain : ∀ e, Chain ops S e → (D e = true ↔ e < q)
  rel : RelH P ρ base hd w
  hb : base ≤ w.heap.size
  next : hd.next = (S q).h.next
  grps : hd.grps = (S q).h.grps
  mods : hd.mods = h0.mods
  laid : ∀ k ob, U P ops S q k ob → D k = true → hd.rows.get (S k).nm = some ob
  rows : ∀ r, (∀ k ob, U P ops S q k ob → (S k).nm ≠ r) → hd.rows.get r = (S q).h.rows.get r
  unl : ∀ k ob, U P ops S q k ob → D k = false → ρ (S k).nm = none
  frame : FrR ρ (fD ops V D (S 0).a ops.length) x.tmps
  defers : DefR ρ (S 0).a.marks x.defers
  post : Post ρ0 h0 w0 0 ρ hd w

section
variable {P : Program} {R : Rec} {ops : List Oper} {S : Nat → DrawSt} {V : Nat → AV} {nx : Nat}

theorem creOp_grp {a : Fr} {o : Oper} {ob : AObj} (h : creOp P a o = some ob) : grpOf ob = none := by
  unfold creOp at h
  split at h
  · obtain ⟨z, _, h⟩ := oB_some h; cases h; rfl
  · obtain ⟨z, _, h⟩ := oB_some h; cases h; rfl
  · split at h
    · obtain ⟨l, _, h⟩ := oB_some h
      unfold cBuild at h
      obtain ⟨_, _, h⟩ := oB_some h
      obtain ⟨_, _, h⟩ := oB_some h
      rw [sel_eq] at h
      split at h
      · obtain ⟨_, _, h⟩ := oB_some h; cases h; rfl
      · cases h
    · cases h
  · split at h
    · obtain ⟨l, _, h⟩ := oB_some h
      obtain ⟨c, _, h⟩ := oB_some h
      obtain ⟨_, _, _, h⟩ := AV.intE_some h
      obtain ⟨_, _, _, h⟩ := AV.intE_some h
      unfold cMake at h
      obtain ⟨_, _, h⟩ := oB_some h
      obtain ⟨_, _, h⟩ := oB_some h
      obtain ⟨_, _, h⟩ := oB_some h
      obtain ⟨_, _, h⟩ := oB_some h
      rw [sel_eq] at h
      split at h
      · cases h; rfl
      · cases h
    · cases h
  · cases h; rfl
  · cases h
theorem obF_grp {k : Nat} {ob : AObj} (h : obF P ops S k = some ob) : grpOf ob = none := let ⟨_, _, _, _, h⟩ := obF_some h; creOp_grp h

/-- Something that is run comes to something. -/
theorem wpOpIn_exists {rb : Option Nat} {n j : Nat} {K : Act → World → Prop} {x : Act} {w : World} (h : wpOpIn (WF rb) n P ops.toArray (fun _ _ _ => False) j K x w) : ∃ x' w', K x' w' := by
  have room : ∀ m, (WF rb).room m := fun m d hd => by simp [WF, Fence.wide] at hd
  unfold wpOpIn at h
  split at h
  · exact ⟨_, _, h⟩
  · split at h
    · have h := h.2
      rename_i o _ _ _
      generalize (o.semAt (WF rb).round x.eval).run P w = r at h
      cases r with
      | halt y w' => cases y <;> simp only [Oper.uponIn] at h
      | ok y w' =>
        cases y <;> simp only [Oper.uponIn] at h
        case value => exact ⟨_, _, h⟩
        case skip => exact ⟨_, _, h⟩
        case defer => exact ⟨_, _, h⟩
        case enter =>
          obtain ⟨e, w1, fr, h1, _⟩ := h.2.2 [] (room _)
          cases e with
          | returned v => exact ⟨_, _, h1⟩
          | panicked c => exact h1.elim
          | outgrown => obtain ⟨_, _, h1⟩ := h1; exact h1.elim
        case row =>
          obtain ⟨v, w1, h1, _⟩ := h.2 default [] (room _)
          exact ⟨_, _, h1⟩
        case round =>
          obtain ⟨e, w1, h1, _⟩ := h.2.2 default [] (room _)
          cases e with
          | returned v => exact ⟨_, _, h1⟩
          | panicked c => exact h1.elim
          | outgrown => obtain ⟨_, _, h1⟩ := h1; exact h1.elim
    · exact ⟨_, _, h.2⟩
theorem Post.same {ρ ρ' : Rn} {h h' : Hp} {w w' : World} {mark : Nat} (p : Post ρ h w mark ρ' h' w') (m : List Nat) : Post ρ { h with mods := m } w 0 ρ' { h' with mods := m } w' :=
  ⟨p.le, p.new, p.next, p.os, p.tape, p.output, p.size, p.keep, fun _ h => h, fun r hr => by omega, p.alive⟩
theorem Post.lay {ρ0 ρ : Rn} {h0 hd : Hp} {w0 w : World} (p : Post ρ0 h0 w0 0 ρ hd w) {nm : Nat} {pl : Pl} {ob : AObj} {o : Obj} (h1 : h0.next ≤ nm) (h2 : ρ nm = none) (h3 : pl.b = w.heap.size) : Post ρ0 h0 w0 0 (upd ρ nm pl) { hd with rows := hd.rows.set nm (some ob) } (w.alloc o) where
  le := p.le.trans (upd_le pl h2)
  new := by
    intro r q e
    unfold upd at e
    by_cases hr : r = nm
    · rw [if_pos hr] at e
      cases e
      have := p.size
      exact .inr ⟨by omega, .inl (by omega)⟩
    · rw [if_neg hr] at e; exact p.new r q e
  next := p.next
  os := p.os
  tape := p.tape
  output := p.output
  size := Nat.le_trans p.size (by rw [show (w.alloc o).heap = w.heap.push o from rfl]; simp)
  keep := by
    intro b hb hno
    have : (w.alloc o).heap[b]? = w.heap[b]? := by
      have := p.size
      rw [show (w.alloc o).heap = w.heap.push o from rfl, Array.getElem?_push, if_neg (by omega)]
    rw [this]; exact p.keep b hb hno
  modsLe := p.modsLe
  mods := fun r hr => by omega
  alive := by
    intro r q hlt e hd'
    simp only [Tr.get_set] at e
    rw [if_neg (by omega)] at e
    exact p.alive r q hlt e hd'

namespace Run
variable (hr : Run P R ops S V nx)
include hr
/-- What is drawn next. -/
structure Ready (ops : List Oper) (D D' : Nat → Bool) (j : Nat) (o : Oper) : Prop where
  op : ops[j]? = some o
  not : D j = false
  deps : ∀ e ∈ o.after, Region.binds .any e = true → D e.on = true
  closed : ∀ k o, D k = true → ops[k]? = some o → ∀ e ∈ o.after, Region.binds .any e = true → D e.on = true
  same : ∀ k, k ≠ j → D' k = D k
  now : D' j = true
theorem slots_at {i j : Nat} {x o : Oper} (hi : ops[i]? = some x) (hj : ops[j]? = some o) (h : i < j) : bit (ancOf (ancs ops []) j) i = true ∨ x.apart ops.toArray o = true := by
  have := (slotsB_ok (b := []) (j := 0) rfl hr.slots j o hj).2 i x (by omega) hi
  rwa [Nat.zero_add] at this
variable {D D' : Nat → Bool} {j : Nat} {o : Oper} (rd : Ready ops D D' j o)
include rd
omit hr in
theorem anc_j {k : Nat} (h : bit (ancOf (ancs ops []) j) k = true) : D k = true := anc_in (D := fun k => D k = true) rd.closed j o rd.op rd.deps k h
omit hr in
theorem anc_D {e k : Nat} (he : D e = true) (hlt : e < ops.length) (h : bit (ancOf (ancs ops []) e) k = true) : D k = true := by
  obtain ⟨oe, ho⟩ := op_at hlt
  exact anc_in (D := fun k => D k = true) rd.closed e oe ho (rd.closed e oe he ho) k h
theorem after_j {k : Nat} {ok : Oper} (hk : ops[k]? = some ok) (hlt : j < k) (hD : D k = true) : o.apart ops.toArray ok = true := by
  rcases hr.slots_at rd.op hk hlt with h | h
  · have := anc_D rd hD (op_lt hk) h
    rw [rd.not] at this; cases this
  · exact h
theorem look : ∀ t ∈ o.looksAt ops.toArray, (fD ops V D (S 0).a ops.length).get t = (S j).a.get t := by
  intro t ht
  have hlt := op_lt rd.op
  rw [hr.frame j (Nat.le_of_lt hlt), fD_read (j := j) (t := t) ?_ ?_ ops.length, Nat.min_eq_right (Nat.le_of_lt hlt)]
  · intro k hk hd
    unfold dstF at hd
    obtain ⟨ok, hok⟩ := op_at (ops := ops) (k := k) (by omega)
    rw [hok, Option.bind_some] at hd
    rcases hr.slots_at hok rd.op hk with h | h
    · exact anc_j rd h
    · exact absurd ht ((Oper.apart_spec h).1 t hd)
  · intro k hk hD hd
    unfold dstF at hd
    cases hok : ops[k]? with
    | none => rw [hok] at hd; cases hd
    | some ok =>
      rw [hok, Option.bind_some] at hd
      have hne : k ≠ j := fun e => by subst e; rw [rd.not] at hD; cases hD
      exact absurd ht ((Oper.apart_spec (hr.after_j rd hok (by omega) hD)).2.2 t hd)
theorem put_frame {ρ : Rn} {x : Act} (hf : FrR ρ (fD ops V D (S 0).a ops.length) x.tmps) {u : Value} (hu : VR ρ (V j) u) : FrR ρ (fD ops V D' (S 0).a ops.length) (x.put o.dst u).tmps := by
  have hd : dstF ops j = o.dst := by unfold dstF; rw [rd.op, Option.bind_some]
  refine (hf.put hu o.dst).ext ?_ fun t => ?_
  · rw [fD_nt, Fr.put_nt, fD_nt]
  · rw [← hd]
    refine fD_add rd.same rd.now rd.not ?_ t _ (op_lt rd.op)
    intro k hk hD t h1 h2
    unfold dstF at h2
    cases hok : ops[k]? with
    | none => rw [hok] at h2; cases h2
    | some ok =>
      rw [hok, Option.bind_some] at h2
      rw [hd] at h1
      exact (Oper.apart_spec (hr.after_j rd hok hk hD)).2.1 t h1 h2
variable {base : Nat} {ρ0 : Rn} {h0 : Hp} {w0 : World} {x : Act} {w : World} {ρ : Rn} {q : Nat} {hd : Hp}
/-- An operation that changes nothing. -/
theorem still (hi : Inv P ops S V base ρ0 h0 w0 D x w ρ q hd) (hc : ¬ Chain ops S j) (ho : obF P ops S j = none) {u : Value} (hu : VR ρ (V j) u) : Inv P ops S V base ρ0 h0 w0 D' (x.put o.dst u) w ρ q hd where
  front := by
    rcases hi.front with h | ⟨e, h1, h2⟩
    · exact .inl h
    · refine .inr ⟨e, h1, ?_⟩
      by_cases he : e = j
      · rw [he]; exact rd.now
      · rw [rd.same e he]; exact h2
  chain := fun e he => by
    have hne : e ≠ j := fun h => hc (h ▸ he)
    rw [rd.same e hne]; exact hi.chain e he
  rel := hi.rel
  hb := hi.hb
  next := hi.next
  grps := hi.grps
  mods := hi.mods
  laid := fun k ob h h' => by
    have hne : k ≠ j := fun e => by subst e; rw [h.1] at ho; cases ho
    rw [rd.same k hne] at h'; exact hi.laid k ob h h'
  rows := hi.rows
  unl := fun k ob h h' => by
    have hne : k ≠ j := fun e => by subst e; rw [h.1] at ho; cases ho
    rw [rd.same k hne] at h'; exact hi.unl k ob h h'
  frame := hr.put_frame rd hi.frame hu
  defers := by have := hi.defers; cases o.dst <;> exact this
  post := hi.post
/-- New memory. -/
theorem laidNew (hi : Inv P ops S V base ρ0 h0 w0 D x w ρ q hd) (hh : h0.next = nx) {M : Nat} (hM : M ≤ ops.length) (hF : ∀ e, e < M → Facts ops S e) (hDM : ∀ k, D k = true → k < M) (hc : ¬ Chain ops S j) {ob : AObj} (ho : obF P ops S j = some ob) {u : Value} {ob' : Obj}
    (hob : ObjR P (upd ρ (S j).nm ⟨w.heap.size, 0, 0, 0⟩) ⟨w.heap.size, 0, 0, 0⟩ (w.alloc ob') ob) (hu : VR (upd ρ (S j).nm ⟨w.heap.size, 0, 0, 0⟩) (V j) u) (hUj : U P ops S q j ob) :
    Inv P ops S V base ρ0 h0 w0 D' (x.put o.dst u) (w.alloc ob') (upd ρ (S j).nm ⟨w.heap.size, 0, 0, 0⟩) q { hd with rows := hd.rows.set (S j).nm (some ob) } := by
  have hq : q ≤ M := by
    rcases hi.front with h | ⟨e, h1, h2⟩
    · omega
    · have := hDM e h2; omega
  have hno := hi.unl j ob hUj rd.not
  have hnx : (S j).nm < hd.next := by rw [hi.next]; exact hr.nm_next hM hF ho hq
  have hle := upd_le (⟨w.heap.size, 0, 0, 0⟩ : Pl) hno
  exact {
    front := by
      rcases hi.front with h | ⟨e, h1, h2⟩
      · exact .inl h
      · refine .inr ⟨e, h1, ?_⟩
        by_cases he : e = j
        · rw [he]; exact rd.now
        · rw [rd.same e he]; exact h2
    chain := fun e he => by
      have hne : e ≠ j := fun h => hc (h ▸ he)
      rw [rd.same e hne]; exact hi.chain e he
    rel := hi.rel.lay hi.hb hnx (Nat.le_refl _) hno rfl rfl hob (obF_grp ho)
    hb := Nat.le_trans hi.hb (by rw [show (w.alloc ob').heap = w.heap.push ob' from rfl]; simp)
    next := hi.next
    grps := hi.grps
    mods := hi.mods
    laid := fun k ob2 h h' => by
      simp only [Tr.get_set]
      by_cases hk : k = j
      · subst hk
        have := h.1
        rw [ho] at this; cases this
        rw [if_pos rfl]
      · rw [rd.same k hk] at h'
        rw [if_neg (fun e => hk (hr.nm_inj h.1 ho e))]
        exact hi.laid k ob2 h h'
    rows := fun r h => by
      simp only [Tr.get_set]
      rw [if_neg (fun e => h j ob hUj e.symm)]
      exact hi.rows r h
    unl := fun k ob2 h h' => by
      have hk : k ≠ j := fun e => by subst e; rw [rd.now] at h'; cases h'
      rw [rd.same k hk] at h'
      unfold upd
      rw [if_neg (fun e => hk (hr.nm_inj h.1 ho e))]
      exact hi.unl k ob2 h h'
    frame := hr.put_frame rd (hi.frame.mono hle) hu
    defers := by have := hi.defers.mono hle; cases o.dst <;> exact this
    post := hi.post.lay (by rw [hh]; exact (hr.nm_lt ho).1) hno rfl }
end Run
end
end Go.Ev
end

section
namespace Go.Ev
section
variable {P : Program} {R : Rec} {ops : List Oper} {S : Nat → DrawSt} {V : Nat → AV} {nx : Nat}
namespace Run
variable (hr : Run P R ops S V nx)
include hr
theorem heap_range {q : Nat} : ∀ q', q ≤ q' → q' ≤ ops.length → (∀ e, q ≤ e → e < q' → ¬ Chain ops S e) → (S q').h = (S q).h
  | 0, h, _, _ => by have : q = 0 := by omega
                     subst this; rfl
  | q' + 1, h, h', hn => by
    rcases Nat.lt_or_ge q (q' + 1) with h1 | h1
    · rw [hr.heap (by omega) (hn q' (by omega) (by omega))]
      exact heap_range q' (by omega) (by omega) fun e h2 h3 => hn e h2 (by omega)
    · have : q = q' + 1 := by omega
      subst this; rfl
variable {D D' : Nat → Bool} {j : Nat} {o : Oper} (rd : Ready ops D D' j o) {base : Nat} {ρ0 : Rn} {h0 : Hp} {w0 : World} {x : Act} {w : World} {ρ : Rn} {q : Nat} {hd : Hp}
variable {M : Nat} (hM : M ≤ ops.length) (hF : ∀ e, e < M → Facts ops S e) (hDM : ∀ k, D k = true → k < M) (hjM : j ≤ M) (h00 : ∀ r o, nx ≤ r → (S 0).h.rows.get r = some o → o = .dead)
include rd hM hF hDM hjM h00
/-- What an operation reads is there. -/
theorem readRow (hi : Inv P ops S V base ρ0 h0 w0 D x w ρ q hd) (hw : wanted ops (S j).a o = true) (hk : kindOf o = .val) (hrds : ∀ r ∈ readsOf (S j).a o, ∃ p, ρ r = some p) (hsoft : ∀ r ∈ readsOf (S j).a o, ∀ e, softB ops nx j e (readsOf (S j).a o) = false) : ∀ r ∈ readsOf (S j).a o, RowAt P ρ (S j).h r w := by
  intro r hrr ob hob hlive
  obtain ⟨p, hp⟩ := hrds r hrr
  have hq : q ≤ M := by
    rcases hi.front with h | ⟨e, h1, h2⟩
    · omega
    · have := hDM e h2; omega
  have hrn : r < (S q).h.next := hi.next ▸ (hi.rel.dom r p hp).1
  have hncj : ¬ Chain ops S j := by
    rintro ⟨o', h1, h2, h3⟩
    rw [rd.op] at h1; cases h1
    rw [hk] at h3; exact not_val h3
  have hT : IsT P ops S j r (some ob) := .inr ⟨fun k ob' hU he => hlive (hr.notLive hM hF h00 j hjM k ob' hU ob (by rw [he]; exact hob)), hob.symm⟩
  have hTq : IsT P ops S q r (some ob) := by
    rcases Nat.le_total q j with hqj | hqj
    · refine (hr.T_range hM hF j hqj hjM ?_).2 hT
      intro e h1 h2 hce
      refine ⟨fun hm => ?_, Nat.lt_of_lt_of_le hrn (hr.next_le hM hF e h1 (by omega))⟩
      have := anc_j rd ((hr.notMod rd.op hw hk hrr hce hm (hsoft r hrr e)).2 h2)
      have := (hi.chain e hce).1 this
      omega
    · refine (hr.T_range hM hF q hqj hq ?_).1 hT
      intro e h1 h2 hce
      have hne : e ≠ j := fun h => hncj (h ▸ hce)
      refine ⟨fun hm => ?_, ?_⟩
      · have hb := (hr.notMod rd.op hw hk hrr hce hm (hsoft r hrr e)).1 h1
        have := anc_D rd ((hi.chain e hce).2 h2) hce.lt hb
        rw [rd.not] at this; cases this
      · exact Nat.lt_of_lt_of_le ((hF j (by omega)).reads o rd.op hw hk r hrr) (hr.next_le hM hF e h1 (by omega))
  rcases hTq with ⟨k, ob', hU, hnm, he⟩ | ⟨h1, h2⟩
  · cases he
    have hD : D k = true := by
      cases hDk : D k with
      | true => rfl
      | false => have := hi.unl k ob hU hDk; rw [hnm, hp] at this; cases this
    exact hi.rel.obj r ob (hnm ▸ hi.laid k ob hU hD) hlive
  · exact hi.rel.obj r ob ((hi.rows r h1).trans h2.symm) hlive

omit rd hDM hM hF hjM h00 hr in
/-- Rows that wait are put back. -/
theorem putBack (h' : Hp) (m : List Nat) (C : Nat → AObj → Prop) (hC : ∀ k ob ob', C k ob → C k ob' → ob = ob') (hinj : ∀ k k' ob ob', C k ob → C k' ob' → (S k).nm = (S k').nm → k = k') (hN : ∀ k ob, C k ob → k < ops.length) :
    ∃ hd' : Hp, hd'.next = h'.next ∧ hd'.grps = h'.grps ∧ hd'.mods = m ∧ (∀ k ob, C k ob → hd'.rows.get (S k).nm = some ob) ∧ ∀ r, (∀ k ob, C k ob → (S k).nm ≠ r) → hd'.rows.get r = h'.rows.get r := by
  have key : ∀ N : Nat, ∃ hd' : Hp, hd'.next = h'.next ∧ hd'.grps = h'.grps ∧ hd'.mods = m ∧ (∀ k ob, k < N → C k ob → hd'.rows.get (S k).nm = some ob) ∧ ∀ r, (∀ k ob, k < N → C k ob → (S k).nm ≠ r) → hd'.rows.get r = h'.rows.get r := by
    intro N
    induction N with
    | zero => exact ⟨{ h' with mods := m }, rfl, rfl, rfl, fun k ob h => by omega, fun r _ => rfl⟩
    | succ N ih =>
      obtain ⟨h1, e1, e2, e3, e4, e5⟩ := ih
      by_cases hc : ∃ ob, C N ob
      · obtain ⟨ob, hob⟩ := hc
        refine ⟨h1.put (S N).nm ob, e1, e2, e3, ?_, ?_⟩
        · intro k ob' hk hCk
          change (h1.rows.set (S N).nm (some ob)).get (S k).nm = _
          rw [Tr.get_set]
          by_cases hkN : k = N
          · subst hkN
            rw [if_pos rfl, hC k ob ob' hob hCk]
          · rw [if_neg (fun e => hkN (hinj _ _ _ _ hCk hob e))]
            exact e4 k ob' (by omega) hCk
        · intro r h2
          change (h1.rows.set (S N).nm (some ob)).get r = _
          rw [Tr.get_set, if_neg (fun e => h2 N ob (by omega) hob e.symm)]
          exact e5 r fun k ob' hk => h2 k ob' (by omega)
      · refine ⟨h1, e1, e2, e3, ?_, ?_⟩
        · intro k ob' hk hCk
          have : k ≠ N := fun e => hc ⟨ob', e ▸ hCk⟩
          exact e4 k ob' (by omega) hCk
        · intro r h2
          exact e5 r fun k ob' hk => h2 k ob' (by omega)
  obtain ⟨hd', e1, e2, e3, e4, e5⟩ := key ops.length
  exact ⟨hd', e1, e2, e3, fun k ob h => e4 k ob (hN k ob h) h, fun r h => e5 r fun k ob _ => h k ob⟩
omit hDM in
/-- An operation of the chain. -/
theorem chainStep (hN : Plain P) (hE : Entered P R) (hR : Ok P R) (hr0 : RelH P ρ0 base h0 w0) (hh : h0.next = nx) (hi : Inv P ops S V base ρ0 h0 w0 D x w ρ q hd) (hcj : Chain ops S j) {rb : Option Nat} {n : Nat} {K : Act → World → Prop} {Q : Exit → Act → World → Prop}
    (hK : ∀ u w' ρ' hd', Inv P ops S V base ρ0 h0 w0 D' (x.put o.dst u) w' ρ' (j + 1) hd' → Facts ops S j → K (x.put o.dst u) w') : o.wpIn (WF rb) n P x w K Q := by
  have hjN : j < ops.length := hcj.lt
  have hobj : obF P ops S j = none := by
    cases h : obF P ops S j with
    | none => rfl
    | some ob =>
      obtain ⟨o1, h1, _, h3, _⟩ := obF_some h
      obtain ⟨o2, h4, _, h5⟩ := hcj
      rw [h1] at h4; cases h4
      rw [h3] at h5; exact absurd h5 not_cre
  have hch : ∀ e, Chain ops S e → e < j → e < q := fun e he hlt => (hi.chain e he).1 (anc_j rd (hr.before hcj he hlt))
  have hqj : q ≤ j := by
    rcases Nat.lt_or_ge j q with h | h
    · have := (hi.chain j hcj).2 h
      rw [rd.not] at this; cases this
    · exact h
  have hnoc : ∀ e, q ≤ e → e < j → ¬ Chain ops S e := fun e h1 h2 h3 => by have := hch e h3 h2; omega
  have hheap : (S j).h = (S q).h := hr.heap_range j hqj (by omega) hnoc
  have hUj : ∀ k ob, U P ops S q k ob → U P ops S j k ob := fun k ob h => ⟨h.1, fun e he hce hlt => h.2 e (hch e hce he) hce hlt⟩
  obtain ⟨o', ho', hwj, hkj⟩ := hcj
  rw [rd.op] at ho'; cases ho'
  have hcj : Chain ops S j := ⟨o, rd.op, hwj, hkj⟩
  have hidx := hr.idx j (by omega)
  have hst := ((hr.step j o rd.op).chain hwj hkj).2.1
  rw [hidx] at hst
  obtain ⟨L, hL⟩ : ∃ L : Hp, { layP (ancOf (ancs ops []) j) (S j) with mods := [] } = L := ⟨_, rfl⟩
  have hLn : L.next = (S j).h.next := by rw [← hL]; exact (lay_rest (S := S) _ j).1
  have hLg : L.grps = (S j).h.grps := by rw [← hL]; exact (lay_rest (S := S) _ j).2
  have hLr : ∀ r, L.rows.get r = (layP (ancOf (ancs ops []) j) (S j)).rows.get r := fun r => by rw [← hL]
  rw [hL] at hst
  -- what is laid is there
  have hsub : ∀ r ob, L.rows.get r = some ob → ob ≠ .dead → hd.rows.get r = some ob := by
    intro r ob h1 h2
    rw [hLr] at h1
    by_cases hc : ∃ k ob', k < j ∧ U P ops S j k ob' ∧ bit (ancOf (ancs ops []) j) k = true ∧ (S k).nm = r
    · obtain ⟨k, ob', h3, h4, h5, h6⟩ := hc
      rw [← h6, hr.lay_in (by omega) h3 h4 h5] at h1
      cases h1
      rw [← h6]
      exact hi.laid k ob (h4.mono hqj) (anc_j rd h5)
    · rw [hr.lay_out (by omega) (fun k ob' h3 h4 h5 h6 => hc ⟨k, ob', h3, h4, h5, h6⟩)] at h1
      rw [hi.rows r, ← hheap]
      · exact h1
      · intro k ob' hU he
        exact h2 (hr.notLive hM hF h00 j hjM k ob' (hUj k ob' hU) ob (by rw [he]; exact h1))
  -- what waits is not
  have hwait : ∀ k ob ob', U P ops S (j + 1) k ob → L.rows.get (S k).nm = some ob' → ob' = .dead := by
    intro k ob ob' hU h1
    rw [hLr, hr.lay_out (by omega)] at h1
    · exact hr.notLive hM hF h00 j hjM k ob (hU.mono (by omega)) ob' h1
    · intro k' ob2 h3 h4 h5 h6
      have := hr.nm_inj h4.1 hU.1 h6
      subst this
      rw [hU.2 j (by omega) hcj h3] at h5
      cases h5
  have hrL : RelH P ρ base L w := hi.rel.sub hsub (by rw [hLg, hheap]; exact hi.grps.symm) (by rw [hi.next, hLn, hheap]; exact Nat.le_refl _)
  have hev : evOp P R (S j).h.next o (fD ops V D (S 0).a ops.length) L = .ok (V j) (S (j + 1)).h := by
    rw [← hst]
    exact evOp_congr (looks_eval (hr.look rd))
  refine evOp_ok hN hE hR _ _ _ _ _ _ hev ρ base x w rb n K Q hrL hi.hb (by rw [hLn]; exact Nat.le_refl _) hi.frame (fun u w' ρ' h1 h2 h3 => ?_)
  have hmods : ∀ r, r < (S j).h.next → r ∉ (S (j + 1)).h.mods → (S (j + 1)).h.rows.get r = (layP (ancOf (ancs ops []) j) (S j)).rows.get r := fun r h4 h5 => (h3.mods r h4 h5).trans (hLr r)
  have hfacts : Facts ops S j := {
    next := fun _ => by have := h3.next; rw [hLn] at this; exact this
    mods := fun _ => hmods
    alive := fun _ r ob h4 h5 h6 => by
      obtain ⟨o0, h7, h8⟩ := h3.alive r ob (by rw [hLn]; exact h4) h5 h6
      exact ⟨o0, (hLr r).symm.trans h7, h8⟩
    reads := fun o' h4 _ h5 => by
      rw [rd.op] at h4; cases h4
      rw [h5] at hkj; exact absurd hkj not_val }
  obtain ⟨hd', e1, e2, e3, e4, e5⟩ := putBack (ops := ops) (S := S) (S (j + 1)).h h0.mods (fun k ob => U P ops S (j + 1) k ob ∧ D k = true)
    (fun k ob ob' h4 h5 => by have := h4.1.1; rw [h5.1.1] at this; exact (Option.some.inj this).symm) (fun k k' ob ob' h4 h5 h6 => hr.nm_inj h4.1.1 h5.1.1 h6) (fun k ob h4 => (hr.nm_succ h4.1.1).2)
  -- a row of hd' is one that waits, or one of the heap behind the operation
  have hcase : ∀ r ob, hd'.rows.get r = some ob → (∃ k, U P ops S (j + 1) k ob ∧ D k = true ∧ (S k).nm = r) ∨ ((∀ k ob', U P ops S (j + 1) k ob' ∧ D k = true → (S k).nm ≠ r) ∧ (S (j + 1)).h.rows.get r = some ob) := by
    intro r ob h4
    by_cases hc : ∃ k ob', U P ops S (j + 1) k ob' ∧ D k = true ∧ (S k).nm = r
    · obtain ⟨k, ob', h5, h6, h7⟩ := hc
      have := e4 k ob' ⟨h5, h6⟩
      rw [h7, h4] at this
      cases this
      exact .inl ⟨k, h5, h6, h7⟩
    · have hc' : ∀ k ob', U P ops S (j + 1) k ob' ∧ D k = true → (S k).nm ≠ r := fun k ob' h5 h6 => hc ⟨k, ob', h5.1, h5.2, h6⟩
      exact .inr ⟨hc', (e5 r hc').symm.trans h4⟩
  have hkept : ∀ k ob, U P ops S (j + 1) k ob → D k = true → hd.rows.get (S k).nm = some ob := fun k ob h4 h5 => hi.laid k ob (h4.mono (by omega)) h5
  have hnog : ∀ k ob, U P ops S (j + 1) k ob → grpOf ob = none := fun k ob h4 => obF_grp h4.1
  -- no row that the operation saw lies where one lies that waits
  have hfar : ∀ k ob p, U P ops S (j + 1) k ob → D k = true → ob ≠ .dead → ρ (S k).nm = some p → ∀ s o2 p2, L.rows.get s = some o2 → o2 ≠ .dead → ρ s = some p2 → p2.b ≠ p.b := by
    intro k ob p h4 h5 h6 h7 s o2 p2 h8 h9 h10
    have hne : s ≠ (S k).nm := fun e => h9 (hwait k ob o2 h4 (e ▸ h8))
    rcases hi.rel.sep s (S k).nm o2 ob p2 p (hsub s o2 h8 h9) h9 (hkept k ob h4 h5) h6 hne h10 h7 with h11 | ⟨g, _, h11, _⟩
    · exact h11
    · rw [hnog k ob h4] at h11; cases h11
  have hplace : ∀ k ob, U P ops S (j + 1) k ob → D k = true → ob ≠ .dead → ∃ p, ρ (S k).nm = some p ∧ ρ' (S k).nm = some p ∧ p.b < w.heap.size ∧ ObjR P ρ p w ob := by
    intro k ob h4 h5 h6
    obtain ⟨p, h7, h8⟩ := hi.rel.obj _ ob (hkept k ob h4 h5) h6
    exact ⟨p, h7, h3.le _ _ h7, (hi.rel.dom _ p h7).2.2, h8⟩
  have hsep1 : ∀ k ob p, U P ops S (j + 1) k ob → D k = true → ob ≠ .dead → ρ (S k).nm = some p → ∀ s o2 p2, (S (j + 1)).h.rows.get s = some o2 → o2 ≠ .dead → ρ' s = some p2 → p2.b ≠ p.b := by
    intro k ob p h4 h5 h6 h7 s o2 p2 h8 h9 h10
    have hb := (hi.rel.dom _ p h7).2.2
    rcases h3.new s p2 h10 with h11 | ⟨_, h11 | ⟨s0, o3, p3, h12, h13, h14, h15⟩⟩
    · obtain ⟨o3, h12, h13⟩ := h3.alive s o2 (by rw [hLn, hheap, ← hi.next]; exact (hi.rel.dom s p2 h11).1) h8 h9
      exact hfar k ob p h4 h5 h6 h7 s o3 p2 h12 h13 h11
    · omega
    · rw [← h15]; exact hfar k ob p h4 h5 h6 h7 s0 o3 p3 h12 h13 h14
  refine hK u w' ρ' hd' ?_ hfacts
  exact {
    front := .inr ⟨j, rfl, rd.now⟩
    chain := fun e he => by
      by_cases hej : e = j
      · subst hej; simp [rd.now]
      · rw [rd.same e hej, hi.chain e he]
        constructor
        · intro h; omega
        · intro h; exact hch e he (by omega)
    rel := {
      dom := fun r p h4 => by rw [e1]; exact h2.dom r p h4
      obj := by
        intro r ob h4 h5
        rcases hcase r ob h4 with ⟨k, h6, h7, rfl⟩ | ⟨_, h6⟩
        · obtain ⟨p, h8, h9, h10, h11⟩ := hplace k ob h6 h7 h5
          exact ⟨p, h9, h11.keep h3.le (h3.keep p.b h10 fun s o2 p2 h12 h13 h14 => hfar k ob p h6 h7 h5 h8 s o2 p2 h12 h13 h14)⟩
        · exact h2.obj r ob h6 h5
      sep := by
        intro r s oa ob pr ps h4 h5 h6 h7 hne h8 h9
        rcases hcase r oa h4 with ⟨k, g1, g2, rfl⟩ | ⟨_, g1⟩
        · obtain ⟨p, g3, g4, g5, g6⟩ := hplace k oa g1 g2 h5
          rw [g4] at h8; cases h8
          rcases hcase s ob h6 with ⟨k2, f1, f2, rfl⟩ | ⟨_, f1⟩
          · obtain ⟨p2, f3, f4, f5, f6⟩ := hplace k2 ob f1 f2 h7
            rw [f4] at h9; cases h9
            exact hi.rel.sep _ _ oa ob _ _ (hkept k oa g1 g2) h5 (hkept k2 ob f1 f2) h7 hne g3 f3
          · exact .inl fun e => hsep1 k oa _ g1 g2 h5 g3 s ob ps f1 h7 h9 e.symm
        · rcases hcase s ob h6 with ⟨k2, f1, f2, rfl⟩ | ⟨_, f1⟩
          · obtain ⟨p2, f3, f4, f5, f6⟩ := hplace k2 ob f1 f2 h7
            rw [f4] at h9; cases h9
            exact .inl (hsep1 k2 ob _ f1 f2 h7 f3 r oa pr g1 h5 h8)
          · exact h2.sep r s oa ob pr ps g1 h5 f1 h7 hne h8 h9
      grp := by
        intro r ob g h4 h5 h6
        rcases hcase r ob h4 with ⟨k, h7, _, _⟩ | ⟨_, h7⟩
        · rw [hnog k ob h7] at h6; cases h6
        · rw [e2]; exact h2.grp r ob g h7 h5 h6 }
    hb := Nat.le_trans hi.hb h3.size
    next := e1
    grps := e2
    mods := e3
    laid := fun k ob h4 h5 => by
      have hk : k ≠ j := fun e => by subst e; have := h4.1; rw [hobj] at this; cases this
      rw [rd.same k hk] at h5
      exact e4 k ob ⟨h4, h5⟩
    rows := fun r h4 => e5 r fun k ob h5 => h4 k ob h5.1
    unl := fun k ob h4 h5 => by
      have hk : k ≠ j := fun e => by subst e; have := h4.1; rw [hobj] at this; cases this
      rw [rd.same k hk] at h5
      have h6 := hi.unl k ob (h4.mono (by omega)) h5
      cases h7 : ρ' (S k).nm with
      | none => rfl
      | some p =>
        rcases h3.new _ p h7 with h8 | ⟨h8, _⟩
        · rw [h6] at h8; cases h8
        · rw [hLn] at h8
          have := hr.nm_next hM hF h4.1 hjM
          omega
    frame := hr.put_frame rd (hi.frame.mono h3.le) h1
    defers := by have := hi.defers.mono h3.le; cases o.dst <;> exact this
    post := by
      have p0 := hi.post
      have pa : Post ρ0 h0 w0 0 ρ { L with mods := h0.mods } w :=
        ⟨p0.le, p0.new, by have := p0.next; rw [hi.next, ← hheap, ← hLn] at this; exact this, p0.os, p0.tape, p0.output, p0.size, p0.keep, fun _ h => h, fun r hr => by omega, fun r ob h4 h5 h6 => p0.alive r ob h4 (hsub r ob h5 h6) h6⟩
      have pt := pa.trans hr0 (h3.same h0.mods)
      refine ⟨pt.le, pt.new, by rw [e1]; exact pt.next, pt.os, pt.tape, pt.output, pt.size, pt.keep, fun r h => by rw [e3]; exact h, fun r hr => by omega, fun r ob h4 h5 h6 => ?_⟩
      rcases hcase r ob h5 with ⟨k, h7, _, h8⟩ | ⟨_, h7⟩
      · have := (hr.nm_lt h7.1).1; omega
      · exact pt.alive r ob h4 h7 h6 }
end Run
end
end Go.Ev
end

section
namespace Go.Ev
section
variable {P : Program}
theorem shapeF_eq {d : Nat} {xs ys : List AV} : ∀ {fs : List Field}, shapeF P xs fs = true → shapeF P ys fs = true → ∃ b, eqFields P (equalD P (d + 1)) xs ys fs = some b
  | [], _, _ => ⟨true, rfl⟩
  | f :: r, h1, h2 => by
    simp only [shapeF, Bool.and_eq_true] at h1 h2
    obtain ⟨a1, a2⟩ := h1
    obtain ⟨b1, b2⟩ := h2
    obtain ⟨b, ih⟩ := shapeF_eq (d := d) a2 b2
    unfold eqFields
    cases hn : (f.name != "_") with
    | false => simp only [cond_false]; exact ⟨b, ih⟩
    | true =>
      simp only [cond_true]
      split at a1
      · rename_i k j x hu hx
        rw [hu] at b1
        split at b1
        · rename_i k' j' y hu' hy
          injection hu' with hu'
          injection hu' with hu'
          rw [kEq_eq, decide_eq_true_eq] at a1 b1
          have hjj : j = j' := by subst a1 b1; first | exact hu' | exact hu'.symm | rfl
          have hpx : part P f.type xs f.offset = some (.int j x) := by unfold part Ev.isAgg; rw [hu]; exact hx
          have hpy : part P f.type ys f.offset = some (.int j' y) := by unfold part Ev.isAgg; rw [hu]; exact hy
          have he : equalD P (d + 1) f.type (.int j x) (.int j' y) = some (ieq x y) := by
            unfold equalD
            rw [hu]
            simp only [hjj, kEq_eq, decide_true]
            rfl
          rw [hpx, hpy]
          simp only [he]
          cases ieq x y
          · exact ⟨false, rfl⟩
          · exact ⟨b, ih⟩
        · cases b1
      · cases a1
theorem shapeK_eq {kt : TypeId} {x y : AV} (h1 : shapeK P kt x = true) (h2 : shapeK P kt y = true) : ∃ b, Ev.equal P kt x y = some b := by
  unfold shapeK at h1 h2
  split at h1
  · rename_i fs cs hu
    rw [hu] at h2
    split at h2
    · rename_i fs' cs' hu'
      cases hu'
      rw [Bool.and_eq_true] at h1 h2
      obtain ⟨b, hb⟩ := shapeF_eq (d := 98) h1.2 h2.2
      refine ⟨b, ?_⟩
      unfold Ev.equal equalD
      rw [hu]
      have hs : P.stoodInHeld kt = false := by simpa using h1.1
      simp only [hs]
      exact hb
    · cases h2
  · cases h1
theorem sameL_ok : ∀ {l m : List AV}, sameL l m = true → l = m
  | [], [], _ => rfl
  | [], _ :: _, h => by unfold sameL at h; cases h
  | _ :: _, [], h => by unfold sameL at h; split at h <;> simp_all
  | a :: l, b :: m, h => by
    unfold sameL at h
    split at h
    · rename_i heq _; cases heq
    · rename_i j x l' k y m' h1 h2
      cases h1; cases h2
      simp only [Bool.and_eq_true, kEq_eq, ieq_eq, decide_eq_true_eq, beq_iff_eq] at h
      rw [h.1.1, h.1.2, sameL_ok h.2]
    · rename_i x l' y m' h1 h2
      cases h1; cases h2
      simp only [Bool.and_eq_true, beq_iff_eq] at h
      rw [h.1, sameL_ok h.2]
    · cases h
theorem sameV_ok {x y : AV} (h : sameV x y = true) : x = y := by
  unfold sameV at h
  split at h
  · rw [sameL_ok h]
  · have := sameL_ok h
    simpa using this
theorem findK_get {kt : TypeId} {k : AV} : ∀ {l : List (AV × AV × Nat)} {i j : Nat} {k' v : AV}, findK P kt k l i = some (some (j, k', v)) → i ≤ j ∧ ∃ n, l[j - i]? = some (k', v, n)
  | [], _, _, _, _, h => by cases h
  | (a, b, n) :: r, i, j, k', v, h => by
    unfold findK at h
    split at h
    · cases h; exact ⟨Nat.le_refl _, n, by simp⟩
    · obtain ⟨h1, n', h2⟩ := findK_get h
      refine ⟨by omega, n', ?_⟩
      have : j - i = (j - (i + 1)) + 1 := by omega
      rw [this]; exact h2
    · cases h
theorem modE_same : ∀ {l : List (AV × AV × Nat)} {i : Nat} {k v : AV} {n : Nat}, l[i]? = some (k, v, n) → modE i k v l = l
  | [], _, _, _, _, h => by simp at h
  | e :: l, 0, _, _, _, h => by simp at h; subst h; rfl
  | e :: l, i + 1, k, v, n, h => by
    change e :: modE i k v l = e :: l
    rw [modE_same (l := l) (by simpa using h)]
theorem findK_app {kt : TypeId} {k : AV} {zs : List (AV × AV × Nat)} : ∀ {l : List (AV × AV × Nat)} {i : Nat}, findK P kt k (l ++ zs) i = (match findK P kt k l i with | some (some x) => some (some x) | some none => findK P kt k zs (i + l.length) | none => none)
  | [], i => by simp [findK]
  | (a, b, n) :: r, i => by
    simp only [List.cons_append, findK]
    split
    · rename_i h; rfl
    · rename_i h
      rw [findK_app (l := r) (i := i + 1)]
      have : i + 1 + r.length = i + ((a, b, n) :: r).length := by simp only [List.length_cons]; omega
      rw [this]
    · rfl
/-- Entries behind others, with nothing in them. -/
def Ext (P : Program) (kt et : TypeId) (es es' : List (AV × AV × Nat)) : Prop := ∃ zs, es' = es ++ zs ∧ ∀ z ∈ zs, shapeK P kt z.1 = true ∧ zeroOf P et = some z.2.1
theorem Ext.refl (kt et : TypeId) (es : List (AV × AV × Nat)) : Ext P kt et es es := ⟨[], by simp, by simp⟩
theorem Ext.trans {kt et : TypeId} {a b c : List (AV × AV × Nat)} : Ext P kt et a b → Ext P kt et b c → Ext P kt et a c := by
  rintro ⟨y, rfl, h1⟩ ⟨z, rfl, h2⟩
  refine ⟨y ++ z, by simp, fun x hx => ?_⟩
  rcases List.mem_append.1 hx with hx | hx
  · exact h1 x hx
  · exact h2 x hx
theorem findK_zs {kt et : TypeId} {k : AV} (hk : shapeK P kt k = true) : ∀ {zs : List (AV × AV × Nat)} {i : Nat}, (∀ z ∈ zs, shapeK P kt z.1 = true ∧ zeroOf P et = some z.2.1) → ∃ x, findK P kt k zs i = some x ∧ found P et false x = zeroOf P et
  | [], i, _ => by
    refine ⟨none, rfl, ?_⟩
    unfold found oB
    cases hz : zeroOf P et <;> rfl
  | (a, b, n) :: zs, i, h => by
    obtain ⟨h1, h2⟩ := h _ (List.mem_cons_self ..)
    obtain ⟨q, hq⟩ := shapeK_eq hk h1
    unfold findK
    simp only at hq
    rw [hq]
    cases q with
    | true => exact ⟨_, rfl, h2.symm⟩
    | false => exact findK_zs hk fun z hz => h z (List.mem_cons_of_mem _ hz)
/-- What a lookup in entries says. -/
noncomputable def lookE (P : Program) (kt et : TypeId) (k : AV) (es : List (AV × AV × Nat)) : Option AV := oB (findK P kt k es 0) fun x => found P et false x
theorem look_ext {kt et : TypeId} {k : AV} (hk : shapeK P kt k = true) {es es' : List (AV × AV × Nat)} (h : Ext P kt et es es') : lookE P kt et k es' = lookE P kt et k es := by
  obtain ⟨zs, rfl, hz⟩ := h
  unfold lookE
  rw [findK_app]
  cases hf : findK P kt k es 0 with
  | none => rfl
  | some x =>
    cases x with
    | some p => rfl
    | none =>
      obtain ⟨y, h1, h2⟩ := findK_zs (et := et) hk (i := 0 + es.length) hz
      simp only
      rw [h1]
      change found P et false y = found P et false none
      rw [h2]
      unfold found oB
      cases hz : zeroOf P et <;> rfl
end
section
variable {P : Program} {R : Rec} {ops : List Oper} {S : Nat → DrawSt} {V : Nat → AV} {nx : Nat}
namespace Run
variable (hr : Run P R ops S V nx)
include hr
variable {M : Nat} (hM : M ≤ ops.length) (hF : ∀ e, e < M → Facts ops S e)
include hM hF
/-- One step, for the row of a map that is older than the region. -/
theorem softRow {r : Nat} (hrx : r < nx) {t kt et : TypeId} (hun : P.underlying t = some (.map kt et)) {e : Nat} (he : e < M) (hs : Chain ops S e → r ∉ (S (e + 1)).h.mods ∨ ∃ oe m k, ops[e]? = some oe ∧ oe.op = .mapEntry t m k) :
    (S (e + 1)).h.rows.get r = (S e).h.rows.get r ∨ ∃ es c es' c', (S e).h.rows.get r = some (.map es c) ∧ (S (e + 1)).h.rows.get r = some (.map es' c') ∧ Ext P kt et es es' := by
  have hlay : (layP (ancOf (ancs ops []) e) (S e)).rows.get r = (S e).h.rows.get r := hr.lay_out (by omega) fun k ob _ hU _ h => by
    have := (hr.nm_lt hU.1).1
    omega
  have hnx : r < (S e).h.next := by
    have := hr.next_le hM hF (q := 0) e (Nat.zero_le _) (by omega)
    rw [hr.next0] at this
    omega
  by_cases hc : Chain ops S e
  · rcases hs hc with hm | ⟨oe, m, k, ho, hop⟩
    · exact .inl (((hF e he).mods hc r hnx hm).trans hlay)
    · obtain ⟨o', h1, h2, h3⟩ := hc
      rw [ho] at h1; cases h1
      have hev := ((hr.step e oe ho).chain h2 h3).2.1
      have hkind : kindOf oe = .eff := by unfold kindOf; rw [hop]
      rw [hr.idx e (by omega)] at hev
      unfold evOp at hev
      rw [hkind] at hev
      have hev : ofO (effOp P (S e).h.next { layP (ancOf (ancs ops []) e) (S e) with mods := [] } (S e).a oe) = .ok (V e) (S (e + 1)).h := hev
      unfold effOp at hev
      rw [hop] at hev
      simp only at hev
      split at hev
      case h_2 => cases hev
      rename_i mv kv hm hk
      unfold mapEntryOp at hev
      rw [hun] at hev
      simp only at hev
      cases hres : sel (keyX P kt kv false) (mv.mapE none fun r => oB (mapAt { layP (ancOf (ancs ops []) e) (S e) with mods := [] } r) fun p => oB (findF P kt kv p.1) fun x => entE P (S e).h.next { layP (ancOf (ancs ops []) e) (S e) with mods := [] } et r p.1 p.2 kv x) none with
      | none => rw [hres] at hev; cases hev
      | some res =>
        rw [hres] at hev
        injection hev with hv1 hv2
        obtain ⟨hkey, g1⟩ := sel_none hres
        have hkey := keyX_ok hkey
        obtain ⟨r', rfl, g2⟩ := AV.mapE_some g1
        obtain ⟨q, hq, g3⟩ := oB_some g2
        obtain ⟨x, hx, g4⟩ := oB_some g3
        rw [findF_eq] at hx
        obtain ⟨es, c⟩ := q
        have hrow : (layP (ancOf (ancs ops []) e) (S e)).rows.get r' = some (.map es c) := mapAt_some hq
        have hout : ∀ o' : AObj, (({ layP (ancOf (ancs ops []) e) (S e) with mods := [] } : Hp).put r' o').touch (S e).h.next r' = (S (e + 1)).h → (S (e + 1)).h.rows.get r = if r = r' then some o' else (S e).h.rows.get r := by
          intro o' h
          rw [← h, (touch_rows _ _ _).1, ← hlay]
          exact Tr.get_set _ _ _ _
        unfold entE at g4
        cases x with
        | none =>
          obtain ⟨z, hz, g5⟩ := oB_some g4
          injection g5 with g5
          have := hout _ (by rw [← hv2, ← g5])
          by_cases hrr : r = r'
          · subst hrr
            rw [if_pos rfl] at this
            exact .inr ⟨es, c, _, _, hlay ▸ hrow, this, [(kv, z, c)], rfl, fun y hy => by rw [List.mem_singleton] at hy; subst hy; exact ⟨hkey.2 rfl, hz⟩⟩
          · rw [if_neg hrr] at this; exact .inl this
        | some p =>
          obtain ⟨g5, g6⟩ := sel_none g4
          injection g6 with g6
          have := hout _ (by rw [← hv2, ← g6])
          by_cases hrr : r = r'
          · subst hrr
            rw [if_pos rfl] at this
            obtain ⟨i, k', v'⟩ := p
            obtain ⟨_, n, hg⟩ := findK_get hx
            simp only [Nat.sub_zero] at hg
            have hkk := sameV_ok g5
            simp only at hkk this
            rw [← hkk, modE_same hg] at this
            exact .inl (this.trans (hlay ▸ hrow).symm)
          · rw [if_neg hrr] at this; exact .inl this
  · exact .inl (by rw [hr.heap (by omega) hc])
theorem softRange {r : Nat} (hrx : r < nx) {t kt et : TypeId} (hun : P.underlying t = some (.map kt et)) {q : Nat} : ∀ q', q ≤ q' → q' ≤ M → (∀ e, q ≤ e → e < q' → Chain ops S e → r ∉ (S (e + 1)).h.mods ∨ ∃ oe m k, ops[e]? = some oe ∧ oe.op = .mapEntry t m k) →
    (S q').h.rows.get r = (S q).h.rows.get r ∨ ∃ es c es' c', (S q).h.rows.get r = some (.map es c) ∧ (S q').h.rows.get r = some (.map es' c') ∧ Ext P kt et es es'
  | 0, h, _, _ => by have : q = 0 := by omega
                     subst this; exact .inl rfl
  | q' + 1, h, h', hs => by
    rcases Nat.lt_or_ge q (q' + 1) with h1 | h1
    · have ih := softRange hrx hun q' (by omega) (by omega) fun e h2 h3 => hs e h2 (by omega)
      have st := hr.softRow hM hF hrx hun (e := q') (by omega) (hs q' (by omega) (by omega))
      rcases st with st | ⟨es, c, es', c', e1, e2, e3⟩
      · rw [st]; exact ih
      · rcases ih with ih | ⟨fs, d, fs', d', f1, f2, f3⟩
        · exact .inr ⟨es, c, es', c', ih ▸ e1, e2, e3⟩
        · rw [f2] at e1
          injection e1 with e1
          injection e1 with e1 e4
          subst e1 e4
          exact .inr ⟨fs, d, es', c', f1, e2, f3.trans e3⟩
    · have : q = q' + 1 := by omega
      subst this; exact .inl rfl
end Run
end
section
variable {P : Program} {R : Rec} {ops : List Oper} {S : Nat → DrawSt} {V : Nat → AV} {nx : Nat}
namespace Run
variable (hr : Run P R ops S V nx)
include hr
variable {D D' : Nat → Bool} {j : Nat} {o : Oper} (rd : Ready ops D D' j o) {base : Nat} {ρ0 : Rn} {h0 : Hp} {w0 : World} {x : Act} {w : World} {ρ : Rn} {q : Nat} {hd : Hp}
variable {M : Nat} (hM : M ≤ ops.length) (hF : ∀ e, e < M → Facts ops S e) (hDM : ∀ k, D k = true → k < M) (hjM : j ≤ M)
include rd hM hF hDM hjM
/-- A lookup says the same, whatever entries with nothing in them have been made. -/
theorem readLook (hi : Inv P ops S V base ρ0 h0 w0 D x w ρ q hd) (hw : wanted ops (S j).a o = true) (hk : kindOf o = .val) {t : TypeId} {m k : Operand} (ho : o.op = .lookup t m k false) {r : Nat} (hrr : r ∈ readsOf (S j).a o) (hrx : r < nx) {v : AV} (hv : Ev.valOp P (S j).h (S j).a o = some v) : Ev.valOp P hd (S j).a o = some v := by
  have hq : q ≤ M := by
    rcases hi.front with h | ⟨e, h1, h2⟩
    · omega
    · have := hDM e h2; omega
  have hncj : ¬ Chain ops S j := by
    rintro ⟨o', h1, h2, h3⟩
    rw [rd.op] at h1; cases h1
    rw [hk] at h3; exact not_val h3
  have hval : ∀ h : Hp, Ev.valOp P h (S j).a o = vLookup P h (S j).a t m k false := by intro h; unfold Ev.valOp valD; rw [ho]; rfl
  rw [hval] at hv ⊢
  have hm : (S j).a.eval m = some (.map r) := by
    unfold readsOf at hrr
    rw [ho] at hrr
    simp only at hrr
    split at hrr
    · rename_i r' hr'
      rw [List.mem_singleton] at hrr
      rw [hr', hrr]
    · cases hrr
  unfold vLookup at hv ⊢
  rw [hm] at hv ⊢
  obtain ⟨kv, hkv, hv⟩ := oB_some (show oB ((S j).a.eval k) (fun k => Ev.lookupOp P (S j).h t (.map r) k false) = some v from hv)
  change oB ((S j).a.eval k) (fun k => Ev.lookupOp P hd t (.map r) k false) = some v
  rw [hkv]
  change Ev.lookupOp P hd t (.map r) kv false = some v
  unfold Ev.lookupOp at hv ⊢
  split at hv
  case h_2 => cases hv
  rename_i kt et hun
  simp only
  obtain ⟨hkey, hv⟩ := sel_none hv
  have hkey' := hkey
  have hkey := (keyX_ok hkey).2 rfl
  obtain ⟨p, hp, hv⟩ := oB_some hv
  rw [findF_eq] at hv
  have hrow := mapAt_some hp
  have soft : ∀ e, Chain ops S e → r ∈ (S (e + 1)).h.mods → (softB ops nx j e (readsOf (S j).a o) = true) → ∃ oe m k, ops[e]? = some oe ∧ oe.op = .mapEntry t m k := by
    intro e _ _ hs
    unfold softB at hs
    rw [getL_eq, getL_eq, rd.op] at hs
    cases hoe : ops[e]? with
    | none => rw [hoe] at hs; cases hs
    | some oe =>
      rw [hoe] at hs
      have hs : (softO o oe && allL (fun r => Nat.ble (Nat.succ r) nx) (readsOf (S j).a o)) = true := hs
      rw [Bool.and_eq_true] at hs
      have h1 := hs.1
      unfold softO at h1
      rw [ho] at h1
      split at h1
      · rename_i u m' k' h3 h4
        cases h3
        rw [nat_beq, decide_eq_true_eq] at h1
        subst h1
        exact ⟨oe, m', k', rfl, h4⟩
      · cases h1
  have hfin : lookE P kt et kv p.1 = some v := hv
  have hrows : hd.rows.get r = (S q).h.rows.get r := hi.rows r fun k ob hU h => by
    have := (hr.nm_lt hU.1).1
    omega
  have conc : ∀ es c, (S q).h.rows.get r = some (.map es c) → lookE P kt et kv es = some v → sel (keyX P kt kv false) (oB (mapAt hd r) fun p => oB (findF P kt kv p.1) fun x => found P et false x) none = some v := by
    intro es c h1 h2
    rw [hkey']
    have : mapAt hd r = some (es, c) := by unfold mapAt; rw [hrows, h1]
    rw [this]
    change oB (findF P kt kv es) (fun x => found P et false x) = some v
    rw [findF_eq]
    exact h2
  rcases Nat.le_total q j with hqj | hqj
  · have := hr.softRange hM hF hrx hun (q := q) j hqj hjM fun e h1 h2 hce => by
      by_cases hmod : r ∈ (S (e + 1)).h.mods
      · cases hsf : softB ops nx j e (readsOf (S j).a o) with
        | true => exact .inr (soft e hce hmod hsf)
        | false =>
          have := anc_j rd ((hr.notMod rd.op hw hk hrr hce hmod hsf).2 h2)
          have := (hi.chain e hce).1 this
          omega
      · exact .inl hmod
    rcases this with h1 | ⟨es, c, es', c', e1, e2, e3⟩
    · exact conc p.1 p.2 (h1 ▸ hrow) hfin
    · rw [e2] at hrow
      injection hrow with hrow
      injection hrow with h3 h4
      refine conc es c e1 ?_
      rw [← look_ext hkey e3, h3]
      exact hfin
  · have := hr.softRange hM hF hrx hun (q := j) q hqj hq fun e h1 h2 hce => by
      by_cases hmod : r ∈ (S (e + 1)).h.mods
      · cases hsf : softB ops nx j e (readsOf (S j).a o) with
        | true => exact .inr (soft e hce hmod hsf)
        | false =>
          have hb := (hr.notMod rd.op hw hk hrr hce hmod hsf).1 h1
          have := anc_D rd ((hi.chain e hce).2 h2) hce.lt hb
          rw [rd.not] at this; cases this
      · exact .inl hmod
    rcases this with h1 | ⟨es, c, es', c', e1, e2, e3⟩
    · exact conc p.1 p.2 (h1.trans hrow) hfin
    · rw [e1] at hrow
      injection hrow with hrow
      injection hrow with h3 h4
      refine conc es' c' e2 ?_
      rw [look_ext hkey e3, h3]
      exact hfin
end Run
end
end Go.Ev
end

section
namespace Go.Ev
section
variable {P : Program} {R : Rec} {ops : List Oper} {S : Nat → DrawSt} {V : Nat → AV} {nx : Nat}
namespace Run
variable (hr : Run P R ops S V nx)
include hr
theorem back {k : Nat} {o : Oper} (ho : ops[k]? = some o) : ∀ e ∈ o.after, Region.binds .any e = true → e.on < k := by
  have := (slotsB_ok (b := []) (j := 0) rfl hr.slots k o ho).1
  rw [Nat.zero_add] at this
  exact backB_ok this
section
variable {D D' : Nat → Bool} {j : Nat} {o : Oper} (rd : Ready ops D D' j o) {base : Nat} {ρ0 : Rn} {h0 : Hp} {w0 : World} {x : Act} {w : World} {ρ : Rn} {q : Nat} {hd : Hp}
variable {M : Nat} (hM : M ≤ ops.length) (hF : ∀ e, e < M → Facts ops S e) (hDM : ∀ k, D k = true → k < M) (hjM : j ≤ M) (h00 : ∀ r o, nx ≤ r → (S 0).h.rows.get r = some o → o = .dead)
include rd hM hF hDM hjM h00
theorem stepOk (hN : Plain P) (hE : Entered P R) (hR : Ok P R) (hr0 : RelH P ρ0 base h0 w0) (hh : h0.next = nx) (hi : Inv P ops S V base ρ0 h0 w0 D x w ρ q hd) {rb : Option Nat} {n : Nat} {Q : Exit → Act → World → Prop} :
    wpOpIn (WF rb) n P ops.toArray Q j (fun x' w' => (∃ ρ' q' hd', Inv P ops S V base ρ0 h0 w0 D' x' w' ρ' q' hd') ∧ (M ≤ j → Facts ops S j)) x w := by
  unfold wpOpIn
  simp only [List.getElem?_toArray, rd.op]
  have st := hr.step j o rd.op
  rw [← wanted_rel (ops := ops) (o := o) hi.frame (by rw [looks_top (hr.look rd)]; exact st.known), looks_wanted (hr.look rd)]
  have hlook := looks_eval (hr.look rd)
  have obq : ∀ ob, obF P ops S j = some ob → wanted ops (S j).a o = true ∧ kindOf o = .cre ∧ creOp P (S j).a o = some ob := by
    intro ob h1
    obtain ⟨o', h2, h3⟩ := obF_some h1
    rw [rd.op] at h2; cases h2
    exact h3
  have chq : Chain ops S j → wanted ops (S j).a o = true ∧ Ch (kindOf o) := by
    rintro ⟨o', h2, h3⟩
    rw [rd.op] at h2; cases h2
    exact h3
  have noF : ¬ Chain ops S j → (∀ o', ops[j]? = some o' → wanted ops (S j).a o' = true → kindOf o' = .val → ∀ r ∈ readsOf (S j).a o', r < (S j).h.next) → Facts ops S j := fun h1 h2 => ⟨fun h => absurd h h1, fun h => absurd h h1, fun h => absurd h h1, h2⟩
  cases hw : Ev.wanted ops (S j).a o with
  | false =>
    simp only [Bool.false_eq_true, if_false]
    have hc : ¬ Chain ops S j := fun h => by rw [hw] at chq; exact absurd (chq h).1 (by simp)
    have hob : obF P ops S j = none := by
      cases h : obF P ops S j with
      | none => rfl
      | some ob => have := (obq ob h).1; rw [hw] at this; cases this
    refine ⟨fun _ _ => trivial, ⟨ρ, q, hd, hr.still rd hi hc hob (by rw [st.skip hw]; exact VR.undef ρ)⟩, fun _ => noF hc fun o' h1 h2 => ?_⟩
    rw [rd.op] at h1; cases h1
    rw [hw] at h2; cases h2
  | true =>
    simp only [if_true]
    cases hk : kindOf o with
    | val =>
      have hc : ¬ Chain ops S j := fun h => by rw [hk] at chq; exact not_val (chq h).2
      have hob : obF P ops S j = none := by
        cases h : obF P ops S j with
        | none => rfl
        | some ob => have := (obq ob h).2.1; rw [hk] at this; cases this
      have hv := (st.val hw hk).1
      have hv' : Ev.valOp P (S j).h (fD ops V D (S 0).a ops.length) o = some (V j) := by rw [valOp_congr hlook]; exact hv
      have hrc : readsOf (fD ops V D (S 0).a ops.length) o = readsOf (S j).a o := readsOf_congr hlook
      have hkn : ∀ r ∈ readsOf (S j).a o, ∃ p, ρ r = some p := fun r h1 => reads_known hi.frame (by rw [hrc]; exact h1)
      have hrun : ∃ u, (execOp x.eval o).run P w = .ok (.value u) w ∧ VR ρ (V j) u := by
        by_cases hl : ∃ t m k, o.op = .lookup t m k false ∧ ∃ r ∈ readsOf (S j).a o, r < nx
        · obtain ⟨t, m, k, ho, r, hrr, hrx⟩ := hl
          have h3 := hr.readLook rd hM hF hDM hjM hi hw hk ho hrr hrx hv
          exact valOp_run (h := hd) ((valOp_congr hlook).trans h3) hi.frame w fun r _ => hi.rel.obj r
        · refine valOp_run hv' hi.frame w (hrc ▸ hr.readRow rd hM hF hDM hjM h00 hi hw hk hkn ?_)
          intro r hrr e
          cases hsf : softB ops nx j e (readsOf (S j).a o) with
          | false => rfl
          | true =>
            refine absurd ?_ hl
            unfold softB at hsf
            rw [getL_eq, getL_eq, rd.op] at hsf
            cases hoe : ops[e]? with
            | none => rw [hoe] at hsf; cases hsf
            | some oe =>
              rw [hoe] at hsf
              have hsf : (softO o oe && allL (fun r => Nat.ble (Nat.succ r) nx) (readsOf (S j).a o)) = true := hsf
              rw [Bool.and_eq_true, allL_eq, List.all_eq_true] at hsf
              have h4 := hsf.2 r hrr
              rw [nat_ble, decide_eq_true_eq] at h4
              have h1 := hsf.1
              unfold softO at h1
              split at h1
              · rename_i t m k u m' k' h5 h6
                exact ⟨t, m, k, h5, r, hrr, h4⟩
              · cases h1
      obtain ⟨u, h1, h2⟩ := hrun
      refine wpIn_of_run (defer_not (.inr ⟨_, _, _, hv⟩)) (.inl h1) ⟨⟨ρ, q, hd, hr.still rd hi hc hob h2⟩, fun hMj => noF hc fun o' h3 _ _ r h4 => ?_⟩
      rw [rd.op] at h3; cases h3
      obtain ⟨p, hp⟩ := hkn r h4
      have h5 := (hi.rel.dom r p hp).1
      rw [hi.next] at h5
      have hqj : q ≤ j := by
        rcases hi.front with h | ⟨e, h1, h2⟩
        · omega
        · have := hDM e h2; omega
      exact Nat.lt_of_lt_of_le h5 (hr.next_le hM hF j hqj hjM)
    | cre =>
      have hc : ¬ Chain ops S j := fun h => by rw [hk] at chq; exact not_cre (chq h).2
      obtain ⟨ob, h1, h2, _⟩ := st.cre hw hk
      have hob : obF P ops S j = some ob := by
        unfold obF
        rw [rd.op, Option.bind_some, if_pos ⟨hw, hk⟩]
        exact h1
      have h1' : creOp P (fD ops V D (S 0).a ops.length) o = some ob := by rw [creOp_congr hlook]; exact h1
      have h2' : creVal (fD ops V D (S 0).a ops.length) o (S j).nm = some (V j) := by rw [creVal_congr hlook]; exact h2
      obtain ⟨u, o', e1, e2, e3⟩ := creOp_run h1' h2' hi.frame w
      have hUj : U P ops S q j ob := by
        refine ⟨hob, fun e he hce hlt => ?_⟩
        cases hb : bit (ancOf (ancs ops []) e) j with
        | false => rfl
        | true =>
          have := anc_D rd ((hi.chain e hce).2 he) hce.lt hb
          rw [rd.not] at this; cases this
      have hno := hi.unl j ob hUj rd.not
      obtain ⟨e4, e5⟩ := e3 (upd ρ (S j).nm ⟨w.heap.size, 0, 0, 0⟩) (upd_le _ hno) (upd_same _ _ _)
      refine wpIn_of_run (creOp_not h1) (.inl e1) ⟨⟨_, _, _, hr.laidNew rd hi hh hM hF hDM hc hob e4 e5 hUj⟩, fun _ => noF hc fun o' h3 _ h4 => ?_⟩
      rw [rd.op] at h3; cases h3
      rw [hk] at h4; cases h4
    | eff => exact hr.chainStep rd hM hF hjM h00 hN hE hR hr0 hh hi ⟨o, rd.op, hw, .inl hk⟩ fun u w' ρ' hd' h1 h2 => ⟨⟨ρ', _, hd', h1⟩, fun _ => h2⟩
    | call => exact hr.chainStep rd hM hF hjM h00 hN hE hR hr0 hh hi ⟨o, rd.op, hw, .inr hk⟩ fun u w' ρ' hd' h1 h2 => ⟨⟨ρ', _, hd', h1⟩, fun _ => h2⟩
end
variable {base : Nat} {ρ0 : Rn} {h0 : Hp} {w0 : World} (h00 : ∀ r o, nx ≤ r → (S 0).h.rows.get r = some o → o = .dead) (hN : Plain P) (hE : Entered P R) (hR : Ok P R) (hr0 : RelH P ρ0 base h0 w0) (hh : h0.next = nx)
include h00 hN hE hR hr0 hh
/-- In the given order. -/
theorem facts (hi : ∃ x w ρ q hd, Inv P ops S V base ρ0 h0 w0 (fun _ => false) x w ρ q hd) : ∀ j, j ≤ ops.length → (∀ k, k < j → Facts ops S k) ∧ ∃ x w ρ q hd, Inv P ops S V base ρ0 h0 w0 (fun k => decide (k < j)) x w ρ q hd
  | 0, _ => ⟨fun k h => by omega, by
      have : (fun k => decide (k < 0)) = fun _ : Nat => false := by funext k; simp
      rw [this]; exact hi⟩
  | j + 1, h => by
    obtain ⟨hF, x, w, ρ, q, hd, hi'⟩ := facts hi j (by omega)
    obtain ⟨o, ho⟩ := op_at (ops := ops) (k := j) (by omega)
    have rd : Ready ops (fun k => decide (k < j)) (fun k => decide (k < j + 1)) j o := {
      op := ho
      not := by simp
      deps := fun e he hb => by simpa using hr.back ho e he hb
      closed := fun k o' h1 h2 e he hb => by
        have := hr.back h2 e he hb
        simp only [decide_eq_true_eq] at h1 ⊢
        omega
      same := fun k hk => by
        by_cases h1 : k < j
        · rw [decide_eq_true h1, decide_eq_true (show k < j + 1 by omega)]
        · rw [decide_eq_false h1, decide_eq_false (show ¬ k < j + 1 by omega)]
      now := by simp }
    obtain ⟨x', w', ⟨ρ', q', hd', h1⟩, h2⟩ := wpOpIn_exists (rb := none) (n := 0) (hr.stepOk rd (by omega) hF (fun k h => by simpa using h) (Nat.le_refl _) h00 hN hE hR hr0 hh hi')
    refine ⟨fun k hk => ?_, x', w', ρ', q', hd', h1⟩
    by_cases hkj : k = j
    · subst hkj; exact h2 (Nat.le_refl _)
    · exact hF k (by omega)
theorem anyOk (hF : ∀ e, e < ops.length → Facts ops S e) {rb : Option Nat} {n : Nat} {Q : Exit → Act → World → Prop}
    (hQ : ∀ D x w ρ q hd, (∀ k, k < ops.length → D k = true) → (∀ k, D k = true → k < ops.length) → Inv P ops S V base ρ0 h0 w0 D x w ρ q hd → Q .normal x w) :
    ∀ (fuel : Nat) (listed : Array Bool) (x : Act) (w : World), listed.size = ops.length → listed.toList.count false ≤ fuel → (∀ k o, listed.getD k false = true → ops[k]? = some o → ∀ e ∈ o.after, Region.binds .any e = true → listed.getD e.on false = true) →
      (∃ ρ q hd, Inv P ops S V base ρ0 h0 w0 (fun k => listed.getD k false) x w ρ q hd) → wpAnyIn (WF rb) n P .any ops.toArray Q fuel listed x w := by
  have all : ∀ listed : Array Bool, listed.size = ops.length → Region.ready .any ops.toArray listed = [] → ∀ k, k < ops.length → listed.getD k false = true := by
    intro listed hsz hnil k
    induction k using Nat.strongRecOn with
    | ind k ih =>
      intro hk
      obtain ⟨o, ho⟩ := op_at hk
      cases hl : listed.getD k false with
      | true => rfl
      | false =>
        have hm : k ∈ Region.ready .any ops.toArray listed := mem_ready.2 ⟨by
          have hlt : k < listed.size := by omega
          simp only [Array.getD, hlt, dite_true] at hl ⊢
          exact hl, o, by simpa using ho, fun e he hb => ih e.on (hr.back ho e he hb) (by have := hr.back ho e he hb; omega)⟩
        rw [hnil] at hm
        cases hm
  have inN : ∀ listed : Array Bool, listed.size = ops.length → ∀ k, listed.getD k false = true → k < ops.length := by
    intro listed hsz k hk
    rcases Nat.lt_or_ge k listed.size with h | h
    · omega
    · have hn : ¬ k < listed.size := by omega
      simp only [Array.getD, hn, dite_false] at hk
      cases hk
  intro fuel
  induction fuel with
  | zero =>
    intro listed x w hsz hcnt hcl ⟨ρ, q, hd, hi⟩
    have hall : ∀ k, k < ops.length → listed.getD k false = true := by
      intro k hk
      have h1 : listed.toList.count false = 0 := by omega
      rw [List.count_eq_zero] at h1
      have hlt : k < listed.size := by omega
      simp only [Array.getD, hlt, dite_true]
      cases hv : listed[k] with
      | true => exact hv
      | false => exact absurd (by rw [← hv]; exact Array.getElem_mem_toList hlt) h1
    have hnil : Region.ready .any ops.toArray listed = [] := by
      rw [List.eq_nil_iff_forall_not_mem]
      intro k hk
      obtain ⟨h1, o, h2, _⟩ := mem_ready.1 hk
      have hk : k < ops.length := op_lt (by simpa using h2)
      have := hall k hk
      have hlt : k < listed.size := by omega
      simp only [Array.getD, hlt, dite_true] at h1 this
      rw [h1] at this; cases this
    exact ⟨hnil, hQ _ x w ρ q hd hall (inN listed hsz) hi⟩
  | succ fuel ih =>
    intro listed x w hsz hcnt hcl ⟨ρ, q, hd, hi⟩
    refine ⟨fun hnil => hQ _ x w ρ q hd (all listed hsz hnil) (inN listed hsz) hi, fun j hj => ?_⟩
    obtain ⟨h1, o, h2, h3⟩ := mem_ready.1 hj
    have ho : ops[j]? = some o := by simpa using h2
    have hlt : j < listed.size := by have := op_lt ho; omega
    have hset : ∀ k, (listed.setIfInBounds j true).getD k false = if k = j then true else listed.getD k false := by
      intro k
      simp only [Array.getD_eq_getD_getElem?, Array.getElem?_setIfInBounds]
      by_cases hk : k = j
      · subst hk; simp [hlt]
      · rw [if_neg (fun e => hk e.symm), if_neg hk]
    have hno : listed.getD j false = false := by
      simp only [Array.getD, hlt, dite_true] at h1 ⊢
      exact h1
    have hv : listed[j] = false := by
      simp only [Array.getD, hlt, dite_true] at h1
      exact h1
    have rd : Ready ops (fun k => listed.getD k false) (fun k => (listed.setIfInBounds j true).getD k false) j o := {
      op := ho
      not := hno
      deps := fun e he hb => h3 e he hb
      closed := hcl
      same := fun k hk => by simp only [hset, if_neg hk]
      now := by simp only [hset, if_true] }
    have hDM := inN listed hsz
    refine wpOpIn_mono (fun x' w' h4 => ?_) (hr.stepOk rd (Nat.le_refl _) hF hDM (Nat.le_of_lt (op_lt ho)) h00 hN hE hR hr0 hh hi)
    obtain ⟨h5, _⟩ := h4
    refine ih _ x' w' (by simpa using hsz) ?_ ?_ h5
    · have h6 : (listed.setIfInBounds j true).toList = listed.toList.set j true := by simp
      rw [h6, List.count_set (by simpa using hlt)]
      have h7 : listed.toList[j]'(by simpa using hlt) = false := by simpa using hv
      have h8 : 0 < listed.toList.count false := List.count_pos_iff.2 (by rw [← h7]; exact List.getElem_mem _)
      rw [h7]
      have h9 : ((true : Bool) == false) = false := rfl
      have h10 : ((false : Bool) == false) = true := rfl
      rw [h9, h10, if_pos rfl, if_neg (by simp)]
      omega
    · intro k o' h6 h7 e he hb
      rw [hset] at h6 ⊢
      by_cases hej : e.on = j
      · rw [if_pos hej]
      · rw [if_neg hej]
        by_cases hk : k = j
        · subst hk
          rw [ho] at h7; cases h7
          exact h3 e he hb
        · rw [if_neg hk] at h6
          exact hcl k o' h6 h7 e he hb
end Run
theorem fD_all {D : Nat → Bool} {a : Fr} : ∀ m, (∀ k, k < m → D k = true) → fD ops V D a m = fD ops V (fun _ => true) a m
  | 0, _ => rfl
  | m + 1, h => by simp only [fD, h m (Nat.lt_succ_self _), if_true, fD_all m (fun k hk => h k (by omega))]
/-- A region that draws. -/
theorem draw_ok (hm : P.follows .mixedOrders = true) (hN : Plain P) (hE : Entered P R) (hR : Ok P R) : DrawOk P R := by
  intro mark ops a h out a' h' he ρ0 base x w rb n id hs
  unfold evRegion at he
  rw [sel_eq] at he
  split at he
  case isFalse => cases he
  rename_i hslots
  obtain ⟨S, V, hS, hstep, hend⟩ := trace_of _ _ he
  unfold dEnd at hend
  rw [sel_eq] at hend
  split at hend
  case isFalse => cases hend
  rename_i hap
  injection hend with q1 q2 q3
  have hr : Run P R ops S V h.next := ⟨hstep, by rw [hS], by rw [hS], by rw [hS], by rw [hS], by rw [hS]; rfl, hslots, hap⟩
  have h00 : ∀ r o, h.next ≤ r → (S 0).h.rows.get r = some o → o = .dead := by
    intro r o h1 h2
    rw [hS] at h2
    by_cases hd : o = .dead
    · exact hd
    · obtain ⟨p, h3, _⟩ := hs.heap.obj r o h2 hd
      have := (hs.heap.dom r p h3).1
      omega
  have ha0 : (S 0).a = a := by rw [hS]
  have hi0 : ∀ D : Nat → Bool, (∀ k, D k = false) → Inv P ops S V base ρ0 h w D x { w with drawn := w.drawn + 1 } ρ0 0 { h with next := h.next + creN ops } := by
    intro D hD
    have hf : ∀ m, fD ops V D a m = a := by
      intro m
      induction m with
      | zero => rfl
      | succ m ih => simp only [fD, hD m]; exact ih
    exact {
      front := .inl rfl
      chain := fun e _ => by simp [hD e]
      rel := (hs.heap.sub (h' := { h with next := h.next + creN ops }) (fun r o e _ => e) rfl (Nat.le_add_right _ _)).heap rfl
      hb := hs.base
      next := by rw [hS]; rfl
      grps := by rw [hS]
      mods := rfl
      laid := fun k ob _ h1 => by rw [hD k] at h1; cases h1
      rows := fun r _ => by rw [hS]
      unl := fun k ob h1 _ => hs.heap.noName (hr.nm_lt h1.1).1
      frame := by rw [ha0, hf]; exact hs.frame
      defers := by rw [ha0]; exact hs.defers
      post := ⟨.refl _, fun _ _ e => .inl e, Nat.le_add_right _ _, rfl, rfl, rfl, Nat.le_refl _, fun _ _ _ => rfl, fun _ e => e, fun _ e => by omega, fun r o _ e d => ⟨o, e, d⟩⟩ }
  have hF := (hr.facts h00 hN hE hR hs.heap rfl ⟨x, _, ρ0, 0, _, hi0 _ fun _ => rfl⟩ ops.length (Nat.le_refl _)).1
  refine wpIn_region_any hm (hr.anyOk h00 hN hE hR hs.heap rfl hF ?_ _ _ _ _ (by simp) ?_ ?_ ⟨ρ0, 0, _, hi0 _ fun k => ?_⟩)
  · intro D x' w' ρ q hd hall hDN hi
    have hq : q ≤ ops.length := by
      rcases hi.front with h | ⟨e, h1, h2⟩
      · omega
      · have := hDN e h2; omega
    have hnoc : ∀ e, q ≤ e → e < ops.length → ¬ Chain ops S e := fun e h1 h2 h3 => by have := (hi.chain e h3).1 (hall e h2); omega
    have hheap : (S ops.length).h = (S q).h := hr.heap_range _ hq (Nat.le_refl _) hnoc
    have hUN : ∀ k ob, U P ops S q k ob → U P ops S ops.length k ob := fun k ob h => ⟨h.1, fun e he hce hlt => h.2 e ((hi.chain e hce).1 (hall e he)) hce hlt⟩
    have hpend := hr.pend ops.length (Nat.le_refl _)
    have hrows : ∀ r, (addP (S ops.length).h (S ops.length).pend).rows.get r = hd.rows.get r := by
      intro r
      rcases addP_get (S ops.length).pend (S ops.length).h r with ⟨⟨k, m, ob⟩, h1, h2, h3⟩ | ⟨h1, h2⟩
      · obtain ⟨h4, h5, h6⟩ := (hpend k m ob).1 h1
        rw [h3, ← h2]
        simp only [h6]
        exact (hi.laid k ob (h5.mono hq) (hall k h4)).symm
      · rw [h2, hheap]
        exact (hi.rows r fun k ob hU e => h1 (k, (S k).nm, ob) ((hpend _ _ _).2 ⟨(hr.nm_succ hU.1).2, hUN k ob hU, rfl⟩) e).symm
    obtain ⟨r1, r2, r3⟩ := addP_rest (S ops.length).pend (S ops.length).h
    refine ⟨by rw [← q1]; rfl, ρ, ?_⟩
    have hfr : fD ops V D (S 0).a ops.length = (S ops.length).a := by rw [hr.frame ops.length (Nat.le_refl _), fD_all _ hall]
    subst q2 q3
    have hstay : ∀ r, r < mark → (∀ e, Chain ops S e → r ∉ (S (e + 1)).h.mods) → ∀ q, q ≤ ops.length → (S q).h.rows.get r = h.rows.get r := by
      intro r hlt hno q
      induction q with
      | zero => intro _; rw [hS]
      | succ q ih =>
        intro hq
        by_cases hc : Chain ops S q
        · have hlt2 : r < h.next := Nat.lt_of_lt_of_le hlt hs.mark
          have hlt3 : r < (S q).h.next := by
            have := hr.next_le (Nat.le_refl _) hF (q := 0) q (Nat.zero_le _) (by omega)
            rw [hr.next0] at this
            omega
          rw [(hF q (by omega)).mods hc r hlt3 (hno q hc), hr.lay_out (by omega)]
          · exact ih (by omega)
          · intro k ob _ hU _ e
            have := (hr.nm_lt hU.1).1
            omega
        · rw [hr.heap (by omega) hc]; exact ih (by omega)
    refine ⟨?_, ?_, ?_, ?_⟩
    · refine hi.rel.sub (fun r o e _ => ?_) ?_ ?_
      · rw [← hrows]; exact e
      · rw [hi.grps, ← hheap]; exact r2
      · rw [hi.next, ← hheap]; exact Nat.le_of_eq r1.symm
    · rw [← hfr]; exact hi.frame
    · have := hi.defers
      rw [← hfr, fD_marks]; exact this
    · have p0 := hi.post
      refine ⟨p0.le, p0.new, ?_, p0.os, p0.tape, p0.output, p0.size, p0.keep, fun r e => List.mem_append_right _ e, ?_, fun r o e1 e2 e3 => p0.alive r o e1 (by rw [← hrows]; exact e2) e3⟩
      · have := p0.next
        rw [hi.next, ← hheap, ← r1] at this
        exact this
      · intro r hlt hno
        change (addP (S ops.length).h (S ops.length).pend).rows.get r = _
        have hlt2 : r < h.next := Nat.lt_of_lt_of_le hlt hs.mark
        have hne : ∀ p ∈ (S ops.length).pend, p.2.1 ≠ r := by
          rintro ⟨k, m, ob⟩ h1 h2
          obtain ⟨_, h5, h6⟩ := (hpend k m ob).1 h1
          have := (hr.nm_lt h5.1).1
          simp only at h2
          omega
        rcases addP_get (S ops.length).pend (S ops.length).h r with ⟨p, h1, h2, _⟩ | ⟨_, h2⟩
        · exact absurd h2 (hne p h1)
        · rw [h2]
          refine hstay r hlt (fun e hce hm => hno ?_) _ (Nat.le_refl _)
          refine List.mem_append_left _ (List.mem_filter.2 ⟨List.mem_flatMap.2 ⟨_, hr.inWr hce, hm⟩, ?_⟩)
          rw [sel_eq, nat_ble, nat_ble, if_pos (by simp only [decide_eq_true_eq]; exact hlt2)]
          simp only [decide_eq_true_eq]; exact hlt
  · simp
  · intro k o h1
    simp [Array.getD] at h1
  · simp [Array.getD]
end
end Go.Ev
end

section
namespace Go.Ev
open Go.RowKit (Below)
section
variable {P : Program} {O : Orc}
theorem eval_ok (hm : P.follows .mixedOrders = true) (hN : Plain P) (hO : OrcOk P O) (n : Nat) : Ok P (recN P O n) := (recN_ok hN hO (fun _ h1 h2 => draw_ok hm hN h2 h1) n).1
def hp0 : Hp := { rows := .nil, grps := .nil, next := 0, mods := [] }
def rn0 : Rn := fun _ => none
theorem relH0 (w : World) : RelH P rn0 w.heap.size hp0 w where
  dom := fun r p e => by cases e
  obj := fun r o e _ => by cases e
  sep := fun r s o q p p' e1 _ _ _ _ _ _ => by cases e1
  grp := fun r o g e _ _ => by cases e
/-- A call whose arguments hold no address. -/
theorem closed_call (hm : P.follows .mixedOrders = true) (hN : Plain P) (hO : OrcOk P O) {n k : Nat} {args : List AV} {us : List Value} (hus : VRs rn0 args us) {v : AV} {h' : Hp} (he : (recN P O n).call 0 k args hp0 = .ok v h') (w : World) :
    Calls P k us.toArray w fun e w' => ∃ u ρ', e = .returned u ∧ VR ρ' v u ∧ RelH P ρ' w.heap.size h' w' ∧ Below w.heap.size w w' :=
  ((eval_ok hm hN hO n).call 0 k args hp0 v h' he rn0 w.heap.size w us (relH0 w) (Nat.le_refl _) (Nat.zero_le _) hus).mono fun _ _ ⟨u, ρ', h1, h2, h3, h4⟩ => ⟨u, ρ', h1, h2, h3, h4.below (relH0 (P := P) w) (Nat.le_refl _)⟩
noncomputable def saysB (b : Bool) (r : VRes) : Bool := VRes.rec false (fun v _ => v.boolE false fun c => Bool.rec (not b) b c) r
theorem saysB_ok {b : Bool} {r : VRes} (h : saysB b r = true) : ∃ h', r = .ok (.bool b) h' := by
  cases r with
  | bad => cases h
  | ok v h' =>
    cases v <;> first | (rename_i c; cases c <;> cases b <;> first | exact ⟨h', rfl⟩ | cases h) | cases h
theorem closed_bool (hm : P.follows .mixedOrders = true) (hN : Plain P) (hO : OrcOk P O) {n k : Nat} {args : List AV} {us : List Value} (hus : VRs rn0 args us) {b : Bool} (he : saysB b ((recN P O n).call 0 k args hp0) = true) (w : World) :
    Calls P k us.toArray w fun e w' => e = .returned (.bool b) ∧ Below w.heap.size w w' := by
  obtain ⟨h', he⟩ := saysB_ok he
  refine (closed_call hm hN hO hus he w).mono ?_
  rintro e w' ⟨u, ρ', rfl, h1, _, h2⟩
  cases h1
  exact ⟨rfl, h2⟩
/-- Older memory stays. -/
theorem RelH.below {ρ : Rn} {base : Nat} {h : Hp} {w w' : World} (hr : RelH P ρ base h w) (hB : Below w.heap.size w w') : RelH P ρ base h w' where
  dom := fun r p e => let ⟨a, b, c⟩ := hr.dom r p e; ⟨a, b, Nat.lt_of_lt_of_le c hB.size⟩
  obj := fun r o e d => let ⟨p, e1, e2⟩ := hr.obj r o e d; ⟨p, e1, e2.keep (.refl _) (hB.block _ (hr.dom r p e1).2.2)⟩
  sep := hr.sep
  grp := hr.grp
theorem Post.below' {ρ : Rn} {h : Hp} {w w' : World} {mark : Nat} (hB : Below w.heap.size w w') : Post ρ h w mark ρ h w' where
  le := .refl _
  new := fun _ _ e => .inl e
  next := Nat.le_refl _
  os := hB.os
  tape := hB.tape
  output := hB.output
  size := hB.size
  keep := fun b hb _ => hB.block b hb
  modsLe := fun _ h => h
  mods := fun _ _ _ => rfl
  alive := fun _ o _ h hd => ⟨o, h, hd⟩
def orc0 : Orc := fun _ _ _ => none
theorem orc0_ok : OrcOk P orc0 := fun _ _ _ _ _ h => by cases h
/-- A function without arguments that says b. -/
noncomputable def orcB (k0 : Nat) (b : Bool) (O : Orc) : Orc := fun k args h => Bool.rec (O k args h) (List.rec (some (.bool b, h)) (fun _ _ _ => none) args) (Nat.beq k k0)
theorem orcB_ok (hO : OrcOk P O) {k0 : Nat} {b : Bool} {fn : Func} {c : Code} (h1 : P.funcs[k0]? = some fn) (h2 : fn.body = some c) (h3 : ∀ w, Calls P k0 #[] w fun e w' => e = .returned (.bool b) ∧ Below w.heap.size w w') : OrcOk P (orcB k0 b O) := by
  intro k args h v h' he
  unfold orcB at he
  rw [nat_beq] at he
  by_cases hk : k = k0
  · subst hk
    simp only [decide_true] at he
    cases args with
    | cons a l => cases he
    | nil =>
      cases he
      refine ⟨⟨fn, c, h1, h2⟩, fun mark ρ base w us hr hb hm hus => ?_⟩
      cases hus
      refine (h3 w).mono ?_
      rintro e w' ⟨rfl, hB⟩
      exact ⟨_, ρ, rfl, .bool b, hr.below hB, .below' hB⟩
  · rw [decide_eq_false hk] at he
    exact hO k args h v h' he
theorem plain_of (h : P.funcs.toList.all (fun f => !(f.name == "runtime.NumGoroutine")) = true) : Plain P := by
  intro k fn hk
  rw [List.all_eq_true] at h
  have := h fn (by rw [← Array.getElem?_toList] at hk; exact List.mem_of_getElem? hk)
  simpa using this
end
end Go.Ev
end

noncomputable section
namespace Go.Ev
open Go.RowKit (Below)

/-- What code comes to from a frame and memory by names. -/
def SegC (P : Program) (m : Nat) (c : Code) (a : Fr) (h : Hp) (o : Out) (a' : Fr) (h' : Hp) : Prop :=
  ∀ ρ base x w, St P ρ base m a h x w → c.wpIn (WF none) 0 P (fun e x' w' => e = exitOf o ∧ After P ρ base m h w a' h' x' w') x w
/-- .. what rounds come to. -/
def SegR (P : Program) (m : Nat) (c : Code) (k : Nat) (a : Fr) (h : Hp) (o : Out) (a' : Fr) (h' : Hp) : Prop :=
  ∀ ρ base x w, St P ρ base m a h x w → Code.roundsIn (WF none) 0 P c (fun e x' w' => e = exitOf o ∧ After P ρ base m h w a' h' x' w') k x w
/-- .. what a call comes to. -/
def CallS (P : Program) (m k : Nat) (args : List AV) (h : Hp) (v : AV) (h' : Hp) : Prop :=
  ∀ ρ base w us, RelH P ρ base h w → base ≤ w.heap.size → m ≤ h.next → VRs ρ args us →
    Calls P k us.toArray w fun e w' => ∃ u ρ', e = .returned u ∧ VR ρ' v u ∧ RelH P ρ' base h' w' ∧ Post ρ h w m ρ' h' w'
section
variable {P : Program} {R : Rec} {m : Nat}
theorem seg_run (hR : Ok P R) {c : Code} {a a' : Fr} {h h' : Hp} {o : Out} (he : R.code m none c a h = .ok o a' h') : SegC P m c a h o a' h' := fun ρ base x w hs => hR.code _ _ _ _ _ _ _ _ he ρ base x w none 0 hs .none
theorem call_run (hR : Ok P R) {k : Nat} {args : List AV} {h h' : Hp} {v : AV} (he : R.call m k args h = .ok v h') : CallS P m k args h v h' := fun ρ base w us h1 h2 h3 h4 => hR.call _ _ _ _ _ _ he ρ base w us h1 h2 h3 h4

/-! Less is known. -/
def eqO2 (x y : Option AObj) : Bool :=
  match x, y with
  | some .defd, some .defd => true
  | x, y => eqO x y
theorem eqO2_ok {x y : Option AObj} (h : eqO2 x y = true) : x = y := by
  unfold eqO2 at h
  split at h
  · rfl
  · exact eqO_ok h
def rowsL : List (Nat × AObj) → Tr AObj
  | [] => .nil
  | p :: l => Tr.set (rowsL l) p.1 (some p.2)
def heapL (l : List (Nat × AObj)) (n : Nat) : Hp := { rows := rowsL l, grps := .nil, next := n, mods := [] }
def keepB (m : Nat) (h h2 : Hp) : Bool := Nat.rec true (fun r ih => Bool.rec false ih (eqO2 (h.rows.get r) (h2.rows.get r))) m
def rowsB (h : Hp) (l : List (Nat × AObj)) : Bool := allL (fun p => eqO2 (h.rows.get p.1) (some p.2) && eqG (grpOf p.2) none) l
/-- A frame and memory, of which less is known. -/
def lessB (m : Nat) (a : Fr) (h : Hp) (a2 : Fr) (l : List (Nat × AObj)) : Bool :=
  frOk a2 a && (eqNs h.mods [] && (rowsB h l && keepB m h (heapL l h.next)))
theorem rowsL_get : ∀ {l : List (Nat × AObj)} {r : Nat} {o : AObj}, (rowsL l).get r = some o → (r, o) ∈ l
  | [], r, o, h => by cases h
  | p :: l, r, o, h => by
    unfold rowsL at h
    rw [Tr.get_set] at h
    by_cases hr : r = p.1
    · rw [if_pos hr] at h
      cases h
      rw [hr]
      exact List.mem_cons_self ..
    · rw [if_neg hr] at h
      exact List.mem_cons_of_mem _ (rowsL_get h)
theorem keepB_ok {h h2 : Hp} : ∀ {m : Nat}, keepB m h h2 = true → ∀ r, r < m → h.rows.get r = h2.rows.get r
  | 0, _, r, hr => by omega
  | m + 1, hk, r, hr => by
    have hk : (Bool.rec false (keepB m h h2) (eqO2 (h.rows.get m) (h2.rows.get m)) : Bool) = true := hk
    cases he : eqO2 (h.rows.get m) (h2.rows.get m) with
    | false => rw [he] at hk; cases hk
    | true =>
      rw [he] at hk
      by_cases hrm : r = m
      · subst hrm; exact eqO2_ok he
      · exact keepB_ok hk r (by omega)
theorem aft_less {ρ : Rn} {base : Nat} {h h' : Hp} {w : World} {a' a2 : Fr} {l : List (Nat × AObj)} {x' : Act} {w' : World} (hl : lessB m a' h' a2 l = true) (t : After P ρ base m h w a' h' x' w') : After P ρ base m h w a2 (heapL l h'.next) x' w' := by
  obtain ⟨ρ', t⟩ := t
  simp only [lessB, Bool.and_eq_true] at hl
  obtain ⟨h1, h2, h3, h4⟩ := hl
  have hmods := eqNs_ok h2
  have hrows : ∀ r o, (heapL l h'.next).rows.get r = some o → h'.rows.get r = some o ∧ grpOf o = none := by
    intro r o e
    have hm := rowsL_get e
    unfold rowsB at h3
    rw [allL_eq, List.all_eq_true] at h3
    have := h3 _ hm
    rw [Bool.and_eq_true] at this
    exact ⟨eqO2_ok this.1, eqG_ok this.2⟩
  refine ⟨ρ', ⟨?_, t.frame.start h1, ?_, ?_⟩⟩
  · refine ⟨t.heap.dom, fun r o e d => t.heap.obj r o (hrows r o e).1 d, fun r s o q p p' e1 d1 e2 d2 => t.heap.sep r s o q p p' (hrows r o e1).1 d1 (hrows s q e2).1 d2, fun r o g e _ e' => ?_⟩
    rw [(hrows r o e).2] at e'; cases e'
  · have := t.defers
    rw [(frOk_get h1).2.1] at this
    exact this
  · refine ⟨t.post.le, t.post.new, t.post.next, t.post.os, t.post.tape, t.post.output, t.post.size, t.post.keep, fun r e => ?_, fun r e1 _ => ?_, fun r o e1 e2 e3 => t.post.alive r o e1 (hrows r o e2).1 e3⟩
    · have := t.post.modsLe r e
      rw [hmods] at this
      exact this
    · rw [← keepB_ok h4 r e1]
      exact t.post.mods r e1 (by rw [hmods]; exact List.not_mem_nil)
theorem seg_less {c : Code} {a a' a2 : Fr} {h h' : Hp} {o : Out} {l : List (Nat × AObj)} (s : SegC P m c a h o a' h') (hl : lessB m a' h' a2 l = true) : SegC P m c a h o a2 (heapL l h'.next) :=
  fun ρ base x w hs => wpIn_mono (s ρ base x w hs) fun _ _ _ ⟨e, t⟩ => ⟨e, aft_less hl t⟩
/-- At the start, too. -/
theorem st_less {ρ : Rn} {base : Nat} {a a2 : Fr} {h : Hp} {x : Act} {w : World} (h1 : frOk a2 a = true) (s : St P ρ base m a h x w) : St P ρ base m a2 h x w :=
  ⟨s.heap, s.base, s.mark, s.frame.start h1, by have := s.defers; rw [(frOk_get h1).2.1] at this; exact this⟩

/-! Pieces joined. -/
theorem seg_seq {c d : Code} {a a1 a2 : Fr} {h h1 h2 : Hp} {o : Out} (s : SegC P m c a h .norm a1 h1) (t : SegC P m d a1 h1 o a2 h2) : SegC P m (.seq c d) a h o a2 h2 := by
  intro ρ base x w hs
  refine wpIn_seq (wpIn_mono (s ρ base x w hs) ?_)
  rintro e x1 w1 ⟨rfl, ρ1, t1⟩
  refine wpIn_mono (t ρ1 base x1 w1 (t1.st hs)) ?_
  rintro e x2 w2 ⟨rfl, ρ2, t2⟩
  exact ⟨rfl, ρ2, t1.trans hs t2⟩
theorem seg_block {c : Code} {i : Nat} {a a' : Fr} {h h' : Hp} (s : SegC P m c a h (.exit i) a' h') : SegC P m (.block i c) a h .norm a' h' := by
  intro ρ base x w hs
  refine wpIn_block (wpIn_mono (s ρ base x w hs) ?_)
  rintro e x1 w1 ⟨rfl, t⟩
  simp only [exitOf, Exit.inBlock]
  exact ⟨trivial, t⟩
theorem seg_loop {c : Code} {k : Nat} {a a' : Fr} {h h' : Hp} {o : Out} (s : SegR P m c k a h o a' h') : SegC P m (.loop c) a h o a' h' := fun ρ base x w hs => wpIn_loop_rounds k (s ρ base x w hs)
theorem seg_last {c : Code} {a a' : Fr} {h h' : Hp} {o : Out} (ho : o ≠ .norm) (s : SegC P m c a h o a' h') : SegR P m c 1 a h o a' h' := by
  intro ρ base x w hs
  rw [roundsIn_succ]
  refine wpIn_mono (s ρ base x w hs) ?_
  rintro e x1 w1 ⟨rfl, t⟩
  exact then_other ho ⟨rfl, t⟩
theorem roundsIn_mono {c : Code} {Q Q' : Exit → Act → World → Prop} (hq : ∀ e x w, Q e x w → Q' e x w) : ∀ (k : Nat) (x : Act) (w : World), Code.roundsIn (WF none) 0 P c Q k x w → Code.roundsIn (WF none) 0 P c Q' k x w
  | 0, _, _, h => h
  | k + 1, x, w, h => by
    rw [roundsIn_succ] at h ⊢
    refine wpIn_mono h fun e x1 w1 h1 => ?_
    cases e with
    | normal => exact roundsIn_mono hq k x1 w1 h1
    | _ => exact hq _ _ _ h1
theorem seg_round {c : Code} {k : Nat} {a a1 a' : Fr} {h h1 h' : Hp} {o : Out} (s : SegC P m c a h .norm a1 h1) (t : SegR P m c k a1 h1 o a' h') : SegR P m c (k + 1) a h o a' h' := by
  intro ρ base x w hs
  rw [roundsIn_succ]
  refine wpIn_mono (s ρ base x w hs) ?_
  rintro e x1 w1 ⟨rfl, ρ1, t1⟩
  have := t ρ1 base x1 w1 (t1.st hs)
  refine roundsIn_mono ?_ k _ _ this
  rintro e x2 w2 ⟨rfl, ρ2, t2⟩
  exact ⟨rfl, ρ2, t1.trans hs t2⟩
/-- Several rounds, one after another. -/
def roundsV (R : Rec) (m : Nat) (c : Code) : Nat → Fr → Hp → Res := Nat.rec (fun a h => .ok .norm a h) (fun _ ih a h => (R.code m none c a h).next ih)
theorem seg_rounds (hR : Ok P R) {c : Code} {k : Nat} {a1 a' : Fr} {h1 h' : Hp} {o : Out} : ∀ {j : Nat} {a : Fr} {h : Hp}, roundsV R m c j a h = .ok .norm a1 h1 → SegR P m c k a1 h1 o a' h' → SegR P m c (k + j) a h o a' h'
  | 0, a, h, he, t => by injection he with _ e1 e2; subst e1 e2; exact t
  | j + 1, a, h, he, t => by
    have he : (R.code m none c a h).next (roundsV R m c j) = .ok .norm a1 h1 := he
    rcases next_ok he with ⟨a2, h2, e1, e2⟩ | ⟨_, e2⟩
    · exact seg_round (seg_run hR e1) (seg_rounds hR e2 t)
    · exact absurd rfl e2
/-- A list of codes, one after another. -/
def listV (R : Rec) (m : Nat) : List Code → Fr → Hp → Res := List.rec (fun a h => .ok .norm a h) (fun c _ ih a h => (R.code m none c a h).next ih)
def seqs : List Code → Code → Code
  | [], d => d
  | c :: l, d => .seq c (seqs l d)
theorem seg_list (hR : Ok P R) {d : Code} {a1 a' : Fr} {h1 h' : Hp} {o : Out} : ∀ {l : List Code} {a : Fr} {h : Hp}, listV R m l a h = .ok .norm a1 h1 → SegC P m d a1 h1 o a' h' → SegC P m (seqs l d) a h o a' h'
  | [], a, h, he, t => by injection he with _ e1 e2; subst e1 e2; exact t
  | c :: l, a, h, he, t => by
    have he : (R.code m none c a h).next (listV R m l) = .ok .norm a1 h1 := he
    rcases next_ok he with ⟨a2, h2, e1, e2⟩ | ⟨_, e2⟩
    · exact seg_seq (seg_run hR e1) (seg_list hR e2 t)
    · exact absurd rfl e2
/-- A call. -/
theorem seg_call {k : Nat} {fn : Func} {body : Code} (hfn : P.funcs[k]? = some fn) (hbody : fn.body = some body) {args : List AV} {h h1 h' : Hp} {v : AV} {o : Out} {a' : Fr} (ho : o = .norm ∨ o = .ret)
    (s : SegC P m body { tmps := argsT args 0 .nil, nt := max (sizeL args) fn.ntmps, marks := [] } h o a' h1) (hleave : leave P m fn a' h1 = .ok v h') : CallS P m k args h v h' := by
  intro ρ base w us hr hb hm hus
  refine (callsIn_wide (n := 0)).1 (callsIn_of_wp_marks hfn hbody trivial ?_)
  have hs : St P ρ base m { tmps := argsT args 0 .nil, nt := max (sizeL args) fn.ntmps, marks := [] } h { tmps := us.toArray ++ Array.replicate (fn.ntmps - us.toArray.size) Go.undef, defers := [] } w := ⟨hr, hb, hm, args_rel hus fn.ntmps, .nil⟩
  refine wpIn_mono (s ρ base _ w hs) ?_
  rintro e x1 w1 ⟨rfl, ρ1, t1⟩
  obtain ⟨h2, hd, hres⟩ := oV_ok hleave
  have key : LeavesInM Fence.wide 0 P fn x1.tmps (fun e w' => ∃ u ρ', e = .returned u ∧ VR ρ' v u ∧ RelH P ρ' base h' w' ∧ Post ρ h w m ρ' h' w') x1.defers .returning w1 :=
    leave_run (mark := m) (t := a'.tmps) (nt := a'.nt) t1.heap ⟨t1.frame.size, t1.frame.get⟩ t1.defers hd hres (fun w' u h3 h4 h5 => ⟨u, ρ1, rfl, h5, h3, t1.post.trans hr h4⟩)
  rcases ho with rfl | rfl
  · exact key
  · exact key

/-! Pieces that are run by the kernel, with less known behind each. -/
theorem seg_start {d : Code} {a a2 a' : Fr} {h h' : Hp} {o : Out} {l : List (Nat × AObj)} (hl : lessB m a h a2 l = true) (s : SegC P m d a2 (heapL l h.next) o a' h') : SegC P m d a h o a' h' := by
  intro ρ base x w hs
  obtain ⟨ρ1, t1⟩ := aft_less hl (⟨ρ, Aft.refl hs⟩ : After P ρ base m h w a h x w)
  refine wpIn_mono (s ρ1 base x w (t1.st hs)) ?_
  rintro e x2 w2 ⟨rfl, ρ2, t2⟩
  exact ⟨rfl, ρ2, t1.trans hs t2⟩
theorem seg_startR {d : Code} {k : Nat} {a a2 a' : Fr} {h h' : Hp} {o : Out} {l : List (Nat × AObj)} (hl : lessB m a h a2 l = true) (s : SegR P m d k a2 (heapL l h.next) o a' h') : SegR P m d k a h o a' h' := by
  intro ρ base x w hs
  obtain ⟨ρ1, t1⟩ := aft_less hl (⟨ρ, Aft.refl hs⟩ : After P ρ base m h w a h x w)
  refine roundsIn_mono ?_ k _ _ (s ρ1 base x w (t1.st hs))
  rintro e x2 w2 ⟨rfl, ρ2, t2⟩
  exact ⟨rfl, ρ2, t1.trans hs t2⟩
def eqOut : Out → Out → Bool
  | .norm, .norm => true
  | .exit i, .exit j => Nat.beq i j
  | .ret, .ret => true
  | _, _ => false
theorem eqOut_ok {x y : Out} (h : eqOut x y = true) : x = y := by
  unfold eqOut at h
  split at h <;> first | rfl | cases h | skip
  rw [nat_beq, decide_eq_true_eq] at h
  rw [h]
def chk (m : Nat) (r : Res) (o : Out) (a2 : Fr) (l : List (Nat × AObj)) (nx : Nat) : Bool :=
  match r with
  | .ok o' a h => eqOut o' o && (Nat.beq h.next nx && lessB m a h a2 l)
  | .bad => false
theorem chk_some {r : Res} {o : Out} {a2 : Fr} {l : List (Nat × AObj)} {nx : Nat} (hc : chk m r o a2 l nx = true) : ∃ a h, r = .ok o a h ∧ h.next = nx ∧ lessB m a h a2 l = true := by
  unfold chk at hc
  split at hc
  · simp only [Bool.and_eq_true, nat_beq, decide_eq_true_eq] at hc
    exact ⟨_, _, by rw [eqOut_ok hc.1], hc.2.1, hc.2.2⟩
  · cases hc
theorem chk_list (hR : Ok P R) {d : Code} {a2 a' : Fr} {l : List (Nat × AObj)} {nx : Nat} {h' : Hp} {o : Out} {cs : List Code} {a : Fr} {h : Hp} (hc : chk m (listV R m cs a h) .norm a2 l nx = true) (s : SegC P m d a2 (heapL l nx) o a' h') : SegC P m (seqs cs d) a h o a' h' := by
  obtain ⟨a1, h1, e1, rfl, e3⟩ := chk_some hc
  exact seg_list hR e1 (seg_start e3 s)
theorem chk_code (hR : Ok P R) {c : Code} {a a2 : Fr} {h : Hp} {o : Out} {l : List (Nat × AObj)} {nx : Nat} (hc : chk m (R.code m none c a h) o a2 l nx = true) : SegC P m c a h o a2 (heapL l nx) := by
  obtain ⟨a1, h1, e1, rfl, e3⟩ := chk_some hc
  exact seg_less (seg_run hR e1) e3
theorem chk_rounds (hR : Ok P R) {c : Code} {k j : Nat} {a a2 a' : Fr} {h h' : Hp} {o : Out} {l : List (Nat × AObj)} {nx : Nat} (hc : chk m (roundsV R m c j a h) .norm a2 l nx = true) (s : SegR P m c k a2 (heapL l nx) o a' h') : SegR P m c (k + j) a h o a' h' := by
  obtain ⟨a1, h1, e1, rfl, e3⟩ := chk_some hc
  exact seg_rounds hR e1 (seg_startR e3 s)
/-- The last piece of a call. -/
theorem seg_end (hR : Ok P R) {k : Nat} {fn : Func} {body d : Code} (hfn : P.funcs[k]? = some fn) (hbody : fn.body = some body) {args : List AV} {h h' hd : Hp} {ad : Fr} {v : AV}
    (he : endCall P m fn (R.code m none d ad hd) = .ok v h') (s : ∀ o a' h1, SegC P m d ad hd o a' h1 → SegC P m body { tmps := argsT args 0 .nil, nt := max (sizeL args) fn.ntmps, marks := [] } h o a' h1) : CallS P m k args h v h' := by
  unfold endCall at he
  split at he
  · rename_i a' h1 hcode; exact seg_call hfn hbody (.inl rfl) (s _ _ _ (seg_run hR hcode)) he
  · rename_i a' h1 hcode; exact seg_call hfn hbody (.inr rfl) (s _ _ _ (seg_run hR hcode)) he
  · cases he
end
end Go.Ev
end

noncomputable section
namespace Go.Ev
open Go.RowKit (Below)

/-! Names in flat values. -/
def nm1 (v : AV) : List Nat :=
  match v with
  | .slice r _ _ _ _ => [r]
  | .ptr r _ => [r]
  | .map r => [r]
  | _ => []
def nmV (v : AV) : List Nat :=
  match v with
  | .agg l => l.flatMap nm1
  | .tup l => l.flatMap nm1
  | v => nm1 v
def nmL (l : List AV) : List Nat := l.flatMap nmV
def ren1 (f : Nat → Nat) (v : AV) : AV :=
  match v with
  | .slice r o n c b => .slice (f r) o n c b
  | .ptr r o => .ptr (f r) o
  | .map r => .map (f r)
  | v => v
def renV (f : Nat → Nat) (v : AV) : AV :=
  match v with
  | .agg l => .agg (l.map (ren1 f))
  | .tup l => .tup (l.map (ren1 f))
  | v => ren1 f v
/-- One part of a value: flat, its names among some. -/
def flat1 (p : Nat → Bool) (v : AV) : Bool :=
  match v with
  | .slice r _ _ _ _ => p r
  | .ptr r _ => p r
  | .map r => p r
  | .bool _ => true
  | .int _ _ => true
  | .nilp => true
  | .nils => true
  | .nilm => true
  | .nilf => true
  | .emp => true
  | _ => false
def flatV (p : Nat → Bool) (v : AV) : Bool :=
  match v with
  | .agg l => allL (flat1 p) l
  | .tup l => allL (flat1 p) l
  | v => flat1 p v
theorem ren1_rel {ρ σ : Rn} {f : Nat → Nat} {p : Nat → Bool} (hf : ∀ r q, p r = true → ρ r = some q → ∃ q', σ (f r) = some q' ∧ q'.b = q.b ∧ q'.o = q.o ∧ q'.cap = q.cap) {a : AV} {v : Value} (h : flat1 p a = true) (k : VR ρ a v) : VR σ (ren1 f a) v := by
  unfold flat1 at h
  cases k <;> simp only at h <;> first | cases h; done | skip
  case bool b => exact .bool b
  case int j n => exact .int j n
  case nilp => exact .nilp
  case ptr e => obtain ⟨q, h1, h2, h3, _⟩ := hf _ _ h e; rw [← h2, ← h3]; exact .ptr h1
  case nils => exact .nils
  case slice e hn => obtain ⟨q, h1, h2, h3, _⟩ := hf _ _ h e; rw [← h2, ← h3]; exact .slice h1 hn
  case rest e hn => obtain ⟨q, h1, h2, h3, h4⟩ := hf _ _ h e; rw [← h2, ← h3, ← h4]; exact .rest h1 (by rw [h4]; exact hn)
  case nilm => exact .nilm
  case map e => obtain ⟨q, h1, h2, _⟩ := hf _ _ h e; rw [← h2]; exact .map h1
  case emp a c => exact .emp a c
  case nilf => exact .nilf
theorem renL_rel {ρ σ : Rn} {f : Nat → Nat} {p : Nat → Bool} (hf : ∀ r q, p r = true → ρ r = some q → ∃ q', σ (f r) = some q' ∧ q'.b = q.b ∧ q'.o = q.o ∧ q'.cap = q.cap) : ∀ {l : List AV} {cs : List Value}, allL (flat1 p) l = true → VRs ρ l cs → VRs σ (l.map (ren1 f)) cs
  | [], _, _, .nil => .nil
  | a :: l, _, h, .cons h1 h2 => by
    rw [allL_eq, List.all_cons, Bool.and_eq_true, ← allL_eq] at h
    exact .cons (ren1_rel hf h.1 h1) (renL_rel hf h.2 h2)
theorem renV_rel {ρ σ : Rn} {f : Nat → Nat} {p : Nat → Bool} (hf : ∀ r q, p r = true → ρ r = some q → ∃ q', σ (f r) = some q' ∧ q'.b = q.b ∧ q'.o = q.o ∧ q'.cap = q.cap) {a : AV} {v : Value} (h : flatV p a = true) (k : VR ρ a v) : VR σ (renV f a) v := by
  unfold flatV at h
  cases k with
  | agg h1 => exact .agg (renL_rel hf h h1)
  | tup h1 => exact .tup (renL_rel hf h h1)
  | bool b => exact .bool b
  | int j n => exact .int j n
  | nilp => exact .nilp
  | ptr e => exact ren1_rel hf h (.ptr e)
  | nils => exact .nils
  | slice e hn => exact ren1_rel hf h (.slice e hn)
  | rest e hn => exact ren1_rel hf h (.rest e hn)
  | nilm => exact .nilm
  | map e => exact ren1_rel hf h (.map e)
  | func h1 h2 => cases h
  | str s => cases h
  | emp a c => exact .emp a c
  | yield e => cases h
  | nilf => exact .nilf
/-- The other way. -/
theorem ren1_back {ρ σ : Rn} {f : Nat → Nat} {p : Nat → Bool} (hf : ∀ r q, p r = true → σ (f r) = some q → ∃ q', ρ r = some q' ∧ q'.b = q.b ∧ q'.o = q.o ∧ q'.cap = q.cap) {a : AV} {v : Value} (h : flat1 p a = true) (k : VR σ (ren1 f a) v) : VR ρ a v := by
  cases a <;> simp only [flat1] at h <;> first | cases h; done | skip
  case bool b => cases k; exact .bool b
  case int j n => cases k; exact .int j n
  case nilp => cases k; exact .nilp
  case ptr r o => cases k with | ptr e => obtain ⟨q, h1, h2, h3, _⟩ := hf _ _ h e; rw [← h2, ← h3]; exact .ptr h1
  case nils => cases k; exact .nils
  case slice r o n c b =>
    cases k with
    | slice e hn => obtain ⟨q, h1, h2, h3, _⟩ := hf _ _ h e; rw [← h2, ← h3]; exact .slice h1 hn
    | rest e hn => obtain ⟨q, h1, h2, h3, h4⟩ := hf _ _ h e; rw [← h2, ← h3, ← h4]; exact .rest h1 (by rw [h4]; exact hn)
  case nilm => cases k; exact .nilm
  case map r => cases k with | map e => obtain ⟨q, h1, h2, _⟩ := hf _ _ h e; rw [← h2]; exact .map h1
  case emp => cases k; exact .emp _ _
  case nilf => cases k; exact .nilf
theorem renL_back {ρ σ : Rn} {f : Nat → Nat} {p : Nat → Bool} (hf : ∀ r q, p r = true → σ (f r) = some q → ∃ q', ρ r = some q' ∧ q'.b = q.b ∧ q'.o = q.o ∧ q'.cap = q.cap) : ∀ {l : List AV} {cs : List Value}, allL (flat1 p) l = true → VRs σ (l.map (ren1 f)) cs → VRs ρ l cs
  | [], _, _, .nil => .nil
  | a :: l, _, h, .cons h1 h2 => by
    rw [allL_eq, List.all_cons, Bool.and_eq_true, ← allL_eq] at h
    exact .cons (ren1_back hf h.1 h1) (renL_back hf h.2 h2)
theorem renV_back {ρ σ : Rn} {f : Nat → Nat} {p : Nat → Bool} (hf : ∀ r q, p r = true → σ (f r) = some q → ∃ q', ρ r = some q' ∧ q'.b = q.b ∧ q'.o = q.o ∧ q'.cap = q.cap) {a : AV} {v : Value} (h : flatV p a = true) (k : VR σ (renV f a) v) : VR ρ a v := by
  cases a with
  | agg l => cases k with | agg h1 => exact .agg (renL_back hf h h1)
  | tup l => cases k with | tup h1 => exact .tup (renL_back hf h h1)
  | _ => exact ren1_back hf h k
theorem renVs_back {ρ σ : Rn} {f : Nat → Nat} {p : Nat → Bool} (hf : ∀ r q, p r = true → σ (f r) = some q → ∃ q', ρ r = some q' ∧ q'.b = q.b ∧ q'.o = q.o ∧ q'.cap = q.cap) : ∀ {l : List AV} {cs : List Value}, allL (flatV p) l = true → VRs σ (l.map (renV f)) cs → VRs ρ l cs
  | [], _, _, .nil => .nil
  | a :: l, _, h, .cons h1 h2 => by
    rw [allL_eq, List.all_cons, Bool.and_eq_true, ← allL_eq] at h
    exact .cons (renV_back hf h.1 h1) (renVs_back hf h.2 h2)

/-! What is known. -/
def noN (_ : Nat) : Bool := false
/-- A row of values without names. -/
def rowOk (o : AObj) : Bool :=
  match o with
  | .row _ l _ none => allL (flat1 noN) l
  | _ => false
structure Con where
  k : FuncId
  args : List AV
  rows : List AObj
  v : AV
  new : List AObj
def Con.m (C : Con) : Nat := sizeL C.rows
def rowsT : List AObj → Nat → Tr AObj → Tr AObj
  | [], _, t => t
  | o :: l, i, t => rowsT l (Nat.succ i) (Tr.set t i (some o))
def Con.h (C : Con) : Hp := { rows := rowsT C.rows 0 .nil, grps := .nil, next := C.m, mods := [] }
def ltB (n r : Nat) : Bool := Nat.ble (Nat.succ r) n
/-- The same row, but for its group. -/
def eqR (x y : Option AObj) : Bool :=
  match x, y with
  | some (.row t l f _), some (.row u k e _) => Nat.beq t u && (eqLs (eqV 5) l k && (f == e))
  | _, _ => false
def flatE (es : List (AV × AV × Nat)) : Bool := allL (fun e => flatV noN e.1 && flatV noN e.2.1) es
/-- A row of the small heap: its names are the small heap's. -/
def rowS (m : Nat) (o : AObj) : Bool :=
  match o with
  | .row _ l _ none => allL (flat1 fun r => Nat.ble (Nat.succ r) m) l
  | .map es _ => flatE es
  | _ => false
/-- A row that holds what one of the small heap holds. -/
def eqRn (F : Nat → Nat) (x : Option AObj) (o : AObj) : Bool :=
  match x, o with
  | some (.row t l f _), .row u k e _ => Nat.beq t u && (eqLs (eqV 5) l (k.map (ren1 F)) && (f == e))
  | some (.map es c), .map fs d => eqEs es fs && Nat.beq c d
  | _, _ => false
def eqRns (h : Hp) (F : Nat → Nat) : List Nat → List AObj → Bool
  | [], [] => true
  | r :: l, o :: k => eqRn F (h.rows.get r) o && eqRns h F l k
  | _, _ => false
def nmO (o : Option AObj) : List Nat :=
  match o with
  | some (.row _ l _ _) => l.flatMap nm1
  | _ => []
def bfsN (h : Hp) : Nat → List Nat → List Nat → List Nat
  | 0, _, acc => acc
  | _ + 1, [], acc => acc
  | n + 1, r :: todo, acc => bfsN h n (todo ++ nmO (h.rows.get r)) (acc ++ nmO (h.rows.get r))
def namesOf (h : Hp) (args : List AV) : List Nat := bfsN h 60 (nmL args) (nmL args)
def eqRs (h : Hp) : List Nat → List AObj → Bool
  | [], [] => true
  | r :: l, o :: k => eqR (h.rows.get r) (some o) && eqRs h l k
  | _, _ => false
def noGrp : List AObj → Bool := allL fun o => match o with | .row _ _ _ none => true | _ => false
def noGrps (h : Hp) (l : List Nat) : Bool := allL (fun r => match h.rows.get r with | some (.row _ _ _ none) => true | _ => false) l
/-- What the evaluator says, by its own names nn for new rows. -/
def conRes (C : Con) (nn : List Nat) (r : VRes) : Bool :=
  match r with
  | .ok v h => eqNs h.mods [] && (eqV 5 (renV (fun r => Bool.rec (Option.rec 0 (fun x => x) (getL nn (Nat.sub r C.m))) r (ltB C.m r)) C.v) v && (eqRs h nn C.new && (Nat.ble (sizeL nn) 1 || noGrps h nn)))
  | .bad => false
def nodupB : List Nat → Bool
  | [] => true
  | r :: l => not (hasN r l) && nodupB l
/-- .. is well formed. -/
def conOk (C : Con) (nn : List Nat) : Bool :=
  allL (rowS C.m) C.rows && (allL rowOk C.new && (allL (flatV (ltB C.m)) C.args && (flatV (ltB (Nat.add C.m (sizeL nn))) C.v && (allL (fun r => Nat.ble C.m r) nn && Nat.beq (sizeL nn) (sizeL C.new) && nodupB nn))))
def killN : List Nat → Hp → Hp
  | [], h => h
  | r :: l, h => match h.rows.get r with | some (.row _ _ _ g) => killN l (h.kill h.next r g 0) | _ => killN l h
def newR : List AObj → Hp → Hp
  | [], h => h
  | o :: l, h => newR l (h.new o)
def conAns (C : Con) (args : List AV) (h : Hp) : Option (AV × Hp) :=
  let f := namesOf h args
  let h1 := killN f h
  sel (Nat.beq (sizeL f) C.m && (nodupB f && (eqLs (eqV 5) (C.args.map (renV fun r => Option.rec 0 (fun x => x) (getL f r))) args && eqRns h1 (fun r => Option.rec 0 (fun x => x) (getL f r)) f C.rows)))
    (some (renV (fun r => Bool.rec (Nat.add h.next (Nat.sub r C.m)) (Option.rec 0 (fun x => x) (getL f r)) (ltB C.m r)) C.v, newR C.new h1)) none
def orcCon (C : Con) (O : Orc) : Orc := fun k args h => Bool.rec (O k args h) (Option.rec (O k args h) (fun p => some p) (conAns C args h)) (Nat.beq k C.k)

section
variable {P : Program}
theorem flat_rel {ρ σ : Rn} {a : AV} {v : Value} (h : flat1 noN a = true) (k : VR ρ a v) : VR σ a v := by
  cases a <;> simp only [flat1, noN] at h <;> first | cases h; done | skip
  all_goals (cases k; constructor)
theorem rowsT_get : ∀ (l : List AObj) (i : Nat) (t : Tr AObj) (r : Nat), (rowsT l i t).get r = if i ≤ r ∧ r < i + l.length then l[r - i]? else t.get r
  | [], i, t, r => by rw [if_neg (by simp)]; rfl
  | o :: l, i, t, r => by
    change (rowsT l (i + 1) (Tr.set t i (some o))).get r = _
    rw [rowsT_get l (i + 1), Tr.get_set]
    simp only [List.length_cons]
    by_cases h1 : r = i
    · subst h1
      rw [if_neg (by omega), if_pos rfl, if_pos (by omega)]
      simp
    · by_cases h2 : i ≤ r ∧ r < i + (l.length + 1)
      · rw [if_pos (by omega), if_pos h2]
        have : r - i = (r - (i + 1)) + 1 := by omega
        rw [this]; rfl
      · rw [if_neg (by omega), if_neg h1, if_neg h2]
theorem newR_get : ∀ (l : List AObj) (h : Hp), (newR l h).next = h.next + l.length ∧ (newR l h).grps = h.grps ∧ (newR l h).mods = h.mods ∧ ∀ r, (newR l h).rows.get r = if h.next ≤ r ∧ r < h.next + l.length then l[r - h.next]? else h.rows.get r
  | [], h => ⟨rfl, rfl, rfl, fun r => by rw [if_neg (by simp)]; rfl⟩
  | o :: l, h => by
    obtain ⟨h1, h2, h3, h4⟩ := newR_get l (h.new o)
    change (newR l (h.new o)).next = h.next + 1 + l.length at h1
    refine ⟨by rw [List.length_cons]; change (newR l (h.new o)).next = _; omega, h2, h3, fun r => ?_⟩
    change (newR l (h.new o)).rows.get r = _
    rw [h4]
    change (if h.next + 1 ≤ r ∧ r < h.next + 1 + l.length then l[r - (h.next + 1)]? else (Tr.set h.rows h.next (some o)).get r) = _
    rw [Tr.get_set]
    simp only [List.length_cons]
    by_cases h5 : r = h.next
    · subst h5
      rw [if_neg (by omega), if_pos rfl, if_pos (by omega)]
      simp
    · by_cases h6 : h.next ≤ r ∧ r < h.next + (l.length + 1)
      · rw [if_pos (by omega), if_pos h6]
        have : r - h.next = (r - (h.next + 1)) + 1 := by omega
        rw [this]; rfl
      · rw [if_neg (by omega), if_neg h5, if_neg h6]
theorem eqR_ok {x : Option AObj} {o : AObj} (h : eqR x (some o) = true) : ∃ t l f g g', x = some (AObj.row t l f g) ∧ o = AObj.row t l f g' := by
  unfold eqR at h
  split at h
  · rename_i t l f g u k e g' h2
    simp only [Bool.and_eq_true, nat_beq, decide_eq_true_eq, beq_iff_eq] at h
    cases h2
    obtain ⟨h3, h4, h5⟩ := h
    have := eqLs_ok (eqV_ok 5) h4
    subst h3 h5 this
    exact ⟨_, _, _, _, _, rfl, rfl⟩
  · cases h
theorem eqRs_ok {h : Hp} : ∀ {l : List Nat} {k : List AObj}, eqRs h l k = true → l.length = k.length ∧ ∀ (i r : Nat) (o : AObj), l[i]? = some r → k[i]? = some o → ∃ t c f g g', h.rows.get r = some (AObj.row t c f g) ∧ o = AObj.row t c f g'
  | [], [], _ => ⟨rfl, fun i r o h => by simp at h⟩
  | [], _ :: _, h => by cases h
  | _ :: _, [], h => by cases h
  | r :: l, o :: k, h => by
    simp only [eqRs, Bool.and_eq_true] at h
    obtain ⟨h1, h2⟩ := eqRs_ok h.2
    refine ⟨by simp [h1], fun i r' o' e1 e2 => ?_⟩
    cases i with
    | zero =>
      simp only [List.getElem?_cons_zero, Option.some.injEq] at e1 e2
      subst e1 e2
      exact eqR_ok h.1
    | succ i => exact h2 i r' o' (by simpa using e1) (by simpa using e2)
/-- What a row holds, by the small heap's names and by others. -/
def LikeR (m : Nat) (F : Nat → Nat) (oA oC : AObj) : Prop :=
  (∃ t l fl g, oA = .row t (l.map (ren1 F)) fl g ∧ oC = .row t l fl none ∧ allL (flat1 (ltB m)) l = true) ∨ (∃ es c, oA = .map es c ∧ oC = .map es c ∧ flatE es = true)
theorem eqRn_ok {m : Nat} {F : Nat → Nat} {x : Option AObj} {o : AObj} (h : eqRn F x o = true) (ho : rowS m o = true) : ∃ oA, x = some oA ∧ LikeR m F oA o := by
  unfold eqRn at h
  split at h
  · rename_i t l f g u k e g'
    simp only [Bool.and_eq_true, nat_beq, decide_eq_true_eq, beq_iff_eq] at h
    obtain ⟨h3, h4, h5⟩ := h
    have := eqLs_ok (eqV_ok 5) h4
    unfold rowS at ho
    split at ho
    · rename_i heq
      cases heq
      subst h3 h5 this
      exact ⟨_, rfl, .inl ⟨_, _, _, _, rfl, rfl, ho⟩⟩
    · rename_i heq; cases heq
    · cases ho
  · rename_i es c fs d
    simp only [Bool.and_eq_true, nat_beq, decide_eq_true_eq] at h
    have h1 := eqEs_ok h.1
    have h2 := h.2
    subst h1 h2
    exact ⟨_, rfl, .inr ⟨_, _, rfl, rfl, ho⟩⟩
  · cases h
theorem eqRns_ok {h : Hp} {m : Nat} {F : Nat → Nat} : ∀ {l : List Nat} {k : List AObj}, eqRns h F l k = true → allL (rowS m) k = true → ∀ (i r : Nat) (o : AObj), l[i]? = some r → k[i]? = some o → ∃ oA, h.rows.get r = some oA ∧ LikeR m F oA o
  | [], [], _, _ => fun i r o h => by simp at h
  | [], _ :: _, h, _ => by cases h
  | _ :: _, [], h, _ => by cases h
  | r :: l, o :: k, h, hk => by
    simp only [eqRns, Bool.and_eq_true] at h
    rw [allL_eq, List.all_cons, Bool.and_eq_true, ← allL_eq] at hk
    intro i r' o' e1 e2
    cases i with
    | zero =>
      simp only [List.getElem?_cons_zero, Option.some.injEq] at e1 e2
      subst e1 e2
      exact eqRn_ok h.1 hk.1
    | succ i => exact eqRns_ok h.2 hk.2 i r' o' (by simpa using e1) (by simpa using e2)
theorem LikeR.alive {m : Nat} {F : Nat → Nat} {oA oC : AObj} (h : LikeR m F oA oC) : oA ≠ .dead ∧ oC ≠ .dead ∧ grpOf oC = none := by
  rcases h with ⟨t, l, fl, g, rfl, rfl, _⟩ | ⟨es, c, rfl, rfl, _⟩
  · exact ⟨by simp, by simp, rfl⟩
  · exact ⟨by simp, by simp, rfl⟩
theorem flatV_any {ρ σ : Rn} {a : AV} {v : Value} (h : flatV noN a = true) (k : VR ρ a v) : VR σ a v := by
  have := renV_rel (σ := σ) (f := id) (p := noN) (fun r q hp _ => by cases hp) h k
  have e : renV id a = a := by
    have e1 : ∀ v : AV, ren1 id v = v := by intro v; cases v <;> rfl
    have e2 : ∀ l : List AV, l.map (ren1 id) = l := fun l => by rw [List.map_congr_left (fun a _ => e1 a), List.map_id']
    cases a <;> first | rfl | (unfold renV; simp only [e2])
  rwa [e] at this
theorem flatE_any {ρ σ : Rn} : ∀ {es : List (AV × AV × Nat)} {ces : List MapEntry}, flatE es = true → ERs ρ es ces → ERs σ es ces
  | _, _, _, .nil => .nil
  | _, _, h, .cons h1 h2 h3 => by
    unfold flatE at h
    rw [allL_eq, List.all_cons, Bool.and_eq_true, ← allL_eq, Bool.and_eq_true] at h
    exact .cons (flatV_any h.1.1 h1) (flatV_any h.1.2 h2) (flatE_any h.2 h3)
theorem LikeR.to {ρ σ : Rn} {m : Nat} {F : Nat → Nat} {oA oC : AObj} (h : LikeR m F oA oC) (hf : ∀ r q, ltB m r = true → ρ (F r) = some q → ∃ q', σ r = some q' ∧ q'.b = q.b ∧ q'.o = q.o ∧ q'.cap = q.cap) {p : Pl} {w : World} (k : ObjR P ρ p w oA) : ObjR P σ p w oC := by
  rcases h with ⟨t, l, fl, g, rfl, rfl, hl⟩ | ⟨es, c, rfl, rfl, hl⟩
  · obtain ⟨cs, h1, h2, h3⟩ := k
    refine ⟨cs, h1, fun i a e => ?_, by simpa using h3⟩
    obtain ⟨v, e1, e2⟩ := h2 i (ren1 F a) (by rw [List.getElem?_map, e]; rfl)
    have hfl : flat1 (ltB m) a = true := by
      rw [allL_eq, List.all_eq_true] at hl
      exact hl a (List.mem_of_getElem? e)
    exact ⟨v, e1, ren1_back hf hfl e2⟩
  · obtain ⟨ces, h1, h2⟩ := k
    exact ⟨ces, h1, flatE_any hl h2⟩
theorem LikeR.from {ρ σ : Rn} {m : Nat} {F : Nat → Nat} {oA oC : AObj} (h : LikeR m F oA oC) (hf : ∀ r q, ltB m r = true → ρ r = some q → ∃ q', σ (F r) = some q' ∧ q'.b = q.b ∧ q'.o = q.o ∧ q'.cap = q.cap) {p : Pl} {w : World} (k : ObjR P ρ p w oC) : ObjR P σ p w oA := by
  rcases h with ⟨t, l, fl, g, rfl, rfl, hl⟩ | ⟨es, c, rfl, rfl, hl⟩
  · obtain ⟨cs, h1, h2, h3⟩ := k
    refine ⟨cs, h1, fun i a e => ?_, by simpa using h3⟩
    rw [List.getElem?_map] at e
    cases hli : l[i]? with
    | none => rw [hli] at e; cases e
    | some b =>
      rw [hli] at e
      cases e
      obtain ⟨v, e1, e2⟩ := h2 i b hli
      have hfl : flat1 (ltB m) b = true := by
        rw [allL_eq, List.all_eq_true] at hl
        exact hl b (List.mem_of_getElem? hli)
      exact ⟨v, e1, ren1_rel hf hfl e2⟩
  · obtain ⟨ces, h1, h2⟩ := k
    exact ⟨ces, h1, flatE_any hl h2⟩
theorem nodupB_ok : ∀ {l : List Nat}, nodupB l = true → l.Nodup
  | [], _ => List.nodup_nil
  | r :: l, h => by
    simp only [nodupB, Bool.and_eq_true, Bool.not_eq_true'] at h
    rw [List.nodup_cons]
    refine ⟨fun hm => ?_, nodupB_ok h.2⟩
    rw [(hasN_iff r l).2 hm] at h
    cases h.1
/-- Names are gone, no more. -/
structure LessN (h h' : Hp) : Prop where
  live : ∀ s o, h'.rows.get s = some o → o ≠ .dead → h.rows.get s = some o
  next : h'.next = h.next
  modsLe : ∀ s ∈ h.mods, s ∈ h'.mods
  mods : ∀ s, s < h.next → s ∉ h'.mods → h'.rows.get s = h.rows.get s
theorem killN_spec {ρ : Rn} {base : Nat} {w : World} : ∀ (l : List Nat) (h : Hp), RelH P ρ base h w → LessN h (killN l h) ∧ RelH P ρ base (killN l h) w ∧
    ∀ r ∈ l, ∀ t cs f g, (killN l h).rows.get r = some (.row t cs f g) → ∀ s o p p', s ≠ r → (killN l h).rows.get s = some o → o ≠ .dead → ρ s = some p → ρ r = some p' → p.b ≠ p'.b
  | [], h, hr => ⟨⟨fun _ _ h _ => h, rfl, fun _ h => h, fun _ _ _ => rfl⟩, hr, fun r hr => by cases hr⟩
  | r :: l, h, hr => by
    unfold killN
    split
    · rename_i t cs f g hrow
      obtain ⟨h1, h2, h3⟩ := kill_spec (mark := h.next) (i := 0) hr hrow
      obtain ⟨k1, k2, k3⟩ := killN_spec l (h.kill h.next r g 0) h2
      refine ⟨⟨fun s o e d => h1.live s o (k1.live s o e d) d, k1.next.trans h1.next, fun s e => k1.modsLe s (h1.modsLe s e), fun s e1 e2 => (k1.mods s (by rw [h1.next]; exact e1) e2).trans (h1.mods s e1 fun e => e2 (k1.modsLe s e))⟩, k2, ?_⟩
      intro r' hr' t' cs' f' g' e s o p p' hne e1 d e2 e3 hb
      rcases List.mem_cons.1 hr' with rfl | hr'
      · obtain ⟨_, _, c, _, _, h4⟩ := h3 s o p p' hne (k1.live s o e1 d) d e2 e3 hb
        omega
      · exact k3 r' hr' t' cs' f' g' e s o p p' hne e1 d e2 e3 hb
    · rename_i hno
      obtain ⟨k1, k2, k3⟩ := killN_spec l h hr
      refine ⟨k1, k2, ?_⟩
      intro r' hr' t' cs' f' g' e
      rcases List.mem_cons.1 hr' with rfl | hr'
      · exact absurd (k1.live _ _ e (by simp)) (hno _ _ _ _)
      · exact k3 r' hr' t' cs' f' g' e

theorem allL_mem {α : Type} {f : α → Bool} {l : List α} (h : allL f l = true) {a : α} (ha : a ∈ l) : f a = true := by
  rw [allL_eq, List.all_eq_true] at h
  exact h a ha
theorem row_flat {ρ σ : Rn} {p : Pl} {w : World} {t : TypeId} {l : List AV} {fl : Bool} {g g' : Option Nat} (hl : allL (flat1 noN) l = true) (k : ObjR P ρ p w (.row t l fl g)) : ObjR P σ p w (.row t l fl g') := by
  obtain ⟨cs, h1, h2, h3⟩ := k
  exact ⟨cs, h1, fun i a e => let ⟨v, e1, e2⟩ := h2 i a e; ⟨v, e1, flat_rel (allL_mem hl (List.mem_of_getElem? e)) e2⟩, h3⟩
theorem rowOk_some {o : AObj} (h : rowOk o = true) : ∃ t l f, o = .row t l f none ∧ allL (flat1 noN) l = true := by
  unfold rowOk at h
  split at h
  · exact ⟨_, _, _, rfl, h⟩
  · cases h
def idxO (l : List Nat) (r : Nat) : Nat := Option.rec 0 (fun x => x) (getL l r)
theorem idxO_some {l : List Nat} {r s : Nat} (h : l[r]? = some s) : idxO l r = s := by unfold idxO; rw [getL_eq, h]
theorem conAns_some {C : Con} {args : List AV} {h h' : Hp} {v : AV} (e : conAns C args h = some (v, h')) :
    ∃ f : List Nat, f.length = C.rows.length ∧ f.Nodup ∧ C.args.map (renV (idxO f)) = args ∧ eqRns (killN f h) (idxO f) f C.rows = true ∧ v = renV (fun r => Bool.rec (Nat.add h.next (Nat.sub r C.m)) (idxO f r) (ltB C.m r)) C.v ∧ h' = newR C.new (killN f h) := by
  unfold conAns at e
  obtain ⟨h1, h2⟩ := sel_none e
  simp only [Bool.and_eq_true, nat_beq, decide_eq_true_eq, sizeL_eq, Con.m] at h1
  injection h2 with h2
  injection h2 with h3 h4
  exact ⟨namesOf h args, h1.1, nodupB_ok h1.2.1, eqLs_ok (eqV_ok 5) h1.2.2.1, h1.2.2.2, by rw [← h3]; rfl, h4.symm⟩
/-- The answer is right. -/
theorem con_calls {C : Con} {nn : List Nat} {v0 : AV} {hs : Hp} (hw : conOk C nn = true) (hcall : CallS P C.m C.k C.args C.h v0 hs) (hc : conRes C nn (.ok v0 hs) = true)
    {args : List AV} {h h' : Hp} {v : AV} (he : conAns C args h = some (v, h')) {mark : Nat} {ρ : Rn} {base : Nat} {w : World} {us : List Value} (hr : RelH P ρ base h w) (hb : base ≤ w.heap.size) (hmk : mark ≤ h.next) (hus : VRs ρ args us) :
    Calls P C.k us.toArray w fun e w' => ∃ u ρ', e = .returned u ∧ VR ρ' v u ∧ RelH P ρ' base h' w' ∧ Post ρ h w mark ρ' h' w' := by
  obtain ⟨f, hlen, hnd, hargs, heq, hv, hh⟩ := conAns_some he
  simp only [conOk, Bool.and_eq_true, nat_beq, decide_eq_true_eq, sizeL_eq] at hw
  obtain ⟨w1, w2, w3, w4, ⟨w5, w6⟩, w7⟩ := hw
  have hnn := nodupB_ok w7
  obtain ⟨k1, k2, k3⟩ := killN_spec f h hr
  have hrows := eqRns_ok heq w1
  have hmE : C.m = C.rows.length := sizeL_eq _
  -- the small heap
  let ρs : Rn := fun r => if r < C.m then ρ (idxO f r) else none
  have fAt : ∀ r, r < C.m → ∃ s, f[r]? = some s ∧ idxO f r = s ∧ s ∈ f := by
    intro r hlt
    have : r < f.length := by omega
    exact ⟨f[r], List.getElem?_eq_getElem this, idxO_some (List.getElem?_eq_getElem this), List.getElem_mem _⟩
  have small : ∀ r, r < C.m → ∃ oA oC p, C.h.rows.get r = some oC ∧ LikeR C.m (idxO f) oA oC ∧ (killN f h).rows.get (idxO f r) = some oA ∧ ρ (idxO f r) = some p ∧ ObjR P ρ p w oA := by
    intro r hlt
    obtain ⟨s, e1, e2, e3⟩ := fAt r hlt
    have hro : C.rows[r]? = some C.rows[r] := List.getElem?_eq_getElem (by omega)
    obtain ⟨oA, h1, h2⟩ := hrows r s _ e1 hro
    obtain ⟨p, h5, h6⟩ := k2.obj _ _ h1 h2.alive.1
    rw [e2]
    refine ⟨oA, _, p, ?_, h2, h1, h5, h6⟩
    change (rowsT C.rows 0 .nil).get r = _
    rw [rowsT_get, if_pos (by omega), Nat.sub_zero, hro]
  -- no other row lies where one of these lies
  have alone : ∀ r ∈ f, ∀ o, (killN f h).rows.get r = some o → o ≠ .dead → ∀ s o' p p', s ≠ r → (killN f h).rows.get s = some o' → o' ≠ .dead → ρ s = some p → ρ r = some p' → p.b ≠ p'.b := by
    intro r hr' o e d s o' p p' hne e1 d1 e2 e3
    cases o with
    | row t cs fl g => exact k3 r hr' t cs fl g e s o' p p' hne e1 d1 e2 e3
    | _ =>
      rcases k2.sep s r o' _ p p' e1 d1 e d hne e2 e3 with h1 | ⟨g, _, h1, _⟩
      · exact h1
      · cases h1
  have out : ∀ r, ¬ r < C.m → C.h.rows.get r = none := by
    intro r hlt
    change (rowsT C.rows 0 .nil).get r = _
    rw [rowsT_get, if_neg (by omega)]
    rfl
  have ρsAt : ∀ r, r < C.m → ρs r = ρ (idxO f r) := fun r hlt => if_pos hlt
  have ρsOut : ∀ r, ¬ r < C.m → ρs r = none := fun r hlt => if_neg hlt
  have hsep : ∀ r s p p', r < C.m → s < C.m → r ≠ s → ρs r = some p → ρs s = some p' → p.b ≠ p'.b := by
    intro r s p p' h1 h2 hne e1 e2
    obtain ⟨a, a1, a2, a3⟩ := fAt r h1
    obtain ⟨b, b1, b2, b3⟩ := fAt s h2
    obtain ⟨oA, oC, _, _, l1, c1, _, _⟩ := small r h1
    obtain ⟨oA', oC', _, _, l2, c2, _, _⟩ := small s h2
    rw [ρsAt r h1, a2] at e1
    rw [ρsAt s h2, b2] at e2
    rw [a2] at c1
    rw [b2] at c2
    refine alone b b3 _ c2 l2.alive.1 a _ p p' ?_ c1 l1.alive.1 e1 e2
    rintro rfl
    obtain ⟨ha, hae⟩ := List.getElem?_eq_some_iff.1 a1
    obtain ⟨hb', hbe⟩ := List.getElem?_eq_some_iff.1 b1
    have hp := List.nodup_iff_pairwise_ne.1 hnd
    rw [List.pairwise_iff_getElem] at hp
    rcases Nat.lt_or_gt_of_ne hne with hlt | hlt
    · exact hp r s ha hb' hlt (hae.trans hbe.symm)
    · exact hp s r hb' ha hlt (hbe.trans hae.symm)
  have rs : RelH P ρs base C.h w := by
    refine ⟨fun r p e => ?_, fun r o e hd => ?_, fun r s o q p p' e1 d1 e2 d2 hne e3 e4 => ?_, fun r o g e hd e' => ?_⟩
    · by_cases hlt : r < C.m
      · rw [ρsAt r hlt] at e
        exact ⟨hlt, (hr.dom _ _ e).2⟩
      · rw [ρsOut r hlt] at e; cases e
    · by_cases hlt : r < C.m
      · obtain ⟨oA, oC, p, c1, c2, _, c4, c5⟩ := small r hlt
        rw [c1] at e; cases e
        refine ⟨p, (ρsAt r hlt).trans c4, c2.to (fun i q hi e => ?_) c5⟩
        unfold ltB at hi
        rw [nat_ble, decide_eq_true_eq] at hi
        exact ⟨q, (ρsAt i hi).trans e, rfl, rfl, rfl⟩
      · rw [out r hlt] at e; cases e
    · by_cases h1 : r < C.m
      · by_cases h2 : s < C.m
        · exact .inl (hsep r s p p' h1 h2 hne e3 e4)
        · rw [out s h2] at e2; cases e2
      · rw [out r h1] at e1; cases e1
    · by_cases hlt : r < C.m
      · obtain ⟨oA, oC, p, c1, c2, _⟩ := small r hlt
        rw [c1] at e; cases e
        rw [c2.alive.2.2] at e'; cases e'
      · rw [out r hlt] at e; cases e
  have hvs : VRs ρs C.args us := by
    rw [← hargs] at hus
    refine renVs_back (p := ltB C.m) (fun r q hp e => ?_) w3 hus
    unfold ltB at hp
    rw [nat_ble, decide_eq_true_eq] at hp
    exact ⟨q, (ρsAt r hp).trans e, rfl, rfl, rfl⟩
  simp only [conRes, Bool.and_eq_true, Bool.or_eq_true, nat_ble, decide_eq_true_eq, sizeL_eq] at hc
  obtain ⟨c1, c2, c3, c4⟩ := hc
  have hmods := eqNs_ok c1
  have hv0 := eqV_ok _ _ _ c2
  obtain ⟨hnl, hnew⟩ := eqRs_ok c3
  refine (hcall ρs base w us rs hb (Nat.le_refl _) hvs).mono ?_
  rintro e w' ⟨u, ρ', rfl, hu, hrel, hpost⟩
  -- old rows in the small heap
  have stay : ∀ r, r < C.m → hs.rows.get r = C.h.rows.get r := fun r hlt => hpost.mods r hlt (by rw [hmods]; exact List.not_mem_nil)
  have oldP : ∀ r, r < C.m → ∃ p, ρ' r = some p ∧ ρ (idxO f r) = some p := by
    intro r hlt
    obtain ⟨_, _, p, _, _, _, h4, _⟩ := small r hlt
    exact ⟨p, hpost.le _ _ ((ρsAt r hlt).trans h4), h4⟩
  -- new rows
  have newRow : ∀ (i s : Nat), nn[i]? = some s → C.m ≤ s ∧ ∃ t l fl g p, C.new[i]? = some (AObj.row t l fl none) ∧ allL (flat1 noN) l = true ∧ hs.rows.get s = some (AObj.row t l fl g) ∧ ρ' s = some p ∧ ObjR P ρ' p w' (.row t l fl g) ∧ (2 ≤ nn.length → g = none) := by
    intro i s hi
    obtain ⟨hi1, hi2⟩ := List.getElem?_eq_some_iff.1 hi
    have hs1 : C.m ≤ s := by
      have := allL_mem w5 (List.mem_of_getElem? hi)
      rwa [nat_ble, decide_eq_true_eq] at this
    have hro : C.new[i]? = some C.new[i] := List.getElem?_eq_getElem (by omega)
    obtain ⟨t, l, fl, g, g', e1, e2⟩ := hnew i s _ hi hro
    obtain ⟨t', l', f', h3, h4⟩ := rowOk_some (allL_mem w2 (List.getElem_mem (by omega : i < C.new.length)))
    rw [e2] at h3
    injection h3 with a1 a2 a3 a4
    subst a1 a2 a3 a4
    obtain ⟨p, h5, h6⟩ := hrel.obj _ _ e1 (by simp)
    refine ⟨hs1, t, l, fl, g, p, by rw [hro, e2], h4, e1, h5, h6, fun h2 => ?_⟩
    rcases c4 with c4 | c4
    · omega
    · have := allL_mem c4 (List.mem_of_getElem? hi)
      simp only [e1] at this
      split at this
      · rename_i h7; cases h7; rfl
      · cases this
  have newOld : ∀ (i s r : Nat) (p p' : Pl), nn[i]? = some s → r < C.m → ρ' s = some p → ρ' r = some p' → p.b ≠ p'.b := by
    intro i s r p p' hi hlt e1 e2
    obtain ⟨hs1, t, l, fl, g, q, _, _, f1, f2, _, _⟩ := newRow i s hi
    obtain ⟨oA, oC, q', g1, l1, _⟩ := small r hlt
    rw [← stay r hlt] at g1
    rcases hrel.sep s r _ _ p p' f1 (by simp) g1 l1.alive.2.1 (by omega) e1 e2 with h1 | ⟨x, _, h2, _⟩
    · exact h1
    · rw [l1.alive.2.2] at h2; cases h2
  have newSize : ∀ (i s : Nat) (p : Pl), nn[i]? = some s → ρ' s = some p → w.heap.size ≤ p.b := by
    intro i s p hi e1
    obtain ⟨hs1, _⟩ := newRow i s hi
    rcases hpost.new s p e1 with h1 | ⟨_, h1 | ⟨s', o, p0, e2, e3, e4, e5⟩⟩
    · rw [ρsOut s (by omega)] at h1; cases h1
    · exact h1
    · by_cases hlt : s' < C.m
      · exact absurd e5.symm (newOld i s s' p p0 hi hlt e1 (hpost.le _ _ e4))
      · rw [ρsOut s' hlt] at e4; cases e4
  obtain ⟨n1, n2, n3, n4⟩ := newR_get C.new (killN f h)
  rw [k1.next] at n1 n4
  let ρ2 : Rn := fun r => if r < h.next then ρ r else (nn[r - h.next]?).bind ρ'
  have ρ2old : ∀ r, r < h.next → ρ2 r = ρ r := fun r hlt => if_pos hlt
  have ρ2new : ∀ r, ¬ r < h.next → ρ2 r = (nn[r - h.next]?).bind ρ' := fun r hlt => if_neg hlt
  have ρ2some : ∀ r p, ¬ r < h.next → ρ2 r = some p → ∃ s, nn[r - h.next]? = some s ∧ ρ' s = some p := by
    intro r p hlt e
    rw [ρ2new r hlt] at e
    cases hn : nn[r - h.next]? with
    | none => rw [hn] at e; cases e
    | some s => rw [hn] at e; exact ⟨s, rfl, e⟩
  have rowsOld : ∀ r, r < h.next → h'.rows.get r = (killN f h).rows.get r := by
    intro r hlt
    rw [hh, n4, if_neg (by omega)]
  have rowsNew : ∀ r o, ¬ r < h.next → h'.rows.get r = some o → o ≠ .dead → r < h.next + C.new.length ∧ C.new[r - h.next]? = some o := by
    intro r o hlt e hd
    rw [hh, n4] at e
    by_cases h1 : h.next ≤ r ∧ r < h.next + C.new.length
    · rw [if_pos h1] at e; exact ⟨h1.2, e⟩
    · rw [if_neg h1] at e
      obtain ⟨p, e1, _⟩ := k2.obj r o e hd
      have := (k2.dom r p e1).1
      rw [k1.next] at this
      omega
  -- blocks of old rows
  have keepOld : ∀ r o p, (killN f h).rows.get r = some o → o ≠ .dead → ρ r = some p → ObjR P ρ2 p w' o := by
    intro r o p e hd hp
    have hle : Rn.le ρ ρ2 := fun r p e => by rw [ρ2old r (hr.dom r p e).1]; exact e
    by_cases hin : ∃ i, i < C.m ∧ idxO f i = r
    · obtain ⟨i, hi, rfl⟩ := hin
      obtain ⟨oA, oC, p0, e1, e2, e3, e4, _⟩ := small i hi
      rw [e3] at e; cases e
      rw [e4] at hp; cases hp
      have h1 : hs.rows.get i = some oC := (stay i hi).trans e1
      obtain ⟨p', h2, h3⟩ := hrel.obj i _ h1 e2.alive.2.1
      obtain ⟨p1, h4, h5⟩ := oldP i hi
      rw [h4] at h2; cases h2
      rw [e4] at h5; cases h5
      refine e2.from (fun j q hj e => ?_) h3
      unfold ltB at hj
      rw [nat_ble, decide_eq_true_eq] at hj
      obtain ⟨p2, h6, h7⟩ := oldP j hj
      rw [h6] at e; cases e
      exact ⟨_, hle _ _ h7, rfl, rfl, rfl⟩
    · obtain ⟨p0, e1, e2⟩ := k2.obj r o e hd
      rw [hp] at e1; cases e1
      refine e2.keep hle (hpost.keep p.b (hr.dom r p hp).2.2 ?_)
      intro i o' p' f1 f2 f3 hb'
      by_cases hi : i < C.m
      · obtain ⟨s, a1, a2, a3⟩ := fAt i hi
        obtain ⟨oA, oC, q, _, l1, b3, b4, _⟩ := small i hi
        rw [ρsAt i hi] at f3
        rw [a2] at b3 f3
        exact alone s a3 _ b3 l1.alive.1 r o p p' (fun h => hin ⟨i, hi, a2.trans h.symm⟩) e hd hp f3 hb'.symm
      · rw [out i hi] at f1; cases f1
  refine ⟨u, ρ2, rfl, ?_, ?_, ?_⟩
  · -- the value
    rw [hv]
    have hx : VR (fun r => ρ' (Bool.rec (Option.rec 0 (fun x => x) (getL nn (Nat.sub r C.m))) r (ltB C.m r))) C.v u := by
      rw [← hv0] at hu
      exact renV_back (p := ltB (Nat.add C.m (sizeL nn))) (fun r q _ e => ⟨q, e, rfl, rfl, rfl⟩) (by rw [sizeL_eq]; exact w4) hu
    refine renV_rel (p := ltB (Nat.add C.m (sizeL nn))) (fun r q hp e => ?_) (by rw [sizeL_eq]; exact w4) hx
    unfold ltB at hp e ⊢
    rw [nat_ble, decide_eq_true_eq] at hp
    simp only [nat_ble] at e ⊢
    by_cases hlt : r + 1 ≤ C.m
    · simp only [decide_eq_true hlt] at e ⊢
      obtain ⟨p, e1, e2⟩ := oldP r hlt
      rw [e1] at e; cases e
      exact ⟨_, (ρ2old _ (hr.dom _ _ e2).1).trans e2, rfl, rfl, rfl⟩
    · simp only [decide_eq_false hlt] at e ⊢
      rw [sizeL_eq] at hp
      have hp : r < C.m + nn.length := hp
      have h1 : r - C.m < nn.length := by omega
      rw [getL_eq] at e
      change ρ' (Option.rec 0 (fun x => x) nn[r - C.m]?) = some q at e
      rw [List.getElem?_eq_getElem h1] at e
      refine ⟨q, ?_, rfl, rfl, rfl⟩
      change ρ2 (h.next + (r - C.m)) = some q
      rw [ρ2new _ (by omega), Nat.add_sub_cancel_left, List.getElem?_eq_getElem h1]
      exact e
  · refine ⟨fun r p e => ?_, fun r o e hd => ?_, fun r s o o' p p' e1 d1 e2 d2 hne e3 e4 => ?_, fun r o g e hd e' => ?_⟩
    · have hnx : h'.next = h.next + C.new.length := by rw [hh]; exact n1
      rw [hnx]
      by_cases hlt : r < h.next
      · rw [ρ2old r hlt] at e
        have := hr.dom r p e
        exact ⟨by omega, this.2.1, Nat.lt_of_lt_of_le this.2.2 hpost.size⟩
      · obtain ⟨s, h1, h2⟩ := ρ2some r p hlt e
        have h3 := (List.getElem?_eq_some_iff.1 h1).1
        exact ⟨by omega, (hrel.dom s p h2).2⟩
    · by_cases hlt : r < h.next
      · rw [rowsOld r hlt] at e
        obtain ⟨p, e1, _⟩ := k2.obj r o e hd
        exact ⟨p, (ρ2old r hlt).trans e1, keepOld r o p e hd e1⟩
      · obtain ⟨h1, h2⟩ := rowsNew r o hlt e hd
        have h3 : nn[r - h.next]? = some nn[r - h.next] := List.getElem?_eq_getElem (by omega)
        obtain ⟨_, t, l, fl, g, p, f1, f2, f3, f4, f5, _⟩ := newRow _ _ h3
        rw [h2] at f1; cases f1
        refine ⟨p, ?_, row_flat f2 f5⟩
        rw [ρ2new r hlt, h3]
        exact f4
    · by_cases h1 : r < h.next
      · rw [rowsOld r h1] at e1
        rw [ρ2old r h1] at e3
        by_cases h2 : s < h.next
        · rw [rowsOld s h2] at e2
          rw [ρ2old s h2] at e4
          exact k2.sep r s o o' p p' e1 d1 e2 d2 hne e3 e4
        · obtain ⟨x, h3, h4⟩ := ρ2some s p' h2 e4
          have := newSize _ _ _ h3 h4
          have := (hr.dom r p e3).2.2
          exact .inl (by omega)
      · obtain ⟨x, h3, h4⟩ := ρ2some r p h1 e3
        have h5 := newSize _ _ _ h3 h4
        by_cases h2 : s < h.next
        · rw [ρ2old s h2] at e4
          have := (hr.dom s p' e4).2.2
          exact .inl (by omega)
        · obtain ⟨y, h6, h7⟩ := ρ2some s p' h2 e4
          obtain ⟨_, t, l, fl, g, q, _, _, f3, f4, _, f6⟩ := newRow _ _ h3
          obtain ⟨_, t', l', fl', g', q', _, _, g3, g4, _, _⟩ := newRow _ _ h6
          have i1 := (List.getElem?_eq_some_iff.1 h3).1
          have i2 := (List.getElem?_eq_some_iff.1 h6).1
          have hgn := f6 (by omega)
          subst hgn
          have hxy : x ≠ y := by
            rintro rfl
            have hp := List.nodup_iff_pairwise_ne.1 hnn
            rw [List.pairwise_iff_getElem] at hp
            have j1 := (List.getElem?_eq_some_iff.1 h3).2
            have j2 := (List.getElem?_eq_some_iff.1 h6).2
            rcases Nat.lt_or_gt_of_ne (show r - h.next ≠ s - h.next by omega) with hlt | hlt
            · exact hp _ _ i1 i2 hlt (j1.trans j2.symm)
            · exact hp _ _ i2 i1 hlt (j2.trans j1.symm)
          rcases hrel.sep x y _ _ p p' f3 (by simp) g3 (by simp) hxy h4 h7 with h8 | ⟨z, h8, _⟩
          · exact .inl h8
          · cases h8
    · by_cases hlt : r < h.next
      · rw [rowsOld r hlt] at e
        rw [hh, n2]
        exact k2.grp r o g e hd e'
      · obtain ⟨h1, h2⟩ := rowsNew r o hlt e hd
        have h3 : nn[r - h.next]? = some nn[r - h.next] := List.getElem?_eq_getElem (by omega)
        obtain ⟨_, t, l, fl, g', p, f1, _⟩ := newRow _ _ h3
        rw [h2] at f1; cases f1
        cases e'
  · refine ⟨fun r p e => by rw [ρ2old r (hr.dom r p e).1]; exact e, fun r p e => ?_, by rw [hh, n1]; omega, hpost.os, hpost.tape, hpost.output, hpost.size, fun b hlt hno => ?_, fun s hs => by rw [hh, n3]; exact k1.modsLe s hs, fun r hlt hno => ?_, fun r o hlt e hd => ?_⟩
    · by_cases hlt : r < h.next
      · rw [ρ2old r hlt] at e; exact .inl e
      · obtain ⟨s, h1, h2⟩ := ρ2some r p hlt e
        exact .inr ⟨by omega, .inl (newSize _ _ _ h1 h2)⟩
    · refine hpost.keep b hlt fun i o p e1 e2 e3 => ?_
      by_cases hi : i < C.m
      · obtain ⟨oA, oC, q, _, l1, b3, b4, _⟩ := small i hi
        rw [ρsAt i hi] at e3
        exact hno _ _ _ (k1.live _ _ b3 l1.alive.1) l1.alive.1 e3
      · rw [out i hi] at e1; cases e1
    · have h1 : r < h.next := by omega
      rw [rowsOld r h1]
      exact k1.mods r h1 (by rw [hh, n3] at hno; exact hno)
    · rw [rowsOld r hlt] at e
      exact ⟨o, k1.live r o e hd, hd⟩
theorem orcCon_okS {O : Orc} (hO : OrcOk P O) {C : Con} {nn : List Nat} {v0 : AV} {hs : Hp} (hw : conOk C nn = true) (hk : ∃ fn c, P.funcs[C.k]? = some fn ∧ fn.body = some c) (hcall : CallS P C.m C.k C.args C.h v0 hs) (hc : conRes C nn (.ok v0 hs) = true) : OrcOk P (orcCon C O) := by
  intro k args h v h' he
  unfold orcCon at he
  rw [nat_beq] at he
  by_cases hkk : k = C.k
  · subst hkk
    simp only [decide_true] at he
    cases ha : conAns C args h with
    | none => rw [ha] at he; exact hO _ args h v h' he
    | some p =>
      rw [ha] at he
      injection he with he
      subst he
      exact ⟨hk, fun mark ρ base w us hr hb hmk hus => con_calls hw hcall hc ha hr hb hmk hus⟩
  · rw [decide_eq_false hkk] at he
    exact hO k args h v h' he
theorem orcCon_ok (hm : P.follows .mixedOrders = true) (hN : Plain P) {O O' : Orc} (hO : OrcOk P O) (hO' : OrcOk P O') {C : Con} {nn : List Nat} {N : Nat} (hw : conOk C nn = true) (hc : conRes C nn ((recN P O' N).call C.m C.k C.args C.h) = true) : OrcOk P (orcCon C O) := by
  cases hcall : (recN P O' N).call C.m C.k C.args C.h with
  | bad => rw [hcall] at hc; cases hc
  | ok v0 hs =>
    rw [hcall] at hc
    exact orcCon_okS hO hw ((recN_ok hN hO' (fun _ h1 h2 => draw_ok hm hN h2 h1) N).2 _ _ _ _ _ _ hcall) (call_run (eval_ok hm hN hO' N) hcall) hc
end
end Go.Ev
end

