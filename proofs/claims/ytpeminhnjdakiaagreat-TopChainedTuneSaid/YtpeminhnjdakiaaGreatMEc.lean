/- Merged texts: the evaluator: operations, loops over maps, code; no condition. -/
import Derived.Test.YtpeminhnjdakiaaGreatMEb
import Derived.WalkKit
import Derived.RangeFuncRecord
import Derived.RangeFuncOwn
import Derived.WalkSpells
import Derived.WalkLawsBesides
import Derived.LoopNIn
section
namespace Go.Ev

/-! Equality. -/
theorem eqLs_ok {f : AV → AV → Bool} (hf : ∀ a b, f a b = true → a = b) : ∀ {l m : List AV}, eqLs f l m = true → l = m
  | [], [], _ => rfl
  | a :: l, b :: m, h => by
    simp only [eqLs, Bool.and_eq_true] at h
    rw [hf a b h.1, eqLs_ok hf h.2]
  | [], _ :: _, h => by cases h
  | _ :: _, [], h => by cases h
theorem eqV_ok : ∀ (d : Nat) (x y : AV), eqV d x y = true → x = y
  | 0, _, _, h => by cases h
  | d + 1, x, y, h => by
    have ih : ∀ {l m}, eqLs (eqV d) l m = true → l = m := fun h => eqLs_ok (eqV_ok d) h
    unfold eqV at h
    split at h <;> first | rfl | exact absurd h Bool.false_ne_true | skip
    all_goals try simp only [Bool.and_eq_true, nat_beq, kEq_eq, ieq_eq, decide_eq_true_eq, beq_iff_eq] at h
    · rw [h]
    · rw [h.1, h.2]
    · rw [h.1, h.2]
    · rw [h.1, h.2.1, h.2.2.1, h.2.2.2.1, h.2.2.2.2]
    · rw [h]
    · rw [h.1, ih h.2.1, ih h.2.2]
    · rw [h]
    · rw [ih h]
    · rw [ih h]
theorem eqNs_ok : ∀ {l m : List Nat}, eqNs l m = true → l = m
  | [], [], _ => rfl
  | a :: l, b :: m, h => by
    simp only [eqNs, Bool.and_eq_true, nat_beq, decide_eq_true_eq] at h
    rw [h.1, eqNs_ok h.2]
  | [], _ :: _, h => by cases h
  | _ :: _, [], h => by cases h
theorem eqG_ok {x y : Option Nat} (h : eqG x y = true) : x = y := by
  cases x <;> cases y <;> first | rfl | cases h | skip
  have h : Nat.beq _ _ = true := h
  rw [nat_beq, decide_eq_true_eq] at h
  rw [h]
theorem eqEs_ok : ∀ {l m : List (AV × AV × Nat)}, eqEs l m = true → l = m
  | [], [], _ => rfl
  | (k, v, n) :: l, (k', v', n') :: m, h => by
    simp only [eqEs, Bool.and_eq_true, nat_beq, decide_eq_true_eq] at h
    rw [eqV_ok _ _ _ h.1, eqV_ok _ _ _ h.2.1, h.2.2.1, eqEs_ok h.2.2.2]
  | [], _ :: _, h => by cases h
  | _ :: _, [], h => by cases h
theorem eqO_ok {x y : Option AObj} (h : eqO x y = true) : x = y := by
  unfold eqO at h
  split at h
  · simp only [Bool.and_eq_true, nat_beq, decide_eq_true_eq, beq_iff_eq] at h
    rw [h.1, eqLs_ok (eqV_ok 5) h.2.1, h.2.2.1, eqG_ok h.2.2.2]
  · simp only [Bool.and_eq_true, nat_beq, decide_eq_true_eq] at h
    rw [eqEs_ok h.1, h.2]
  · cases h

/-! Names: the same places, but for what an iterator has met. -/
def Rn.like (ρ σ : Rn) : Prop := ∀ r p, ρ r = some p → ∃ q, σ r = some q ∧ q.b = p.b ∧ q.o = p.o ∧ q.cap = p.cap
mutual
theorem VR.like {ρ σ : Rn} (h : Rn.like ρ σ) : ∀ {a : AV} {v : Value}, VR ρ a v → VR σ a v
  | _, _, .bool b => .bool b
  | _, _, .int k n => .int k n
  | _, _, .nilp => .nilp
  | _, _, .ptr e => by obtain ⟨q, h1, h2, h3, _⟩ := h _ _ e; rw [← h2, ← h3]; exact .ptr h1
  | _, _, .nils => .nils
  | _, _, .slice e hn => by obtain ⟨q, h1, h2, h3, _⟩ := h _ _ e; rw [← h2, ← h3]; exact .slice h1 hn
  | _, _, .rest e hn => by obtain ⟨q, h1, h2, h3, h4⟩ := h _ _ e; rw [← h2, ← h3, ← h4]; exact .rest h1 (by rw [h4]; exact hn)
  | _, _, .nilm => .nilm
  | _, _, .map e => by obtain ⟨q, h1, h2, _⟩ := h _ _ e; rw [← h2]; exact .map h1
  | _, _, .func h1 h2 => .func (VRs.like h h1) (VRs.like h h2)
  | _, _, .str s => .str s
  | _, _, .emp a c => .emp a c
  | _, _, .yield e => by obtain ⟨q, h1, h2, _⟩ := h _ _ e; rw [← h2]; exact .yield h1
  | _, _, .nilf => .nilf
  | _, _, .agg h1 => .agg (VRs.like h h1)
  | _, _, .tup h1 => .tup (VRs.like h h1)
theorem VRs.like {ρ σ : Rn} (h : Rn.like ρ σ) : ∀ {l : List AV} {cs : List Value}, VRs ρ l cs → VRs σ l cs
  | _, _, .nil => .nil
  | _, _, .cons h1 h2 => .cons (VR.like h h1) (VRs.like h h2)
end
theorem VT.like {ρ σ : Rn} (h : Rn.like ρ σ) {a : AV} {v : Value} : VT ρ a v → VT σ a v
  | .inl e => .inl e
  | .inr k => .inr (k.like h)
theorem FrR.like {ρ σ : Rn} (h : Rn.like ρ σ) {a : Fr} {t : Array Value} (k : FrR ρ a t) : FrR σ a t := ⟨k.size, fun i => (k.get i).like h⟩
theorem DefR.like {ρ σ : Rn} (h : Rn.like ρ σ) : ∀ {ms : List Nat} {ds : List Deferred}, DefR ρ ms ds → DefR σ ms ds
  | _, _, .nil => .nil
  | _, _, .cons e k => by obtain ⟨q, h1, h2, _⟩ := h _ _ e; rw [← h2]; exact .cons h1 (k.like h)
theorem RndR.like {ρ σ : Rn} (h : Rn.like ρ σ) {a b : Option Nat} (k : RndR ρ a b) : RndR σ a b := by
  cases k with
  | none => exact .none
  | some e => obtain ⟨q, h1, h2, _⟩ := h _ _ e; rw [← h2]; exact .some h1
theorem ERs.like {ρ σ : Rn} (h : Rn.like ρ σ) : ∀ {l : List (AV × AV × Nat)} {es : List MapEntry}, ERs ρ l es → ERs σ l es
  | _, _, .nil => .nil
  | _, _, .cons h1 h2 h3 => .cons (h1.like h) (h2.like h) (h3.like h)
theorem ObjR.like {P : Program} {ρ σ : Rn} (h : Rn.like ρ σ) {p : Pl} {w : World} {o : AObj} (k : ObjR P ρ p w o) : ObjR P σ p w o := by
  cases o with
  | row t cells full g =>
    obtain ⟨cs, h1, h2, h3⟩ := k
    exact ⟨cs, h1, fun i a e => let ⟨v, e1, e2⟩ := h2 i a e; ⟨v, e1, e2.like h⟩, h3⟩
  | map es c =>
    obtain ⟨ces, h1, h2⟩ := k
    exact ⟨ces, h1, h2.like h⟩
  | loop l st pe =>
    obtain ⟨fn, tm, df, h1, h2, h3⟩ := k
    exact ⟨fn, tm, df, h1, h2, fun t => (h3 t).like h⟩
  | iter m c seen =>
    obtain ⟨h0, hz, q, h1, h2⟩ := k
    obtain ⟨q', e1, e2, _⟩ := h _ _ h1
    exact ⟨h0, hz, q', e1, by rw [e2]; exact h2⟩
  | defd => exact k
  | dead => trivial

/-! What is old. -/
mutual
theorem VR.back {ρ τ : Rn} (hl : Rn.le ρ τ) : ∀ {a : AV} {v0 v : Value}, VR ρ a v0 → VR τ a v → VR ρ a v
  | _, _, _, .bool b, .bool _ => .bool b
  | _, _, _, .int k n, .int _ _ => .int k n
  | _, _, _, .nilp, .nilp => .nilp
  | _, _, _, .ptr e, .ptr e' => by rw [hl _ _ e] at e'; cases e'; exact .ptr e
  | _, _, _, .nils, .nils => .nils
  | _, _, _, .slice e _, .slice e' hn => by rw [hl _ _ e] at e'; cases e'; exact .slice e hn
  | _, _, _, .rest e _, .rest e' hn => by rw [hl _ _ e] at e'; cases e'; exact .rest e hn
  | _, _, _, .nilm, .nilm => .nilm
  | _, _, _, .map e, .map e' => by rw [hl _ _ e] at e'; cases e'; exact .map e
  | _, _, _, .func h1 h2, .func h3 h4 => .func (VRs.back hl h1 h3) (VRs.back hl h2 h4)
  | _, _, _, .str s, .str _ => .str s
  | _, _, _, .emp _ _, .emp a c => .emp a c
  | _, _, _, .yield e, .yield e' => by rw [hl _ _ e] at e'; cases e'; exact .yield e
  | _, _, _, .nilf, .nilf => .nilf
  | _, _, _, .agg h1, .agg h2 => .agg (VRs.back hl h1 h2)
  | _, _, _, .tup h1, .tup h2 => .tup (VRs.back hl h1 h2)
theorem VRs.back {ρ τ : Rn} (hl : Rn.le ρ τ) : ∀ {l : List AV} {c0 cs : List Value}, VRs ρ l c0 → VRs τ l cs → VRs ρ l cs
  | _, _, _, .nil, .nil => .nil
  | _, _, _, .cons h1 h2, .cons h3 h4 => .cons (VR.back hl h1 h3) (VRs.back hl h2 h4)
end
theorem VT.back {ρ τ : Rn} (hl : Rn.le ρ τ) {a : AV} {v0 v : Value} (h0 : VT ρ a v0) (h : VT τ a v) : VT ρ a v := by
  rcases h0 with h0 | h0
  · exact .inl h0
  · rcases h with h | h
    · exact .inl h
    · exact .inr (h0.back hl h)
theorem oldL_ok {ρ τ : Rn} {f : AV → Bool} (hf : ∀ a v, f a = true → VR τ a v → VR ρ a v) : ∀ {l : List AV} {cs : List Value}, allL f l = true → VRs τ l cs → VRs ρ l cs
  | [], _, _, .nil => .nil
  | a :: l, _, h, .cons h1 h2 => by
    rw [allL_eq, List.all_cons, Bool.and_eq_true, ← allL_eq] at h
    exact .cons (hf _ _ h.1 h1) (oldL_ok hf h.2 h2)
theorem oldV_ok {ρ τ : Rn} {n : Nat} (hn : ∀ r p, r < n → τ r = some p → ρ r = some p) : ∀ (d : Nat) (a : AV) (v : Value), oldV n d a = true → VR τ a v → VR ρ a v
  | 0, _, _, h, _ => by cases h
  | d + 1, a, v, h, k => by
    unfold oldV at h
    cases k with
    | bool b => exact .bool b
    | int k n => exact .int k n
    | nilp => exact .nilp
    | ptr e => simp only [nat_ble, decide_eq_true_eq] at h; exact .ptr (hn _ _ h e)
    | nils => exact .nils
    | slice e hc => simp only [nat_ble, decide_eq_true_eq] at h; exact .slice (hn _ _ h e) hc
    | rest e hc => simp only [nat_ble, decide_eq_true_eq] at h; exact .rest (hn _ _ h e) hc
    | nilm => exact .nilm
    | map e => simp only [nat_ble, decide_eq_true_eq] at h; exact .map (hn _ _ h e)
    | func h1 h2 =>
      simp only [Bool.and_eq_true] at h
      exact .func (oldL_ok (oldV_ok hn d) h.1 h1) (oldL_ok (oldV_ok hn d) h.2 h2)
    | str s => exact .str s
    | emp a c => exact .emp a c
    | yield e => simp only [nat_ble, decide_eq_true_eq] at h; exact .yield (hn _ _ h e)
    | nilf => exact .nilf
    | agg h1 => exact .agg (oldL_ok (oldV_ok hn d) h h1)
    | tup h1 => exact .tup (oldL_ok (oldV_ok hn d) h h1)
/-- Cells and entries of a row are old. -/
def OldO (n : Nat) : AObj → Prop
  | .row _ l _ _ => allL (oldV n 5) l = true
  | .map es _ => allL (fun e => oldV n 5 e.1 && oldV n 5 e.2.1) es = true
  | _ => False
theorem ERs.old {ρ τ : Rn} {n : Nat} (hn : ∀ r p, r < n → τ r = some p → ρ r = some p) : ∀ {l : List (AV × AV × Nat)} {es : List MapEntry}, allL (fun e => oldV n 5 e.1 && oldV n 5 e.2.1) l = true → ERs τ l es → ERs ρ l es
  | _, _, _, .nil => .nil
  | _, _, h, .cons h1 h2 h3 => by
    rw [allL_eq, List.all_cons, Bool.and_eq_true, ← allL_eq, Bool.and_eq_true] at h
    exact .cons (oldV_ok hn _ _ _ h.1.1 h1) (oldV_ok hn _ _ _ h.1.2 h2) (ERs.old hn h.2 h3)
theorem ObjR.old {P : Program} {ρ τ : Rn} {n : Nat} (hn : ∀ r p, r < n → τ r = some p → ρ r = some p) {p : Pl} {w : World} {o : AObj} (h : OldO n o) (k : ObjR P τ p w o) : ObjR P ρ p w o := by
  cases o with
  | row t cells full g =>
    obtain ⟨cs, h1, h2, h3⟩ := k
    refine ⟨cs, h1, fun i a e => let ⟨v, e1, e2⟩ := h2 i a e; ⟨v, e1, oldV_ok hn 5 a v ?_ e2⟩, h3⟩
    have h : allL (oldV n 5) cells = true := h
    rw [allL_eq, List.all_eq_true] at h
    exact h a (List.mem_of_getElem? e)
  | map es c =>
    obtain ⟨ces, h1, h2⟩ := k
    exact ⟨ces, h1, ERs.old hn h h2⟩
  | loop l st pe => exact h.elim
  | iter m c seen => exact h.elim
  | defd => exact h.elim
  | dead => trivial
theorem ERs.back {ρ τ : Rn} (hl : Rn.le ρ τ) : ∀ {l : List (AV × AV × Nat)} {es0 es : List MapEntry}, ERs ρ l es0 → ERs τ l es → ERs ρ l es
  | _, _, _, .nil, .nil => .nil
  | _, _, _, .cons h1 h2 h3, .cons k1 k2 k3 => .cons (h1.back hl k1) (h2.back hl k2) (h3.back hl k3)
theorem ObjR.back {P : Program} {ρ τ : Rn} (hl : Rn.le ρ τ) {p : Pl} {w0 w : World} {o : AObj} (h0 : ObjR P ρ p w0 o) (k : ObjR P τ p w o) : ObjR P ρ p w o := by
  cases o with
  | row t cells full g =>
    obtain ⟨cs, h1, h2, h3⟩ := k
    obtain ⟨_, _, g2, _⟩ := h0
    refine ⟨cs, h1, fun i a e => ?_, h3⟩
    obtain ⟨v, e1, e2⟩ := h2 i a e
    obtain ⟨v0, _, e3⟩ := g2 i a e
    exact ⟨v, e1, e3.back hl e2⟩
  | map es c =>
    obtain ⟨ces, h1, h2⟩ := k
    obtain ⟨_, _, g2⟩ := h0
    exact ⟨ces, h1, g2.back hl h2⟩
  | loop l st pe =>
    obtain ⟨fn, tm, df, h1, h2, h3⟩ := k
    obtain ⟨_, _, _, _, _, g3⟩ := h0
    exact ⟨fn, tm, df, h1, h2, fun t => (g3 t).back hl (h3 t)⟩
  | iter m c seen =>
    obtain ⟨e0, hz, q, h1, h2⟩ := k
    obtain ⟨_, _, q0, g1, _⟩ := h0
    rw [hl _ _ g1] at h1
    cases h1
    exact ⟨e0, hz, _, g1, h2⟩
  | defd => exact k
  | dead => trivial

/-! Frames. -/
def LeO (x y : Option AV) : Prop := (x = none ∧ y = none) ∨ x = some .top ∨ (∃ a, x = some a ∧ y = some a)
theorem isTop_ok {a : AV} (h : a.isTop = true) : a = .top := by cases a <;> first | rfl | cases h
theorem leV_ok {x y : Option AV} (h : leV x y = true) : LeO x y := by
  cases x with
  | none => cases y <;> first | exact .inl ⟨rfl, rfl⟩ | cases h
  | some a =>
    cases y with
    | none =>
      have h : (a.isTop || false) = true := h
      rw [Bool.or_false] at h
      rw [isTop_ok h]; exact .inr (.inl rfl)
    | some b =>
      have h : (a.isTop || eqV 5 a b) = true := h
      rw [Bool.or_eq_true] at h
      rcases h with h | h
      · rw [isTop_ok h]; exact .inr (.inl rfl)
      · rw [eqV_ok _ _ _ h]; exact .inr (.inr ⟨b, rfl, rfl⟩)
theorem noneT_ok : ∀ (t : Tr AV), noneT t = true → ∀ n, LeO (t.get n) none
  | .nil, _, n => .inl ⟨rfl, rfl⟩
  | .node l v r, h, n => by
    have h : ((Option.rec true (fun a => a.isTop) v : Bool) && (noneT l && noneT r)) = true := h
    simp only [Bool.and_eq_true] at h
    rcases three n with rfl | h1 | ⟨h0, h1⟩
    · rw [Tr.get_zero]
      cases v with
      | none => exact .inl ⟨rfl, rfl⟩
      | some a => rw [isTop_ok h.1]; exact .inr (.inl rfl)
    · rw [Tr.get_odd _ _ _ _ h1]; exact noneT_ok l h.2.1 _
    · rw [Tr.get_even _ _ _ _ h0 h1]; exact noneT_ok r h.2.2 _
theorem leNil_ok : ∀ (t : Tr AV), leT .nil t = true → ∀ n, t.get n = none
  | .nil, _, n => rfl
  | .node l v r, h, n => by
    have h : ((Option.rec true (fun _ => false) v : Bool) && (leT .nil l && leT .nil r)) = true := h
    simp only [Bool.and_eq_true] at h
    rcases three n with rfl | h1 | ⟨h0, h1⟩
    · rw [Tr.get_zero]
      cases v with
      | none => rfl
      | some a => cases h.1
    · rw [Tr.get_odd _ _ _ _ h1]; exact leNil_ok l h.2.1 _
    · rw [Tr.get_even _ _ _ _ h0 h1]; exact leNil_ok r h.2.2 _
theorem leT_ok : ∀ (s t : Tr AV), leT s t = true → ∀ n, LeO (s.get n) (t.get n)
  | .nil, t, h, n => .inl ⟨rfl, leNil_ok t h n⟩
  | .node l v r, .nil, h, n => noneT_ok (.node l v r) h n
  | .node l v r, .node l' v' r', h, n => by
    have h : (leV v v' && (leT l l' && leT r r')) = true := h
    simp only [Bool.and_eq_true] at h
    rcases three n with rfl | h1 | ⟨h0, h1⟩
    · rw [Tr.get_zero, Tr.get_zero]; exact leV_ok h.1
    · rw [Tr.get_odd _ _ _ _ h1, Tr.get_odd _ _ _ _ h1]; exact leT_ok l l' h.2.1 _
    · rw [Tr.get_even _ _ _ _ h0 h1, Tr.get_even _ _ _ _ h0 h1]; exact leT_ok r r' h.2.2 _
theorem frOk_get {w a : Fr} (h : frOk w a = true) : a.nt = w.nt ∧ a.marks = w.marks ∧ ∀ t, w.get t = .top ∨ w.get t = a.get t := by
  simp only [frOk, Bool.and_eq_true, nat_beq, decide_eq_true_eq] at h
  refine ⟨h.1, eqNs_ok h.2.1, fun t => ?_⟩
  rw [Fr.get_eq, Fr.get_eq]
  rcases leT_ok _ _ h.2.2 t with ⟨h1, h2⟩ | h1 | ⟨a, h1, h2⟩
  · rw [h1, h2]; exact .inr rfl
  · rw [h1]; exact .inl rfl
  · rw [h1, h2]; exact .inr rfl
theorem FrR.start {ρ : Rn} {w a : Fr} {t : Array Value} (h : frOk w a = true) (k : FrR ρ a t) : FrR ρ w t := by
  obtain ⟨h1, _, h3⟩ := frOk_get h
  refine ⟨k.size.trans h1, fun i => ?_⟩
  rcases h3 i with e | e
  · rw [e]; exact .inl rfl
  · rw [e]; exact k.get i
theorem FrR.round {ρ τ : Rn} (hl : Rn.le ρ τ) {w a : Fr} {t0 t : Array Value} (h : frOk w a = true) (k0 : FrR ρ w t0) (k : FrR τ a t) : FrR ρ w t := by
  obtain ⟨h1, _, h3⟩ := frOk_get h
  refine ⟨k.size.trans h1, fun i => ?_⟩
  rcases h3 i with e | e
  · rw [e]; exact .inl rfl
  · have := k.get i
    rw [← e] at this
    exact (k0.get i).back hl this

/-! Rows that are otherwise. -/
theorem ovApp_get (h : Hp) (r : Nat) : ∀ ov, (ovApp h ov).rows.get r = ovGet h r ov
  | [] => rfl
  | p :: l => by
    change ((ovApp h l).rows.set p.1 (some p.2)).get r = _
    rw [Tr.get_set]
    unfold ovGet
    rw [nat_beq]
    by_cases hr : r = p.1
    · simp [hr]
    · simp [hr, ovApp_get h r l]
theorem ovApp_next (h : Hp) : ∀ ov, (ovApp h ov).next = h.next
  | [] => rfl
  | _ :: l => ovApp_next h l
theorem ovApp_grps (h : Hp) : ∀ ov, (ovApp h ov).grps = h.grps
  | [] => rfl
  | _ :: l => ovApp_grps h l
theorem ovApp_mods (h : Hp) : ∀ ov, (ovApp h ov).mods = h.mods
  | [] => rfl
  | _ :: l => ovApp_mods h l
theorem ovGet_out (h : Hp) (r : Nat) : ∀ ov : Ov, (∀ p ∈ ov, p.1 ≠ r) → ovGet h r ov = h.rows.get r
  | [], _ => rfl
  | p :: l, hn => by
    unfold ovGet
    rw [nat_beq, decide_eq_false (fun e => hn p (List.mem_cons_self ..) e.symm), cond_false]
    exact ovGet_out h r l fun q hq => hn q (List.mem_cons_of_mem _ hq)
theorem ovGet_in (h : Hp) (r : Nat) : ∀ ov : Ov, (∃ p ∈ ov, p.1 = r) → ∃ p ∈ ov, p.1 = r ∧ ovGet h r ov = some p.2
  | [], hn => by obtain ⟨p, hp, _⟩ := hn; cases hp
  | p :: l, hn => by
    unfold ovGet
    rw [nat_beq]
    by_cases hr : r = p.1
    · rw [decide_eq_true hr, cond_true]; exact ⟨p, List.mem_cons_self .., hr.symm, rfl⟩
    · rw [decide_eq_false hr, cond_false]
      obtain ⟨q, h1, h2, h3⟩ := ovGet_in h r l (by
        obtain ⟨q, hq, e⟩ := hn
        rcases List.mem_cons.1 hq with rfl | hq
        · exact absurd e.symm hr
        · exact ⟨q, hq, e⟩)
      exact ⟨q, List.mem_cons_of_mem _ h1, h2, h3⟩
theorem ovGet_del (h : Hp) (r s : Nat) (hs : s ≠ r) : ∀ ov : Ov, ovGet h s (ovDel r ov) = ovGet h s ov
  | [] => rfl
  | p :: l => by
    unfold ovDel
    rw [nat_beq]
    by_cases hr : r = p.1
    · rw [decide_eq_true hr, cond_true, ovGet_del h r s hs l]
      conv => rhs; unfold ovGet
      rw [nat_beq, decide_eq_false (fun e => hs (e.trans hr.symm)), cond_false]
    · rw [decide_eq_false hr, cond_false]
      unfold ovGet
      rw [ovGet_del h r s hs l]
theorem ovNew_get (h0 h' : Hp) (n : Nat) (ov : Ov) : ∀ (l : List Nat) (v : Ov), ovNew h' n ov l = some v → ∀ r, r < n → ovGet h0 r v = if r ∈ l then h'.rows.get r else ovGet h0 r ov
  | [], v, e, r, _ => by cases e; simp
  | s :: l, v, e, r, hr => by
    unfold ovNew at e
    rw [nat_ble] at e
    by_cases hs : Nat.succ s ≤ n
    · rw [decide_eq_true hs, cond_true] at e
      split at e
      · rename_i o ho
        obtain ⟨v', h1, h2⟩ := oB_some e
        cases h2
        have ih := ovNew_get h0 h' n ov l v' h1 r hr
        change (bif Nat.beq r s then some o else ovGet h0 r (ovDel s v')) = _
        rw [nat_beq]
        by_cases hrs : r = s
        · subst hrs
          rw [decide_eq_true rfl, cond_true, if_pos (List.mem_cons_self ..), ho]
        · rw [decide_eq_false hrs, cond_false, ovGet_del _ _ _ hrs, ih]
          simp [hrs]
      · cases e
    · rw [decide_eq_false hs, cond_false] at e
      rw [ovNew_get h0 h' n ov l v e r hr]
      have : r ≠ s := by omega
      simp [this]
theorem eqOv_ok {h : Hp} {x y : Ov} (he : eqOv h x y = true) (r : Nat) : ovGet h r x = ovGet h r y := by
  simp only [eqOv, Bool.and_eq_true, allL_eq, List.all_eq_true] at he
  by_cases h1 : ∃ p ∈ x, p.1 = r
  · obtain ⟨p, hp, rfl⟩ := h1
    exact eqO_ok (he.1 p hp)
  · by_cases h2 : ∃ p ∈ y, p.1 = r
    · obtain ⟨p, hp, rfl⟩ := h2
      exact eqO_ok (he.2 p hp)
    · rw [ovGet_out _ _ _ fun p hp e => h1 ⟨p, hp, e⟩, ovGet_out _ _ _ fun p hp e => h2 ⟨p, hp, e⟩]
theorem okE_some {h : Hp} {p : Nat × AObj} (he : okE h p = true) : p.1 < h.next ∧ p.2 ≠ .dead ∧ OldO h.next p.2 ∧ ∃ o0, h.rows.get p.1 = some o0 ∧ o0 ≠ .dead ∧ grpOf p.2 = grpOf o0 := by
  simp only [okE, Bool.and_eq_true, nat_ble, decide_eq_true_eq] at he
  obtain ⟨h1, h2⟩ := he
  refine ⟨h1, ?_⟩
  obtain ⟨r, o⟩ := p
  simp only at h2 ⊢
  split at h2
  · rename_i l g g' hr
    rw [Bool.and_eq_true] at h2
    exact ⟨by simp, h2.1, _, hr, by simp, eqG_ok h2.2⟩
  · rename_i hr
    exact ⟨by simp, h2, _, hr, by simp, rfl⟩
  · cases h2
theorem ovGet_alive {h : Hp} {ov : Ov} (hok : allL (okE h) ov = true) {r : Nat} {o : AObj} (hr : ovGet h r ov = some o) : (h.rows.get r = some o ∧ ∀ p ∈ ov, p.1 ≠ r) ∨ (r < h.next ∧ OldO h.next o ∧ ∃ o0, h.rows.get r = some o0 ∧ o0 ≠ .dead ∧ grpOf o = grpOf o0) := by
  rw [allL_eq, List.all_eq_true] at hok
  by_cases h1 : ∃ p ∈ ov, p.1 = r
  · obtain ⟨p, hp, rfl, hg⟩ := ovGet_in h r ov h1
    rw [hg] at hr
    cases hr
    obtain ⟨e1, _, e3, e4⟩ := okE_some (hok p hp)
    exact .inr ⟨e1, e3, e4⟩
  · have h2 : ∀ p ∈ ov, p.1 ≠ r := fun p hp e => h1 ⟨p, hp, e⟩
    rw [ovGet_out _ _ _ h2] at hr
    exact .inl ⟨hr, h2⟩
theorem ovGet_dead {h : Hp} {ov : Ov} (hok : allL (okE h) ov = true) {r : Nat} (hr : h.rows.get r = some .dead) : ovGet h r ov = some .dead := by
  rw [allL_eq, List.all_eq_true] at hok
  rw [ovGet_out, hr]
  rintro p hp rfl
  obtain ⟨_, _, _, o0, h1, h2, _⟩ := okE_some (hok p hp)
  rw [hr] at h1
  cases h1
  exact h2 rfl
end Go.Ev
end

section
namespace Go.Ev
section
variable {P : Program} {ρ : Rn} {base mark : Nat} {R : Rec}

/-! The next entry. -/
theorem choose_map (W : World) (n : Nat) (hn : 0 < n) : ∃ i k, i < n ∧ (choose (.mapNext n)).run P W = .ok i (W.drewN k) := by
  by_cases h : n ≤ 1
  · exact ⟨0, 0, hn, by simp [choose, Sem.run, Question.forced, h, World.drewN]⟩
  · exact ⟨W.tape W.drawn (.mapNext n) % n, 1, Nat.mod_lt _ hn, by simp [choose, Sem.run, Question.forced, Question.cut, h, World.drewN]⟩
theorem next_run {w : World} {mb bi c : Nat} {ces : Array MapEntry} {S : Array Nat} (hm : w.heap[mb]? = some (.map ces c)) (hold : ∀ e ∈ ces, e.born < c) (hr : w.heap[bi]? = some (.mapIter (some mb) c S c)) :
    ((∀ e ∈ ces, e.born ∈ S) ∧ ∀ t, (Instr.next (.pointer (some ⟨bi, 0, none⟩)) false t).run P w = .ok (.tuple #[.bool false]) w) ∨
    ∃ e ∈ ces, e.born ∉ S ∧ ∃ n, ∀ t, (Instr.next (.pointer (some ⟨bi, 0, none⟩)) false t).run P w = .ok (.tuple #[.bool true, e.key, e.val]) ((w.drewN n).putObj bi (.mapIter (some mb) c (S.push e.born) c)) := by
  have hgr : (getObj bi).run P w = .ok (.mapIter (some mb) c S c) w := by simp [getObj, Sem.run, hr]
  have hgm : (getObj mb).run P w = .ok (.map ces c) w := by simp [getObj, Sem.run, hm]
  have hodd : (!S.isEmpty && !ces.isEmpty && ces.all (fun x => decide (x.born ≥ c))) = false := by
    by_cases he : ces = #[]
    · simp [he]
    · obtain ⟨e, hmem⟩ := Array.exists_mem_of_ne_empty ces he
      have := hold e hmem
      have : ces.all (fun x => decide (x.born ≥ c)) = false := by
        rw [Array.all_eq_false']
        exact ⟨e, hmem, by simp; omega⟩
      rw [this, Bool.and_false]
  have hl1 : (ces.filter fun e => !S.contains e.born).filter (fun x => decide (x.born < c)) = ces.filter fun e => !S.contains e.born := by
    rw [Array.filter_eq_self]
    intro x hx
    simpa using hold x (Array.mem_filter.1 hx).1
  have hl2 : (ces.filter fun e => !S.contains e.born).filter (fun x => decide (x.born ≥ c)) = #[] := by
    rw [Array.filter_eq_empty_iff]
    intro x hx
    have := hold x (Array.mem_filter.1 hx).1
    simp; omega
  have hM : ∀ e, e ∈ (ces.filter fun e => !S.contains e.born) ↔ e ∈ ces ∧ e.born ∉ S := by
    intro e; rw [Array.mem_filter]; simp
  generalize hL : (ces.filter fun e => !S.contains e.born) = L at *
  by_cases h0 : L = #[]
  · refine .inl ⟨?_, fun t => ?_⟩
    · intro e he
      refine Classical.byContradiction fun h => ?_
      have := (hM e).2 ⟨he, h⟩
      rw [h0] at this
      simp at this
    · simp only [Instr.next, Sem.run_bind, hgr, Result.andThen_ok, hgm, hodd, hL, h0]
      simp [choose, Sem.run, Question.forced]
  · right
    have hpos : 0 < L.size := Array.size_pos_iff.2 h0
    obtain ⟨i, k, hi, hch⟩ := choose_map (P := P) w L.size hpos
    obtain ⟨h1, h2⟩ := (hM _).1 (Array.getElem_mem hi)
    refine ⟨_, h1, h2, k, fun t => ?_⟩
    have hne : L.isEmpty = false := by simpa using h0
    have hsz : (#[] ++ (L ++ #[]).map some).size = L.size := by simp
    have hcand : (#[] ++ (L ++ #[]).map some)[i]? = some (some L[i]) := by
      rw [Array.empty_append, Array.append_empty, Array.getElem?_map, Array.getElem?_eq_getElem hi]
      rfl
    have hr' : (w.drewN k).heap[bi]? = some (.mapIter (some mb) c S c) := hr
    have hset : ∀ ob, (setObj bi ob).run P (w.drewN k) = .ok () ((w.drewN k).putObj bi ob) := fun ob => run_setObj hr' (by simp)
    simp only [Instr.next, Sem.run_bind, hgr, Result.andThen_ok, hgm, hodd, hL, hl1, hl2, hne, Bool.false_eq_true, if_false, hsz, hch, hcand, hset, Sem.run_pure]
theorem ERs.getV : ∀ {l : List (AV × AV × Nat)} {es : List MapEntry} {e : MapEntry}, ERs ρ l es → e ∈ es → ∃ a ∈ l, a.2.2 = e.born ∧ VR ρ a.1 e.key ∧ VR ρ a.2.1 e.val
  | _, _, e, .cons h1 h2 h3, he => by
    rcases List.mem_cons.1 he with rfl | he
    · exact ⟨_, List.mem_cons_self .., rfl, h1, h2⟩
    · obtain ⟨a, h4, h5⟩ := ERs.getV h3 he
      exact ⟨a, List.mem_cons_of_mem _ h4, h5⟩
theorem ERs.getA : ∀ {l : List (AV × AV × Nat)} {es : List MapEntry} {a : AV × AV × Nat}, ERs ρ l es → a ∈ l → ∃ e ∈ es, a.2.2 = e.born
  | _, _, a, .cons h1 h2 h3, ha => by
    rcases List.mem_cons.1 ha with rfl | ha
    · exact ⟨_, List.mem_cons_self .., rfl⟩
    · obtain ⟨e, h4, h5⟩ := ERs.getA h3 ha
      exact ⟨e, List.mem_cons_of_mem _ h4, h5⟩
theorem nodup_le : ∀ {xs ys : List Nat}, xs.Nodup → (∀ x ∈ xs, x ∈ ys) → xs.length ≤ ys.length
  | [], _, _, _ => Nat.zero_le _
  | x :: xs, ys, h, hm => by
    rw [List.nodup_cons] at h
    have := nodup_le (xs := xs) (ys := ys.erase x) h.2 fun y hy => (List.mem_erase_of_ne (fun e => h.1 (by rw [← e]; exact hy))).2 (hm y (List.mem_cons_of_mem _ hy))
    rw [List.length_erase_of_mem (hm x (List.mem_cons_self ..))] at this
    have := List.length_pos_of_mem (hm x (List.mem_cons_self ..))
    simp only [List.length_cons]
    omega

/-! What the loop's body is. -/
theorem nextB_some {c : Code} {B : NextB} (h : nextB c = some B) : ∃ id ops, c = .seq (.region id ops false) B.rest ∧ ops.toList = B.ops ∧ B.ops = B.o :: B.tl ∧ B.o.op = .next B.x false ∧ B.o.guard = none := by
  unfold nextB at h
  split at h
  · rename_i id ops rest
    unfold nextOps at h
    split at h
    · cases h
    · rename_i o tl hl
      split at h
      · rename_i x h1 h2
        cases h
        exact ⟨id, ops, rfl, rfl, hl, h1, h2⟩
      · cases h
  · cases h
theorem idxN_get : ∀ {l : List Nat} {s k j : Nat}, idxN s l k = some j → k ≤ j ∧ l[j - k]? = some s
  | [], s, k, j, h => by cases h
  | a :: l, s, k, j, h => by
    unfold idxN at h
    rw [nat_beq] at h
    by_cases ha : a = s
    · rw [decide_eq_true ha, cond_true] at h
      cases h
      exact ⟨Nat.le_refl _, by simp [ha]⟩
    · rw [decide_eq_false ha, cond_false] at h
      obtain ⟨h1, h2⟩ := idxN_get h
      refine ⟨by omega, ?_⟩
      have : j - k = (j - (k + 1)) + 1 := by omega
      rw [this]
      exact h2

/-! Memory at the head of a round. -/
/-- Names as in a world before, where the iterator's place tells what it has met. -/
def Rn.met (ρ : Rn) (it : Nat) (S : List Nat) : Rn := fun r => if r = it then (ρ r).map fun p => { p with sz := encN S } else ρ r
theorem Rn.met_like (ρ : Rn) (it : Nat) (S : List Nat) : Rn.like ρ (ρ.met it S) := by
  intro r p h
  unfold Rn.met
  by_cases hr : r = it
  · rw [if_pos hr, h]; exact ⟨_, rfl, rfl, rfl, rfl⟩
  · rw [if_neg hr]; exact ⟨p, h, rfl, rfl, rfl⟩
theorem Rn.like_met (ρ : Rn) (it : Nat) (S : List Nat) : Rn.like (ρ.met it S) ρ := by
  intro r p h
  unfold Rn.met at h
  by_cases hr : r = it
  · rw [if_pos hr] at h
    cases hp : ρ r with
    | none => rw [hp] at h; cases h
    | some q => rw [hp] at h; cases h; exact ⟨q, rfl, rfl, rfl, rfl⟩
  · rw [if_neg hr] at h; exact ⟨p, h, rfl, rfl, rfl⟩
theorem RelH.like {σ : Rn} {it : Nat} (h1 : Rn.like ρ σ) (h2 : Rn.like σ ρ) (h3 : ∀ r, r ≠ it → σ r = ρ r) {h : Hp} {w : World} (hit : ∀ o, h.rows.get it = some o → o = .dead) (k : RelH P ρ base h w) : RelH P σ base h w where
  dom := fun r p e => by
    obtain ⟨q, e1, e2, _⟩ := h2 r p e
    rw [← e2]; exact k.dom r q e1
  obj := fun r o e hd => by
    obtain ⟨p, e1, e2⟩ := k.obj r o e hd
    have hr : r ≠ it := fun e' => hd (hit o (e' ▸ e))
    exact ⟨p, (h3 r hr).trans e1, e2.like h1⟩
  sep := fun r s o q p p' e1 d1 e2 d2 hne e3 e4 => by
    obtain ⟨p1, f1, f2, f3, _⟩ := h2 r p e3
    obtain ⟨p2, g1, g2, g3, _⟩ := h2 s p' e4
    rw [← f2, ← g2, ← f3, ← g3]
    exact k.sep r s o q p1 p2 e1 d1 e2 d2 hne f1 g1
  grp := k.grp
/-- Behind a round. -/
theorem RelH.round {σ τ : Rn} {h0 hB h' : Hp} {w0 w1 w' : World} {ov : Ov} {it : Nat} (r0 : RelH P σ base h0 w0) (r1 : RelH P σ base hB w1) (hn : hB.next = h0.next) (r2 : RelH P τ base h' w') (po : Post σ hB w1 hB.next τ h' w')
    (hit : h0.rows.get it = some .dead) (hok : allL (okE h0) ov = true) (hrow : ∀ r, r < h0.next → r ≠ it → ovGet h0 r ov = h'.rows.get r) : RelH P σ base (ovApp h0 ov) w' := by
  have hs : ∀ r p, r < h0.next → τ r = some p → σ r = some p := by
    intro r p hr e
    rcases po.new r p e with h1 | ⟨h1, _⟩
    · exact h1
    · rw [hn] at h1; omega
  have old : ∀ r o, ovGet h0 r ov = some o → o ≠ .dead → r < h0.next ∧ r ≠ it := by
    intro r o e hd
    constructor
    · rcases ovGet_alive hok e with ⟨h1, _⟩ | ⟨h1, _⟩
      · obtain ⟨p, e1, _⟩ := r0.obj r o h1 hd
        exact (r0.dom r p e1).1
      · exact h1
    · rintro rfl
      rw [ovGet_dead hok hit] at e
      cases e
      exact hd rfl
  refine ⟨fun r p e => ?_, fun r o e hd => ?_, fun r s o q p p' e1 d1 e2 d2 hne e3 e4 => ?_, fun r o g e hd e' => ?_⟩
  · have := r1.dom r p e
    rw [ovApp_next]
    exact ⟨hn ▸ this.1, this.2.1, Nat.lt_of_lt_of_le this.2.2 po.size⟩
  · rw [ovApp_get] at e
    obtain ⟨hlt, hne⟩ := old r o e hd
    obtain ⟨p, f1, f2⟩ := r2.obj r o ((hrow r hlt hne) ▸ e) hd
    have f3 := hs r p hlt f1
    refine ⟨p, f3, ?_⟩
    rcases ovGet_alive hok e with ⟨h1, _⟩ | ⟨_, h1, _⟩
    · obtain ⟨p0, g1, g2⟩ := r0.obj r o h1 hd
      rw [f3] at g1; cases g1
      exact g2.back po.le f2
    · exact f2.old hs h1
  · rw [ovApp_get] at e1 e2
    obtain ⟨l1, n1⟩ := old r o e1 d1
    obtain ⟨l2, n2⟩ := old s q e2 d2
    exact r2.sep r s o q p p' ((hrow r l1 n1) ▸ e1) d1 ((hrow s l2 n2) ▸ e2) d2 hne (po.le _ _ e3) (po.le _ _ e4)
  · rw [ovApp_get] at e
    rw [ovApp_grps]
    rcases ovGet_alive hok e with ⟨h1, _⟩ | ⟨_, _, o0, h1, h2, h3⟩
    · exact r0.grp r o g h1 hd e'
    · exact r0.grp r o0 g h1 h2 (h3 ▸ e')
end
end Go.Ev
end

section
namespace Go.Ev
section
variable {P : Program} {ρ : Rn} {base mark : Nat} {R : Rec}

theorem ovDel_mem {r : Nat} {p : Nat × AObj} (hp : p.1 ≠ r) : ∀ {ov : Ov}, p ∈ ov → p ∈ ovDel r ov
  | [], h => h
  | s :: l, h => by
    unfold ovDel
    rw [nat_beq]
    by_cases hr : r = s.1
    · rw [decide_eq_true hr, cond_true]
      rcases List.mem_cons.1 h with rfl | h
      · exact absurd hr.symm hp
      · exact ovDel_mem hp h
    · rw [decide_eq_false hr, cond_false]
      rcases List.mem_cons.1 h with rfl | h
      · exact List.mem_cons_self ..
      · exact List.mem_cons_of_mem _ (ovDel_mem hp h)
theorem ovNew_mem {h' : Hp} {n : Nat} {ov : Ov} {r : Nat} (hr : r < n) : ∀ {l : List Nat} {v : Ov}, ovNew h' n ov l = some v → r ∈ l → ∃ p ∈ v, p.1 = r
  | s :: l, v, e, hm => by
    unfold ovNew at e
    rw [nat_ble] at e
    by_cases hs : Nat.succ s ≤ n
    · rw [decide_eq_true hs, cond_true] at e
      split at e
      · rename_i o ho
        obtain ⟨v', h1, h2⟩ := oB_some e
        cases h2
        by_cases hrs : r = s
        · exact ⟨_, List.mem_cons_self .., hrs.symm⟩
        · have hm : r ∈ l := (List.mem_cons.1 hm).resolve_left hrs
          obtain ⟨p, h3, h4⟩ := ovNew_mem hr h1 hm
          exact ⟨p, List.mem_cons_of_mem _ (ovDel_mem (by rw [h4]; exact hrs) h3), h4⟩
      · cases e
    · rw [decide_eq_false hs, cond_false] at e
      have hm : r ∈ l := (List.mem_cons.1 hm).resolve_left (by omega)
      exact ovNew_mem hr e hm
theorem eqO_dead (x : Option AObj) : eqO x (some .dead) = false := by
  unfold eqO
  split <;> first | rfl | (rename_i h; cases h)
theorem DefR.back {σ τ : Rn} (hl : Rn.le σ τ) : ∀ {ms : List Nat} {d0 ds : List Deferred}, DefR σ ms d0 → DefR τ ms ds → DefR σ ms ds
  | _, _, _, .nil, .nil => .nil
  | _, _, _, .cons e k, .cons e' k' => by rw [hl _ _ e] at e'; cases e'; exact .cons e (k.back hl k')
theorem mlAll_ok {D : ML} {sts : List Ov} {last : Nat} : ∀ {l : List Ov} {k : Nat}, mlAll P R D sts last k l = true → ∀ {j : Nat} {ov : Ov}, l[j]? = some ov → mlState P R D sts last (k + j) ov = true
  | [], _, _, j, ov, h => by simp at h
  | v :: l, k, h, j, ov, hj => by
    simp only [mlAll, Bool.and_eq_true] at h
    cases j with
    | zero => simp at hj; subst hj; exact h.1
    | succ j =>
      have := mlAll_ok h.2 (j := j) (ov := ov) (by simpa using hj)
      rw [show k + (j + 1) = Nat.succ k + j by omega]
      exact this
/-- What stands at the head of a round. -/
structure MI (P : Program) (ρ : Rn) (base : Nat) (h : Hp) (w0 : World) (D : ML) (sts : List Ov) (pi q : Pl) (S : Array Nat) (i : Nat) (ov : Ov) (x : Act) (w : World) : Prop where
  st : getL sts i = some ov
  rel : RelH P ρ base (ovApp D.h ov) w
  fr : FrR ρ D.w x.tmps
  df : DefR ρ D.w.marks x.defers
  it : w.heap[pi.b]? = some (.mapIter (some q.b) D.c S D.c)
  nodup : S.toList.Nodup
  sub : ∀ s ∈ S.toList, s ∈ D.st
  bits : ∀ s j, idxN s D.act 0 = some j → (s ∈ S.toList ↔ bit i j = true)
  os : w.os = w0.os
  tape : w.tape = w0.tape
  output : w.output = w0.output
  size : w0.heap.size ≤ w.heap.size
  keep : ∀ b, b < w0.heap.size → (∀ r o p, h.rows.get r = some o → o ≠ .dead → ρ r = some p → p.b ≠ b) → w.heap[b]? = w0.heap[b]?
/-- What is so of the loop. -/
structure ME (P : Program) (ρ : Rn) (base mark : Nat) (R : Rec) (h : Hp) (w0 : World) (D : ML) (sts : List Ov) (pi q : Pl) : Prop where
  rel : RelH P ρ base h w0
  base : base ≤ w0.heap.size
  mark : mark ≤ h.next
  hD : D.h = hideIt h D.it
  hit : h.rows.get D.it = some (.iter D.m D.c [])
  hpi : ρ D.it = some pi
  hq : ρ D.m = some q
  ok : mlOk P R D sts = true
section
variable {h : Hp} {w0 : World} {D : ML} {sts : List Ov} {pi q : Pl}
theorem ME.dead (E : ME P ρ base mark R h w0 D sts pi q) : D.h.rows.get D.it = some .dead := by rw [E.hD]; exact Tr.get_set_same _ _ _
theorem ME.next (E : ME P ρ base mark R h w0 D sts pi q) : D.h.next = h.next := by rw [E.hD]; rfl
theorem ME.rows (E : ME P ρ base mark R h w0 D sts pi q) {r : Nat} (hr : r ≠ D.it) : D.h.rows.get r = h.rows.get r := by rw [E.hD]; exact Tr.get_set_ne _ _ _ _ hr
theorem ME.itLt (E : ME P ρ base mark R h w0 D sts pi q) : D.it < h.next := (E.rel.dom _ _ E.hpi).1
theorem ME.rel0 (E : ME P ρ base mark R h w0 D sts pi q) : RelH P ρ base D.h w0 :=
  E.rel.sub (fun r o e hd => by
    by_cases hr : r = D.it
    · subst hr; rw [E.dead] at e; cases e; exact absurd rfl hd
    · rw [← E.rows hr]; exact e) (by rw [E.hD]; rfl) (by rw [E.next]; exact Nat.le_refl _)
theorem ME.state (E : ME P ρ base mark R h w0 D sts pi q) {i : Nat} {ov : Ov} (hi : getL sts i = some ov) : mlState P R D sts (mlLast D) i ov = true := by
  have := E.ok
  simp only [mlOk, Bool.and_eq_true] at this
  rw [getL_eq] at hi
  have := mlAll_ok this.2.2.2.2 hi
  rwa [Nat.zero_add] at this
theorem ME.okE (E : ME P ρ base mark R h w0 D sts pi q) {i : Nat} {ov : Ov} (hi : getL sts i = some ov) : allL (okE D.h) ov = true := by
  have := E.state hi
  simp only [mlState, Bool.and_eq_true] at this
  exact this.1
theorem ME.itDead (E : ME P ρ base mark R h w0 D sts pi q) {i : Nat} {ov : Ov} (hi : getL sts i = some ov) : (ovApp D.h ov).rows.get D.it = some .dead := by
  rw [ovApp_get]; exact ovGet_dead (E.okE hi) E.dead
theorem ME.alive (E : ME P ρ base mark R h w0 D sts pi q) {i : Nat} {ov : Ov} (hi : getL sts i = some ov) {r : Nat} {o : AObj} (hr : (ovApp D.h ov).rows.get r = some o) (hd : o ≠ .dead) : r ≠ D.it ∧ ∃ o0, h.rows.get r = some o0 ∧ o0 ≠ .dead := by
  have hne : r ≠ D.it := by
    rintro rfl
    rw [E.itDead hi] at hr
    cases hr
    exact hd rfl
  refine ⟨hne, ?_⟩
  rw [ovApp_get] at hr
  rcases ovGet_alive (E.okE hi) hr with ⟨h1, _⟩ | ⟨_, _, o0, h1, h2, _⟩
  · rw [E.rows hne] at h1; exact ⟨o, h1, hd⟩
  · rw [E.rows hne] at h1; exact ⟨o0, h1, h2⟩
theorem ME.apart (E : ME P ρ base mark R h w0 D sts pi q) {i : Nat} {ov : Ov} (hi : getL sts i = some ov) {r : Nat} {o : AObj} {p : Pl} (hr : (ovApp D.h ov).rows.get r = some o) (hd : o ≠ .dead) (hp : ρ r = some p) : p.b ≠ pi.b := by
  obtain ⟨hne, o0, h1, h2⟩ := E.alive hi hr hd
  rcases E.rel.sep r D.it o0 _ p pi h1 h2 E.hit (by simp) hne hp E.hpi with h3 | ⟨g, _, h3, _⟩
  · exact h3
  · cases h3
/-- The map at the head of a round. -/
theorem ME.map (E : ME P ρ base mark R h w0 D sts pi q) {i : Nat} {ov : Ov} {S : Array Nat} {x : Act} {w : World} (I : MI P ρ base h w0 D sts pi q S i ov x w) :
    ∃ es ces, (ovApp D.h ov).rows.get D.m = some (.map es D.c) ∧ w.heap[q.b]? = some (.map ces D.c) ∧ ERs ρ es ces.toList ∧ (∀ e ∈ es, e.2.2 ∈ D.st ∧ e.2.2 < D.c) ∧ (∀ e ∈ es, mlEnt P R D sts i ov e = true) ∧ (i = mlLast D ∨ ∃ e ∈ es, mlUnmet D i e = true) := by
  have h1 := E.state I.st
  simp only [mlState, Bool.and_eq_true] at h1
  obtain ⟨_, h1⟩ := h1
  split at h1
  · rename_i p hp
    obtain ⟨es, c⟩ := p
    simp only [Bool.and_eq_true, nat_beq, decide_eq_true_eq, allL_eq, List.all_eq_true, Bool.or_eq_true] at h1
    obtain ⟨rfl, h2, h3, h4⟩ := h1
    have hrow := mapAt_some hp
    obtain ⟨p', hp', ces, e1, e2⟩ := I.rel.obj _ _ hrow (by simp)
    rw [E.hq] at hp'; cases hp'
    have hst := E.ok
    simp only [mlOk, Bool.and_eq_true, allL_eq, List.all_eq_true, nat_ble, decide_eq_true_eq] at hst
    refine ⟨es, ces, hrow, e1, e2, fun e he => ?_, h3, ?_⟩
    · have := (hasN_iff _ _).1 (h2 e he)
      exact ⟨this, hst.2.1 _ this⟩
    · rcases h4 with h4 | h4
      · exact .inl h4
      · refine .inr ?_
        simp only [anyL, allL_eq, Bool.not_eq_true'] at h4
        rw [List.all_eq_false] at h4
        obtain ⟨e, he, h5⟩ := h4
        exact ⟨e, he, by simpa using h5⟩
  · cases h1
/-- Memory when an entry has come. -/
theorem ME.wake (E : ME P ρ base mark R h w0 D sts pi q) {i : Nat} {ov : Ov} {S : Array Nat} {x : Act} {w : World} (I : MI P ρ base h w0 D sts pi q S i ov x w) (hmi : D.m ≠ D.it) (k s : Nat) :
    RelH P (ρ.met D.it S.toList) base ((ovApp D.h ov).put D.it (.iter D.m D.c [s])) ((w.drewN k).putObj pi.b (.mapIter (some q.b) D.c (S.push s) D.c)) := by
  have r1 : RelH P (ρ.met D.it S.toList) base (ovApp D.h ov) w := RelH.like (it := D.it) (Rn.met_like _ _ _) (Rn.like_met _ _ _) (fun r hr => if_neg hr) (fun o e => by rw [E.itDead I.st] at e; cases e; rfl) I.rel
  have hlt : pi.b < w.heap.size := Nat.lt_of_lt_of_le (E.rel.dom _ _ E.hpi).2.2 I.size
  have hsz : ((w.drewN k).putObj pi.b (.mapIter (some q.b) D.c (S.push s) D.c)).heap.size = w.heap.size := by simp [World.putObj, World.drewN]
  have hother : ∀ b, b ≠ pi.b → ((w.drewN k).putObj pi.b (.mapIter (some q.b) D.c (S.push s) D.c)).heap[b]? = w.heap[b]? := fun b hb => World.putObj_heap_other (w := w.drewN k) hb
  have hsame : ((w.drewN k).putObj pi.b (.mapIter (some q.b) D.c (S.push s) D.c)).heap[pi.b]? = some (.mapIter (some q.b) D.c (S.push s) D.c) := World.putObj_heap_same (w := w.drewN k) hlt
  have apart : ∀ r o p, (ovApp D.h ov).rows.get r = some o → o ≠ .dead → ρ.met D.it S.toList r = some p → p.b ≠ pi.b := by
    intro r o p e hd hp
    have hne := (E.alive I.st e hd).1
    unfold Rn.met at hp
    rw [if_neg hne] at hp
    exact E.apart I.st e hd hp
  have hpm : ρ.met D.it S.toList D.it = some { pi with sz := encN S.toList } := by unfold Rn.met; rw [if_pos rfl, E.hpi]; rfl
  have hpo : pi.o = 0 := by
    obtain ⟨p', hp', h0, _⟩ := E.rel.obj _ _ E.hit (by simp)
    rw [E.hpi] at hp'; cases hp'
    exact h0
  have rows : ∀ r, ((ovApp D.h ov).put D.it (.iter D.m D.c [s])).rows.get r = if r = D.it then some (.iter D.m D.c [s]) else (ovApp D.h ov).rows.get r := fun r => Tr.get_set _ _ _ _
  refine ⟨fun r p e => ?_, fun r o e hd => ?_, fun r t o o' p p' e1 d1 e2 d2 hne e3 e4 => ?_, fun r o g e hd e' => ?_⟩
  · rw [hsz]; exact r1.dom r p e
  · rw [rows] at e
    by_cases hr : r = D.it
    · subst hr
      rw [if_pos rfl] at e
      cases e
      refine ⟨_, hpm, hpo, (fun e => absurd e (by simp)), q, ?_, ?_⟩
      · unfold Rn.met; rw [if_neg hmi]; exact E.hq
      · simp only
        rw [hsame, decN_enc]
        congr 2
        apply Array.ext'
        simp
    · rw [if_neg hr] at e
      obtain ⟨p, e1, e2⟩ := r1.obj r o e hd
      exact ⟨p, e1, e2.keep (.refl _) (hother _ (apart r o p e hd e1))⟩
  · rw [rows] at e1 e2
    by_cases hr : r = D.it
    · subst hr
      rw [if_neg (fun e => hne e.symm)] at e2
      rw [hpm] at e3; cases e3
      exact .inl (fun e => apart t o' p' e2 d2 e4 e.symm)
    · rw [if_neg hr] at e1
      by_cases ht : t = D.it
      · subst ht
        rw [hpm] at e4; cases e4
        exact .inl (apart r o p e1 d1 e3)
      · rw [if_neg ht] at e2
        exact r1.sep r t o o' p p' e1 d1 e2 d2 hne e3 e4
  · rw [rows] at e
    by_cases hr : r = D.it
    · rw [if_pos hr] at e
      cases e
      cases e'
    · rw [if_neg hr] at e
      exact r1.grp r o g e hd e'
end
end
end Go.Ev
end

section
namespace Go.Ev
section
variable {P : Program} {ρ : Rn} {base mark : Nat} {R : Rec}
theorem next_head {B : NextB} (hB : B.ops = B.o :: B.tl) (hop : B.o.op = .next B.x false) (hg : B.o.guard = none) {x : Act} {w w1 : World} {u : Value} (hrun : ∀ t, (Instr.next (x.eval B.x) false t).run P w = .ok u w1) {rb : Option Nat} {n id : Nat} {Q' : Exit → Act → World → Prop}
    (hK : wpOpsIn (WF rb) n P B.ops.toArray Q' (List.range' 1 B.tl.length) (x.put B.o.dst u) w1) : (Code.region id B.ops.toArray false).wpIn (WF rb) n P Q' x w := by
  refine wpIn_region ?_
  have hsz : List.range B.ops.toArray.size = 0 :: List.range' 1 B.tl.length := by rw [List.range_eq_range', hB]; rfl
  rw [hsz]
  unfold wpOpsIn
  have h0 : B.ops.toArray[0]? = some B.o := by rw [List.getElem?_toArray, hB]; rfl
  have hw : Region.wanted B.o (yielded B.ops.toArray x.tmps) = true := by unfold Region.wanted; rw [hg]
  simp only [h0, hw, if_true]
  have aux : ∀ o : Oper, o.op = .next B.x false → (execOp x.eval o).run P w = .ok (.value u) w1 := by
    rintro ⟨dst, op, type, pos, after, guard⟩ ho
    simp only at ho
    subst ho
    simp only [execOp, Sem.run_bind, hrun, Result.andThen_ok, Sem.run_pure]
  exact wpIn_of_run (fun c e => by rw [hop] at e; cases e) (.inl (aux _ hop)) hK
section
variable {h : Hp} {w0 : World} {D : ML} {sts : List Ov} {pi q : Pl}
/-- A round in which an entry has come. -/
theorem ME.round (hN : Plain P) (hE : Entered P R) (hR : Ok P R) (E : ME P ρ base mark R h w0 D sts pi q) {i : Nat} {ov : Ov} {S : Array Nat} {x : Act} {w : World} (I : MI P ρ base h w0 D sts pi q S i ov x w) {id : Nat} {rb : Option Nat} {n k : Nat}
    (hB : D.B.ops = D.B.o :: D.B.tl) (hop : D.B.o.op = .next D.B.x false) (hg : D.B.o.guard = none) (hrnd : RndR ρ D.rnd rb)
    {e : AV × AV × Nat} {es : List (AV × AV × Nat)} (hmap : (ovApp D.h ov).rows.get D.m = some (.map es D.c)) (hemem : e ∈ es) (hst : ∀ e ∈ es, e.2.2 ∈ D.st ∧ e.2.2 < D.c) (hent : mlEnt P R D sts i ov e = true) (hnew : e.2.2 ∉ S) {key val : Value} (hkey : VR ρ e.1 key) (hval : VR ρ e.2.1 val)
    (hrun : ∀ t, (Instr.next (x.eval D.B.x) false t).run P w = .ok (.tuple #[.bool true, key, val]) ((w.drewN k).putObj pi.b (.mapIter (some q.b) D.c (S.push e.2.2) D.c))) {K : Act → World → Prop} {Q : Exit → Act → World → Prop}
    (hK : ∀ i' ov' x' w', MI P ρ base h w0 D sts pi q (S.push e.2.2) i' ov' x' w' → K x' w') :
    (Code.seq (.region id D.B.ops.toArray false) D.B.rest).wpIn (WF rb) n P (Exit.then K Q) x w := by
  -- where the entry leads
  obtain ⟨i', to, hi', hto, hbits⟩ : ∃ i' to, getL sts i' = some to ∧ mlTo P R D ov to e = true ∧ ∀ s j, idxN s D.act 0 = some j → (s ∈ (S.push e.2.2).toList ↔ bit i' j = true) := by
    unfold mlEnt at hent
    split at hent
    · rename_i j hj
      have hbit : bit i j = false := by
        cases hb : bit i j with
        | false => rfl
        | true => exact absurd (Array.mem_toList_iff.1 ((I.bits _ _ hj).2 hb)) hnew
      rw [hbit, Bool.false_or] at hent
      split at hent
      · rename_i to hto
        refine ⟨_, to, hto, hent, fun s j' hs => ?_⟩
        rw [bit_lor, bit_one, Array.toList_push, List.mem_append, List.mem_singleton, I.bits s j' hs, Bool.or_eq_true, decide_eq_true_eq]
        refine or_congr_right ⟨?_, ?_⟩
        · rintro rfl
          rw [hj] at hs; cases hs; rfl
        · rintro rfl
          have g1 := (idxN_get hj).2
          have g2 := (idxN_get hs).2
          rw [g1] at g2; cases g2; rfl
      · cases hent
    · rename_i hj
      refine ⟨i, ov, I.st, hent, fun s j' hs => ?_⟩
      rw [Array.toList_push, List.mem_append, List.mem_singleton, ← I.bits s j' hs]
      refine ⟨fun h => h.resolve_right ?_, .inl⟩
      rintro rfl
      rw [hj] at hs; cases hs
  have hne : ∀ {r : Nat} {o : AObj}, (ovApp D.h ov).rows.get r = some o → o ≠ .dead → r ≠ D.it := fun e hd => (E.alive I.st e hd).1
  have hmi : D.m ≠ D.it := hne hmap (by simp)
  unfold mlTo at hto
  split at hto
  case h_2 => cases hto
  rename_i p hp
  obtain ⟨a', v⟩ := p
  rw [Bool.and_eq_true] at hto
  obtain ⟨hfr, heq⟩ := hto
  unfold mlStep at hp
  split at hp
  case h_2 => cases hp
  rename_i a2 h' hrn
  obtain ⟨v2, hv, hp⟩ := oB_some hp
  injection hp with hp
  injection hp with hp1 hp2
  subst hp1 hp2
  unfold mlRun at hrn
  rcases next_ok hrn with ⟨a1, h1, e1, e2⟩ | ⟨_, e2⟩
  case inr => exact absurd rfl e2
  -- names, memory
  have hlike := Rn.met_like ρ D.it S.toList
  have hback := Rn.like_met ρ D.it S.toList
  have hsame : ∀ r, r ≠ D.it → ρ.met D.it S.toList r = ρ r := fun r hr => if_neg hr
  have r1 := E.wake I hmi k e.2.2
  have hnB : ((ovApp D.h ov).put D.it (.iter D.m D.c [e.2.2])).next = D.h.next := ovApp_next D.h ov
  have hltp : pi.b < w.heap.size := Nat.lt_of_lt_of_le (E.rel.dom _ _ E.hpi).2.2 I.size
  have hsz1 : ((w.drewN k).putObj pi.b (.mapIter (some q.b) D.c (S.push e.2.2) D.c)).heap.size = w.heap.size := by simp [World.putObj, World.drewN]
  obtain ⟨w1, hw1⟩ : ∃ w1, (w.drewN k).putObj pi.b (.mapIter (some q.b) D.c (S.push e.2.2) D.c) = w1 := ⟨_, rfl⟩
  have hos : w1.os = w.os ∧ w1.tape = w.tape ∧ w1.output = w.output := by rw [← hw1]; exact ⟨rfl, rfl, rfl⟩
  have hoth : ∀ b, b ≠ pi.b → w1.heap[b]? = w.heap[b]? := fun b hb => by rw [← hw1]; exact World.putObj_heap_other (w := w.drewN k) hb
  rw [hw1] at r1 hsz1 hrun
  clear hw1
  have hbw : base ≤ w1.heap.size := by rw [hsz1]; exact Nat.le_trans E.base I.size
  have hu : VR (ρ.met D.it S.toList) (.tup [.bool true, e.1, e.2.1]) (.tuple #[.bool true, key, val]) := .tup (.cons (.bool true) (.cons (hkey.like hlike) (.cons (hval.like hlike) .nil)))
  have s1 : St P (ρ.met D.it S.toList) base D.h.next (Fr.put D.w D.B.o.dst (.tup [.bool true, e.1, e.2.1])) ((ovApp D.h ov).put D.it (.iter D.m D.c [e.2.2])) (x.put D.B.o.dst (.tuple #[.bool true, key, val])) w1 :=
    ⟨r1, hbw, by rw [hnB]; exact Nat.le_refl _, (I.fr.like hlike).put hu _, by rw [Fr.put_marks]; have := I.df.like hlike; cases hd : D.B.o.dst <;> exact this⟩
  refine wpIn_seq (next_head hB hop hg hrun ?_)
  have hdrop : D.B.ops.drop 1 = D.B.tl := by rw [hB]; rfl
  refine evOps_ok (R := R) (base := base) (mark := D.h.next) (evOp_ok hN hE hR) (rb := rb) (n := n) (ops := D.B.ops) (fun ih o a h => rfl) D.B.tl 1 hdrop _ _ _ _ _ .norm a1 h1 e1 s1 ?_
  rintro x1 w2 ⟨ρ1, t1⟩
  refine wpIn_mono (hR.code _ _ _ _ _ _ _ _ e2 ρ1 base x1 w2 rb n (t1.st s1) ((hrnd.like hlike).mono t1.post.le)) ?_
  rintro ex x3 w3 ⟨rfl, τ, t2⟩
  have t := t1.trans s1 t2
  refine hK i' to x3 w3 ?_
  -- rows behind the round
  have hokT := E.okE hi'
  have hitlt : D.it < D.h.next := by rw [E.next]; exact E.itLt
  have hitm : D.it ∉ h'.mods := by
    intro hin
    obtain ⟨p, hp, hpe⟩ := ovNew_mem hitlt hv hin
    simp only [eqOv, Bool.and_eq_true, allL_eq, List.all_eq_true] at heq
    have := heq.1 p hp
    rw [hpe, ovGet_dead hokT E.dead, eqO_dead] at this
    cases this
  have hBr : ∀ r, r ≠ D.it → ((ovApp D.h ov).put D.it (.iter D.m D.c [e.2.2])).rows.get r = ovGet D.h r ov := fun r hr => (Tr.get_set_ne _ _ _ _ hr).trans (ovApp_get _ _ _)
  have hrow : ∀ r, r < D.h.next → r ≠ D.it → ovGet D.h r to = h'.rows.get r := by
    intro r hlt hr
    rw [← eqOv_ok heq r, ovNew_get D.h h' D.h.next ov h'.mods v2 hv r hlt]
    by_cases hm : r ∈ h'.mods
    · rw [if_pos hm]
    · rw [if_neg hm, t.post.mods r hlt hm, hBr r hr]
  have hpost : Post (ρ.met D.it S.toList) ((ovApp D.h ov).put D.it (.iter D.m D.c [e.2.2])) w1 ((ovApp D.h ov).put D.it (.iter D.m D.c [e.2.2])).next τ h' w3 := by rw [hnB]; exact t.post
  have r0 : RelH P (ρ.met D.it S.toList) base D.h w0 := RelH.like (it := D.it) hlike hback hsame (fun o e => by rw [E.dead] at e; cases e; rfl) E.rel0
  have r3 : RelH P (ρ.met D.it S.toList) base (ovApp D.h to) w3 := RelH.round r0 r1 hnB t.heap hpost E.dead hokT hrow
  have r4 : RelH P ρ base (ovApp D.h to) w3 := RelH.like (it := D.it) hback hlike (fun r hr => (hsame r hr).symm) (fun o e => by rw [E.itDead hi'] at e; cases e; rfl) r3
  have hitrow : h'.rows.get D.it = some (.iter D.m D.c [e.2.2]) := by
    rw [t.post.mods D.it hitlt hitm]; exact Tr.get_set_same _ _ _
  obtain ⟨p', hp', _, _, q', hq', hblk⟩ := t.heap.obj _ _ hitrow (by simp)
  have hpm : ρ.met D.it S.toList D.it = some { pi with sz := encN S.toList } := by unfold Rn.met; rw [if_pos rfl, E.hpi]; rfl
  have hqm : ρ.met D.it S.toList D.m = some q := (hsame _ hmi).trans E.hq
  rw [t.post.le _ _ hpm] at hp'; cases hp'
  rw [t.post.le _ _ hqm] at hq'; cases hq'
  simp only [decN_enc] at hblk
  have hmk := (frOk_get hfr).2.1
  refine ⟨hi', r4, ?_, ?_, ?_, ?_, ?_, hbits, ?_, ?_, ?_, ?_, ?_⟩
  · exact (FrR.round t.post.le hfr (I.fr.like hlike) t.frame).like hback
  · have := t.defers
    rw [hmk] at this
    exact ((I.df.like hlike).back t.post.le this).like hback
  · rw [hblk]
    congr 2
    apply Array.ext'
    simp
  · rw [Array.toList_push, List.nodup_append]
    refine ⟨I.nodup, by simp, ?_⟩
    intro s hs t' ht' hst'
    rw [List.mem_singleton] at ht'
    subst ht' hst'
    exact hnew (Array.mem_toList_iff.1 hs)
  · intro s hs
    rw [Array.toList_push, List.mem_append, List.mem_singleton] at hs
    rcases hs with hs | rfl
    · exact I.sub s hs
    · exact (hst e hemem).1
  · exact t.post.os.trans (hos.1.trans I.os)
  · exact t.post.tape.trans (hos.2.1.trans I.tape)
  · exact t.post.output.trans (hos.2.2.trans I.output)
  · exact Nat.le_trans I.size (Nat.le_trans (by rw [hsz1]; exact Nat.le_refl _) t.post.size)
  · intro b hb hno
    have hbi : b ≠ pi.b := fun e => hno _ _ _ E.hit (by simp) E.hpi e.symm
    rw [t.post.keep b (by rw [hsz1]; exact Nat.lt_of_lt_of_le hb I.size) ?_, hoth b hbi]
    · exact I.keep b hb hno
    · intro r o p f1 f2 f3
      by_cases hr : r = D.it
      · subst hr
        rw [hpm] at f3; cases f3
        exact fun e => hbi e.symm
      · have f1' : (ovApp D.h ov).rows.get r = some o := by rw [← f1]; exact (Tr.get_set_ne _ _ _ _ hr).symm
        obtain ⟨_, o0, g1, g2⟩ := E.alive I.st f1' f2
        rw [hsame r hr] at f3
        exact hno r o0 p g1 g2 f3
end
end
end Go.Ev
end

section
namespace Go.Ev
section
variable {P : Program} {ρ : Rn} {base mark : Nat} {R : Rec}
section
variable {h : Hp} {w0 : World} {D : ML} {sts : List Ov} {pi q : Pl}
/-- All entries have come. -/
theorem ME.fin (hN : Plain P) (hE : Entered P R) (hR : Ok P R) (E : ME P ρ base mark R h w0 D sts pi q) {i : Nat} {ov : Ov} {S : Array Nat} {x : Act} {w : World} (I : MI P ρ base h w0 D sts pi q S i ov x w) {id : Nat} {rb : Option Nat} {n : Nat}
    (hB : D.B.ops = D.B.o :: D.B.tl) (hop : D.B.o.op = .next D.B.x false) (hg : D.B.o.guard = none) (hrnd : RndR ρ D.rnd rb)
    (hrun : ∀ t, (Instr.next (x.eval D.B.x) false t).run P w = .ok (.tuple #[.bool false]) w) {o : Out} {a' : Fr} {h' : Hp} (he : mlEnd P R D mark ov h.mods = .ok o a' h') {K : Act → World → Prop} {Q : Exit → Act → World → Prop}
    (hQ : ∀ x' w', After P ρ base mark h w0 a' h' x' w' → Q (exitOf o) x' w') :
    (Code.seq (.region id D.B.ops.toArray false) D.B.rest).wpIn (WF rb) n P (Exit.then K Q) x w := by
  have hF : ∀ r, ({ ovApp D.h ov with mods := mlMods mark D.it ov ++ h.mods } : Hp).rows.get r = ovGet D.h r ov := fun r => ovApp_get _ _ _
  have hrel : RelH P ρ base { ovApp D.h ov with mods := mlMods mark D.it ov ++ h.mods } w := I.rel.sub (fun _ _ e _ => e) rfl (Nat.le_refl _)
  have hnext : ({ ovApp D.h ov with mods := mlMods mark D.it ov ++ h.mods } : Hp).next = h.next := (ovApp_next D.h ov).trans E.next
  have hpost : Post ρ h w0 mark ρ { ovApp D.h ov with mods := mlMods mark D.it ov ++ h.mods } w := by
    refine ⟨.refl _, fun _ _ e => .inl e, by rw [hnext]; exact Nat.le_refl _, I.os, I.tape, I.output, I.size, I.keep, fun r hr => List.mem_append.2 (.inr hr), fun r hm hr => ?_, fun r o hlt e hd => ?_⟩
    · rw [List.mem_append] at hr
      have hr1 : r ∉ mlMods mark D.it ov := fun h => hr (.inl h)
      unfold mlMods at hr1
      rw [List.mem_filter, nat_ble, decide_eq_true_eq] at hr1
      have hr2 : r ∉ D.it :: ov.map (fun p => p.1) := fun h => hr1 ⟨h, hm⟩
      rw [List.mem_cons] at hr2
      rw [hF, ovGet_out, E.rows (fun e => hr2 (.inl e))]
      exact fun p hp e => hr2 (.inr (List.mem_map.2 ⟨p, hp, e⟩))
    · have e : (ovApp D.h ov).rows.get r = some o := e
      exact (E.alive I.st e hd).2
  have hu : VR ρ (.tup [.bool false]) (.tuple #[.bool false]) := .tup (.cons (.bool false) .nil)
  have s1 : St P ρ base mark (Fr.put D.w D.B.o.dst (.tup [.bool false])) { ovApp D.h ov with mods := mlMods mark D.it ov ++ h.mods } (x.put D.B.o.dst (.tuple #[.bool false])) w :=
    ⟨hrel, Nat.le_trans E.base I.size, by rw [hnext]; exact E.mark, I.fr.put hu _, by rw [Fr.put_marks]; have := I.df; cases hd : D.B.o.dst <;> exact this⟩
  have hne : o ≠ .norm ∧ (evOps P R mark D.B.ops D.B.tl (Fr.put D.w D.B.o.dst (.tup [.bool false])) { ovApp D.h ov with mods := mlMods mark D.it ov ++ h.mods }).next (fun a h => R.code mark D.rnd D.B.rest a h) = .ok o a' h' := by
    unfold mlEnd at he
    split at he
    · cases he
    · rename_i r hno
      refine ⟨?_, he⟩
      rintro rfl
      exact hno a' h' he
  obtain ⟨ho, hrn⟩ := hne
  have aft : ∀ {a2 : Fr} {h2 : Hp} {x2 : Act} {w2 : World} {ρ2 : Rn}, Aft P ρ base mark { ovApp D.h ov with mods := mlMods mark D.it ov ++ h.mods } w a2 h2 x2 w2 ρ2 → Aft P ρ base mark h w0 a2 h2 x2 w2 ρ2 :=
    fun t => ⟨t.heap, t.frame, t.defers, hpost.trans E.rel t.post⟩
  refine wpIn_seq (next_head hB hop hg hrun ?_)
  have hdrop : D.B.ops.drop 1 = D.B.tl := by rw [hB]; rfl
  rcases next_ok hrn with ⟨a1, h1, e1, e2⟩ | ⟨e1, _⟩
  · refine evOps_ok (R := R) (base := base) (mark := mark) (evOp_ok hN hE hR) (rb := rb) (n := n) (ops := D.B.ops) (fun ih o a h => rfl) D.B.tl 1 hdrop _ _ _ _ _ .norm a1 h1 e1 s1 ?_
    rintro x1 w2 ⟨ρ1, t1⟩
    refine wpIn_mono (hR.code _ _ _ _ _ _ _ _ e2 ρ1 base x1 w2 rb n (t1.st s1) (hrnd.mono t1.post.le)) ?_
    rintro ex x3 w3 ⟨rfl, τ, t2⟩
    exact then_other ho (hQ x3 w3 ⟨τ, aft (t1.trans s1 t2)⟩)
  · refine evOps_ok (R := R) (base := base) (mark := mark) (evOp_ok hN hE hR) (rb := rb) (n := n) (ops := D.B.ops) (fun ih o a h => rfl) D.B.tl 1 hdrop _ _ _ _ _ o a' h' e1 s1 ?_
    rintro x1 w2 ⟨ρ1, t1⟩
    have hq := hQ x1 w2 ⟨ρ1, aft t1⟩
    exact then_other ho (then_other ho hq)
theorem ME.rounds (hN : Plain P) (hE : Entered P R) (hR : Ok P R) (E : ME P ρ base mark R h w0 D sts pi q) {id : Nat} {rb : Option Nat} {n : Nat}
    (hB : D.B.ops = D.B.o :: D.B.tl) (hop : D.B.o.op = .next D.B.x false) (hg : D.B.o.guard = none) (hrnd : RndR ρ D.rnd rb)
    {ovL : Ov} (hL : getL sts (mlLast D) = some ovL) {o : Out} {a' : Fr} {h' : Hp} (he : mlEnd P R D mark ovL h.mods = .ok o a' h') {Q : Exit → Act → World → Prop}
    (hQ : ∀ x' w', After P ρ base mark h w0 a' h' x' w' → Q (exitOf o) x' w') :
    ∀ (m : Nat) (S : Array Nat) (i : Nat) (ov : Ov) (x : Act) (w : World), D.st.length < S.size + m → MI P ρ base h w0 D sts pi q S i ov x w → Code.roundsIn (WF rb) n P (.seq (.region id D.B.ops.toArray false) D.B.rest) Q m x w
  | 0, S, i, ov, x, w, hm, I => by
    have := nodup_le I.nodup I.sub
    rw [Array.length_toList] at this
    omega
  | m + 1, S, i, ov, x, w, hm, I => by
    rw [roundsIn_succ]
    obtain ⟨es, ces, h1, h2, h3, h4, h5, h6⟩ := E.map I
    have hx : D.w.eval D.B.x = some (.ptr D.it 0) := by
      have := E.ok
      simp only [mlOk, Bool.and_eq_true] at this
      have := this.1
      unfold itOk at this
      split at this
      · rename_i r hr
        rw [nat_beq, decide_eq_true_eq] at this
        rw [hr, this]
      · cases this
    have hpo : pi.o = 0 := by
      obtain ⟨p', hp', h0, _⟩ := E.rel.obj _ _ E.hit (by simp)
      rw [E.hpi] at hp'; cases hp'
      exact h0
    have hxv : x.eval D.B.x = .pointer (some ⟨pi.b, 0, none⟩) := by
      have := I.fr.eval hx
      generalize x.eval D.B.x = u at this
      cases this with
      | ptr e => rw [E.hpi] at e; cases e; rw [hpo]
    have hold : ∀ e ∈ ces, e.born < D.c := by
      intro e he
      obtain ⟨a, ha, hb, _⟩ := ERs.getV h3 (Array.mem_toList_iff.2 he)
      rw [← hb]; exact (h4 a ha).2
    rcases next_run (P := P) h2 hold I.it with ⟨g1, g2⟩ | ⟨e, g1, g2, k, g3⟩
    · have hi : i = mlLast D := by
        rcases h6 with h6 | ⟨a, ha, h6⟩
        · exact h6
        · obtain ⟨e, he, hb⟩ := ERs.getA h3 ha
          have hS : a.2.2 ∈ S.toList := by rw [hb]; exact Array.mem_toList_iff.2 (g1 e (Array.mem_toList_iff.1 he))
          unfold mlUnmet at h6
          split at h6
          · rename_i j hj
            rw [(I.bits _ _ hj).1 hS] at h6
            cases h6
          · cases h6
      subst hi
      have hov : ov = ovL := by have := I.st; rw [hL] at this; cases this; rfl
      subst hov
      exact E.fin hN hE hR I hB hop hg hrnd (fun t => by rw [hxv]; exact g2 t) he hQ
    · obtain ⟨a, ha, hb, hk, hv⟩ := ERs.getV h3 (Array.mem_toList_iff.2 g1)
      refine E.round hN hE hR I (k := k) hB hop hg hrnd h1 ha h4 (h5 a ha) (by rw [hb]; exact g2) hk hv (fun t => by rw [hxv, hb]; exact g3 t) ?_
      intro i' ov' x' w' I'
      exact ME.rounds hN hE hR E hB hop hg hrnd hL he hQ m _ i' ov' x' w' (by rw [Array.size_push]; omega) I'
end
theorem mapLoop_ok (hN : Plain P) (hE : Entered P R) (hR : Ok P R) {c : Code} {B : NextB} (hc : nextB c = some B) {rnd rb : Option Nat} {n : Nat} {a a' : Fr} {h h' : Hp} {x : Act} {w : World} {o : Out} (he : mapLoop P R mark rnd B a h = .ok o a' h') (hs : St P ρ base mark a h x w) (hrd : RndR ρ rnd rb) :
    (Code.loop c).wpIn (WF rb) n P (fun e x' w' => e = exitOf o ∧ After P ρ base mark h w a' h' x' w') x w := by
  obtain ⟨id, ops, rfl, hops, hB, hop, hg⟩ := nextB_some hc
  have hops : ops = B.ops.toArray := by rw [← hops]
  subst hops
  unfold mapLoop at he
  split at he
  case h_2 => cases he
  rename_i it hx
  split at he
  case h_2 => cases he
  rename_i m c hit
  unfold mapLoopAt at he
  obtain ⟨p, h1, he⟩ := oR_ok he
  obtain ⟨t, h2, he⟩ := oR_ok he
  rw [sel_eq] at he
  split at he
  case isFalse => cases he
  rename_i hfr
  unfold mlGo at he
  obtain ⟨sts, h3, he⟩ := oR_ok he
  unfold mlCheck at he
  rw [sel_eq] at he
  split at he
  case isFalse => cases he
  rename_i hok
  obtain ⟨ovL, hL, hend⟩ := oR_ok he
  obtain ⟨pi, hpi, _, hz, q, hq, hblk⟩ := hs.heap.obj _ _ hit (by simp)
  have hok' := hok
  simp only [mlOk, Bool.and_eq_true] at hok'
  obtain ⟨_, _, hlen, h0, hall⟩ := hok'
  split at h0
  case h_2 => cases h0
  rename_i ov0 hov0
  generalize hD : ({ B, w := { a with tmps := t.1 }, h := hideIt h it, rnd, it, m, c, st := p.1.map (fun e => e.2.2), act := t.2 } : ML) = D at *
  have E : ME P ρ base mark R h w D sts pi q := by
    subst hD
    exact ⟨hs.heap, hs.base, hs.mark, rfl, hit, hpi, hq, hok⟩
  have hpi2 : w.heap[pi.b]? = some (.mapIter (some q.b) c #[] c) := by
    rw [hz rfl] at hblk; exact hblk
  have hlen' : Nat.ble (sizeL D.st) 100000 = true := by subst hD; exact hlen
  have I : MI P ρ base h w D sts pi q #[] 0 ov0 x w := by
    refine ⟨hov0, ?_, ?_, ?_, ?_, by simp, fun s hs => by simp at hs, fun s j _ => by simp [bit_zero], rfl, rfl, rfl, Nat.le_refl _, fun _ _ _ => rfl⟩
    · refine E.rel0.sub (fun r o e _ => ?_) (ovApp_grps _ _) (by rw [ovApp_next]; exact Nat.le_refl _)
      have h0' : eqOv D.h [] ov0 = true := by subst hD; exact h0
      rw [ovApp_get, ← eqOv_ok h0' r] at e
      exact e
    · subst hD; exact hs.frame.start hfr
    · subst hD; exact hs.defers
    · subst hD; exact hpi2
  have hB' : D.B = B := by subst hD; rfl
  have hr' : D.rnd = rnd := by subst hD; rfl
  subst hB' hr'
  refine wpIn_loop_rounds 1000000 (E.rounds hN hE hR hB hop hg hrd hL hend (fun x' w' t => ⟨rfl, t⟩) 1000000 #[] 0 ov0 x w ?_ I)
  rw [nat_ble, sizeL_eq, decide_eq_true_eq] at hlen'
  simp only [List.size_toArray, List.length_nil]
  omega
end
end Go.Ev
end

section
namespace Go.Ev
section
variable {P : Program} {ρ : Rn} {base mark : Nat} {R : Rec}

theorem evCode_ok (hN : Plain P) (hE : Entered P R) (hR : Ok P R) (hD : DrawOk P R) : CodeOk P (evCode P R) := by
  intro mark rnd c a h o a' h' he ρ base x w rb n hs hrd
  unfold evCode at he
  cases c with
  | skip => injection he with h1 h2 h3; subst h1 h2 h3; exact wpIn_skip ⟨rfl, ρ, Aft.refl hs⟩
  | label l => injection he with h1 h2 h3; subst h1 h2 h3; exact wpIn_label ⟨rfl, ρ, Aft.refl hs⟩
  | ret => injection he with h1 h2 h3; subst h1 h2 h3; exact wpIn_ret ⟨rfl, ρ, Aft.refl hs⟩
  | exit i => injection he with h1 h2 h3; subst h1 h2 h3; exact wpIn_exit ⟨rfl, ρ, Aft.refl hs⟩
  | goto l => injection he with h1 h2 h3; subst h1 h2 h3; exact wpIn_goto ⟨rfl, ρ, Aft.refl hs⟩
  | refuse y => cases he
  | region id ops d =>
    cases d with
    | false =>
      have he : evOps P R mark ops.toList ops.toList a h = .ok o a' h' := he
      refine wpIn_region ?_
      have := evOps_ok (R := R) (base := base) (evOp_ok hN hE hR) (rb := rb) (n := n) (ops := ops.toList) (Q := fun e x' w' => e = exitOf o ∧ After P ρ base mark h w a' h' x' w') (fun ih o a h => rfl) ops.toList 0 rfl ρ a h x w o a' h' he hs (fun x' w' t => ⟨rfl, t⟩)
      rw [List.range_eq_range']
      simpa using this
    | true =>
      have he : evRegion P R mark ops.toList a h = .ok o a' h' := he
      have := hD mark ops.toList a h o a' h' he ρ base x w rb n id hs
      simpa using this
  | seq c d =>
    have he : (R.code mark rnd c a h).next (fun a h => R.code mark rnd d a h) = .ok o a' h' := he
    refine wpIn_seq ?_
    rcases next_ok he with ⟨a1, h1, e1, e2⟩ | ⟨e1, e2⟩
    · refine wpIn_mono (hR.code _ _ _ _ _ _ _ _ e1 ρ base x w rb n hs hrd) ?_
      rintro e x1 w1 ⟨rfl, ρ1, t1⟩
      refine wpIn_mono (hR.code _ _ _ _ _ _ _ _ e2 ρ1 base x1 w1 rb n (t1.st hs) (hrd.mono t1.post.le)) ?_
      rintro e x2 w2 ⟨rfl, ρ2, t2⟩
      exact ⟨rfl, ρ2, t1.trans hs t2⟩
    · refine wpIn_mono (hR.code _ _ _ _ _ _ _ _ e1 ρ base x w rb n hs hrd) ?_
      rintro e x1 w1 ⟨rfl, t⟩
      exact then_other e2 ⟨rfl, t⟩
  | cond c y z =>
    have he : oR (a.eval c) (fun v => v.boolE .bad fun b => R.code mark rnd (Bool.rec z y b) a h) = .ok o a' h' := he
    obtain ⟨v, h1, h2⟩ := oR_ok he
    obtain ⟨b, rfl⟩ : ∃ b, v = .bool b := by cases v <;> first | exact ⟨_, rfl⟩ | exact absurd (show Res.bad = .ok o a' h' from h2) (by simp)
    have hc := hs.frame.eval h1
    generalize hcu : x.eval c = u at hc
    cases hc
    refine wpIn_cond hcu ?_
    have h2 : R.code mark rnd (Bool.rec z y b) a h = .ok o a' h' := h2
    cases b
    · exact hR.code _ _ _ _ _ _ _ _ h2 ρ base x w rb n hs hrd
    · exact hR.code _ _ _ _ _ _ _ _ h2 ρ base x w rb n hs hrd
  | block id c =>
    have he : cBlock id c P R mark rnd a h = .ok o a' h' := he
    unfold cBlock at he
    refine wpIn_block ?_
    split at he
    · rename_i i a1 h1 e1
      refine wpIn_mono (hR.code _ _ _ _ _ _ _ _ e1 ρ base x w rb n hs hrd) ?_
      rintro e x1 w1 ⟨rfl, t⟩
      rw [sel_eq, nat_beq] at he
      simp only [exitOf, Exit.inBlock]
      by_cases hi : i = id
      · rw [if_pos (by simpa using hi)] at he
        rw [if_pos hi]
        injection he with g1 g2 g3
        subst g1 g2 g3
        exact ⟨rfl, t⟩
      · rw [if_neg (by simpa using hi)] at he
        rw [if_neg hi]
        injection he with g1 g2 g3
        subst g1 g2 g3
        exact ⟨rfl, t⟩
    · rename_i r hno
      refine wpIn_mono (hR.code _ _ _ _ _ _ _ _ he ρ base x w rb n hs hrd) ?_
      rintro e x1 w1 ⟨rfl, t⟩
      cases o with
      | exit i => exact absurd he (hno i a' h')
      | norm => exact ⟨rfl, t⟩
      | goto l => exact ⟨rfl, t⟩
      | ret => exact ⟨rfl, t⟩
  | loop c =>
    have he : cLoop c P R mark rnd a h = .ok o a' h' := he
    unfold cLoop at he
    cases hnb : nextB c with
    | some B => rw [hnb] at he; exact mapLoop_ok hN hE hR hnb he hs hrd
    | none =>
    rw [hnb] at he
    have he : cLoopAt R mark rnd c 1000000 a h = .ok o a' h' := he
    exact wpIn_loop_rounds 1000000 (loop_ok hR.code 1000000 ρ a h x w o a' h' he hs hrd (fun x' w' t => ⟨rfl, t⟩))
  | scope c =>
    have he : cScope c P R mark rnd a h = .ok o a' h' := he
    unfold cScope at he
    refine wpIn_scope_straight ?_
    split at he
    · cases he
    · rename_i r hno
      refine wpIn_mono (hR.code _ _ _ _ _ _ _ _ he ρ base x w rb n hs hrd) ?_
      rintro e x1 w1 ⟨rfl, t⟩
      cases o with
      | goto l => exact absurd he (hno l a' h')
      | norm => exact ⟨rfl, t⟩
      | exit i => exact ⟨rfl, t⟩
      | ret => exact ⟨rfl, t⟩
  | rangeFunc g ps as1 body =>
    have he : cRange g ps as1 body P R mark rnd a h = .ok o a' h' := he
    unfold cRange at he
    obtain ⟨gv, hg, he⟩ := oR_ok he
    cases hrd with
    | none =>
      have he : cRangeAt R mark none gv ps as1 body { a with marks := h.next :: a.marks } (h.new .defd) = .ok o a' h' := he
      have hno := hs.heap.noName (Nat.le_refl h.next)
      obtain ⟨r1, p1⟩ := RelH.new (w' := w.alloc (.deferred (some []))) (ob := .defd) (p := ⟨w.heap.size, 0, 0, 0⟩) hs.heap hs.base hs.mark rfl rfl rfl rfl rfl (alloc_new _ _) rfl
      refine range_ok hN hE hR hg he hs .none (mk := [{ target := .collected w.heap.size, args := #[] }]) (lb := w.heap.size + 1) (df := w.heap.size) ⟨rfl, rfl⟩ ⟨r1, ⟨(hs.frame.mono p1.le).size, (hs.frame.mono p1.le).get⟩, .cons (upd_same _ _ _) (hs.defers.mono p1.le), p1⟩ (by rw [alloc_heap]; simp) ?_
      intro fn
      exact run_enterLoop_outer fn x.tmps ps as1 body
    | @some l p hp =>
      have he : cRangeIn R mark (some l) l gv ps as1 body a h = .ok o a' h' := he
      unfold cRangeIn at he
      split at he
      · rename_i rc st pe hrow
        obtain ⟨p', hp', fn0, tm, df, hb, _⟩ := hs.heap.obj l _ hrow (by simp)
        rw [hp] at hp'; cases hp'
        refine range_ok hN hE hR hg he hs (.some hp) (mk := []) (lb := w.heap.size) (df := df) ⟨rfl, rfl⟩ (Aft.refl hs) rfl ?_
        intro fn
        exact run_enterLoop_inner hb fn x.tmps ps as1 body
      · cases he

/-! Calls. -/
theorem argsT_get : ∀ (args : List AV) (i : Nat) (t : Tr AV) (m : Nat), (argsT args i t).get m = if i ≤ m ∧ m < i + args.length then args[m - i]? else t.get m
  | [], i, t, m => by rw [if_neg (by simp)]; rfl
  | v :: r, i, t, m => by
    change (argsT r (i + 1) (Tr.set t i (some v))).get m = _
    rw [argsT_get r (i + 1), Tr.get_set]
    simp only [List.length_cons]
    by_cases h1 : m = i
    · subst h1
      rw [if_neg (by omega), if_pos rfl, if_pos (by omega)]
      simp
    · by_cases h2 : i ≤ m ∧ m < i + (r.length + 1)
      · rw [if_pos (by omega), if_pos h2]
        have : m - i = (m - (i + 1)) + 1 := by omega
        rw [this]; rfl
      · rw [if_neg (by omega), if_neg h1, if_neg h2]
theorem args_rel {args : List AV} {us : List Value} (h : VRs ρ args us) (k : Nat) : FrR ρ { tmps := argsT args 0 .nil, nt := max (sizeL args) k, marks := [] } (us.toArray ++ Array.replicate (k - us.length) Go.undef) := by
  have hl := h.length
  refine ⟨?_, fun t => ?_⟩
  · rw [sizeL_eq]; simp; omega
  · rw [Fr.get_eq]
    simp only [argsT_get, Nat.zero_le, true_and, Nat.zero_add, Nat.sub_zero]
    by_cases ht : t < args.length
    · rw [if_pos ht]
      have ha : args[t]? = some args[t] := by simp [ht]
      obtain ⟨v, h1, h2⟩ := h.get ha
      have hlt : t < us.length := by omega
      simp only [ha]
      have : (us.toArray ++ Array.replicate (k - us.length) Go.undef).getD t Go.undef = v := by
        have h3 := (List.getElem?_eq_some_iff.1 h1).2
        simp [Array.getElem?_append, hlt, h3]
      rw [this]; exact .inr h2
    · rw [if_neg ht]
      have : (us.toArray ++ Array.replicate (k - us.length) Go.undef).getD t Go.undef = Go.undef := by
        simp only [Array.getD_eq_getD_getElem?, Array.getElem?_append, List.size_toArray]
        rw [if_neg (by omega)]
        simp only [Array.getElem?_replicate]
        split <;> rfl
      rw [this]
      exact .inr (VR.undef ρ)
/-- One result. -/
def resS (tm : Array Value) : ResultVar → Sem Value
  | .tmp t => pure (tm.getD t Go.undef)
  | .cell a t => do Go.loadVar t (← asAddr (tm.getD a Go.undef))
theorem results_eq (fn : Func) (tm : Array Value) : results fn tm = (fn.results.mapM (resS tm) >>= fun vs => pure (if h : vs.size = 1 then vs[0] else .tuple vs)) := by
  unfold results
  congr 1
theorem evResL_run {a : Fr} {h : Hp} {w : World} (hr : RelH P ρ base h w) {tm : Array Value} (hf : FrR ρ a tm) : ∀ {rs : List ResultVar} {l : List AV}, evResL P a h rs = some l →
    ∃ vs, (rs.mapM (resS tm)).run P w = .ok vs w ∧ VRs ρ l vs
  | [], l, he => by injection he with he; subst he; exact ⟨[], rfl, .nil⟩
  | .tmp t :: rs, l, he => by
    obtain ⟨y, hy, he1⟩ := oB_some he
    obtain ⟨rfl, hk⟩ := AV.known_some hy
    obtain ⟨l', h1, h2⟩ := oB_some he1
    injection h2 with h2
    subst h2
    obtain ⟨vs, h3, h4⟩ := evResL_run hr hf h1
    refine ⟨tm.getD t Go.undef :: vs, ?_, .cons ((hf.get t).known hk) h4⟩
    rw [List.mapM_cons]
    simp only [resS, Sem.run_bind, Sem.run_pure, Result.andThen_ok]
    rw [h3]; rfl
  | .cell b t :: rs, l, he => by
    obtain ⟨r, off, hb, he1⟩ := AV.ptrE_some (show (a.get b).ptrE none _ = some l from he)
    obtain ⟨y, hy, he2⟩ := oB_some he1
    obtain ⟨l', h1, h2⟩ := oB_some he2
    injection h2 with h2
    subst h2
    have hg := (hf.get b).known (by rw [hb]; rfl)
    rw [hb] at hg
    generalize hbu : tm.getD b Go.undef = bu at hg
    cases hg with
    | ptr hp =>
      obtain ⟨q, u, hq, h6, h7⟩ := loadVar_run hy (hr.obj r)
      rw [hp] at hq; cases hq
      obtain ⟨vs, h3, h4⟩ := evResL_run hr hf h1
      refine ⟨u :: vs, ?_, .cons h7 h4⟩
      rename_i p
      have ha : (asAddr (tm.getD b Go.undef)).run P w = .ok ⟨p.b, p.o + off, none⟩ w := by rw [hbu]; rfl
      have hres : (resS tm (.cell b t)).run P w = .ok u w := by unfold resS; rw [Sem.run_bind, ha, Result.andThen_ok, h6]
      rw [List.mapM_cons, Sem.run_bind, hres, Result.andThen_ok, Sem.run_bind, h3]
      rfl
theorem results_run {fn : Func} {a : Fr} {h h' : Hp} {w : World} (hr : RelH P ρ base h w) {tm : Array Value} (hf : FrR ρ a tm) {v : AV} (he : evRes P a h fn.results.toList = .ok v h') : h' = h ∧ ∃ u, (results fn tm).run P w = .ok u w ∧ VR ρ v u := by
  obtain ⟨l, h1, h2⟩ := oV_ok he
  injection h2 with h2 h3
  refine ⟨h3.symm, ?_⟩
  obtain ⟨vs, h4, h5⟩ := evResL_run hr hf h1
  have hrun : (results fn tm).run P w = .ok (if h : vs.toArray.size = 1 then vs.toArray[0] else .tuple vs.toArray) w := by
    rw [results_eq, Array.mapM_eq_mapM_toList, map_eq_pure_bind, Sem.run_bind, Sem.run_bind, h4]
    rfl
  refine ⟨_, hrun, ?_⟩
  subst h2
  match l, vs, h5 with
  | [], _, .nil => exact .tup .nil
  | [x], _, .cons hx .nil => exact hx
  | x :: y :: l, _, .cons hx (.cons hy hl) => exact .tup (.cons hx (.cons hy hl))
theorem leave_run {fn : Func} {R' : Ending → World → Prop} {n : Nat} {tm : Array Value} {nt : Nat} {t : Tr AV} : ∀ {ms : List Nat} {ds : List Deferred} {ρ : Rn} {h h1 h' : Hp} {w : World} {v : AV}, RelH P ρ base h w → FrR ρ { tmps := t, nt, marks := [] } tm → DefR ρ ms ds → dropMarks mark ms h = some h1 →
    evRes P { tmps := t, nt, marks := [] } h1 fn.results.toList = .ok v h' → (∀ w' u, RelH P ρ base h' w' → Post ρ h w mark ρ h' w' → VR ρ v u → R' (.returned u) w') → LeavesInM Fence.wide n P fn tm R' ds .returning w
  | _, _, ρ, h, h1, h', w, v, hr, hf, .nil, hd, he, hR => by
    injection hd with hd
    subst hd
    obtain ⟨e1, u, e2, e3⟩ := results_run hr hf he
    subst e1
    exact ⟨u, e2, hR w u hr (Post.refl _ _ _ _) e3⟩
  | _, _, ρ, h, h1, h', w, v, hr, hf, .cons (m := m) (p := p) hp hds, hd, he, hR => by
    unfold dropMarks at hd
    split at hd
    · rename_i hrow
      obtain ⟨p', hp', hb⟩ := hr.obj m _ hrow (by simp)
      rw [hp] at hp'; cases hp'
      obtain ⟨r1, q1⟩ := hr.put (mark := mark) (o' := .dead) hrow (by simp) rfl rfl hp (ob := .deferred none) (fun h => absurd rfl h)
      refine ⟨by simp, .inl ⟨p.b, _, rfl, run_takeDeferred hb, ?_⟩⟩
      exact leave_run r1 hf hds hd he (fun w' u h2 h3 h4 => hR w' u h2 (q1.trans hr h3) h4)
    · cases hd
theorem callAt_run (hR : Ok P R) {k : FuncId} {fn : Func} (hfn : P.funcs[k]? = some fn) {args : List AV} {h h' : Hp} {v : AV} (he : callAt P R mark fn args h = .ok v h') {w : World} (hr : RelH P ρ base h w) (hb : base ≤ w.heap.size) (hm : mark ≤ h.next) {us : List Value} (hus : VRs ρ args us) :
    Calls P k us.toArray w fun e w' => ∃ u ρ', e = .returned u ∧ VR ρ' v u ∧ RelH P ρ' base h' w' ∧ Post ρ h w mark ρ' h' w' := by
  obtain ⟨body, hbody, he⟩ := oV_ok he
  refine (callsIn_wide (n := 0)).1 (callsIn_of_wp_marks hfn hbody trivial ?_)
  have hs : St P ρ base mark { tmps := argsT args 0 .nil, nt := max (sizeL args) fn.ntmps, marks := [] } h { tmps := us.toArray ++ Array.replicate (fn.ntmps - us.toArray.size) Go.undef, defers := [] } w := ⟨hr, hb, hm, args_rel hus fn.ntmps, .nil⟩
  have fin : ∀ (o : Out) (a' : Fr) (h1 : Hp), (o = .norm ∨ o = .ret) → R.code mark none body { tmps := argsT args 0 .nil, nt := max (sizeL args) fn.ntmps, marks := [] } h = .ok o a' h1 → leave P mark fn a' h1 = .ok v h' →
      body.wpIn Fence.wide 0 P (bodyPostM Fence.wide 0 P fn fun e w' => ∃ u ρ', e = .returned u ∧ VR ρ' v u ∧ RelH P ρ' base h' w' ∧ Post ρ h w mark ρ' h' w') { tmps := us.toArray ++ Array.replicate (fn.ntmps - us.toArray.size) Go.undef, defers := [] } w := by
    intro o a' h1 ho hcode hleave
    refine wpIn_mono (hR.code _ _ _ _ _ _ _ _ hcode ρ base _ w none 0 hs .none) ?_
    rintro e x1 w1 ⟨rfl, ρ1, t1⟩
    obtain ⟨h2, hd, hres⟩ := oV_ok hleave
    have key : LeavesInM Fence.wide 0 P fn x1.tmps (fun e w' => ∃ u ρ', e = .returned u ∧ VR ρ' v u ∧ RelH P ρ' base h' w' ∧ Post ρ h w mark ρ' h' w') x1.defers .returning w1 :=
      leave_run (mark := mark) (t := a'.tmps) (nt := a'.nt) t1.heap ⟨t1.frame.size, t1.frame.get⟩ t1.defers hd hres (fun w' u h3 h4 h5 => ⟨u, ρ1, rfl, h5, h3, t1.post.trans hr h4⟩)
    rcases ho with rfl | rfl
    · exact key
    · exact key
  unfold endCall at he
  split at he
  · rename_i a' h1 hcode; exact fin .norm a' h1 (.inl rfl) hcode he
  · rename_i a' h1 hcode; exact fin .ret a' h1 (.inr rfl) hcode he
  · cases he

/-- Functions whose contracts are given. -/
def OrcOk (P : Program) (O : Orc) : Prop := ∀ k args h v h', O k args h = some (v, h') → (∃ fn c, P.funcs[k]? = some fn ∧ fn.body = some c) ∧
  ∀ mark ρ base w us, RelH P ρ base h w → base ≤ w.heap.size → mark ≤ h.next → VRs ρ args us → Calls P k us.toArray w fun e w' => ∃ u ρ', e = .returned u ∧ VR ρ' v u ∧ RelH P ρ' base h' w' ∧ Post ρ h w mark ρ' h' w'
theorem evCall_cases {O : Orc} {k : FuncId} {args : List AV} {h h' : Hp} {v : AV} (he : evCall P O R mark k args h = .ok v h') : O k args h = some (v, h') ∨ ∃ fn, P.funcs[k]? = some fn ∧ callAt P R mark fn args h = .ok v h' := by
  unfold evCall at he
  cases ho : O k args h with
  | some p =>
    rw [ho] at he
    injection he with h1 h2
    exact .inl (by rw [← h1, ← h2])
  | none =>
    rw [ho] at he
    obtain ⟨fn, h1, h2⟩ := oV_ok (show oV P.funcs[k]? _ = .ok v h' from he)
    exact .inr ⟨fn, h1, h2⟩
theorem evCall_ok {O : Orc} (hO : OrcOk P O) (hR : Ok P R) : CallOk P (evCall P O R) := by
  intro mark k args h v h' he ρ base w us hr hb hm hus
  rcases evCall_cases he with h1 | ⟨fn, h1, h2⟩
  · exact (hO k args h v h' h1).2 mark ρ base w us hr hb hm hus
  · exact callAt_run hR h1 h2 hr hb hm hus
theorem evCall_entered {O : Orc} (hO : OrcOk P O) : Entered P (recF P O R) := by
  intro mark k args h v h' he
  rcases evCall_cases (show evCall P O R mark k args h = .ok v h' from he) with h1 | ⟨fn, h1, h2⟩
  · exact (hO k args h v h' h1).1
  · obtain ⟨body, h3, _⟩ := oV_ok h2
    exact ⟨fn, body, h1, h3⟩
theorem recN_ok {O : Orc} (hN : Plain P) (hO : OrcOk P O) (hD : ∀ R, Ok P R → Entered P R → DrawOk P R) : ∀ n, Ok P (recN P O n) ∧ Entered P (recN P O n)
  | 0 => ⟨⟨fun _ _ _ _ _ _ _ _ h => (by cases h), fun _ _ _ _ _ _ h => (by cases h)⟩, fun _ _ _ _ _ _ h => (by cases h)⟩
  | n + 1 => by
    obtain ⟨h1, h2⟩ := recN_ok hN hO hD n
    exact ⟨⟨evCode_ok hN h2 h1 (hD _ h1 h2), evCall_ok hO h1⟩, evCall_entered hO⟩
end
end Go.Ev
end

section
namespace Go.Ev

def Ch (k : Kind) : Prop := k = .eff ∨ k = .call
theorem not_val : ¬ Ch .val := fun h => by rcases h with h | h <;> cases h
theorem not_cre : ¬ Ch .cre := fun h => by rcases h with h | h <;> cases h
def creK : Kind → Nat
  | .cre => 1
  | _ => 0
structure Step (P : Program) (R : Rec) (ops : List Oper) (anc : List Nat) (o : Oper) (s s' : DrawSt) (v : AV) : Prop where
  a : s'.a = Fr.put s.a o.dst v
  i : s'.i = s.i + 1
  nm : s'.nm = s.nm + creK (kindOf o)
  skip : wanted ops s.a o = false → v = .undef
  val : wanted ops s.a o = true → kindOf o = .val → valOp P s.h s.a o = some v ∧ (s.i, readsOf s.a o) ∈ s'.rd
  cre : wanted ops s.a o = true → kindOf o = .cre → ∃ ob, creOp P s.a o = some ob ∧ creVal s.a o s.nm = some v ∧ s'.pend = s.pend ++ [(s.i, s.nm, ob)]
  chain : wanted ops s.a o = true → Ch (kindOf o) → Nat.land s.cm (ancOf anc s.i) = s.cm ∧ evOp P R s.h.next o s.a { layP (ancOf anc s.i) s with mods := [] } = .ok v s'.h ∧ s'.cm = Nat.lor s.cm (Nat.shiftLeft 1 s.i) ∧ s'.pend = keepP (ancOf anc s.i) s.pend ∧ (s.i, s'.h.mods) ∈ s'.wr
  heap : ¬(wanted ops s.a o = true ∧ Ch (kindOf o)) → s'.h = s.h ∧ s'.cm = s.cm
  pend : ¬(wanted ops s.a o = true ∧ (Ch (kindOf o) ∨ kindOf o = .cre)) → s'.pend = s.pend
  rd : ∀ p ∈ s.rd, p ∈ s'.rd
  wr : ∀ p ∈ s.wr, p ∈ s'.wr
  known : topG ops s.a o = false

section
variable {P : Program} {R : Rec} {ops : List Oper} {anc mods : List Nat} {mark base : Nat}
theorem step_of {o : Oper} {ih : DrawSt → Res} {s : DrawSt} {out : Out} {a' : Fr} {h' : Hp} (he : dStep P R ops anc o ih s = .ok out a' h') : ∃ s' v, Step P R ops anc o s s' v ∧ ih s' = .ok out a' h' := by
  unfold dStep at he
  cases hT : topG ops s.a o with
  | true => rw [hT] at he; cases he
  | false =>
  rw [hT] at he
  cases hw : wanted ops s.a o with
  | false =>
    rw [hw] at he
    refine ⟨_, .undef, ?_, he⟩
    refine ⟨rfl, rfl, ?_, fun _ => rfl, fun h => by simp [hw] at h, fun h => by simp [hw] at h, fun h => by simp [hw] at h, fun _ => ⟨rfl, rfl⟩, fun _ => rfl, fun _ h => h, fun _ h => h, hT⟩
    cases kindOf o <;> rfl
  | true =>
    rw [hw] at he
    have he : dD (kindOf o) o P R anc ih s = .ok out a' h' := he
    have chain : ∀ {k : Kind}, kindOf o = k → Ch k → dChain o P R anc ih s = .ok out a' h' → ∃ s' v, Step P R ops anc o s s' v ∧ ih s' = .ok out a' h' := by
      intro k hk hc he
      unfold dChain dChainAt at he
      rw [sel_eq] at he
      split at he
      case isFalse => cases he
      rename_i hcm
      rw [nat_beq, decide_eq_true_eq] at hcm
      cases hf : evOp P R s.h.next o s.a { layP (ancOf anc s.i) s with mods := [] } with
      | bad => rw [hf] at he; cases he
      | ok v h =>
        rw [hf] at he
        refine ⟨_, v, ?_, he⟩
        refine ⟨rfl, rfl, ?_, fun h => by simp [hw] at h, fun _ h => absurd (by rw [← h, hk]; exact hc) not_val, fun _ h => absurd (by rw [← h, hk]; exact hc) not_cre,
          fun _ _ => ⟨hcm, hf, rfl, rfl, List.mem_cons_self ..⟩, fun h => absurd ⟨hw, hk ▸ hc⟩ h, fun h => absurd ⟨hw, .inl (hk ▸ hc)⟩ h, fun _ h => h, fun _ h => List.mem_cons_of_mem _ h, hT⟩
        rw [hk]
        rcases hc with rfl | rfl <;> rfl
    cases hk : kindOf o with
    | val =>
      rw [hk] at he
      have he : oR (valOp P s.h s.a o) (fun v => ih { s with a := Fr.put s.a o.dst v, i := Nat.succ s.i, rd := (s.i, readsOf s.a o) :: s.rd }) = .ok out a' h' := he
      obtain ⟨v, h1, h2⟩ := oR_ok he
      refine ⟨_, v, ?_, h2⟩
      refine ⟨rfl, rfl, by rw [hk]; rfl, fun h => by simp [hw] at h, fun _ _ => ⟨h1, List.mem_cons_self ..⟩, fun _ h => absurd (hk.symm.trans h) (by simp), fun _ h => absurd (hk ▸ h : Ch .val) not_val, fun _ => ⟨rfl, rfl⟩, fun _ => rfl, fun _ h => List.mem_cons_of_mem _ h, fun _ h => h, hT⟩
    | cre =>
      rw [hk] at he
      have he : oR (creOp P s.a o) (fun ob => oR (creVal s.a o s.nm) fun v => ih { s with a := Fr.put s.a o.dst v, i := Nat.succ s.i, nm := Nat.succ s.nm, pend := s.pend ++ [(s.i, s.nm, ob)] }) = .ok out a' h' := he
      obtain ⟨ob, h1, h2⟩ := oR_ok he
      obtain ⟨v, h3, h4⟩ := oR_ok h2
      refine ⟨_, v, ?_, h4⟩
      refine ⟨rfl, rfl, by rw [hk]; rfl, fun h => by simp [hw] at h, fun _ h => absurd (hk.symm.trans h) (by simp), fun _ _ => ⟨ob, h1, h3, rfl⟩, fun _ h => absurd (hk ▸ h : Ch .cre) not_cre, fun _ => ⟨rfl, rfl⟩, fun h => absurd ⟨hw, .inr hk⟩ h, fun _ h => h, fun _ h => h, hT⟩
    | eff => rw [hk] at he; exact chain hk (.inl rfl) he
    | call => rw [hk] at he; exact chain hk (.inr rfl) he
theorem trace_of {out : Out} {a' : Fr} {h' : Hp} : ∀ (l : List Oper) (s : DrawSt), evDraw P R mark base ops anc mods l s = .ok out a' h' →
    ∃ (S : Nat → DrawSt) (V : Nat → AV), S 0 = s ∧ (∀ k o, l[k]? = some o → Step P R ops anc o (S k) (S (k + 1)) (V k)) ∧ dEnd mark base ops anc mods (S l.length) = .ok out a' h'
  | [], s, he => ⟨fun _ => s, fun _ => .undef, rfl, fun k o e => by simp at e, he⟩
  | o :: l, s, he => by
    obtain ⟨s', v, h1, h2⟩ := step_of (ih := evDraw P R mark base ops anc mods l) he
    obtain ⟨S, V, h3, h4, h5⟩ := trace_of l s' h2
    refine ⟨fun k => Nat.rec s (fun k _ => S k) k, fun k => Nat.rec v (fun k _ => V k) k, rfl, ?_, h5⟩
    intro k o' e
    cases k with
    | zero =>
      simp only [List.getElem?_cons_zero, Option.some.injEq] at e
      subst e
      change Step P R ops anc o s (S 0) v
      rw [h3]; exact h1
    | succ k =>
      simp only [List.getElem?_cons_succ] at e
      exact h4 k o' e

/-! Bits. -/
theorem land_bit {c m : Nat} (h : Nat.land c m = c) {i : Nat} (hb : bit c i = true) : bit m i = true := by
  rw [bit_eq] at *
  have h1 : (c &&& m).testBit i = c.testBit i := by rw [show c &&& m = Nat.land c m from rfl, h]
  rw [Nat.testBit_and, hb] at h1
  simpa using h1
theorem maskE_bit {acc : List Nat} {k : Nat} : ∀ {l : List Edge} {s : Nat}, bit (l.foldl (maskE acc) s) k = true → bit s k = true ∨ ∃ e ∈ l, Region.binds .any e = true ∧ (e.on = k ∨ ∃ m, getL acc e.on = some m ∧ bit m k = true)
  | [], _, h => .inl h
  | e :: l, s, h => by
    rcases maskE_bit (l := l) h with h1 | ⟨e', h1, h2⟩
    · unfold maskE at h1
      rw [sel_eq] at h1
      split at h1
      · rename_i hb
        rw [bit_lor, bit_lor, bit_one] at h1
        simp only [Bool.or_eq_true, decide_eq_true_eq] at h1
        rcases h1 with h1 | h1 | h1
        · exact .inl h1
        · exact .inr ⟨e, List.mem_cons_self .., hb, .inl h1⟩
        · cases hg : getL acc e.on with
          | none => rw [hg] at h1; exact absurd h1 (by change ¬ bit 0 k = true; rw [bit_zero]; simp)
          | some m => rw [hg] at h1; exact .inr ⟨e, List.mem_cons_self .., hb, .inr ⟨m, hg, h1⟩⟩
      · exact .inl h1
    · exact .inr ⟨e', List.mem_cons_of_mem _ h1, h2⟩
theorem ancs_get : ∀ (l : List Oper) (acc : List Nat) (A : List Nat), ancs l acc = A → A.take acc.length = acc ∧ ∀ j m, acc.length ≤ j → A[j]? = some m → ∃ o, l[j - acc.length]? = some o ∧ m = o.after.toList.foldl (maskE (A.take j)) 0
  | [], acc, A, h => by
    subst h
    exact ⟨by simp [ancs], fun j m h1 h2 => by rw [show ancs [] acc = acc from rfl, List.getElem?_eq_none h1] at h2; cases h2⟩
  | o :: l, acc, A, h => by
    obtain ⟨h1, h2⟩ := ancs_get l (acc ++ [o.after.toList.foldl (maskE acc) 0]) A h
    simp only [List.length_append, List.length_cons, List.length_nil, Nat.zero_add] at h1 h2
    have h3 : A.take acc.length = acc := by
      have := congrArg (List.take acc.length) h1
      rw [List.take_take, Nat.min_eq_left (Nat.le_succ _), List.take_left'] at this
      · exact this
      · rfl
    refine ⟨h3, fun j m h4 h5 => ?_⟩
    by_cases hj : j = acc.length
    · subst hj
      refine ⟨o, by simp, ?_⟩
      rw [h3]
      have h6 : (A.take (acc.length + 1))[acc.length]? = some m := by rw [List.getElem?_take, if_pos (Nat.lt_succ_self _)]; exact h5
      rw [h1] at h6
      simpa using h6.symm
    · obtain ⟨o', e1, e2⟩ := h2 j m (by omega) h5
      refine ⟨o', ?_, e2⟩
      have : j - acc.length = (j - (acc.length + 1)) + 1 := by omega
      rw [this, List.getElem?_cons_succ]; exact e1
/-- What has been waited for is listed. -/
theorem anc_in {D : Nat → Prop} (hD : ∀ j o, D j → ops[j]? = some o → ∀ e ∈ o.after, Region.binds .any e = true → D e.on) : ∀ (j : Nat) (o : Oper), ops[j]? = some o → (∀ e ∈ o.after, Region.binds .any e = true → D e.on) → ∀ k, bit (ancOf (ancs ops []) j) k = true → D k := by
  intro j
  induction j using Nat.strongRecOn with
  | ind j ih =>
    intro o ho hr k hb
    unfold ancOf at hb
    rw [getL_eq] at hb
    cases hm : (ancs ops [])[j]? with
    | none => rw [hm] at hb; exact absurd hb (by change ¬ bit 0 k = true; rw [bit_zero]; simp)
    | some m =>
      rw [hm] at hb
      have hb : bit m k = true := hb
      obtain ⟨o', h1, h2⟩ := (ancs_get ops [] _ rfl).2 j m (Nat.zero_le _) hm
      simp only [List.length_nil, Nat.sub_zero] at h1
      rw [ho] at h1
      cases h1
      rw [h2] at hb
      rcases maskE_bit hb with h3 | ⟨e, h3, h4, h5⟩
      · rw [bit_zero] at h3; cases h3
      · have h6 := hr e (by simpa using h3) h4
        rcases h5 with rfl | ⟨m', h7, h8⟩
        · exact h6
        · rw [getL_eq, List.getElem?_take] at h7
          split at h7
          · rename_i hlt
            obtain ⟨o2, g1, g2⟩ := (ancs_get ops [] _ rfl).2 e.on m' (Nat.zero_le _) h7
            simp only [List.length_nil, Nat.sub_zero] at g1
            refine ih e.on hlt o2 g1 (hD e.on o2 h6 g1) k ?_
            unfold ancOf
            rw [getL_eq, h7]
            exact h8
          · cases h7
theorem slotsAt_ok {oa : Array Oper} {m : Nat} {o : Oper} : ∀ {l : List Oper} {i : Nat}, slotsAt oa m o l i = true → ∀ k x, l[k]? = some x → bit m (i + k) = true ∨ x.apart oa o = true
  | [], _, _, k, x, e => by simp at e
  | y :: l, i, h, k, x, e => by
    unfold slotsAt at h
    simp only [Bool.and_eq_true, Bool.or_eq_true] at h
    cases k with
    | zero => simp only [List.getElem?_cons_zero, Option.some.injEq] at e; subst e; exact h.1
    | succ k =>
      simp only [List.getElem?_cons_succ] at e
      have := slotsAt_ok h.2 k x e
      rwa [Nat.succ_add, ← Nat.add_succ] at this
theorem slotsB_ok {oa : Array Oper} : ∀ {l b : List Oper} {j : Nat}, b.length = j → slotsB oa anc b l j = true → ∀ k o, l[k]? = some o → backB (j + k) o = true ∧ ∀ i x, i < j + k → (b ++ l)[i]? = some x → bit (ancOf anc (j + k)) i = true ∨ x.apart oa o = true
  | [], _, _, _, _, k, o, e => by simp at e
  | y :: l, b, j, hb, h, k, o, e => by
    unfold slotsB at h
    simp only [Bool.and_eq_true] at h
    obtain ⟨h1, h2, h3⟩ := h
    cases k with
    | zero =>
      simp only [List.getElem?_cons_zero, Option.some.injEq] at e
      subst e
      refine ⟨h1, fun i x hi hx => ?_⟩
      have := slotsAt_ok h2 i x (by rw [List.getElem?_append_left (by omega)] at hx; exact hx)
      simpa using this
    | succ k =>
      simp only [List.getElem?_cons_succ] at e
      have := slotsB_ok (b := b ++ [y]) (j := Nat.succ j) (by simp [hb]) h3 k o e
      rw [Nat.succ_add, ← Nat.add_succ] at this
      refine ⟨this.1, fun i x hi hx => this.2 i x hi (by simpa using hx)⟩
theorem backB_ok {j : Nat} {o : Oper} (h : backB j o = true) : ∀ e ∈ o.after, Region.binds .any e = true → e.on < j := by
  unfold backB at h
  rw [allL_eq, List.all_eq_true] at h
  intro e he hb
  have := h e (by simpa using he)
  rw [sel_eq, if_pos hb, nat_ble] at this
  simp only [decide_eq_true_eq] at this
  exact this
theorem apart_ok {rd wr : List (Nat × List Nat)} (h : apartL ops base anc rd wr = true) {i j : Nat} {rs ms : List Nat} (h1 : (i, rs) ∈ rd) (h2 : (j, ms) ∈ wr) {r : Nat} (h3 : r ∈ rs) (h4 : r ∈ ms) (hsoft : softB ops base i j rs = false) : (i ≤ j → bit (ancOf anc j) i = true) ∧ (j < i → bit (ancOf anc i) j = true) := by
  unfold apartL at h
  rw [allL_eq, List.all_eq_true] at h
  have h5 := h _ h1
  unfold apartR at h5
  split at h5
  · rename_i he
    simp only at he
    rw [he] at h3
    cases h3
  · rw [allL_eq, List.all_eq_true] at h5
    have h6 := h5 _ h2
    simp only at h6
    cases ms with
    | nil => cases h4
    | cons m ms =>
      simp only at h6
      unfold apartB at h6
      rw [hsoft, Bool.false_or, Bool.or_eq_true, allL_eq, List.all_eq_true] at h6
      rcases h6 with h6 | h6
      · have := h6 r h3
        have h7 := (hasN_iff r (m :: ms)).2 h4
        rw [h7] at this
        cases this
      · rw [nat_ble] at h6
        by_cases hij : i ≤ j
        · simp only [decide_eq_true hij] at h6
          exact ⟨fun _ => h6, fun h => by omega⟩
        · simp only [decide_eq_false hij] at h6
          exact ⟨fun h => absurd h hij, fun _ => h6⟩
end
end Go.Ev
end

section
namespace Go.Ev
section
variable {P : Program} {a b : Fr}
theorem evalL_congr : ∀ {l : List Operand}, (∀ y ∈ l, a.eval y = b.eval y) → evalL a l = evalL b l
  | [], _ => rfl
  | y :: l, h => by
    unfold evalL
    rw [h y (List.mem_cons_self ..), evalL_congr (l := l) fun z hz => h z (List.mem_cons_of_mem _ hz)]
theorem evalP_congr : ∀ {l : List (Nat × Operand)}, (∀ p ∈ l, a.eval p.2 = b.eval p.2) → evalP a l = evalP b l
  | [], _ => rfl
  | (i, y) :: l, h => by
    unfold evalP
    rw [h (i, y) (List.mem_cons_self ..), evalP_congr (l := l) fun z hz => h z (List.mem_cons_of_mem _ hz)]
theorem evalO_congr {y : Option Operand} (h : ∀ z ∈ y, a.eval z = b.eval z) : evalO a y = evalO b y := by
  cases y with
  | none => rfl
  | some y => simp only [evalO, h y rfl]
theorem args_congr {c : Call} (h : ∀ y ∈ c.operands, a.eval y = b.eval y) : evalL a c.args.toList = evalL b c.args.toList :=
  evalL_congr fun y hy => h y (by simp [Call.operands]; exact .inr (by simpa using hy))
theorem callee_congr {c : Call} (h : ∀ y ∈ c.operands, a.eval y = b.eval y) {g : Operand} (hg : c.callee = .value g) : a.eval g = b.eval g := h g (by simp [Call.operands, hg])
theorem valOp_congr {o : Oper} {hp : Hp} (h : ∀ y ∈ o.op.operands, a.eval y = b.eval y) : Ev.valOp P hp a o = Ev.valOp P hp b o := by
  obtain ⟨dst, op, type, pos, after, guard⟩ := o
  unfold Ev.valOp
  simp only at h ⊢
  cases op <;> first | rfl | skip
  case move y => exact h y (by simp [Op.operands])
  case assign y => exact h y (by simp [Op.operands])
  case pick c x y =>
    change vPick a c x y = vPick b c x y
    unfold vPick
    rw [h c (by simp [Op.operands]), h x (by simp [Op.operands]), h y (by simp [Op.operands])]
  case build t ps =>
    change vBuild P a t ps = vBuild P b t ps
    unfold vBuild
    rw [evalP_congr fun p hp => h p.2 (by simp only [Op.operands, List.mem_toArray, List.mem_map]; exact ⟨p, hp, rfl⟩)]
  case load t x =>
    change vLoad P hp a t x = vLoad P hp b t x
    unfold vLoad
    rw [h x (by simp [Op.operands])]
  case nilCheck x =>
    change vNil a x = vNil b x
    unfold vNil
    rw [h x (by simp [Op.operands])]
  case binOp op t x y u =>
    change vBin P a op t x y = vBin P b op t x y
    unfold vBin
    rw [h x (by simp [Op.operands]), h y (by simp [Op.operands])]
  case unOp op t x =>
    change vUn a op x = vUn b op x
    unfold vUn
    rw [h x (by simp [Op.operands])]
  case convert s d x =>
    change vConv P a s d x = vConv P b s d x
    unfold vConv
    rw [h x (by simp [Op.operands])]
  case makeFunc f u c =>
    change vFunc a f u c = vFunc b f u c
    unfold vFunc
    rw [evalL_congr fun y hy => h y (by simp [Op.operands]; exact .inl (by simpa using hy)), evalL_congr fun y hy => h y (by simp [Op.operands]; exact .inr (by simpa using hy))]
  case slice t x lo hi mx =>
    change vSlice P hp a t x lo hi mx = vSlice P hp b t x lo hi mx
    unfold vSlice
    rw [h x (by simp [Op.operands]), evalO_congr fun z hz => h z (by simp [Op.operands]; simp at hz; simp [hz]), evalO_congr fun z hz => h z (by simp [Op.operands]; simp at hz; simp [hz]), evalO_congr fun z hz => h z (by simp [Op.operands]; simp at hz; simp [hz])]
  case fieldAddr s x f =>
    change vFieldAddr P a s x f = vFieldAddr P b s x f
    unfold vFieldAddr
    rw [h x (by simp [Op.operands])]
  case field s x f =>
    change vField P a s x f = vField P b s x f
    unfold vField
    rw [h x (by simp [Op.operands])]
  case indexAddr t x i =>
    change vIndexAddr P a t x i = vIndexAddr P b t x i
    unfold vIndexAddr
    rw [h x (by simp [Op.operands]), h i (by simp [Op.operands])]
  case index t x i =>
    change vIndex P a t x i = vIndex P b t x i
    unfold vIndex
    rw [h x (by simp [Op.operands]), h i (by simp [Op.operands])]
  case lookup t m k ok =>
    change vLookup P hp a t m k ok = vLookup P hp b t m k ok
    unfold vLookup
    rw [h m (by simp [Op.operands]), h k (by simp [Op.operands])]
  case extract x i =>
    change vExtract a x i = vExtract b x i
    unfold vExtract
    rw [h x (by simp [Op.operands])]
  case call c =>
    change vCall P hp a c = vCall P hp b c
    unfold vCall
    rw [args_congr h]
theorem readsOf_congr {o : Oper} (h : ∀ y ∈ o.op.operands, a.eval y = b.eval y) : readsOf a o = readsOf b o := by
  obtain ⟨dst, op, type, pos, after, guard⟩ := o
  unfold readsOf
  simp only at h ⊢
  cases op <;> first | rfl | skip
  case load t x => simp only [h x (by simp [Op.operands])]
  case slice t x lo hi mx => simp only [h x (by simp [Op.operands])]
  case lookup t m k ok => simp only [h m (by simp [Op.operands])]
  case call c => simp only [args_congr h]
theorem creOp_congr {o : Oper} (h : ∀ y ∈ o.op.operands, a.eval y = b.eval y) : creOp P a o = creOp P b o := by
  obtain ⟨dst, op, type, pos, after, guard⟩ := o
  unfold creOp
  simp only at h ⊢
  cases op <;> first | rfl | skip
  case box e x => simp only [h x (by simp [Op.operands])]
  case buildSlice t n ps =>
    simp only
    rw [evalP_congr fun p hp => h p.2 (by simp only [Op.operands, List.mem_toArray, List.mem_map]; exact ⟨p, hp, rfl⟩)]
  case makeSlice t l c => simp only [h l (by simp [Op.operands]), h c (by simp [Op.operands])]
  case makeMap t r => cases r <;> rfl
theorem creVal_congr {o : Oper} {nm : Nat} (h : ∀ y ∈ o.op.operands, a.eval y = b.eval y) : creVal a o nm = creVal b o nm := by
  obtain ⟨dst, op, type, pos, after, guard⟩ := o
  unfold creVal
  simp only at h ⊢
  cases op <;> first | rfl | skip
  case makeSlice t l c => simp only [h l (by simp [Op.operands]), h c (by simp [Op.operands])]
theorem effOp_congr {o : Oper} {mark : Nat} {hp : Hp} (h : ∀ y ∈ o.op.operands, a.eval y = b.eval y) : effOp P mark hp a o = effOp P mark hp b o := by
  obtain ⟨dst, op, type, pos, after, guard⟩ := o
  unfold effOp
  simp only at h ⊢
  cases op <;> first | rfl | skip
  case store t x y => simp only [h x (by simp [Op.operands]), h y (by simp [Op.operands])]
  case mapUpdate t m k v => simp only [h m (by simp [Op.operands]), h k (by simp [Op.operands]), h v (by simp [Op.operands])]
  case insert t m k v => simp only [h m (by simp [Op.operands]), h k (by simp [Op.operands]), h v (by simp [Op.operands])]
  case range t x => simp only [h x (by simp [Op.operands])]
  case entry x => simp only [h x (by simp [Op.operands])]
  case mapEntry t m k => simp only [h m (by simp [Op.operands]), h k (by simp [Op.operands])]
  case entryStore t m s v => simp only [h m (by simp [Op.operands]), h s (by simp [Op.operands]), h v (by simp [Op.operands])]
  case call c => simp only [args_congr h]
theorem opCall_congr {o : Oper} {R : Rec} {mark : Nat} {hp : Hp} (h : ∀ y ∈ o.op.operands, a.eval y = b.eval y) : opCall o P R mark a hp = opCall o P R mark b hp := by
  obtain ⟨dst, op, type, pos, after, guard⟩ := o
  unfold opCall
  simp only at h ⊢
  cases op <;> first | rfl | skip
  case call c =>
    simp only
    unfold opCallC
    rw [args_congr h]
    congr 1
    funext args
    split
    · rename_i g hg
      rw [callee_congr h hg]
    · rfl
theorem evOp_congr {o : Oper} {R : Rec} {mark : Nat} {hp : Hp} (h : ∀ y ∈ o.op.operands, a.eval y = b.eval y) : evOp P R mark o a hp = evOp P R mark o b hp := by
  unfold evOp
  cases hk : kindOf o with
  | val => exact congrArg (ofV hp) (valOp_congr h)
  | cre =>
    change oV (creOp P a o) (fun ob => oV (creVal a o hp.next) fun v => .ok v (hp.new ob)) = oV (creOp P b o) (fun ob => oV (creVal b o hp.next) fun v => .ok v (hp.new ob))
    rw [creOp_congr h, creVal_congr h]
  | eff => exact congrArg ofO (effOp_congr h)
  | call => exact opCall_congr (P := P) h
theorem wanted_congr {ops : List Oper} {o : Oper} (h : ∀ g want, o.guard = some (g, want) → ∀ og d, ops[g]? = some og → og.dst = some d → a.get d = b.get d) : Ev.wanted ops a o = Ev.wanted ops b o := by
  unfold Ev.wanted
  cases hg : o.guard with
  | none => rfl
  | some q =>
    obtain ⟨g, want⟩ := q
    change wantedAt ops a g want = wantedAt ops b g want
    unfold wantedAt
    rw [getL_eq]
    cases ho : ops[g]? with
    | none => rfl
    | some og =>
      change (Option.rec false (fun d => (Fr.get a d).boolE false fun b => Bool.rec (not want) want b) og.dst : Bool) = Option.rec false (fun d => (Fr.get b d).boolE false fun b => Bool.rec (not want) want b) og.dst
      cases hd : og.dst with
      | none => rfl
      | some d => simp only [h g want hg og d ho hd]
theorem topG_congr {ops : List Oper} {o : Oper} (h : ∀ g want, o.guard = some (g, want) → ∀ og d, ops[g]? = some og → og.dst = some d → a.get d = b.get d) : topG ops a o = topG ops b o := by
  unfold topG
  cases hg : o.guard with
  | none => rfl
  | some q =>
    obtain ⟨g, want⟩ := q
    simp only [getL_eq]
    cases ho : ops[g]? with
    | none => rfl
    | some og =>
      simp only
      cases hd : og.dst with
      | none => rfl
      | some d => simp only [h g want hg og d ho hd]
/-- Frames that agree on what an operation looks at. -/
theorem looks_eval {ops : Array Oper} {o : Oper} (h : ∀ t ∈ o.looksAt ops, a.get t = b.get t) : ∀ y ∈ o.op.operands, a.eval y = b.eval y := by
  intro y hy
  cases y with
  | tmp t => exact congrArg AV.known (h t (List.mem_append_left _ (List.mem_filterMap.2 ⟨.tmp t, by simpa using hy, rfl⟩)))
  | _ => rfl
theorem looks_wanted {ops : List Oper} {o : Oper} (h : ∀ t ∈ o.looksAt ops.toArray, a.get t = b.get t) : Ev.wanted ops a o = Ev.wanted ops b o :=
  wanted_congr fun g want hg og d ho hd => h d (List.mem_append_right _ (by simp only [hg, List.getElem?_toArray, ho, Option.bind_some, hd]; simp))
theorem looks_top {ops : List Oper} {o : Oper} (h : ∀ t ∈ o.looksAt ops.toArray, a.get t = b.get t) : topG ops a o = topG ops b o :=
  topG_congr fun g want hg og d ho hd => h d (List.mem_append_right _ (by simp only [hg, List.getElem?_toArray, ho, Option.bind_some, hd]; simp))
theorem reads_known {ρ : Rn} {o : Oper} {x : Act} (hf : FrR ρ a x.tmps) {r : Nat} (hr : r ∈ readsOf a o) : ∃ p, ρ r = some p := by
  obtain ⟨dst, op, type, pos, after, guard⟩ := o
  unfold readsOf at hr
  cases op <;> simp only at hr <;> first | cases hr; done | skip
  case load t y =>
    split at hr
    · rename_i r' off he
      simp only [List.mem_singleton] at hr
      subst hr
      have := hf.eval he
      generalize x.eval y = u at this
      cases this
      exact ⟨_, ‹_›⟩
    · cases hr
  case slice t y lo hi mx =>
    split at hr
    · rename_i r' off n k he
      simp only [List.mem_singleton] at hr
      subst hr
      have := hf.eval he
      generalize x.eval y = u at this
      cases this
      exact ⟨_, ‹_›⟩
    · cases hr
  case lookup t m k ok =>
    split at hr
    · rename_i r' he
      simp only [List.mem_singleton] at hr
      subst hr
      have := hf.eval he
      generalize x.eval m = u at this
      cases this
      exact ⟨_, ‹_›⟩
    · cases hr
  case call c =>
    split at hr
    · rename_i r' he
      simp only [List.mem_singleton] at hr
      subst hr
      have := hf.evalL he
      generalize c.args.toList.map x.eval = us at this
      cases this with
      | cons h1 _ => cases h1; exact ⟨_, ‹_›⟩
    · cases hr
end
end Go.Ev
end

