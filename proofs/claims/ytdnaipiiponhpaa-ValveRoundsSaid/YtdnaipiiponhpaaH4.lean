/- Drawn regions: 'min' and 'max' are taken first, too. -/
import Derived.Test.YtdnaipiiponhpaaH3
namespace Go.Proofs.Ytdnaipiiponhpaa
open Go.RowKit Go.Shelf

section
variable {P : Program} {ops : Array Oper} {md : Region.Mode} {S : World → Prop} {Q : Exit → Act → World → Prop}
def valOp2 : Op → Bool
  | .move _ | .assign _ | .pick .. | .build .. | .load .. | .fieldAddr .. | .field .. | .indexAddr .. | .index .. | .binOp .. | .unOp .. | .convert .. | .slice .. | .extract .. => true
  | .call c => match c.callee with | .builtin .len | .builtin .min | .builtin .max => true | _ => false
  | _ => false
theorem val_run2 {o : Oper} {ρ : Operand → Value} (h : valOp2 o.op = true) (w : World) : (∃ v w', (execOp ρ o).run P w = .ok (.value v) w') ∨ ∃ x w', (execOp ρ o).run P w = .halt x w' := by
  have key : ∀ s : Sem Value, (∃ v w', ((do pure (Next.value (← s))) : Sem Next).run P w = .ok (.value v) w') ∨ ∃ x w', ((do pure (Next.value (← s))) : Sem Next).run P w = .halt x w' := by
    intro s
    rw [vrun]
    cases s.run P w with
    | ok v w' => exact .inl ⟨v, w', rfl⟩
    | halt x w' => exact .inr ⟨x, w', rfl⟩
  unfold execOp
  cases ho : o.op <;> simp only [ho, valOp2] at h ⊢ <;> first | exact key _ | exact Bool.noConfusion h | skip
  case move x => exact .inl ⟨_, _, rfl⟩
  case assign x => exact .inl ⟨_, _, rfl⟩
  case pick c x y =>
    rw [Sem.run_bind]
    cases (asBool (ρ c)).run P w with
    | ok v w' => exact .inl ⟨_, w', rfl⟩
    | halt x w' => exact .inr ⟨x, w', rfl⟩
  case call c =>
    obtain ⟨cal, args, tys⟩ := c
    cases cal with
    | value f => simp at h
    | invoke r m => simp at h
    | builtin b =>
      cases b <;> simp at h
      · simp only [resolve, Sem.run_bind, Sem.run_pure, Result.andThen_ok, invoke, builtin]
        cases (Builtin.len_ tys o.type (Array.map ρ args)).run P w with
        | ok v w' => exact .inl ⟨v, w', rfl⟩
        | halt x w' => exact .inr ⟨x, w', rfl⟩
      · simp only [resolve, Sem.run_bind, Sem.run_pure, Result.andThen_ok, invoke, builtin]
        cases (Builtin.max_ tys o.type (Array.map ρ args)).run P w with
        | ok v w' => exact .inl ⟨v, w', rfl⟩
        | halt x w' => exact .inr ⟨x, w', rfl⟩
      · simp only [resolve, Sem.run_bind, Sem.run_pure, Result.andThen_ok, invoke, builtin]
        cases (Builtin.min_ tys o.type (Array.map ρ args)).run P w with
        | ok v w' => exact .inl ⟨v, w', rfl⟩
        | halt x w' => exact .inr ⟨x, w', rfl⟩
theorem yieldsIf_of_quiet2 {o : Oper} {rest : List Oper} {Lq : Act → Prop} {a : Act} (hv : valOp2 o.op = true) (h : wpQuiet P ops S Lq (o :: rest) a) :
    ∃ v, YieldsIf P ops S o v a ∧ wpQuiet P ops S Lq rest (a.put o.dst v) := by
  unfold wpQuiet at h
  by_cases hw : Region.wanted o (yielded ops a.tmps) = true
  · rw [if_pos hw] at h
    obtain ⟨v, h1, h2⟩ := h
    refine ⟨v, .inl ⟨hw, fun w' hw' => ?_⟩, h2⟩
    have h3 := h1 w' hw'
    unfold Oper.quietAt at h3
    rcases val_run2 (P := P) (ρ := a.eval) hv w' with ⟨u, w2, e⟩ | ⟨x, w2, e⟩
    · rw [e] at h3 ⊢
      obtain ⟨rfl, rfl⟩ := h3
      rfl
    · rw [e] at h3; exact h3.elim
  · rw [if_neg hw] at h
    exact ⟨undef, .inr ⟨by simpa using hw, rfl⟩, h⟩
def headsB2 (md : Region.Mode) (ops : Array Oper) : List Nat → Array Bool → Bool
  | [], _ => true
  | k :: ks, listed => (Region.ready md ops listed).contains k && Region.free md ops listed k && ((ops[k]?).map fun o => valOp2 o.op).getD false && headsB2 md ops ks (listed.setIfInBounds k true)
theorem heads_U2 {need : Nat → Bool} (l : List Oper) (hsel : Region.noSelect l.toArray = true) (hQ : ∀ c a d v w, Q (.panic c) (Act.put a d v) w → Q (.panic c) a w) (H : List Nat)
    (hwait : ∀ i ∈ H, ∀ listed, ClosedL md l.toArray listed → listed.getD i true = false → ∀ j ∈ Region.ready md l.toArray listed, j ≠ i → need j = true) {w : World} {Lq : Act → Prop} (fuel : Nat) :
    ∀ (hs : List Nat) (listed : Array Bool) (a : Act), hs.all (fun k => H.contains k) = true → headsB2 md l.toArray hs listed = true → ClosedL md l.toArray listed → (hs ≠ [] → S w) →
      (∀ a', ClosedL md l.toArray (markL hs listed) → Lq a' → wpAnyU P md l.toArray Q S need fuel (markL hs listed) a' w) →
      wpQuiet P l.toArray S Lq (pickL l hs) a → wpAnyU P md l.toArray Q S need (hs.length + fuel) listed a w
  | [], listed, a, _, _, hc, _, hk, h => by rw [show ([] : List Nat).length + fuel = fuel by simp]; exact hk a hc h
  | k :: ks, listed, a, hH, hB, hc, hS, hk, h => by
    simp only [headsB2, Bool.and_eq_true] at hB
    obtain ⟨⟨⟨hr, hf⟩, hv⟩, hB⟩ := hB
    simp only [List.all_cons, Bool.and_eq_true] at hH
    have hr' : k ∈ Region.ready md l.toArray listed := by simpa using hr
    obtain ⟨_, o, ho, _⟩ := mem_ready.1 hr'
    have hol : l[k]? = some o := by simpa using ho
    have hv' : valOp2 o.op = true := by rw [ho] at hv; exact hv
    simp only [pickL, hol] at h
    obtain ⟨v, hy, h2⟩ := yieldsIf_of_quiet2 hv' h
    rw [show (k :: ks).length + fuel = (ks.length + fuel) + 1 by simp; omega]
    refine wpAnyU_first ho (Region.noSelect_spec hsel) (fun c a w => hQ c a _ _ w) (hwait k (by simpa using hH.1)) _ _ _ _ hc (Region.free_spec ho hf) hr' hy (hS (by simp)) ?_
    exact heads_U2 l hsel hQ H hwait fuel ks _ _ hH.2 hB (hc.set hr') (fun _ => hS (by simp)) hk h2
theorem U_heads2 {K : Act → World → Prop} {a : Act} {w : World} {l : List Oper} {H W : List Nat} {fuel : Nat} {listed : Array Bool} (hs : List Nat)
    (hB : (hs.all (fun k => H.contains k) && headsB2 .any l.toArray hs listed && closedB .any l.toArray listed && decide (hs.length ≤ fuel)) = true) (hS : S w)
    (h : wpQuiet P l.toArray S (fun a' => wpU P l (onlyN K) S H W (fuel - hs.length) (markL hs listed) a' w) (pickL l hs) a) : wpU P l (onlyN K) S H W fuel listed a w := by
  intro hU
  simp only [Bool.and_eq_true, decide_eq_true_eq] at hB
  obtain ⟨⟨⟨h1, h2⟩, h3⟩, h4⟩ := hB
  have hU' := hU
  simp only [UB, Bool.and_eq_true] at hU'
  have := heads_U2 (need := fun j => !W.contains j) (Q := onlyN K) l hU'.1 (fun _ _ _ _ _ h => h) H ?_ (fuel - hs.length) hs listed a h1 h2 (closedB_spec h3) (fun _ => hS) (fun a' _ h' => h' hU) h
  · rwa [show hs.length + (fuel - hs.length) = fuel by omega] at this
  · intro i hi listed hc hu j hj hji
    cases hw : W.contains j with
    | false => rfl
    | true =>
      have h5 := List.all_eq_true.1 (List.all_eq_true.1 hU'.2 j (by simpa using hw)) i hi
      have := (ancs_anc (by simpa using h5)).listed hc hj
      rw [getD_both hu] at this
      cases this
end
end Go.Proofs.Ytdnaipiiponhpaa
