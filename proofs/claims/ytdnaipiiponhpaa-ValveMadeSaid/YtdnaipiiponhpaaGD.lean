/- Merged texts: drawn regions, Row, facts that stay, from a walk to the row, rows and lists of the call's own. -/
import Derived.Test.YtdnaipiiponhpaaGB
import Derived.OrdersHeld
import Derived.Test.YtdnaipiiponhpaaGC
import Derived.ProofKit
import Derived.OpenShut
import Derived.Lib.SmallJoins
import Derived.Deep.Slices
namespace Go.Proofs.Ytdnaipiiponhpaa
open Go.RowKit Go.Shelf

section
variable {P : Program} {ops : Array Oper} {md : Region.Mode} {S : World → Prop} {Q : Exit → Act → World → Prop}

def wpAnyU (P : Program) (md : Region.Mode) (ops : Array Oper) (Q : Exit → Act → World → Prop) (S : World → Prop) (need : Nat → Bool) : Nat → Array Bool → Act → World → Prop
  | 0, listed, a, w => Region.ready md ops listed = [] ∧ Q .normal a w
  | fuel + 1, listed, a, w =>
    (Region.ready md ops listed = [] → Q .normal a w) ∧
    ∀ i ∈ Region.ready md ops listed, wpOp P ops Q i (fun a' w' => (need i = true → S w') ∧ wpAnyU P md ops Q S need fuel (listed.setIfInBounds i true) a' w') a w
theorem wpAny_of_U {need : Nat → Bool} : ∀ (fuel : Nat) (listed : Array Bool) (a : Act) (w : World), wpAnyU P md ops Q S need fuel listed a w → wpAny P md ops Q fuel listed a w
  | 0, _, _, _, h => h
  | fuel + 1, _, _, _, h => ⟨h.1, fun i hi => wpOp_mono (fun a' w' h' => wpAny_of_U fuel _ a' w' h'.2) (h.2 i hi)⟩

def ClosedL (md : Region.Mode) (ops : Array Oper) (listed : Array Bool) : Prop :=
  ∀ j oj, ops[j]? = some oj → listed.getD j false = true → ∀ e ∈ oj.after, Region.binds md e = true → listed.getD e.on false = true
theorem ClosedL.set {i : Nat} {listed : Array Bool} (h : ClosedL md ops listed) (hi : i ∈ Region.ready md ops listed) : ClosedL md ops (listed.setIfInBounds i true) := by
  obtain ⟨_, oi, hoi, hall⟩ := mem_ready.1 hi
  intro j oj hj hl e he hb
  by_cases hij : i = j
  · subst hij
    obtain rfl : oj = oi := Option.some.inj (hj.symm.trans hoi)
    exact getD_set_true (hall e he hb)
  · rw [getD_set_ne false hij] at hl
    exact getD_set_true (h j oj hj hl e he hb)

theorem wpAnyU_first {need : Nat → Bool} {i : Nat} {oi : Oper} {v : Value} (hi : ops[i]? = some oi) (hsel : ∀ (j : Nat) (o : Oper) cs b, ops[j]? = some o → o.op ≠ .select cs b)
    (hQ : ∀ c a w, Q (.panic c) (a.put oi.dst v) w → Q (.panic c) a w)
    (hwait : ∀ listed, ClosedL md ops listed → listed.getD i true = false → ∀ j ∈ Region.ready md ops listed, j ≠ i → need j = true) :
    ∀ (fuel : Nat) (listed : Array Bool) (a : Act) (w : World), ClosedL md ops listed →
      (∀ j oj, ops[j]? = some oj → j ≠ i → listed.getD j true = false → (∀ e ∈ oj.after, Region.binds md e = true → e.on ≠ i) → oi.apart ops oj = true) →
      i ∈ Region.ready md ops listed → YieldsIf P ops S oi v a → S w →
      wpAnyU P md ops Q S need fuel (listed.setIfInBounds i true) (a.put oi.dst v) w → wpAnyU P md ops Q S need (fuel + 1) listed a w := by
  intro fuel
  induction fuel with
  | zero =>
    intro listed a w _ _ hr hy hS H
    refine ⟨fun h => (by rw [h] at hr; cases hr), fun j hj => ?_⟩
    by_cases hji : j = i
    · subst hji; exact hy.wpOp hi hS ⟨fun _ => hS, H⟩
    · have := ready_mono hj hji
      rw [H.1] at this
      cases this
  | succ fuel ih =>
    intro listed a w hcl hfree hr hy hS H
    refine ⟨fun h => (by rw [h] at hr; cases hr), fun j hj => ?_⟩
    by_cases hji : j = i
    · subst hji; exact hy.wpOp hi hS ⟨fun _ => hS, H⟩
    · have h1 := H.2 j (ready_mono hj hji)
      have hneed := hwait listed hcl (mem_ready.1 hr).1 j hj hji
      obtain ⟨hjun, oj, hoj, hall⟩ := mem_ready.1 hj
      have hnot : ∀ e ∈ oj.after, Region.binds md e = true → e.on ≠ i := fun e he hb heq => by
        have h1 := hall e he hb
        rw [heq, getD_both (mem_ready.1 hr).1] at h1
        cases h1
      have h2 := wpOp_putIf hoj (hfree j oj hoj hji hjun hnot) (fun cs b => hsel i oi cs b hi) (fun cs b => hsel j oj cs b hoj) hQ hy h1
      refine wpOp_mono (fun a' w' h3 => ⟨h3.2.1, ih (listed.setIfInBounds j true) a' w' (hcl.set hj) ?_ (ready_mono hr (Ne.symm hji)) h3.1 (h3.2.1 hneed) ?_⟩) h2
      · intro k ok hk hki hun hno
        refine hfree k ok hk hki ?_ hno
        by_cases hjk : j = k
        · subst hjk; exact hjun
        · rw [getD_set_ne true hjk] at hun; exact hun
      · rw [Array.setIfInBounds_comm _ _ hji]
        exact h3.2.2

/-! Who waits for whom. -/
inductive Anc (md : Region.Mode) (ops : Array Oper) : Nat → Nat → Prop
  | one {t : Nat} {o : Oper} {e : _} : ops[t]? = some o → e ∈ o.after → Region.binds md e = true → Anc md ops e.on t
  | more {h t : Nat} {o : Oper} {e : _} : Anc md ops h e.on → ops[t]? = some o → e ∈ o.after → Region.binds md e = true → Anc md ops h t
theorem Anc.closed {h t : Nat} {listed : Array Bool} (hc : ClosedL md ops listed) (H : Anc md ops h t) : listed.getD t false = true → listed.getD h false = true := by
  induction H with
  | one ht he hb => exact fun hl => hc _ _ ht hl _ he hb
  | more _ ht he hb ih => exact fun hl => ih (hc _ _ ht hl _ he hb)
theorem Anc.listed {h t : Nat} {listed : Array Bool} (hc : ClosedL md ops listed) (H : Anc md ops h t) (hr : t ∈ Region.ready md ops listed) : listed.getD h false = true := by
  obtain ⟨_, o', ho', hall⟩ := mem_ready.1 hr
  cases H with
  | one ht he hb =>
    obtain rfl := Option.some.inj (ho'.symm.trans ht)
    exact hall _ he hb
  | more H ht he hb =>
    obtain rfl := Option.some.inj (ho'.symm.trans ht)
    exact H.closed hc (hall _ he hb)
def depsL (md : Region.Mode) (ops : Array Oper) (t : Nat) : List Nat :=
  match ops[t]? with
  | none => []
  | some o => (o.after.toList.filter fun e => Region.binds md e).map fun e => e.on
def growL (md : Region.Mode) (ops : Array Oper) : Nat → List Nat → List Nat → List Nat
  | 0, seen, _ => seen
  | f + 1, seen, front => growL md ops f (seen ++ ((front.flatMap (depsL md ops)).filter fun x => !seen.contains x).eraseDups) ((front.flatMap (depsL md ops)).filter fun x => !seen.contains x).eraseDups
theorem deps_anc {t x : Nat} (h : x ∈ depsL md ops t) : Anc md ops x t := by
  unfold depsL at h
  split at h
  · cases h
  · rename_i o ho
    obtain ⟨e, he, rfl⟩ := List.mem_map.1 h
    obtain ⟨he, hb⟩ := List.mem_filter.1 he
    exact .one ho (by simpa using he) hb
theorem anc_trans {a b t : Nat} (h1 : Anc md ops a b) (h2 : Anc md ops b t) : Anc md ops a t := by
  revert h1
  induction h2 with
  | one ht he hb => exact fun h1 => .more h1 ht he hb
  | more _ ht he hb ih => exact fun h1 => .more (ih h1) ht he hb
theorem grow_anc {t : Nat} : ∀ (f : Nat) (seen front : List Nat), (∀ x ∈ seen, Anc md ops x t) → (∀ x ∈ front, Anc md ops x t) → ∀ x ∈ growL md ops f seen front, Anc md ops x t
  | 0, _, _, h1, _, x, hx => h1 x hx
  | f + 1, seen, front, h1, h2, x, hx => by
    have hn : ∀ y ∈ ((front.flatMap (depsL md ops)).filter fun x => !seen.contains x).eraseDups, Anc md ops y t := by
      intro y hy
      have hy := List.mem_eraseDups.1 hy
      obtain ⟨hy, _⟩ := List.mem_filter.1 hy
      obtain ⟨z, hz, hyz⟩ := List.mem_flatMap.1 hy
      exact anc_trans (deps_anc hyz) (h2 z hz)
    exact grow_anc f _ _ (fun y hy => (List.mem_append.1 hy).elim (h1 y) (hn y)) hn x hx
def ancsL (md : Region.Mode) (ops : Array Oper) (t : Nat) : List Nat := growL md ops ops.size (depsL md ops t) (depsL md ops t)
theorem ancs_anc {t x : Nat} (h : x ∈ ancsL md ops t) : Anc md ops x t := grow_anc _ _ _ (fun _ => deps_anc) (fun _ => deps_anc) x h

/-! Operations that yield a value and do nothing else, if they come through. -/
def valOp : Op → Bool
  | .move _ | .assign _ | .pick .. | .build .. | .load .. | .fieldAddr .. | .field .. | .indexAddr .. | .index .. | .binOp .. | .unOp .. | .convert .. | .slice .. | .extract .. => true
  | .call c => match c.callee with | .builtin .len => true | _ => false
  | _ => false
theorem vrun (s : Sem Value) (w : World) : ((do pure (Next.value (← s))) : Sem Next).run P w = (s.run P w).andThen fun v w' => .ok (.value v) w' := by
  rw [Sem.run_bind]; rfl
theorem val_run {o : Oper} {ρ : Operand → Value} (h : valOp o.op = true) (w : World) : (∃ v w', (execOp ρ o).run P w = .ok (.value v) w') ∨ ∃ x w', (execOp ρ o).run P w = .halt x w' := by
  have key : ∀ s : Sem Value, (∃ v w', ((do pure (Next.value (← s))) : Sem Next).run P w = .ok (.value v) w') ∨ ∃ x w', ((do pure (Next.value (← s))) : Sem Next).run P w = .halt x w' := by
    intro s
    rw [vrun]
    cases s.run P w with
    | ok v w' => exact .inl ⟨v, w', rfl⟩
    | halt x w' => exact .inr ⟨x, w', rfl⟩
  unfold execOp
  cases ho : o.op <;> simp only [ho, valOp] at h ⊢ <;> first | exact key _ | exact Bool.noConfusion h | skip
  case move x => exact .inl ⟨_, _, rfl⟩
  case assign x => exact .inl ⟨_, _, rfl⟩
  case pick c x y =>
    rw [Sem.run_bind]
    cases (asBool (ρ c)).run P w with
    | ok v w' => exact .inl ⟨_, w', rfl⟩
    | halt x w' => exact .inr ⟨x, w', rfl⟩
  case call c =>
    obtain ⟨cal, args, tys⟩ := c
    cases cal with
    | value f => simp at h
    | invoke r m => simp at h
    | builtin b =>
      cases b <;> simp at h
      simp only [resolve, Sem.run_bind, Sem.run_pure, Result.andThen_ok, invoke, builtin]
      cases (Builtin.len_ tys o.type (Array.map ρ args)).run P w with
      | ok v w' => exact .inl ⟨v, w', rfl⟩
      | halt x w' => exact .inr ⟨x, w', rfl⟩

theorem yieldsIf_of_quiet {o : Oper} {rest : List Oper} {Lq : Act → Prop} {a : Act} (hv : valOp o.op = true) (h : wpQuiet P ops S Lq (o :: rest) a) :
    ∃ v, YieldsIf P ops S o v a ∧ wpQuiet P ops S Lq rest (a.put o.dst v) := by
  unfold wpQuiet at h
  by_cases hw : Region.wanted o (yielded ops a.tmps) = true
  · rw [if_pos hw] at h
    obtain ⟨v, h1, h2⟩ := h
    refine ⟨v, .inl ⟨hw, fun w' hw' => ?_⟩, h2⟩
    have h3 := h1 w' hw'
    unfold Oper.quietAt at h3
    rcases val_run (P := P) (ρ := a.eval) hv w' with ⟨u, w2, e⟩ | ⟨x, w2, e⟩
    · rw [e] at h3 ⊢
      obtain ⟨rfl, rfl⟩ := h3
      rfl
    · rw [e] at h3; exact h3.elim
  · rw [if_neg hw] at h
    exact ⟨undef, .inr ⟨by simpa using hw, rfl⟩, h⟩

/-! The walk. -/
def pickL (l : List Oper) : List Nat → List Oper
  | [] => []
  | k :: ks => match l[k]? with | some o => o :: pickL l ks | none => []
def segQ (Q : Exit → Act → World → Prop) (K : Act → World → Prop) : Exit → Act → World → Prop
  | .normal, a, w => K a w
  | e, a, w => Q e a w
def segK (nd : Bool) (S : World → Prop) (_ : Act) (w : World) (p : Prop) : Prop := (nd = true → S w) ∧ p
def flow (P : Program) (l : List Oper) (Q : Exit → Act → World → Prop) (S : World → Prop) : List (List Nat × Nat × Bool) → List Nat → Act → World → Prop
  | [], last, a, w => wpQuiet P l.toArray S (fun a' => Q .normal a' w) (pickL l last) a
  | (hs, c, nd) :: r, last, a, w => wpQuiet P l.toArray S (fun a' => wpList P l.toArray (segQ Q (fun a'' w'' => segK nd S a'' w'' (flow P l Q S r last a'' w''))) (pickL l [c]) a' w) (pickL l hs) a

def headsB (md : Region.Mode) (ops : Array Oper) : List Nat → Array Bool → Bool
  | [], _ => true
  | k :: ks, listed => (Region.ready md ops listed).contains k && Region.free md ops listed k && ((ops[k]?).map fun o => valOp o.op).getD false && headsB md ops ks (listed.setIfInBounds k true)
def markL : List Nat → Array Bool → Array Bool
  | [], listed => listed
  | k :: ks, listed => markL ks (listed.setIfInBounds k true)
def segsB (md : Region.Mode) (ops : Array Oper) (H : List Nat) : List (List Nat × Nat × Bool) → List Nat → Array Bool → Bool
  | [], last, listed => headsB md ops last listed && (Region.ready md ops (markL last listed)).isEmpty && last.all (fun k => H.contains k)
  | (hs, c, nd) :: r, last, listed => headsB md ops hs listed && decide (Region.ready md ops (markL hs listed) = [c]) && hs.all (fun k => H.contains k) &&
      (nd || (H.all (fun h => (ancsL md ops c).contains h) && r.all (fun s => s.1.isEmpty) && last.isEmpty)) && segsB md ops H r last ((markL hs listed).setIfInBounds c true)
def needB (segs : List (List Nat × Nat × Bool)) (j : Nat) : Bool := segs.all fun s => !(s.2.1 == j) || s.2.2
def fuelS (last : List Nat) : List (List Nat × Nat × Bool) → Nat
  | [] => last.length
  | (hs, _, _) :: r => hs.length + (fuelS last r + 1)
def flowB (md : Region.Mode) (ops : Array Oper) (pre : List Nat) (segs : List (List Nat × Nat × Bool)) (last : List Nat) : Bool :=
  Region.noSelect ops && segs.all (fun s => s.2.2 || (segs.flatMap (·.1) ++ last).all (fun h => (ancsL md ops s.2.1).contains h)) && decide (pre.length + fuelS last segs = ops.size) && headsB md ops pre (Array.replicate ops.size false) && segsB md ops (segs.flatMap (·.1) ++ last) segs last (markL pre (Array.replicate ops.size false))

theorem heads_U {need : Nat → Bool} (l : List Oper) (hsel : Region.noSelect l.toArray = true) (hQ : ∀ c a d v w, Q (.panic c) (Act.put a d v) w → Q (.panic c) a w) (H : List Nat)
    (hwait : ∀ i ∈ H, ∀ listed, ClosedL md l.toArray listed → listed.getD i true = false → ∀ j ∈ Region.ready md l.toArray listed, j ≠ i → need j = true) {w : World} {Lq : Act → Prop} (fuel : Nat) :
    ∀ (hs : List Nat) (listed : Array Bool) (a : Act), hs.all (fun k => H.contains k) = true → headsB md l.toArray hs listed = true → ClosedL md l.toArray listed → (hs ≠ [] → S w) →
      (∀ a', ClosedL md l.toArray (markL hs listed) → Lq a' → wpAnyU P md l.toArray Q S need fuel (markL hs listed) a' w) →
      wpQuiet P l.toArray S Lq (pickL l hs) a → wpAnyU P md l.toArray Q S need (hs.length + fuel) listed a w
  | [], listed, a, _, _, hc, _, hk, h => by rw [show ([] : List Nat).length + fuel = fuel by simp]; exact hk a hc h
  | k :: ks, listed, a, hH, hB, hc, hS, hk, h => by
    simp only [headsB, Bool.and_eq_true] at hB
    obtain ⟨⟨⟨hr, hf⟩, hv⟩, hB⟩ := hB
    simp only [List.all_cons, Bool.and_eq_true] at hH
    have hr' : k ∈ Region.ready md l.toArray listed := by simpa using hr
    obtain ⟨_, o, ho, _⟩ := mem_ready.1 hr'
    have hol : l[k]? = some o := by simpa using ho
    have hv' : valOp o.op = true := by rw [ho] at hv; exact hv
    simp only [pickL, hol] at h
    obtain ⟨v, hy, h2⟩ := yieldsIf_of_quiet hv' h
    rw [show (k :: ks).length + fuel = (ks.length + fuel) + 1 by simp; omega]
    refine wpAnyU_first ho (Region.noSelect_spec hsel) (fun c a w => hQ c a _ _ w) (hwait k (by simpa using hH.1)) _ _ _ _ hc (Region.free_spec ho hf) hr' hy (hS (by simp)) ?_
    exact heads_U l hsel hQ H hwait fuel ks _ _ hH.2 hB (hc.set hr') (fun _ => hS (by simp)) hk h2

theorem letsOut_seg {K : Act → World → Prop} : LetsOut (segQ Q K) = LetsOut Q := rfl
theorem wp_seg {o : Oper} {K : Act → World → Prop} {a : Act} {w : World} {K' : Act → World → Prop} (h : o.wp P a w K' (segQ Q K)) : o.wp P a w K' Q := by
  unfold Oper.wp at *
  generalize (execOp a.eval o).run P w = r at *
  cases r with
  | ok n w' =>
    cases n <;> simp only [Oper.upon] at h ⊢ <;> first
      | exact h
      | exact h.mono fun e w'' he => by cases e <;> exact he
  | halt x w' => cases x <;> simp only [Oper.upon] at h ⊢ <;> exact h

theorem segs_U {need : Nat → Bool} (l : List Oper) (hsel : Region.noSelect l.toArray = true) (hQ : ∀ c a d v w, Q (.panic c) (Act.put a d v) w → Q (.panic c) a w) (H : List Nat)
    (hwait : ∀ i ∈ H, ∀ listed, ClosedL md l.toArray listed → listed.getD i true = false → ∀ j ∈ Region.ready md l.toArray listed, j ≠ i → need j = true) (last : List Nat) :
    ∀ (segs : List (List Nat × Nat × Bool)) (listed : Array Bool) (a : Act) (w : World), (∀ s ∈ segs, need s.2.1 = true → s.2.2 = true) → segsB md l.toArray H segs last listed = true → ClosedL md l.toArray listed →
      (S w ∨ (segs.all (fun s => s.1.isEmpty) = true ∧ last = [])) → flow P l Q S segs last a w → wpAnyU P md l.toArray Q S need (fuelS last segs) listed a w
  | [], listed, a, w, _, hB, hc, hS, h => by
    simp only [segsB, Bool.and_eq_true] at hB
    obtain ⟨⟨hB, he⟩, hH⟩ := hB
    exact heads_U (need := need) l hsel hQ H hwait 0 last listed a hH hB hc (fun hne => hS.elim id fun h => absurd h.2 hne) (fun a' _ h' => ⟨by simpa using he, h'⟩) h
  | (hs, c, nd) :: r, listed, a, w, hnd, hB, hc, hS, h => by
    simp only [segsB, Bool.and_eq_true, decide_eq_true_eq] at hB
    obtain ⟨⟨⟨⟨hB, hone⟩, hH⟩, hnn⟩, hB'⟩ := hB
    have hr' : ∀ L, Region.ready md l.toArray L = [c] → c ∈ Region.ready md l.toArray L := fun L e => by rw [e]; simp
    refine heads_U (need := need) l hsel hQ H hwait (fuelS last r + 1) hs listed a hH hB hc (fun hne => hS.elim id fun h => absurd h.1 (by simp [hne])) (fun a' hc' h' => ?_) h
    refine ⟨fun h0 => (by rw [hone] at h0; cases h0), fun i hi => ?_⟩
    rw [hone] at hi
    obtain rfl : i = c := by simpa using hi
    have hrd := hr' _ hone
    obtain ⟨_, o, ho, _⟩ := mem_ready.1 hrd
    have hol : l[i]? = some o := by simpa using ho
    simp only [pickL, hol] at h'
    have hgo : ∀ a'' w'', (nd = true → S w'') ∧ flow P l Q S r last a'' w'' → (need i = true → S w'') ∧ wpAnyU P md l.toArray Q S need (fuelS last r) ((markL hs listed).setIfInBounds i true) a'' w'' := by
      intro a'' w'' ⟨h1, h2⟩
      refine ⟨fun hn => h1 (hnd (hs, i, nd) (by simp) hn), segs_U l hsel hQ H hwait last r _ _ _ (fun s hs => hnd s (by simp [hs])) hB' (hc'.set hrd) ?_ h2⟩
      simp only [Bool.or_eq_true, Bool.and_eq_true] at hnn
      rcases hnn with hnn | ⟨⟨_, hnn⟩, hl⟩
      · exact .inl (h1 hnn)
      · exact .inr ⟨hnn, by simpa using hl⟩
    unfold wpList at h'
    unfold wpOp
    simp only [ho]
    split
    · rename_i hw
      rw [if_pos hw] at h'
      rcases h' with h' | ⟨h1, h2⟩
      · exact .inl (Oper.wp_mono (fun a'' w'' h3 => hgo _ _ h3) (wp_seg h'))
      · exact .inr ⟨h1, h2⟩
    · rename_i hw
      rw [if_neg hw] at h'
      exact hgo _ _ h'

theorem pre_any (l : List Oper) (hsel : Region.noSelect l.toArray = true) (hQ : ∀ c a d v w, Q (.panic c) (Act.put a d v) w → Q (.panic c) a w) {w : World} {Lq : Act → Prop} (fuel : Nat) :
    ∀ (hs : List Nat) (listed : Array Bool) (a : Act), headsB md l.toArray hs listed = true → ClosedL md l.toArray listed →
      (∀ a', ClosedL md l.toArray (markL hs listed) → Lq a' → wpAny P md l.toArray Q fuel (markL hs listed) a' w) →
      wpQuiet P l.toArray (fun _ => True) Lq (pickL l hs) a → wpAny P md l.toArray Q (hs.length + fuel) listed a w
  | [], listed, a, _, hc, hk, h => by rw [show ([] : List Nat).length + fuel = fuel by simp]; exact hk a hc h
  | k :: ks, listed, a, hB, hc, hk, h => by
    simp only [headsB, Bool.and_eq_true] at hB
    obtain ⟨⟨⟨hr, hf⟩, hv⟩, hB⟩ := hB
    have hr' : k ∈ Region.ready md l.toArray listed := by simpa using hr
    obtain ⟨_, o, ho, _⟩ := mem_ready.1 hr'
    have hol : l[k]? = some o := by simpa using ho
    have hv' : valOp o.op = true := by rw [ho] at hv; exact hv
    simp only [pickL, hol] at h
    obtain ⟨v, hy, h2⟩ := yieldsIf_of_quiet hv' h
    rw [show (k :: ks).length + fuel = (ks.length + fuel) + 1 by simp; omega]
    refine wpAny_first ho (Region.noSelect_spec hsel) (fun c a w => hQ c a _ _ w) _ _ _ _ (Region.free_spec ho hf) hr' (hy.imp (fun ⟨hw, hv⟩ => ⟨hw, fun w => hv w trivial⟩) id) ?_
    exact pre_any l hsel hQ fuel ks _ _ hB (hc.set hr') hk h2

def flowP (P : Program) (l : List Oper) (Q : Exit → Act → World → Prop) (S : World → Prop) (pre : List Nat) (segs : List (List Nat × Nat × Bool)) (last : List Nat) (a : Act) (w : World) : Prop :=
  wpQuiet P l.toArray (fun _ => True) (fun a' => flow P l Q S segs last a' w) (pickL l pre) a
theorem any_flow {a : Act} {w : World} {l : List Oper} (pre : List Nat) (segs : List (List Nat × Nat × Bool)) (last : List Nat) (hB : flowB .any l.toArray pre segs last = true)
    (hQ : ∀ c a d v w, Q (.panic c) (Act.put a d v) w → Q (.panic c) a w) (hS : S w) (h : flowP P l Q S pre segs last a w) : wpAny P .any l.toArray Q l.toArray.size (Array.replicate l.toArray.size false) a w := by
  simp only [flowB, Bool.and_eq_true, decide_eq_true_eq] at hB
  obtain ⟨⟨⟨⟨hsel, hnd⟩, hfu⟩, hpre⟩, hB⟩ := hB
  refine (show wpAny P .any l.toArray Q (pre.length + fuelS last segs) (Array.replicate l.toArray.size false) a w → _ from fun H => by rwa [hfu] at H) ?_
  refine pre_any l hsel hQ (fuelS last segs) pre _ a hpre ?_ ?_ h
  · intro j oj _ hl
    rw [getD_replicate_false] at hl
    cases hl
  intro a' hc0 h
  have H := segs_U (S := S) (need := needB segs) l hsel hQ (segs.flatMap (·.1) ++ last) ?_ last segs _ a' w ?_ hB hc0 (.inl hS) h
  · exact wpAny_of_U _ _ _ _ H
  · intro i hi listed hc hu j hj hji
    unfold needB
    rw [List.all_eq_true]
    intro s hs
    have h1 := List.all_eq_true.1 hnd s hs
    simp only [Bool.or_eq_true] at h1 ⊢
    rcases h1 with h1 | h1
    · exact .inr h1
    · refine .inl ?_
      rw [Bool.not_eq_true', beq_eq_false_iff_ne]
      rintro rfl
      have h2 := List.all_eq_true.1 h1 i hi
      have := (ancs_anc (by simpa using h2)).listed hc hj
      rw [getD_both hu] at this
      cases this
  · intro s hs hn
    have := List.all_eq_true.1 hn s hs
    simpa using this

def onlyN (K : Act → World → Prop) : Exit → Act → World → Prop
  | .normal, a, w => K a w
  | _, _, _ => False
theorem onlyN_imp {Q : Exit → Act → World → Prop} : ∀ (e : Exit) (a : Act) (w : World), onlyN (Q .normal) e a w → Q e a w := fun e a w h => by
  cases e <;> first | exact h | exact (h : False).elim
theorem seg_grow {F : Act → World → Prop} {a : Act} {w : World} (hS : S w) (h : F a w) : segQ Q (fun a'' w'' => segK true S a'' w'' (F a'' w'')) .normal a w := ⟨fun _ => hS, h⟩
theorem seg_write {F : Act → World → Prop} {a : Act} {w : World} (h : F a w) : segQ Q (fun a'' w'' => segK false S a'' w'' (F a'' w'')) .normal a w := ⟨fun h => Bool.noConfusion h, h⟩
theorem only_done {K : Act → World → Prop} {a : Act} {w : World} (h : K a w) : onlyN K .normal a w := h
/-- One walk serves every order: outside a fence, and in the fence of everything. -/
theorem wp_region_flow {id : Nat} {a : Act} {w : World} {l : List Oper} (pre : List Nat) (segs : List (List Nat × Nat × Bool)) (last : List Nat) (hm : P.follows .mixedOrders = true) (hB : flowB .any l.toArray pre segs last = true)
    (h : ∀ w', Below w.heap.size w w' → w'.heap = w.heap → flowP P l (onlyN (Q .normal)) (fun w2 => ∃ x : Later w', w2 = x.val) pre segs last a w') : (Code.region id l.toArray true).wp P Q a w :=
  Code.wp_mono onlyN_imp (wp_region_any hm (any_flow pre segs last hB (fun _ _ _ _ _ h => h) (S := fun w2 => ∃ x : Later (w.drewN 1), w2 = x.val) ⟨⟨_, Below.refl _ _⟩, rfl⟩ (h _ (Below.drewN' 1 (Below.refl _ _)) rfl)))
theorem in_region_flow {id m : Nat} {r : Option Nat} {a : Act} {w : World} {l : List Oper} (pre : List Nat) (segs : List (List Nat × Nat × Bool)) (last : List Nat) (hm : P.follows .mixedOrders = true) (hB : flowB .any l.toArray pre segs last = true) (hd : noDefer l = true)
    (h : ∀ w', Below w.heap.size w w' → w'.heap = w.heap → flowP P l (onlyN (Q .normal)) (fun w2 => ∃ x : Later w', w2 = x.val) pre segs last a w') : (Code.region id l.toArray true).wpIn (WF r) m P Q a w :=
  Code.wpIn_mono onlyN_imp (wpIn_region_any hm (inAny_of_any (noDefer_spec hd) (by rintro ⟨_, _, h⟩; exact h) _ _ _ _ (any_flow pre segs last hB (fun _ _ _ _ _ h => h) (S := fun w2 => ∃ x : Later (w.drewN 1), w2 = x.val) ⟨⟨_, Below.refl _ _⟩, rfl⟩ (h _ (Below.drewN' 1 (Below.refl _ _)) rfl))))

/-! The same, step by step: where several operations may come next. -/
def closedB (md : Region.Mode) (ops : Array Oper) (listed : Array Bool) : Bool :=
  (List.range ops.size).all fun j => !listed.getD j false || (depsL md ops j).all fun i => listed.getD i false
theorem closedB_spec {listed : Array Bool} (h : closedB md ops listed = true) : ClosedL md ops listed := by
  intro j oj hj hl e he hb
  have h1 := List.all_eq_true.1 h j (List.mem_range.2 (Array.getElem?_eq_some_iff.1 hj).1)
  rw [hl] at h1
  simp only [Bool.not_true, Bool.false_or] at h1
  refine List.all_eq_true.1 h1 e.on ?_
  unfold depsL
  rw [hj]
  exact List.mem_map.2 ⟨e, List.mem_filter.2 ⟨by simpa using he, hb⟩, rfl⟩
def UB (md : Region.Mode) (ops : Array Oper) (H W : List Nat) : Bool := Region.noSelect ops && W.all fun c => H.all fun h => (ancsL md ops c).contains h
/-- What may come from here on, in a region whose operations are l. -/
def wpU (P : Program) (l : List Oper) (Q : Exit → Act → World → Prop) (S : World → Prop) (H W : List Nat) (fuel : Nat) (listed : Array Bool) (a : Act) (w : World) : Prop :=
  UB .any l.toArray H W = true → wpAnyU P .any l.toArray Q S (fun j => !W.contains j) fuel listed a w
theorem wp_region_U {id : Nat} {a : Act} {w : World} {l : List Oper} (H W : List Nat) (hm : P.follows .mixedOrders = true) (hB : UB .any l.toArray H W = true)
    (h : ∀ w', Below w.heap.size w w' → w'.heap = w.heap → wpU P l (onlyN (Q .normal)) (fun w2 => ∃ x : Later w', w2 = x.val) H W l.length (Array.replicate l.length false) a w') : (Code.region id l.toArray true).wp P Q a w := by
  refine Code.wp_mono onlyN_imp (wp_region_any hm ?_)
  have := h (w.drewN 1) (Below.drewN' 1 (Below.refl _ _)) rfl hB
  have := wpAny_of_U _ _ _ _ this
  rw [show l.toArray.size = l.length from rfl]
  exact this
theorem U_heads {K : Act → World → Prop} {a : Act} {w : World} {l : List Oper} {H W : List Nat} {fuel : Nat} {listed : Array Bool} (hs : List Nat)
    (hB : (hs.all (fun k => H.contains k) && headsB .any l.toArray hs listed && closedB .any l.toArray listed && decide (hs.length ≤ fuel)) = true) (hS : S w)
    (h : wpQuiet P l.toArray S (fun a' => wpU P l (onlyN K) S H W (fuel - hs.length) (markL hs listed) a' w) (pickL l hs) a) : wpU P l (onlyN K) S H W fuel listed a w := by
  intro hU
  simp only [Bool.and_eq_true, decide_eq_true_eq] at hB
  obtain ⟨⟨⟨h1, h2⟩, h3⟩, h4⟩ := hB
  have hU' := hU
  simp only [UB, Bool.and_eq_true] at hU'
  have := heads_U (need := fun j => !W.contains j) (Q := onlyN K) l hU'.1 (fun _ _ _ _ _ h => h) H ?_ (fuel - hs.length) hs listed a h1 h2 (closedB_spec h3) (fun _ => hS) (fun a' _ h' => h' hU) h
  · rwa [show hs.length + (fuel - hs.length) = fuel by omega] at this
  · intro i hi listed hc hu j hj hji
    cases hw : W.contains j with
    | false => rfl
    | true =>
      have h5 := List.all_eq_true.1 (List.all_eq_true.1 hU'.2 j (by simpa using hw)) i hi
      have := (ancs_anc (by simpa using h5)).listed hc hj
      rw [getD_both hu] at this
      cases this
theorem U_all {K : Act → World → Prop} {a : Act} {w : World} {l : List Oper} {H W : List Nat} {fuel : Nat} {listed : Array Bool} (cs : List Nat)
    (hB : (decide (Region.ready .any l.toArray listed = cs) && decide (0 < fuel) && !cs.isEmpty) = true)
    (h : ∀ c ∈ cs, wpList P l.toArray (segQ (onlyN K) (fun a'' w'' => segK (!W.contains c) S a'' w'' (wpU P l (onlyN K) S H W (fuel - 1) (listed.setIfInBounds c true) a'' w''))) (pickL l [c]) a w) : wpU P l (onlyN K) S H W fuel listed a w := by
  intro hU
  simp only [Bool.and_eq_true, decide_eq_true_eq] at hB
  obtain ⟨⟨h1, h2⟩, h3⟩ := hB
  obtain ⟨f, rfl⟩ : ∃ f, fuel = f + 1 := ⟨fuel - 1, by omega⟩
  refine ⟨fun h0 => (by rw [h1] at h0; subst h0; simp at h3), fun i hi => ?_⟩
  obtain ⟨_, o, ho, _⟩ := mem_ready.1 hi
  have hol : l[i]? = some o := by simpa using ho
  rw [h1] at hi
  have h' := h i hi
  simp only [pickL, hol] at h'
  unfold wpList at h'
  unfold wpOp
  simp only [ho]
  split
  · rename_i hw
    rw [if_pos hw] at h'
    rcases h' with h' | ⟨h1, h2⟩
    · exact .inl (Oper.wp_mono (fun a'' w'' h3 => ⟨h3.1, h3.2 hU⟩) (wp_seg h'))
    · exact .inr ⟨h1, h2⟩
  · rename_i hw
    rw [if_neg hw] at h'
    exact ⟨h'.1, h'.2 hU⟩
theorem U_one {K : Act → World → Prop} {a : Act} {w : World} {l : List Oper} {H W : List Nat} {fuel : Nat} {listed : Array Bool} (c : Nat)
    (hB : (decide (Region.ready .any l.toArray listed = [c]) && decide (0 < fuel)) = true)
    (h : wpList P l.toArray (segQ (onlyN K) (fun a'' w'' => segK (!W.contains c) S a'' w'' (wpU P l (onlyN K) S H W (fuel - 1) (listed.setIfInBounds c true) a'' w''))) (pickL l [c]) a w) : wpU P l (onlyN K) S H W fuel listed a w :=
  U_all [c] (by simpa using hB) (fun c' hc => by simp at hc; subst hc; exact h)
theorem U_two {K : Act → World → Prop} {a : Act} {w : World} {l : List Oper} {H W : List Nat} {fuel : Nat} {listed : Array Bool} (c d : Nat)
    (hB : (decide (Region.ready .any l.toArray listed = [c, d]) && decide (0 < fuel)) = true)
    (h1 : wpList P l.toArray (segQ (onlyN K) (fun a'' w'' => segK (!W.contains c) S a'' w'' (wpU P l (onlyN K) S H W (fuel - 1) (listed.setIfInBounds c true) a'' w''))) (pickL l [c]) a w)
    (h2 : wpList P l.toArray (segQ (onlyN K) (fun a'' w'' => segK (!W.contains d) S a'' w'' (wpU P l (onlyN K) S H W (fuel - 1) (listed.setIfInBounds d true) a'' w''))) (pickL l [d]) a w) : wpU P l (onlyN K) S H W fuel listed a w :=
  U_all [c, d] (by simpa using hB) (fun c' hc => by simp at hc; rcases hc with rfl | rfl <;> assumption)
theorem U_done {K : Act → World → Prop} {a : Act} {w : World} {l : List Oper} {H W : List Nat} {fuel : Nat} {listed : Array Bool} (hB : (Region.ready .any l.toArray listed).isEmpty = true) (h : K a w) : wpU P l (onlyN K) S H W fuel listed a w := by
  intro _
  have he : Region.ready .any l.toArray listed = [] := by simpa using hB
  cases fuel with
  | zero => exact ⟨he, h⟩
  | succ f => exact ⟨fun _ => h, fun i hi => by rw [he] at hi; cases hi⟩
end
end Go.Proofs.Ytdnaipiiponhpaa

namespace Go.Proofs.Ytdnaipiiponhpaa
open Go.RowKit Go.Shelf

/-- Pairs of numbers, one after another. -/
def pairsOf : List Int → List (Int × Int)
  | a :: b :: r => (a, b) :: pairsOf r
  | _ => []
def pairsK (l : List Int) (k : Nat) : List (Int × Int) := (List.range k).map fun i => (l[2 * i]?.getD 0, l[2 * i + 1]?.getD 0)
theorem pairsK_succ (l : List Int) (k : Nat) : pairsK l (k + 1) = pairsK l k ++ [(l[2 * k]?.getD 0, l[2 * k + 1]?.getD 0)] := by simp [pairsK, List.range_succ]
theorem pairsK_len (l : List Int) (k : Nat) : (pairsK l k).length = k := by simp [pairsK]

theorem results_row_one {P : Program} {fn : Func} {p : Tmp} {ty t0 : TypeId} {tmps : Array Value} {w : World} {g : Nat} {cs : Array Value} {fr : Nat × Nat} {d : TypeDesc} (h : fn.results = #[.cell p ty]) (hp : tmps.getD p undef = .pointer (some ⟨g, 0, none⟩))
    (hg : w.heap[g]? = some (.cells cs t0 fr)) (hu : P.underlying ty = some d) (hd : (match d with | .struct _ | .array _ _ => true | _ => false) = true) (hi : (P.info? ty).map (·.size) = some cs.size) :
    (results fn tmps).run P w = .ok (.agg cs) w := by
  have hp' : tmps[p]?.getD undef = .pointer (some ⟨g, 0, none⟩) := by simpa using hp
  simp [results, h, hp', asAddr, run_loadVar_row w g t0 ty cs fr d hg hu hd hi]

set_option maxRecDepth 100000 in
set_option maxHeartbeats 1000000 in
theorem row_any (p : Int) (x : Value) (l : List Int) (w : World) (hx0 : RdI w .i64 x l) (hl : l.length ≤ 1000) :
    Calls Try.prog 55 #[.int .i64 p, x] w fun e w' => ∃ v, e = .returned (.agg #[.int .i64 p, v]) ∧ RdP w' v (pairsK l (l.length / 2)) ∧ Below w.heap.size w w' := by
  obtain ⟨a, ca, rfl, hca, hca2, hxf⟩ := hx0.form
  obtain ⟨i0, hi, hz0, hz1, hzb⟩ := info_parts Try.info59
  have hsz : (Try.prog.info? 24).map (·.size) = some 2 := by kernel_rfl
  have HSZ := Lib.hid hsz; clear hsz
  go_enter Try.func55, Try.ntmps55
  go_wp2
  go_loopw [6, 9, 10, 11, 12, 13, 14, 15, 16, 17, 18, 19, 20, 21, 22, 23, 24, 25, 26, 27, 28, 29, 30] (fun i _ _ _ _ _ _ _ _ _ _ _ _ _ _ _ _ _ _ _ _ _ _ wr => ∃ k v, k ≤ l.length / 2 ∧ i = .int .i64 ((2 * k : Nat) : Int) ∧ Below w.heap.size w wr ∧ wr.heap[w.heap.size]? = some (.cells #[.int .i64 0, .slice none 0 0] 24 (0, 0)) ∧ wr.heap[w.heap.size + 1]? = some (.cells #[.int .i64 p, v] 24 (0, 0)) ∧ wr.ownsRow (w.heap.size + 2) 59 2 v k (prs (pairsK l k)))
    (fun i _ _ _ _ _ _ _ _ _ _ _ _ _ _ _ _ _ _ _ _ _ _ _ => l.length - (intOf i).toNat)
  case atStart =>
    refine ⟨0, .slice none 0 0, Nat.zero_le _, rfl, bal (bal (bz _) _) _, (Below.heap_alloc _ _ _ (by simp)).trans (heap_alloc_new _ _), ?_, World.ownsRow_nil _ _ _ _⟩
    have := heap_alloc_new (w.alloc (.cells #[.int .i64 0, .slice none 0 0] 24)) (.cells #[.int .i64 p, .slice none 0 0] 24)
    rw [World.size_alloc] at this
    exact this
  case round =>
    obtain ⟨k, v, hk, rfl, hB, hr0, hr1, hor⟩ := hrel
    by_cases hlt : 2 * k + 1 < l.length
    · have hlti : ((2 * k : Nat) : Int) + 1 < (l.length : Int) := by omega
      obtain ⟨bx, ox, rfl, hbx, hcx⟩ := hxf (by omega)
      have gx := (hB.cell (p := ⟨bx, ox + 2 * k, none⟩) hbx).trans (hcx (2 * k) (by omega))
      have gy := (hB.cell (p := ⟨bx, ox + (2 * k + 1), none⟩) hbx).trans (hcx (2 * k + 1) hlt)
      have c1 : wr.cell? ⟨w.heap.size + 1, 1, none⟩ = some v := by rw [cell_of_row wr _ 1 _ _ _ hr1]; rfl
      have f1 := frozen_of_row wr (w.heap.size + 1) 1 _ _ hr1
      have hO := Lib.hid hor; have hR0 := Lib.hid hr0; have hR1 := Lib.hid hr1
      clear hor hr0 hr1 hxf hcx
      generalize hu1 : l[2 * k]?.getD 0 = u1 at *
      generalize hu2 : l[2 * k + 1]?.getD 0 = u2 at *
      have HU1 := Lib.hid hu1; have HU2 := Lib.hid hu2; clear hu1 hu2
      generalize hj : 2 * k = j at *
      go_wp2
      refine wp_region_flow [] [([0, 1, 2, 3, 4, 5, 6, 7, 8, 9, 10, 11], 12, true), ([], 13, false), ([], 14, false), ([], 15, false)] [] (by kernel_rfl) (by kernel_rfl) ?_
      intro wc hBc hhc
      have d1 : wc.cell? ⟨w.heap.size + 1, 1, none⟩ = some v := (hBc.cell (World.block_lt_of_cell? wr _ c1)).trans c1
      have hx1 := (hBc.cell (World.block_lt_of_cell? wr _ gx)).trans gx
      have hx2 := (hBc.cell (World.block_lt_of_cell? wr _ gy)).trans gy
      have z1 := World.block_lt_of_cell? wc _ d1
      have z2 := World.block_lt_of_cell? wc _ hx1
      simp only at z1 z2
      have hL := @Later.cell wc
      have HB := Lib.hid hBc; have HH := Lib.hid hhc
      clear hBc hhc c1 gx gy
      simp only [flowP, flow, pickL, List.getElem?_cons_succ, List.getElem?_cons_zero]
      refine wpQuiet_nil ?_
      repeat (go_big_quiet_step (fail))
      refine wpQuiet_nil ?_
      have hnz := HB.out.size
      go_wp2
      refine seg_grow ⟨⟨_, bal (bz _) _⟩, rfl⟩ ?_
      refine wpQuiet_nil ?_
      have hO2 := Lib.hid (owns_kept hO.out HB.out)
      have hks := pairsK_len l k
      have zr := (Array.getElem?_eq_some_iff.1 hR1.out).1
      have zr0 := (Array.getElem?_eq_some_iff.1 hR0.out).1
      refine wpList_append_own _ rfl _ _ 22 rfl (w.heap.size + 2) 59 i0 (.agg #[.int .i64 0, .int .i64 0]) 2 16 Try.underlying22 hi hz0 hz1 hzb rfl (by decide) _ _ _ rfl (hO2.out.alloc _) ⟨wc.heap.size, 0, none⟩ 1 1 [.int .i64 u1, .int .i64 u2] rfl rfl (cell_two_new _ _ _ _) (two_int _ _) (by simp only [maxLen]; omega) (by omega) (by simp; omega) ?_
      intro v' w' hown' hgrow hnil
      go_wp2
      refine seg_write ?_
      have hra := (append_keep (hO2.out.alloc _) hgrow (show w.heap.size + 1 < _ by omega) (by simp; omega)).trans ((Below.heap_alloc _ _ _ (by omega)).trans ((HB.out.block _ zr).trans hR1.out))
      have hra0 := (append_keep (hO2.out.alloc _) hgrow (show w.heap.size < _ by omega) (by simp; omega)).trans ((Below.heap_alloc _ _ _ (by omega)).trans ((HB.out.block _ zr0).trans hR0.out))
      have hB6 : Below w.heap.size w w' := append_below (btr (btr hB HB.out) (bal (bz _) _)) (hO2.out.alloc _) hgrow (by omega)
      have c1' : w'.cell? ⟨w.heap.size + 1, 1, none⟩ = some v := by rw [cell_of_row w' _ 1 _ _ _ hra]; rfl
      have f1' := frozen_of_row w' (w.heap.size + 1) 1 _ _ hra
      have hnew := heap_setCell_same w' (w.heap.size + 1) 1 _ _ v' hra
      have hkeep := (hown'.kept (w' := w'.setCell ⟨w.heap.size + 1, 1, none⟩ v') (grownBy_set w' _ _) (by
        cases hvv : v'.ownBlock with
        | none => exact .inl rfl
        | some q => exact .inr (by intro e; cases e; have := (hown'.lt _ hvv).1; simp only at this; omega)))
      have h0 : (w'.setCell ⟨w.heap.size + 1, 1, none⟩ v').heap[w.heap.size]? = some (.cells #[.int .i64 0, .slice none 0 0] 24 (0, 0)) := (heap_setCell_other _ _ _ _ (by simp)).trans hra0
      have HNEW := Lib.hid hnew; have HKEEP := Lib.hid hkeep; have H0 := Lib.hid h0
      obtain ⟨a9, c9, hv9⟩ := owns_form hown'
      subst hv9
      have zg : w.heap.size + 1 < w'.heap.size := (Array.getElem?_eq_some_iff.1 hra).1
      clear hown' hgrow hnil hra hra0 hnew hkeep h0
      refine wpQuiet_nil ?_
      go_wp2
      refine seg_write ?_
      refine wpQuiet_nil ?_
      go_wp2
      refine seg_write ?_
      refine wpQuiet_nil ?_
      refine only_done ?_
      go_wp2
      refine ⟨⟨k + 1, _, by omega, by rw [show 2 * (k + 1) = j + 2 by omega]; go_num, Below.setCell hB6 (by simp) _, H0.out, HNEW.out, ?_⟩, by simp [intOf]; omega⟩
      have hst : pairsK l (k + 1) = pairsK l k ++ [(u1, u2)] := by rw [pairsK_succ, hj, HU1.out, HU2.out]
      rw [hst, prs_append]
      exact HKEEP.out
    · have hkk : k = l.length / 2 := by omega
      subst hkk
      have hO := Lib.hid hor
      obtain ⟨a9, c9, hv9⟩ := owns_form hO.out
      subst hv9
      have c1 : wr.cell? ⟨w.heap.size + 1, 1, none⟩ = some (.slice a9 (l.length / 2) c9) := by rw [cell_of_row wr _ 1 _ _ _ hr1]; rfl
      have c0 : wr.cell? ⟨w.heap.size + 1, 0, none⟩ = some (.int .i64 p) := by rw [cell_of_row wr _ 0 _ _ _ hr1]; rfl
      have e1 : wr.cell? ⟨w.heap.size, 1, none⟩ = some (.slice none 0 0) := by rw [cell_of_row wr _ 1 _ _ _ hr0]; rfl
      have e0 : wr.cell? ⟨w.heap.size, 0, none⟩ = some (.int .i64 0) := by rw [cell_of_row wr _ 0 _ _ _ hr0]; rfl
      have hR0 := Lib.hid hr0
      have f0 := frozen_of_row wr w.heap.size 0 _ _ hr0
      have f1 := frozen_of_row wr w.heap.size 1 _ _ hr0
      have z0 := World.block_lt_of_cell? wr _ c1
      simp only at z0
      have hn2 := heap_setCell_same _ _ 1 _ _ (.slice a9 (l.length / 2) c9) (heap_setCell_same wr w.heap.size 0 _ _ (.int .i64 p) hr0)
      have HN2 := Lib.hid hn2; clear hn2
      have hkeep := (hO.out.kept (w' := wr.setCell ⟨w.heap.size, 0, none⟩ (.int .i64 p)) (grownBy_set wr _ _) (by
          cases hvv : (Value.slice a9 (l.length / 2) c9).ownBlock with
          | none => exact .inl rfl
          | some q => exact .inr (by intro e; cases e; have := (hO.out.lt _ hvv).1; simp only at this; omega)))
      have hkeep2 := (hkeep.kept (w' := (wr.setCell ⟨w.heap.size, 0, none⟩ (.int .i64 p)).setCell ⟨w.heap.size, 1, none⟩ (.slice a9 (l.length / 2) c9)) (grownBy_set _ _ _) (by
          cases hvv : (Value.slice a9 (l.length / 2) c9).ownBlock with
          | none => exact .inl rfl
          | some q => exact .inr (by intro e; cases e; have := (hO.out.lt _ hvv).1; simp only at this; omega)))
      have HK2 := Lib.hid hkeep2
      have hlti : ¬ (((2 * (l.length / 2) : Nat) : Int) + 1 < (l.length : Int)) := by omega
      have hlt2 : ((2 * (l.length / 2) : Nat) : Int) < 1001 := by omega
      clear hor hr0 hr1 hxf hx0 hkeep hkeep2
      generalize hj : ((2 * (l.length / 2) : Nat) : Int) = jj at *
      have HJ := Lib.hid hj; clear hj
      go_wp2
      refine bodyPost_ret (v := .agg #[.int .i64 p, .slice a9 (l.length / 2) c9]) (results_row_one rfl rfl HN2.out Try.underlying24 rfl HSZ.out) rfl ?_
      exact ⟨_, rfl, RdP.of_owns HK2.out, bset (bset hB (by simp) _) (by simp) _⟩
end Go.Proofs.Ytdnaipiiponhpaa

namespace Go.Proofs.Ytdnaipiiponhpaa
open Go.RowKit Go.Shelf

def Keep (w : World) (G : World → Prop) : Prop := ∀ w', Below w.heap.size w w' → G w'
theorem Keep.here {w : World} {G : World → Prop} (h : Keep w G) : G w := h w (bz w)
theorem Keep.up {w w' : World} {G : World → Prop} (h : Keep w G) (hb : Below w.heap.size w w') : Keep w' G := fun w2 h2 => h w2 (btr hb h2)
theorem Keep.and {w : World} {G G' : World → Prop} (h : Keep w G) (k : Keep w G') : Keep w (fun w => G' w ∧ G w) := fun w' hb => ⟨k w' hb, h w' hb⟩
theorem Keep.name {w : World} {G : World → Prop} (h : Keep w G) : ∃ G' : World → Prop, Keep w G' ∧ ∀ w, G' w → G w := ⟨G, h, fun _ h => h⟩
theorem Keep.imp {w : World} {G G' : World → Prop} (h : Keep w G) (k : ∀ w, G w → G' w) : Keep w G' := fun w' hb => k w' (h w' hb)
theorem keepI {w : World} {k : IntKind} {v : Value} {xs : List Int} (h : RdI w k v xs) : Keep w (fun w => RdI w k v xs) := fun _ hb => h.mono hb
theorem keepP {w : World} {v : Value} {V : List (Int × Int)} (h : RdP w v V) : Keep w (fun w => RdP w v V) := fun _ hb => h.mono hb
theorem keepC {w : World} {p : Addr} {v : Value} (h : w.cell? p = some v) : Keep w (fun w => w.cell? p = some v) := fun _ hb => (hb.cell (World.block_lt_of_cell? w _ h)).trans h
theorem keepB {w0 w : World} (h : Below w0.heap.size w0 w) : Keep w (fun w => Below w0.heap.size w0 w) := fun _ hb => btr h hb
theorem keepZ {w : World} {b : Nat} (h : b < w.heap.size) : Keep w (fun w => b < w.heap.size) := fun _ hb => Nat.lt_of_lt_of_le h hb.size
theorem keep_true (w : World) : Keep w (fun _ => True) := fun _ _ => trivial

theorem rdI_new (w : World) (xs : List Int) (t : TypeId) (h : xs.length ≤ 1000) : RdI (w.alloc (.cells (arrI xs) t)) .i64 (.slice (some ⟨w.heap.size, 0, none⟩) xs.length xs.length) xs := by
  have := RdI.row (w := w.alloc (.cells (arrI xs) t)) (r := xs) xs.length xs.length (heap_alloc_new w _) (Nat.le_refl _) (Nat.le_refl _) (by unfold maxLen; omega)
  simpa using this
theorem of_id (x : Value) (w : World) : Calls Try.prog 56 #[x] w fun e w' => e = .returned x ∧ w = w' := (of_any x w).mono fun _ _ h => ⟨h.1, h.2.symm⟩
theorem longs_id (x : Value) (w : World) : Calls Try.prog 52 #[x] w fun e w' => e = .returned x ∧ w = w' := (longsl_any x w).mono fun _ _ h => ⟨h.1, h.2.symm⟩
theorem rdI_at (w : World) (xs : List Int) (t : TypeId) (b : Nat) (hb : b = w.heap.size) (h : xs.length ≤ 1000) : RdI (w.alloc (.cells (arrI xs) t)) .i64 (.slice (some ⟨b, 0, none⟩) xs.length xs.length) xs := by
  subst hb; exact rdI_new w xs t h
theorem RdP.ex {w : World} {v : Value} {V : List (Int × Int)} (h : RdP w v V) (n : Nat) (hn : V.length = n) : ∃ a c, v = .slice a n c := by
  obtain ⟨a, c, h, _⟩ := h; exact ⟨a, c, by rw [h, hn]⟩
theorem RdI.ex {w : World} {k : IntKind} {v : Value} {V : List Int} (h : RdI w k v V) (n : Nat) (hn : V.length = n) : ∃ a c, v = .slice a n c := by
  obtain ⟨a, c, h, _⟩ := h; exact ⟨a, c, by rw [h, hn]⟩
end Go.Proofs.Ytdnaipiiponhpaa

namespace Go.Proofs.Ytdnaipiiponhpaa
open Go.ChangeShapes Go.WideShapes Go.ChangeAt Go.RowKit Go.Deep Go.Joins

theorem Try.own : ownKnob Try.prog.godebug = none := by kernel_rfl
theorem Try.laidOut : laidOutB Try.prog = true := by kernel_rfl

section
variable {H : Type} {enc : TypeId × Value → H} {P : Program} {W W' : World}
theorem trodAll_later (hl : laidOutB P = true) (hb : Below W.heap.size W W') : ∀ (ts : List TypeId) (vs : List Value) (ds : List (DataW H)) (ps : List MemPlace), ts.all (fun t => P.readableRec t && decide (t < P.types.size)) = true →
    DataW.TrodAll enc P W 0 (fun _ => true) true ts vs ds ps → (∀ x ∈ ps, x.block < W.heap.size) → DataW.TrodAll enc P W' 0 (fun b => decide (b < W.heap.size)) true ts vs ds ps
  | [], [], [], _, _, h, _ => h
  | t :: ts, v :: vs, d :: ds, ps, hr, ⟨p, q, h1, h2, he⟩, hlt => by
    subst he
    simp only [List.all_cons, Bool.and_eq_true, decide_eq_true_eq] at hr
    exact ⟨p, q, Below.trod hl hr.1.1 hr.1.2 h1 hb (fun x hx => hlt x (List.mem_append_left _ hx)), trodAll_later hl hb ts vs ds q hr.2 h2 (fun x hx => hlt x (List.mem_append_right _ hx)), rfl⟩
  | [], _ :: _, _, _, _, h, _ => h.elim
  | [], [], _ :: _, _, _, h, _ => h.elim
  | _ :: _, [], _, _, _, h, _ => h.elim
  | _ :: _, _ :: _, [], _, _, h, _ => h.elim

theorem law_post {f : Func} {s : ChangeSpec} {args : Array Value} {ds : List (DataW H)} {before : List MemPlace} {b4 : TypeId} (hl : laidOutB P = true) (h4 : P.underlying b4 = some .bool)
    (hW : DataW.Whole enc P f.params.toList s.vars false W args.toList ds [] before) (hA : DataW.TrodAll enc P W 0 (fun _ => true) true f.params.toList args.toList ds before) (hrt : f.resultTypes = #[b4]) (hr : (s.fn H (ds ++ [])).results = [.lit (.bool true)]) (ha : (s.fn H (ds ++ [])).args = ds)
    (hv : s.vars = []) (hvv : (s.fn H (ds ++ [])).vars = []) (hread : f.params.toList.all (fun t => P.readableRec t && decide (t < P.types.size)) = true) (hb : Below W.heap.size W W') :
    s.post enc P f false true false false W args (.bool true) W' := by
  refine ⟨ds, [], before, [], before, [], hW, ?_, ?_, ?_, hb.frame _, fun h => by cases h⟩
  · rw [hr, hrt]
    exact trodAll_cons_mk (shut_bool h4 _) trodAll_mk0
  · rw [ha]
    exact trodAll_later hl hb _ _ _ _ hread hA hW.lt
  · rw [hv, hvv]; rfl
end

section
variable {H : Type} {enc : TypeId × Value → H} {W : World}
set_option maxRecDepth 100000 in
theorem open_ints_rd {r : Reach} {b0 : Nat} {t e : TypeId} {k : IntKind} {v : Value} {d : DataW H} {p : List MemPlace} (ht : Try.prog.underlying t = some (.slice e)) (he : Try.prog.underlying e = some (.int k)) (hc : Try.prog.cellsOf e = 1)
    (hv : Value.okWide Try.prog W r b0 t v) (h : DataW.Trod enc Try.prog W 0 (fun _ => true) true t v d p) (hlt : ∀ x ∈ p, x.block < W.heap.size) : ∃ xs : List Int, RdI W k v xs ∧ ∀ n ∈ xs, (Lit.int k n).wf = true := by
  obtain ⟨a0, len, cap, rfl⟩ := okWide_slice ht hv
  obtain ⟨fuel, hf⟩ := h
  rcases open_ints ht he hc hf with ⟨hcs, hx⟩ | ⟨a, len', cap', zs, hcs, _, hl, hm, hz, hx, hcell, hwz⟩
  · simp [Value.cells] at hcs
    obtain ⟨rfl, rfl, rfl⟩ := hcs
    exact ⟨[], ⟨none, 0, rfl, Nat.le_refl _, Nat.zero_le _, fun h => absurd rfl h⟩, fun n hn => by cases hn⟩
  · simp [Value.cells] at hcs
    obtain ⟨rfl, rfl, rfl⟩ := hcs
    simp only [Prod.mk.injEq] at hx
    obtain ⟨rfl, rfl⟩ := hx
    simp only [if_true] at hz
    have hlen : (zs.take len).length = len := by rw [List.length_take]; omega
    refine ⟨zs.take len, ⟨some a, cap, by rw [hlen], by rw [hlen]; exact hl, hm, fun hne => ?_⟩, fun n hn => hwz n (List.mem_of_mem_take hn)⟩
    have hl0 : 0 < len := by
      rcases Nat.eq_zero_or_pos len with h0 | h0
      · subst h0; simp at hne
      · exact h0
    obtain ⟨b, off, spot⟩ := a
    have hspot : spot = none := by simpa [Addr.add] using World.cell?_spot (hcell 0 (by omega))
    subst hspot
    refine ⟨b, off, rfl, hlt (.cell b off) (MemPlace.mem_row.2 ⟨0, by omega, by simp⟩), fun j u hj => ?_⟩
    have hjl : j < len := by have := (List.getElem?_eq_some_iff.1 hj).1; simp at this; omega
    have hjz : j < zs.length := by omega
    have := hcell j hjz
    rw [add_plain] at this
    rw [this, ← hj]
    simp [hjl, List.getD, hjz]

set_option maxRecDepth 100000 in
theorem open_pairs_rd {fuel : Nat} {cs : List Value} {y : DataW H × List MemPlace} (h : DataW.trod enc Try.prog W 0 (fun _ => true) true fuel 22 cs = some y) (v : Value) (hcs : cs = [v]) (hlt : ∀ x ∈ y.2, x.block < W.heap.size) : ∃ V : List (Int × Int), RdP W v V := by
  have c59 : Try.prog.cellsOf 59 = 2 := by kernel_rfl
  have c3 : Try.prog.cellsOf 3 = 1 := by kernel_rfl
  subst hcs
  rcases open_slice Try.underlying22 h with ⟨hc, rfl⟩ | ⟨a, len, cap, m, n, D, Pl, hc, _, hl, hm, hmm, rfl, hi⟩
  · simp at hc
    subst hc
    exact ⟨[], rdP_nil _⟩
  · simp at hc
    subst hc
    simp only [if_true] at hmm
    subst hmm
    rw [c59] at hi hlt
    have key : ∀ i, i < len → ∃ q : Int × Int, W.cell? (a.add (i * 2)) = some (.int .i64 q.1) ∧ W.cell? (a.add (i * 2 + 1)) = some (.int .i64 q.2) := by
      intro i hil
      obtain ⟨cs', h1, h2⟩ := hi i (by omega)
      obtain ⟨_, hcl, hat⟩ := World.cells?_some h1
      match cs', hcl with
      | [c0, c1], _ =>
        obtain ⟨xs, f', _, _, _, hxl, hx⟩ := DataW.trod_array Try.underlying59 h2
        rw [c3] at hx
        have h0 := hx 0 (by omega)
        have h1' := hx 1 (by omega)
        rw [List.getElem?_eq_getElem (by omega)] at h0 h1'
        obtain ⟨n0, e0, _⟩ := DataW.trod_int Try.underlying3 h0
        obtain ⟨n1, e1, _⟩ := DataW.trod_int Try.underlying3 h1'
        simp at e0 e1
        subst e0; subst e1
        refine ⟨(n0, n1), ?_, ?_⟩
        · have := hat 0 (by omega); rw [Go.Deep.add_add] at this; simpa using this
        · have := hat 1 (by omega); rw [Go.Deep.add_add] at this; simpa using this
    obtain ⟨f, hf⟩ := choose_lt key
    refine ⟨(List.range len).map f, some a, m, by simp, by simpa using hl, hm, fun hne => ?_⟩
    have hl0 : 0 < len := by
      rcases Nat.eq_zero_or_pos len with h0 | h0
      · subst h0; simp [prs] at hne
      · exact h0
    obtain ⟨b, off, spot⟩ := a
    have hspot : spot = none := by simpa [Addr.add] using World.cell?_spot (hf 0 hl0).1
    subst hspot
    refine ⟨b, off, rfl, hlt (.cell b off) (List.mem_append_left _ (MemPlace.mem_row.2 ⟨0, by omega, by simp⟩)), fun j u hj => ?_⟩
    have hjl : j < len * 2 := by have := (List.getElem?_eq_some_iff.1 hj).1; rw [prs_length] at this; simpa using this
    obtain ⟨g1, g2⟩ := prs_get ((List.range len).map f) (j / 2) (by simp; omega)
    have hfj := hf (j / 2) (by omega)
    have hlt2 : j / 2 < len := by omega
    simp [hlt2] at g1 g2
    rw [add_plain, add_plain] at hfj
    rcases Nat.mod_two_eq_zero_or_one j with hp | hp
    · have e : j / 2 * 2 = j := by omega
      rw [e] at hfj g1
      rw [hfj.1, ← hj, g1]
    · have e : j / 2 * 2 + 1 = j := by omega
      rw [e] at hfj g2
      rw [hfj.2, ← hj, g2]

set_option maxRecDepth 100000 in
theorem open_row {r : Reach} {b0 : Nat} {v : Value} {d : DataW H} {p : List MemPlace} (hv : Value.okWide Try.prog W r b0 24 v) (h : DataW.Trod enc Try.prog W 0 (fun _ => true) true 24 v d p) (hlt : ∀ x ∈ p, x.block < W.heap.size) :
    ∃ (q : Int) (x : Value) (V : List (Int × Int)), v = .agg #[.int .i64 q, x] ∧ RdP W x V := by
  obtain ⟨v0, v1, y0, y1, n, rfl, rfl, rfl, h0, h1⟩ := open_agg2 Try.underlying24 (by kernel_rfl) (by kernel_rfl) hv h
  obtain ⟨q, hq, _, _⟩ := DataW.trod_int Try.underlying3 h0
  simp at hq
  subst hq
  obtain ⟨V, hV⟩ := open_pairs_rd h1 v1 rfl (fun x hx => hlt x (List.mem_append_right _ hx))
  exact ⟨q, v1, V, rfl, hV⟩
end
end Go.Proofs.Ytdnaipiiponhpaa

namespace Go.Proofs.Ytdnaipiiponhpaa
open Go.RowKit Go.Shelf

structure SOwn (w : World) (g base : Nat) (t : TypeId) (p : Int) (v : Value) (V : List (Int × Int)) : Prop where
  row : w.heap[g]? = some (.cells #[.int .i64 p, v] t (0, 0))
  own : w.ownsRow base 59 2 v V.length (prs V)
  lt : g < base
  le : base ≤ w.heap.size
section
variable {w : World} {g base : Nat} {t : TypeId} {p : Int} {v : Value} {V : List (Int × Int)}
theorem SOwn.c0 (h : SOwn w g base t p v V) : w.cell? ⟨g, 0, none⟩ = some (.int .i64 p) := by rw [cell_of_row w g 0 _ _ _ h.row]; rfl
theorem SOwn.c1 (h : SOwn w g base t p v V) : w.cell? ⟨g, 1, none⟩ = some v := by rw [cell_of_row w g 1 _ _ _ h.row]; rfl
theorem SOwn.f0 (h : SOwn w g base t p v V) : w.frozen? ⟨g, 0, none⟩ = false := frozen_of_row w g 0 _ _ h.row
theorem SOwn.f1 (h : SOwn w g base t p v V) : w.frozen? ⟨g, 1, none⟩ = false := frozen_of_row w g 1 _ _ h.row
theorem SOwn.z (h : SOwn w g base t p v V) : g < w.heap.size := Nat.lt_of_lt_of_le h.lt h.le
theorem SOwn.rd (h : SOwn w g base t p v V) : RdP w v V := RdP.of_owns h.own
theorem SOwn.form (h : SOwn w g base t p v V) : ∃ a c, v = .slice a V.length c := owns_form h.own
theorem SOwn.later {w' : World} (h : SOwn w g base t p v V) (hb : Below w.heap.size w w') : SOwn w' g base t p v V :=
  ⟨(hb.block _ h.z).trans h.row, owns_kept h.own hb, h.lt, Nat.le_trans h.le hb.size⟩
theorem SOwn.new (w : World) (t : TypeId) (p : Int) : SOwn (w.alloc (.cells #[.int .i64 p, .slice none 0 0] t)) w.heap.size (w.heap.size + 1) t p (.slice none 0 0) [] :=
  ⟨heap_alloc_new _ _, World.ownsRow_nil _ _ _ _, Nat.lt_succ_self _, by simp⟩
theorem SOwn.done {w' : World} {v' : Value} {x y : Int} {o : Obj} (h : SOwn w g base t p v V) (hown' : w'.ownsRow base 59 2 v' (V.length + 1) (prs V ++ [.int .i64 x, .int .i64 y])) (hgrow : (w.alloc o).grownBy w' v.ownBlock) :
    w'.cell? ⟨g, 1, none⟩ = some v ∧ w'.frozen? ⟨g, 1, none⟩ = false ∧ g < w'.heap.size ∧ SOwn (w'.setCell ⟨g, 1, none⟩ v') g base t p v' (V ++ [(x, y)]) ∧
      (∀ a : World, Below a.heap.size a w → a.heap.size ≤ g → Below a.heap.size a (w'.setCell ⟨g, 1, none⟩ v')) ∧ ∃ a c, v' = .slice a (V.length + 1) c := by
  have hO := h.own.alloc o
  have hra := (append_keep hO hgrow h.lt (by simp; have := h.z; omega)).trans ((Below.heap_alloc _ _ _ h.z).trans h.row)
  have hnew := heap_setCell_same w' g 1 _ _ v' hra
  have hlt := h.lt
  have hkeep := (hown'.kept (w' := w'.setCell ⟨g, 1, none⟩ v') (grownBy_set w' _ _) (by
    cases hvv : v'.ownBlock with
    | none => exact .inl rfl
    | some q => exact .inr (by intro e; cases e; have := (hown'.lt _ hvv).1; simp only at this; omega)))
  have hsz : w.heap.size ≤ w'.heap.size := by have := hgrow.size; simp at this; omega
  refine ⟨by rw [cell_of_row w' g 1 _ _ _ hra]; rfl, frozen_of_row w' g 1 _ _ hra, (Array.getElem?_eq_some_iff.1 hra).1, ⟨hnew, ?_, h.lt, ?_⟩, fun a ha hag => ?_, owns_form hown'⟩
  · rw [List.length_append, prs_append]; exact hkeep
  · have := h.le; simp; omega
  · exact Below.setCell (append_below (bal ha o) hO hgrow (by omega)) hag _
theorem info59 : ∃ i, Try.prog.info? 59 = some i ∧ i.zero = some (.agg #[.int .i64 0, .int .i64 0]) ∧ i.size = 2 ∧ i.bytes = 16 := by
  obtain ⟨i0, hi, hz0, hz1, hz2⟩ := info_parts Try.info59
  exact ⟨i0, hi, hz0, hz1, hz2⟩
/-- 'append' of one pair to the row's valves; the pair has just been laid into a block of its own. -/
theorem wpList_append_pair {ops : Array Oper} {rest : List Oper} {o : Oper} {a : Act} {Q : Exit → Act → World → Prop} (hgd : o.guard = none) (s x : Operand)
    (ho : o.op = .call { callee := .builtin .append, args := #[s, x], argTypes := #[22, 22] }) (h : SOwn w g base t p v V) (q1 q2 : Int) (hs : a.eval s = v) (hx : a.eval x = .slice (some ⟨w.heap.size, 0, none⟩) 1 1) (hl : V.length ≤ 1000)
    (H : ∀ v' w', w'.ownsRow base 59 2 v' (V.length + 1) (prs V ++ [.int .i64 q1, .int .i64 q2]) → (w.alloc (.cells #[.int .i64 q1, .int .i64 q2] 59)).grownBy w' v.ownBlock → wpList Try.prog ops Q rest (a.put o.dst v') w') :
    wpList Try.prog ops Q (o :: rest) a (w.alloc (.cells #[.int .i64 q1, .int .i64 q2] 59)) := by
  obtain ⟨i0, hi, hz0, hz1, hz2⟩ := info59
  refine wpList_append_own _ hgd s x 22 ho base 59 i0 (.agg #[.int .i64 0, .int .i64 0]) 2 16 Try.underlying22 hi hz0 hz1 hz2 rfl (by decide) _ _ _ hs (h.own.alloc _) ⟨w.heap.size, 0, none⟩ 1 1 [.int .i64 q1, .int .i64 q2] hx rfl (cell_two_new _ _ _ _) (two_int _ _)
    (by simp only [maxLen]; omega) (by omega) (by have := h.le; simp; omega) ?_
  exact fun v' w' h1 h2 _ => H v' w' h1 h2
end
/-- The row is copied into the result's cells. -/
theorem SOwn.out {w : World} {g base : Nat} {t t0 : TypeId} {p : Int} {v u0 u1 : Value} {V : List (Int × Int)} (h : SOwn w g base t p v V) (r : Nat) (hr : w.heap[r]? = some (.cells #[u0, u1] t0 (0, 0))) (hrb : r < g) :
    ((w.setCell ⟨r, 0, none⟩ (.int .i64 p)).setCell ⟨r, 1, none⟩ v).heap[r]? = some (.cells #[.int .i64 p, v] t0 (0, 0)) ∧ RdP ((w.setCell ⟨r, 0, none⟩ (.int .i64 p)).setCell ⟨r, 1, none⟩ v) v V := by
  have hlt := h.lt
  have hb : ∀ (w2 : World) (u : Value) (i : Nat), w2.ownsRow base 59 2 v V.length (prs V) → (w2.setCell ⟨r, i, none⟩ u).ownsRow base 59 2 v V.length (prs V) := fun w2 u i ho =>
    ho.kept (grownBy_set w2 _ _) (by
      cases hvv : v.ownBlock with
      | none => exact .inl rfl
      | some q => exact .inr (by intro e; cases e; have := (ho.lt _ hvv).1; simp only at this; omega))
  exact ⟨heap_setCell_same _ r 1 _ _ v (heap_setCell_same w r 0 _ _ (.int .i64 p) hr), RdP.of_owns (hb _ _ _ (hb _ _ _ h.own))⟩
end Go.Proofs.Ytdnaipiiponhpaa

namespace Go.Proofs.Ytdnaipiiponhpaa
open Go.RowKit Go.Shelf

theorem own_ne {w : World} {b1 b2 : Nat} {e1 e2 : TypeId} {s1 s2 : Nat} {v1 v2 : Value} {n1 n2 : Nat} {x1 x2 : List Value} (h1 : w.ownsRow b1 e1 s1 v1 n1 x1) (h2 : w.ownsRow b2 e2 s2 v2 n2 x2) (he : e1 ≠ e2) : v1.ownBlock = none ∨ v1.ownBlock ≠ v2.ownBlock := by
  rcases h1.2 with ⟨rfl, _⟩ | ⟨g, cap, cur, rfl, _, hg, _⟩
  · exact .inl rfl
  · refine .inr ?_
    rcases h2.2 with ⟨rfl, _⟩ | ⟨g', cap', cur', rfl, _, hg', _⟩
    · simp [Value.ownBlock]
    · simp only [Value.ownBlock, ne_eq, Option.some.injEq]
      rintro rfl
      rw [hg] at hg'
      simp at hg'
      exact he hg'.2

/-- v is a slice of the slices vs, which the call owns; each holds the numbers of Os. -/
structure OwnLL (w : World) (base : Nat) (v : Value) (p : Nat) (Os : List (List Int)) (vs : List Value) : Prop where
  own : w.ownsRow base 25 1 v Os.length vs
  el : ∀ (i : Nat) (e : Value), vs[i]? = some e → w.ownsRow base 2 1 e p ((Os[i]?.getD []).map (Value.int .i64))
theorem OwnLL.later {w w' : World} {base p : Nat} {v : Value} {Os : List (List Int)} {vs : List Value} (h : OwnLL w base v p Os vs) (hb : Below w.heap.size w w') : OwnLL w' base v p Os vs :=
  ⟨owns_kept h.own hb, fun i e he => owns_kept (h.el i e he) hb⟩
theorem OwnLL.len {w : World} {base p : Nat} {v : Value} {Os : List (List Int)} {vs : List Value} (h : OwnLL w base v p Os vs) : vs.length = Os.length := by have := h.own.1; simpa using this
theorem OwnLL.get {w : World} {base p : Nat} {v : Value} {Os : List (List Int)} {vs : List Value} (h : OwnLL w base v p Os vs) (i : Nat) (hi : i < Os.length) :
    ∃ g c e a d, v = .slice (some ⟨g, 0, none⟩) Os.length c ∧ g < w.heap.size ∧ w.cell? ⟨g, i, none⟩ = some e ∧ e = .slice a p d ∧ w.ownsRow base 2 1 e p ((Os[i]?.getD []).map (Value.int .i64)) := by
  have hl := h.len
  have hv : vs[i]? = some (vs[i]'(by omega)) := List.getElem?_eq_getElem (by omega)
  have he := h.el i _ hv
  have ho := h.own
  rcases h.own.2 with ⟨_, h0⟩ | ⟨g, cap, cur, rfl, _, hg, _⟩
  · omega
  · obtain ⟨a, d, hf⟩ := owns_form he
    have hc := ho.cellAt i (show i < Os.length * 1 by omega)
    exact ⟨g, cap, _, a, d, rfl, (Array.getElem?_eq_some_iff.1 hg).1, by simpa [hv] using hc, hf, he⟩
theorem OwnLL.push {w w' : World} {base p : Nat} {v v' e : Value} {Os : List (List Int)} {vs : List Value} {x : List Int} {o : Obj} (h : OwnLL w base v p Os vs) (he : w.ownsRow base 2 1 e p (x.map (Value.int .i64))) (hown' : w'.ownsRow base 25 1 v' (Os.length + 1) (vs ++ [e]))
    (hgrow : (w.alloc o).grownBy w' v.ownBlock) : OwnLL w' base v' p (Os ++ [x]) (vs ++ [e]) := by
  have hl := h.len
  have hk : ∀ (e : Value) (x : List Int), w.ownsRow base 2 1 e p (x.map (Value.int .i64)) → w'.ownsRow base 2 1 e p (x.map (Value.int .i64)) := fun e x he =>
    (he.alloc o).kept hgrow (own_ne he h.own (by decide))
  refine ⟨by simpa using hown', fun i u hu => ?_⟩
  rcases Nat.lt_or_ge i vs.length with hi | hi
  · rw [List.getElem?_append_left hi] at hu
    rw [List.getElem?_append_left (by omega)]
    exact hk _ _ (h.el i u hu)
  · have hi2 : i = vs.length := by have := (List.getElem?_eq_some_iff.1 hu).1; simp at this; omega
    subst hi2
    simp at hu
    subst hu
    rw [hl]
    simpa using hk _ _ he
theorem Try.info25 : (Try.prog.info? 25).map (fun i => (i.zero, i.size, i.bytes)) = some (some (.slice none 0 0), 1, 24) := by kernel_rfl
theorem wpList_append_list {w : World} {base p : Nat} {v : Value} {Os : List (List Int)} {vs : List Value} {ops : Array Oper} {rest : List Oper} {o : Oper} {a : Act} {Q : Exit → Act → World → Prop} (hgd : o.guard = none) (s x : Operand)
    (ho : o.op = .call { callee := .builtin .append, args := #[s, x], argTypes := #[102, 102] }) (h : OwnLL w base v p Os vs) (e : Value) (he1 : e.oneCell' = true) (hs : a.eval s = v) (hx : a.eval x = .slice (some ⟨w.heap.size, 0, none⟩) 1 1) (hl : Os.length ≤ 1000) (hb : base ≤ w.heap.size)
    (H : ∀ v' w', w'.ownsRow base 25 1 v' (Os.length + 1) (vs ++ [e]) → (w.alloc (.cells #[e] 25)).grownBy w' v.ownBlock → wpList Try.prog ops Q rest (a.put o.dst v') w') :
    wpList Try.prog ops Q (o :: rest) a (w.alloc (.cells #[e] 25)) := by
  obtain ⟨i0, hi, hz0, hz1, hz2⟩ := info_parts Try.info25
  refine wpList_append_own _ hgd s x 102 ho base 25 i0 (.slice none 0 0) 1 24 Try.underlying102 hi hz0 hz1 hz2 rfl (by decide) _ _ _ hs (h.own.alloc _) ⟨w.heap.size, 0, none⟩ 1 1 [e] hx rfl (fun j u hj => ?_) (fun u hu => by simp at hu; subst hu; exact he1)
    (by simp only [maxLen]; omega) (by omega) (by simp; omega) ?_
  · match j, hj with
    | 0, hj => simp at hj; subst hj; rw [Go.WideShapes.add_plain]; simp
  · exact fun v' w' h1 h2 _ => H v' w' h1 h2

end Go.Proofs.Ytdnaipiiponhpaa
