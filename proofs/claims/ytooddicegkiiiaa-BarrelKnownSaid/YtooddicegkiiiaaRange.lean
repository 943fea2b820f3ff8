/- A range over a function whose iterator keeps cells of its own: one law for the statement, one shape of contract for the iterator; every program, no condition. -/
import Derived.RangeFuncNested
import Derived.RangeFuncBound
import Derived.RangeFuncCalls
import Derived.RangeFuncLeaves
import Derived.Shelf.Abstract
import Derived.Shelf.RegionOpen
import Derived.Test.YtooddicegkiiiaaBase
import Derived.OwnWalkIn
import Derived.ChangeKeysEq
import Derived.TacticsInMore
import Derived.LoopNIn
import Derived.LoopIn
namespace Go.Proofs.Ytooddicegkiiiaa
open Go.RowKit Go.Shelf

/-- From block lo on, what was there in W is there in W'. -/
structure KF (lo : Nat) (W W' : World) : Prop where
  size : W.heap.size ≤ W'.heap.size
  same : ∀ r, lo ≤ r → r < W.heap.size → W'.heap[r]? = W.heap[r]?
theorem KF.refl (lo : Nat) (W : World) : KF lo W W := ⟨Nat.le_refl _, fun _ _ _ => rfl⟩
theorem KF.trans {lo : Nat} {A B C : World} (h : KF lo A B) (k : KF lo B C) : KF lo A C :=
  ⟨Nat.le_trans h.size k.size, fun r h1 h2 => (k.same r h1 (Nat.lt_of_lt_of_le h2 h.size)).trans (h.same r h1 h2)⟩
theorem KF.of_below {lo : Nat} {W W' : World} (h : Below W.heap.size W W') : KF lo W W' := ⟨h.size, fun r _ h2 => h.block r h2⟩
theorem KF.alloc {lo : Nat} {A W : World} (h : KF lo A W) (o : Obj) : KF lo A (W.alloc o) := h.trans (KF.of_below (bal (bz _) _))
theorem KF.set {lo : Nat} {A W : World} (h : KF lo A W) {p : Addr} (hp : p.block < lo) (u : Value) : KF lo A (W.setCell p u) :=
  h.trans ⟨by simp, fun r h1 _ => Below.heap_setCell _ _ _ _ (by omega)⟩

/-- An assertion that abides new blocks, draws, and the turn of a block between lo and hi. -/
def Abides1 (lo hi : Nat) (I : World → Prop) : Prop := ∀ W W' row, I W → W.grownBy W' row → (∀ r, row = some r → lo ≤ r ∧ r < hi) → I W'

/-- The iterator's contract: it yields the values xs one after another as long as it is told to go on; it keeps k blocks of its own, the first ones that it makes. -/
def Yields {α : Type} (n : Nat) (P : Program) (g : Nat) (lb : Array Value) (encs : α → Array Value) (k : Nat) (Rd : World → Prop) (xs : List α) : Prop :=
  ∀ (l : Nat) (J Jx : List α → World → Prop) (W : World),
    (∀ s, Abides1 W.heap.size (W.heap.size + k) (J s)) → (∀ s, Abides1 W.heap.size (W.heap.size + k) (Jx s)) → (∀ s W1, J s W1 → Rd W1) →
    (∀ pre x W1, J pre W1 → pre ++ [x] <+: xs → W.heap.size + k ≤ W1.heap.size → YieldAt Fence.wide (n - 1) P l (encs x) W1 fun e W' =>
      (e = .returned (.bool true) ∧ J (pre ++ [x]) W' ∧ W1.heap.size ≤ W'.heap.size ∧ ∀ r, W.heap.size ≤ r → r < W.heap.size + k → W'.heap[r]? = W1.heap[r]?) ∨ (e = .returned (.bool false) ∧ Jx (pre ++ [x]) W')) →
    J [] W →
    CallsIn Fence.wide n P g (#[.func (.yield l) #[] #[]] ++ lb) W fun e W' => (∃ v, e = .returned v) ∧ (J xs W' ∨ ∃ pre, pre <+: xs ∧ Jx pre W')

/-- How a round may end. -/
def roundEnd {α : Type} (lo : Nat) (I : List α → World → Prop) (Ix : Code → List α → World → Prop) (s : List α) (W : World) : Exit → Act → World → Prop
  | .normal, _, W' => KF lo W W' ∧ I s W'
  | .ret, _, W' => KF lo W W' ∧ Ix .ret s W'
  | .exit id, _, W' => KF lo W W' ∧ Ix (.exit id) s W'
  | .goto t, _, W' => KF lo W W' ∧ Ix (.goto t) s W'
  | .panic _, _, _ => False
  | .outgrown, _, _ => False

/-- The statement 'for x := range g'. -/
theorem range_law {P : Program} {n : Nat} {α : Type} {g : Operand} {ps : Array Tmp} {assign body : Code} {Q : Exit → Act → World → Prop} {a : Act} {w : World}
    {gf : Nat} {lb : Array Value} (hg : a.eval g = .func (.func gf) #[] lb) (eg : ∀ args w, (callFunc gf args).run P w = .ok (.enter gf args) w)
    {encs : α → Array Value} {k : Nat} {Rd : World → Prop} {xs : List α} (hseq : Yields (n - 1) P gf lb encs k Rd xs) (hps : ∀ x, (encs x).size = ps.size)
    (I : List α → World → Prop) (Ix : Code → List α → World → Prop)
    (hI : ∀ s, Abides1 w.heap.size (w.heap.size + 2 + k) (I s)) (hIx : ∀ c s, Abides1 w.heap.size (w.heap.size + 2 + k) (Ix c s)) (hR : ∀ s W1, I s W1 → Rd W1) (h0 : I [] w)
    (hround : ∀ (l : Nat) (pre : List α) (x : α) (W : World), I pre W → pre ++ [x] <+: xs → w.heap.size + 2 + k ≤ W.heap.size →
      assign.wpIn (Fence.wide.inRound l) (n - 1 - 1) P (Exit.then (fun a₁ W₁ => KF w.heap.size W W₁ ∧ ∀ W₂, W₁.grownBy W₂ (some (w.heap.size + 1)) → W₂.heap.size = W₁.heap.size →
          body.wpIn (Fence.wide.inRound l) (n - 1 - 1) P (roundEnd w.heap.size I Ix (pre ++ [x]) W₂) a₁ W₂) (fun _ _ _ => False))
        { tmps := (ps.zip (encs x)).foldl (fun t (p, v) => t.setIfInBounds p v) a.tmps, defers := [] } W)
    (hdone : ∀ (W : World), I xs W → W.heap[w.heap.size]? = some (.deferred (some [])) → Q .normal { a with defers := { target := .collected w.heap.size, args := #[] } :: a.defers } W)
    (hstop : ∀ (c : Code) (pre : List α) (W : World), pre <+: xs → Ix c pre W → W.heap[w.heap.size]? = some (.deferred (some [])) → c.wpIn Fence.wide n P Q { a with defers := { target := .collected w.heap.size, args := #[] } :: a.defers } W) :
    (Code.rangeFunc g ps assign body).wpIn Fence.wide n P Q a w := by
  refine wpIn_rangeFunc ?_
  intro fn hfn
  let rec0 : LoopState → Option Code → Loop := fun st pe => { state := st, pending := pe, fn, tmps := a.tmps, params := ps, assign, body, defers := w.heap.size }
  obtain ⟨V, hV⟩ : ∃ V, (w.alloc (.deferred (some []))).alloc (.loop (rec0 .ready none)) = V := ⟨_, rfl⟩
  have hVs : V.heap.size = w.heap.size + 2 := by rw [← hV]; simp
  have hVl : V.heap[w.heap.size + 1]? = some (.loop (rec0 .ready none)) := by rw [← hV]; exact heap_alloc2_new _ _ _
  have hVd : V.heap[w.heap.size]? = some (.deferred (some [])) := by rw [← hV]; exact heap_alloc2_old _ _ _
  have hVI : I [] V := by
    rw [← hV]
    exact hI [] _ _ none (hI [] _ _ none h0 (World.grownBy_alloc _ _ none) (fun r e => by cases e)) (World.grownBy_alloc _ _ none) (fun r e => by cases e)
  -- what stays of the two blocks of the loop's own
  have keep : ∀ {X Y : World} {row : Option Nat} {j : Nat} {o : Obj}, X.heap[j]? = some o → j < V.heap.size → X.grownBy Y row → (∀ r, row = some r → V.heap.size ≤ r ∧ r < V.heap.size + k) → Y.heap[j]? = some o := by
    intro X Y row j o hx hj hgr hr
    rw [hgr.block j (Array.getElem?_eq_some_iff.1 hx).1 (fun e => by have := hr j e.symm; omega)]
    exact hx
  have wider : ∀ {row : Option Nat}, (∀ r, row = some r → V.heap.size ≤ r ∧ r < V.heap.size + k) → ∀ r, row = some r → w.heap.size ≤ r ∧ r < w.heap.size + 2 + k := by
    intro row h r e
    have := h r e
    omega
  have turn : ∀ {X : World} {o : Obj} {J : World → Prop}, Abides1 w.heap.size (w.heap.size + 2 + k) J → J X → J (X.putObj (w.heap.size + 1) o) :=
    fun h hx => h _ _ (some (w.heap.size + 1)) hx (grownBy_putObj' _ _ _) (fun r e => by cases e; omega)
  refine ⟨w.heap.size + 1, [{ target := .collected w.heap.size, args := #[] }], V, { target := .fn (.func gf) lb, args := #[.func (.yield (w.heap.size + 1)) #[] #[]] }, V, gf,
    #[.func (.yield (w.heap.size + 1)) #[] #[]] ++ lb, V, ?_, ?_, fun _ _ => trivial, ?_, fun h => by simp [Fence.wide] at h, ?_⟩
  · rw [← hV]; exact run_enterLoop_outer _ _ _ _ _
  · simp only [resolve, hg]
    simp [go_sem]
  · simp [invoke, go_sem, eg]
  refine (hseq (w.heap.size + 1)
    (fun s X => I s X ∧ X.heap[w.heap.size + 1]? = some (.loop (rec0 .ready none)) ∧ X.heap[w.heap.size]? = some (.deferred (some [])))
    (fun s X => ∃ c, Ix c s X ∧ X.heap[w.heap.size + 1]? = some (.loop (rec0 .done (some c))) ∧ X.heap[w.heap.size]? = some (.deferred (some []))) V
    (fun s X Y row h hgr hr => ⟨hI s X Y row h.1 hgr (wider hr), keep h.2.1 (by omega) hgr hr, keep h.2.2 (by omega) hgr hr⟩)
    (fun s X Y row h hgr hr => by
      obtain ⟨c, h1, h2, h3⟩ := h
      exact ⟨c, hIx c s X Y row h1 hgr (wider hr), keep h2 (by omega) hgr hr, keep h3 (by omega) hgr hr⟩)
    (fun s X h => hR s X h.1) ?_ ⟨hVI, hVl, hVd⟩).mono ?_
  · rintro pre x X ⟨hi, hl, hd⟩ hpre hsz
    have hlt : w.heap.size + 1 < X.heap.size := (Array.getElem?_eq_some_iff.1 hl).1
    refine ⟨fn, _, assign, body, run_yield (args := encs x) hl (hps x), roundIn_of_wpIn trivial (wpIn_mono (hround (w.heap.size + 1) pre x X hi hpre (by omega)) ?_)⟩
    rintro e a1 X1 hp
    cases e with
    | normal =>
      obtain ⟨hk1, hbody⟩ := hp
      have hl1 := (hk1.same _ (by omega) hlt).trans hl
      have hd1 := (hk1.same _ (by omega) (by omega)).trans hd
      refine ⟨_, run_beginRound hl1 rfl, wpIn_mono (hbody _ (grownBy_putObj' _ _ _) (by simp)) ?_⟩
      have hlt1 : w.heap.size + 1 < X1.heap.size := (Array.getElem?_eq_some_iff.1 hl1).1
      have fin : ∀ (jump : Option Code) (X3 : World), KF w.heap.size (X1.putObj (w.heap.size + 1) (.loop { rec0 .ready none with state := .busy })) X3 →
          (Instr.endRound (w.heap.size + 1) jump).run P X3 = .ok (.bool jump.isNone) (X3.putObj (w.heap.size + 1) (.loop (rec0 (if jump.isNone then .ready else .done) jump))) ∧
          (X3.putObj (w.heap.size + 1) (.loop (rec0 (if jump.isNone then .ready else .done) jump))).heap[w.heap.size + 1]? = some (.loop (rec0 (if jump.isNone then .ready else .done) jump)) ∧
          (X3.putObj (w.heap.size + 1) (.loop (rec0 (if jump.isNone then .ready else .done) jump))).heap[w.heap.size]? = some (.deferred (some [])) ∧
          X.heap.size ≤ X3.heap.size ∧
          ∀ r, V.heap.size ≤ r → r < V.heap.size + k → (X3.putObj (w.heap.size + 1) (.loop (rec0 (if jump.isNone then .ready else .done) jump))).heap[r]? = X.heap[r]? := by
        intro jump X3 hk3
        have hl3 : X3.heap[w.heap.size + 1]? = some (.loop { rec0 .ready none with state := .busy }) := (hk3.same _ (by omega) (by simp; omega)).trans (World.putObj_heap_same hlt1)
        have hd3 : X3.heap[w.heap.size]? = some (.deferred (some [])) := (hk3.same _ (by omega) (by simp; omega)).trans ((World.putObj_heap_other (by omega)).trans hd1)
        refine ⟨run_endRound jump hl3, World.putObj_heap_same (Array.getElem?_eq_some_iff.1 hl3).1, (World.putObj_heap_other (by omega)).trans hd3, ?_, fun r h1 h2 => ?_⟩
        · have h1 := hk3.size; have h2 := hk1.size; simp at h1; omega
        · have h4 := hk1.size
          rw [World.putObj_heap_other (by omega), hk3.same r (by omega) (by simp; omega), World.putObj_heap_other (by omega), hk1.same r (by omega) (by omega)]
      rintro e2 a3 X3 hp2
      cases e2 with
      | normal =>
        obtain ⟨hk3, hi3⟩ := hp2
        obtain ⟨f1, f2, f3, f4, f5⟩ := fin none X3 hk3
        exact ⟨_, _, f1, .inl ⟨rfl, ⟨turn (hI _) hi3, f2, f3⟩, by simp; exact f4, f5⟩⟩
      | ret =>
        obtain ⟨hk3, hi3⟩ := hp2
        obtain ⟨f1, f2, f3, f4, f5⟩ := fin (some .ret) X3 hk3
        exact ⟨_, _, f1, .inr ⟨rfl, _, turn (hIx _ _) hi3, f2, f3⟩⟩
      | exit id =>
        obtain ⟨hk3, hi3⟩ := hp2
        obtain ⟨f1, f2, f3, f4, f5⟩ := fin (some (.exit id)) X3 hk3
        exact ⟨_, _, f1, .inr ⟨rfl, _, turn (hIx _ _) hi3, f2, f3⟩⟩
      | goto t =>
        obtain ⟨hk3, hi3⟩ := hp2
        obtain ⟨f1, f2, f3, f4, f5⟩ := fin (some (.goto t)) X3 hk3
        exact ⟨_, _, f1, .inr ⟨rfl, _, turn (hIx _ _) hi3, f2, f3⟩⟩
      | panic ch => exact hp2.elim
      | outgrown => exact hp2.elim
    | ret => exact hp.elim
    | exit id => exact hp.elim
    | goto t => exact hp.elim
    | panic ch => exact hp.elim
    | outgrown => exact hp.elim
  · rintro e X ⟨⟨v, rfl⟩, ⟨hi, hl, hd⟩ | ⟨pre, hpre, c, hi, hl, hd⟩⟩
    · exact ⟨none, _, run_endLoop hl (by simp [rec0]), hdone _ (turn (hI _) hi) ((World.putObj_heap_other (by omega)).trans hd)⟩
    · exact ⟨some c, _, run_endLoop hl (by simp [rec0]), hstop c pre _ hpre (turn (hIx _ _) hi) ((World.putObj_heap_other (by omega)).trans hd)⟩

/-- Cells behind new blocks. -/
theorem cal {w : World} {a : Addr} {v : Value} (o : Obj) (h : w.cell? a = some v) : (w.alloc o).cell? a = some v :=
  (World.cell?_of_block (w := w) (Below.heap_alloc w o a.block (World.block_lt_of_cell? w a h))).trans h
theorem cnew {w : World} {cs : Array Value} {t : TypeId} {n j : Nat} {v : Value} (hn : n = w.heap.size) (h : cs[j]? = some v) : (w.alloc (.cells cs t)).cell? ⟨n, j, none⟩ = some v := by
  subst hn; rw [cell_of_row _ _ _ _ _ _ (heap_alloc_new w _)]; exact h
theorem fal {w : World} {a : Addr} (o : Obj) (h : w.frozen? a = false) (hb : a.block < w.heap.size) : (w.alloc o).frozen? a = false :=
  (World.frozen?_of_block (w := w) (Below.heap_alloc w o a.block hb)).trans h
theorem fnew {w : World} {cs : Array Value} {t : TypeId} {n j : Nat} (hn : n = w.heap.size) : (w.alloc (.cells cs t)).frozen? ⟨n, j, none⟩ = false := by
  subst hn; exact frozen_of_row _ _ _ _ _ (heap_alloc_new w _)

theorem abides_below {lo hi B : Nat} {w0 : World} (h1 : B ≤ lo) (h2 : B ≤ w0.heap.size) : Abides1 lo hi (fun W => Below B w0 W) :=
  fun _ _ _ h hg hr => h.grown hg (Nat.le_trans h2 h.size) (fun k e => Nat.le_trans h1 (hr k e).1)
theorem abides_cell {lo hi : Nat} {a : Addr} {v : Value} (h1 : a.block < lo) : Abides1 lo hi (fun W => W.cell? a = some v) :=
  fun W _ _ h hg hr => (World.cell?_of_block (hg.block a.block (World.block_lt_of_cell? W a h) (fun e => by have := hr _ e.symm; omega))).trans h
theorem Abides1.and {lo hi : Nat} {I J : World → Prop} (h : Abides1 lo hi I) (k : Abides1 lo hi J) : Abides1 lo hi (fun W => I W ∧ J W) :=
  fun W W' row hs hg hr => ⟨h W W' row hs.1 hg hr, k W W' row hs.2 hg hr⟩
theorem abides_pure {lo hi : Nat} {q : Prop} : Abides1 lo hi (fun _ => q) := fun _ _ _ h _ _ => h

section
variable {n : Nat} {F : Fence} {P : Program} {ops : Array Oper} {rest : List Oper} {o : Oper} {a : Act} {w : World} {Q : Exit → Act → World → Prop}
/-- In a fence: a whole array or struct is read. -/
theorem inLoadRow (hF : ∀ f, F.fn f) (hgd : o.guard = none) (ty : TypeId) (x : Operand) (ho : o.op = .load ty x) (g : Nat) (hx : a.eval x = .pointer (some ⟨g, 0, none⟩)) (t : TypeId) (cs : Array Value) (fr : Nat × Nat) (d : TypeDesc)
    (hg : w.heap[g]? = some (.cells cs t fr)) (hu : P.underlying ty = some d) (hd : (match d with | .struct _ | .array _ _ => true | _ => false) = true) (hi : (P.info? ty).map (·.size) = some cs.size)
    (h : wpListIn F n P ops Q rest (a.put o.dst (.agg cs)) w) : wpListIn F n P ops Q (o :: rest) a w := by
  refine wpListIn_plain hgd fun K hK => ⟨fun _ _ => hF _, ?_⟩
  have e : o.semAt F.round a.eval = execOp a.eval o := by unfold Oper.semAt; cases F.round <;> simp [ho]
  rw [e]; unfold execOp
  simp only [ho, hx, Instr.loadAt, Instr.sureAddr, Sem.run_bind, Sem.run_pure, Result.andThen_ok, run_loadVar_row w g t ty cs fr d hg hu hd hi]
  exact hK _ _ h
/-- .. is written. -/
theorem inStoreRow (hF : ∀ f, F.fn f) (hgd : o.guard = none) (ty : TypeId) (x y : Operand) (ho : o.op = .store ty x y) (g : Nat) (cells : Array Value) (hx : a.eval x = .pointer (some ⟨g, 0, none⟩)) (hy : a.eval y = .agg cells)
    (t : TypeId) (old : Array Value) (hg : w.heap[g]? = some (.cells old t (0, 0))) (hi : (P.info? ty).map (·.size) = some cells.size) (hold : old.size = cells.size) (h1 : cells.all (·.oneCell') = true)
    (h : wpListIn F n P ops Q rest (a.put o.dst undef) (w.setRow g cells)) : wpListIn F n P ops Q (o :: rest) a w := by
  refine wpListIn_plain hgd fun K hK => ⟨fun _ _ => hF _, ?_⟩
  have e : o.semAt F.round a.eval = execOp a.eval o := by unfold Oper.semAt; cases F.round <;> simp [ho]
  rw [e]; unfold execOp
  simp only [ho, hx, hy, Instr.storeAt, Instr.sureAddr, Sem.run_bind, Sem.run_pure, Result.andThen_ok, run_storeVar_row w g t ty old cells hg hi hold h1]
  exact hK _ _ h
end
/-- The fence of everything, in a round or in none. -/
abbrev WF (r : Option Nat) : Fence := { Fence.wide with round := r }

section
variable {P : Program} {ops : Array Oper} {md : Region.Mode} {C : World → Prop} {n : Nat} {r : Option Nat}
theorem inOp_of_quiet {i : Nat} {a : Act} {K : Act → Prop} {K' : Act → World → Prop} {Q' : Exit → Act → World → Prop} {w : World} (hd : ∀ (i : Nat) (o : Oper), ops[i]? = some o → ∀ c, o.op ≠ .defer c)
    (hC : C w) (h : ∀ a w', C w' → K a → K' a w') (hh : qOp P ops C i K a) : wpOpIn (WF r) n P ops Q' i K' a w := by
  unfold qOp at hh
  unfold wpOpIn
  cases ho : ops[i]? with
  | none => simp only [ho] at hh; exact h _ _ hC hh
  | some o =>
    simp only [ho] at hh ⊢
    by_cases hw : Region.wanted o (yielded ops a.tmps) = true
    · simp only [hw, if_true] at hh ⊢
      obtain ⟨v, h1, h2⟩ := hh
      have h3 := h1 w hC
      unfold Oper.quietAt at h3
      refine ⟨fun _ _ => trivial, ?_⟩
      have e : o.semAt (WF r).round a.eval = execOp a.eval o := Oper.semAt_eq _ _ _ (hd i o ho)
      rw [e]
      generalize (execOp a.eval o).run P w = res at *
      cases res with
      | ok x w' =>
        cases x <;> simp only [Oper.quietUpon] at h3 <;> simp only [Oper.uponIn]
        case value u =>
          obtain ⟨e1, e2⟩ := h3
          rw [e1, e2]; exact h _ _ hC h2
        case skip =>
          obtain ⟨e1, e2⟩ := h3
          rw [e1, ← e2]; exact h _ _ hC h2
        case enter f args =>
          obtain ⟨e1, hc⟩ := h3
          rw [e1]
          refine ⟨fun hh => by simp [Fence.wide] at hh, ?_⟩
          exact (show CallsIn Fence.wide (n - 1) P f args w _ from callsIn_wide.2 (hc.mono fun e w'' ⟨he, hw''⟩ => by subst he; exact h _ _ hw'' h2))
      | halt x w' => simp only [Oper.quietUpon] at h3
    · simp only [hw] at hh ⊢
      exact ⟨fun _ _ => trivial, h _ _ hC hh⟩
theorem inAny_of_quiet {Q : Act → Prop} {Q' : Exit → Act → World → Prop} (hd : ∀ (i : Nat) (o : Oper), ops[i]? = some o → ∀ c, o.op ≠ .defer c) (hQ : ∀ a w, C w → Q a → Q' .normal a w) :
    ∀ (fuel : Nat) (listed : Array Bool) (a : Act) (w : World), C w → wpAnyQ P md ops C Q fuel listed a → wpAnyIn (WF r) n P md ops Q' fuel listed a w
  | 0, _, _, _, hw, h => ⟨h.1, hQ _ _ hw h.2⟩
  | fuel + 1, _, _, _, hw, h => ⟨fun h0 => hQ _ _ hw (h.1 h0), fun i hi => inOp_of_quiet hd hw (fun a' w' hw' => inAny_of_quiet hd hQ fuel _ a' w' hw') (h.2 i hi)⟩
def noDefer (l : List Oper) : Bool := l.all fun o => match o.op with | .defer _ => false | _ => true
/-- A region that draws its order, in a fence, whose operations only read and whose calls return one value and leave old memory alone: one walk. -/
theorem in_region_later {id : Nat} {Q : Exit → Act → World → Prop} {a : Act} {w : World} {l : List Oper} (hm : P.follows .mixedOrders = true) (hB : Region.lexB .any l.toArray = true) (hd : noDefer l = true)
    (h : wpQuiet P l.toArray (fun w' => ∃ x : Later w, w' = x.val) (fun a' => ∀ w', (∃ x : Later w, w' = x.val) → Q .normal a' w') l a) : (Code.region id l.toArray true).wpIn (WF r) n P Q a w := by
  have hd' : ∀ (i : Nat) (o : Oper), l.toArray[i]? = some o → ∀ c, o.op ≠ .defer c := by
    intro i o ho c e
    have hm : o ∈ l := by rw [List.getElem?_toArray] at ho; exact List.mem_of_getElem? ho
    have := List.all_eq_true.1 hd o hm
    rw [e] at this
    simp at this
  simp only [Region.lexB, Bool.and_eq_true] at hB
  refine wpIn_region_any hm (inAny_of_quiet (C := fun w' => ∃ x : Later w, w' = x.val) (Q := fun a' => ∀ w', (∃ x : Later w, w' = x.val) → Q .normal a' w') hd' (fun _ w' hw' h => h w' hw') _ _ _ _ ⟨⟨_, Below.drew (Below.refl _ _)⟩, rfl⟩ ?_)
  have := wpAnyQ_lex (P := P) (C := fun w' => ∃ x : Later w, w' = x.val) (md := .any) hB.1 l.toArray.toList 0 (Array.replicate l.toArray.size false) a (by simp) (by simpa using hB.2) (by simpa using h)
  simpa using this
end
/-- Arrays of ints, compared. -/
theorem eqItems_ints {P : Program} {w : World} (d : Nat) (e : TypeId) (k : IntKind) (he : P.underlying e = some (.int k)) (xs ys : List Int) : ∀ is : List Nat, (∀ i ∈ is, i < xs.length ∧ i < ys.length) →
    (Op.eqItems (d + 1) e 1 (xs.map (Value.int k)).toArray (ys.map (Value.int k)).toArray is).run P w = .ok (is.all fun i => xs[i]?.getD 0 == ys[i]?.getD 0) w
  | [], _ => by simp [Op.eqItems]
  | i :: is, h => by
    have ih := eqItems_ints (w := w) d e k he xs ys is (fun j hj => h j (List.mem_cons_of_mem _ hj))
    obtain ⟨h1, h2⟩ := h i (by simp)
    have px : (part e (xs.map (Value.int k)).toArray (i * 1)).run P w = .ok (.int k (xs[i]?.getD 0)) w := by
      simp [part, isAgg, run_underlying he, h1]
    have py : (part e (ys.map (Value.int k)).toArray (i * 1)).run P w = .ok (.int k (ys[i]?.getD 0)) w := by
      simp [part, isAgg, run_underlying he, h2]
    simp only [Op.eqItems, Sem.run_bind, px, py, Result.andThen_ok, run_equalIn_int w d e k k _ _ he, List.all_cons]
    cases hb : (xs[i]?.getD 0 == ys[i]?.getD 0)
    · simp
    · simpa using ih
theorem all_get_eq (xs ys : List Int) (h : xs.length = ys.length) : ((List.range xs.length).all fun i => xs[i]?.getD 0 == ys[i]?.getD 0) = decide (xs = ys) := by
  rw [Bool.eq_iff_iff, List.all_eq_true, decide_eq_true_eq]
  constructor
  · intro h1
    apply List.ext_getElem h
    intro i h2 h3
    have := h1 i (List.mem_range.2 h2)
    simpa [h2, h3] using this
  · rintro rfl i _; simp
theorem run_eq_arr {P : Program} (w : World) (d : Nat) (t e : TypeId) (n : Nat) (k : IntKind) (i : TypeInfo) (hu : P.underlying t = some (.array n e)) (hi : P.info? e = some i) (hc : P.cellsOf e = 1) (he : P.underlying e = some (.int k)) (xs ys : List Int) (hx : xs.length = n) (hy : ys.length = n) :
    (Op.equalIn (d + 2) t (.agg (xs.map (Value.int k)).toArray) (.agg (ys.map (Value.int k)).toArray)).run P w = .ok (decide (xs = ys)) w := by
  rw [run_equalIn_array w (d + 1) _ _ hu hi, hc, eqItems_ints d e k he xs ys _ (fun j hj => by rw [List.mem_range] at hj; omega), ← hx, all_get_eq xs ys (by omega)]
theorem run_neq_arr {P : Program} (w : World) (t e : TypeId) (n : Nat) (k : IntKind) (i : TypeInfo) (hu : P.underlying t = some (.array n e)) (hi : P.info? e = some i) (hc : P.cellsOf e = 1) (he : P.underlying e = some (.int k)) (xs ys : List Int) (hx : xs.length = n) (hy : ys.length = n) :
    (binOp .neq t (.agg (xs.map (Value.int k)).toArray) (.agg (ys.map (Value.int k)).toArray)).run P w = .ok (.bool (!decide (xs = ys))) w := by
  rw [run_neq_struct, run_eq_arr w 9998 t e n k i hu hi hc he xs ys hx hy]; rfl
/-- A whole array is read, in a region that draws. -/
theorem wpQuiet_load_row {P : Program} {ops : Array Oper} {Q : Act → Prop} {a : Act} {w : World} {rest : List Oper} {o : Oper} (hgd : o.guard = none) (ty : TypeId) (x : Operand) (ho : o.op = .load ty x) (g : Nat) (hx : a.eval x = .pointer (some ⟨g, 0, none⟩)) (t : TypeId) (cs : Array Value) (fr : Nat × Nat) (d : TypeDesc)
    (hg : w.heap[g]? = some (.cells cs t fr)) (hu : P.underlying ty = some d) (hd : (match d with | .struct _ | .array _ _ => true | _ => false) = true) (hi : (P.info? ty).map (·.size) = some cs.size)
    (h : wpQuiet P ops (fun w' => ∃ x : Later w, w' = x.val) Q rest (a.put o.dst (.agg cs))) : wpQuiet P ops (fun w' => ∃ x : Later w, w' = x.val) Q (o :: rest) a := by
  unfold wpQuiet
  rw [if_pos (by simp [Region.wanted, hgd])]
  refine ⟨.agg cs, ?_, h⟩
  rintro w' ⟨l, rfl⟩
  have hg' : l.val.heap[g]? = some (.cells cs t fr) := (l.le.block g (Array.getElem?_eq_some_iff.1 hg).1).trans hg
  unfold Oper.quietAt execOp
  simp only [ho, hx, Instr.loadAt, Instr.sureAddr, Sem.run_bind, Sem.run_pure, Result.andThen_ok, run_loadVar_row l.val g t ty cs fr d hg' hu hd hi, Oper.quietUpon, and_self]
/-- A struct or an array is built, in a region that draws. -/
theorem wpQuiet_build {P : Program} {ops : Array Oper} {Q : Act → Prop} {a : Act} {C : World → Prop} {rest : List Oper} {o : Oper} (hgd : o.guard = none) (t : TypeId) (x : Operand) (ho : o.op = .build t #[(0, x)]) (v : Value) (hx : a.eval x = v) (cells : Array Value)
    (hb : P.built t [(0, v)] = some cells)
    (h : wpQuiet P ops C Q rest (a.put o.dst (.agg cells))) : wpQuiet P ops C Q (o :: rest) a := by
  unfold wpQuiet
  rw [if_pos (by simp [Region.wanted, hgd])]
  refine ⟨.agg cells, fun w _ => ?_, h⟩
  unfold Oper.quietAt execOp
  have hp : (#[(0, x)].map fun (p : Nat × Operand) => (p.1, a.eval p.2)).toList = [(0, v)] := by simp [hx]
  simp only [ho, Sem.run_bind, run_build w t _ cells (by rw [hp]; exact hb), Result.andThen_ok, Sem.run_pure, Oper.quietUpon, and_self]
/-- What lies there when a round's body begins: the loop variable in its box, and all that was there but for the loop's record. -/
theorem round_start {W W2 : World} {z cs : Array Value} {t : TypeId} {r : Nat} (hr : r < W.heap.size) (hg : ((W.alloc (.cells z t)).setRow W.heap.size cs).grownBy W2 (some r)) (hs : W2.heap.size = ((W.alloc (.cells z t)).setRow W.heap.size cs).heap.size) :
    W2.heap[W.heap.size]? = some (.cells cs t (0, 0)) ∧ W2.heap.size = W.heap.size + 1 ∧ Below r W W2 ∧ KF r W ((W.alloc (.cells z t)).setRow W.heap.size cs) := by
  have h0 : ((W.alloc (.cells z t)).setRow W.heap.size cs).heap.size = W.heap.size + 1 := by simp
  have hk : ∀ j, j < W.heap.size → ((W.alloc (.cells z t)).setRow W.heap.size cs).heap[j]? = W.heap[j]? := fun j hj => by
    rw [setRow_other _ _ _ _ (by omega)]; exact Below.heap_alloc _ _ _ hj
  refine ⟨?_, by rw [hs, h0], ⟨hg.os, hg.tape, hg.output, by rw [hs, h0]; omega, fun j hj => ?_⟩, ⟨by rw [h0]; omega, fun j _ hj => hk j hj⟩⟩
  · rw [hg.block _ (by rw [h0]; omega) (by intro e; cases e; omega)]
    exact setRow_heap _ _ _ _ _ _ (heap_alloc_new _ _)
  · rw [hg.block _ (by rw [h0]; omega) (by intro e; cases e; omega)]
    exact hk j (by omega)
theorem kf_box (lo : Nat) (W : World) (z cs : Array Value) (t : TypeId) : KF lo W ((W.alloc (.cells z t)).setRow W.heap.size cs) :=
  ⟨by simp, fun j _ hj => by rw [setRow_other _ _ _ _ (by omega)]; exact Below.heap_alloc _ _ _ hj⟩
theorem below_box (W : World) (z cs : Array Value) (t : TypeId) : Below W.heap.size W ((W.alloc (.cells z t)).setRow W.heap.size cs) :=
  ⟨rfl, rfl, rfl, by simp, fun j hj => by rw [setRow_other _ _ _ _ (by omega)]; exact Below.heap_alloc _ _ _ hj⟩
theorem heap_box (W : World) (z cs : Array Value) (t : TypeId) : ((W.alloc (.cells z t)).setRow W.heap.size cs).heap[W.heap.size]? = some (.cells cs t (0, 0)) :=
  setRow_heap _ _ _ _ _ _ (heap_alloc_new _ _)
theorem results_cell {P : Program} {fn : Func} {p : Tmp} {ty : TypeId} {tmps : Array Value} {w : World} {g : Nat} {v : Value} (h : fn.results = #[.cell p ty]) (hp : tmps.getD p undef = .pointer (some ⟨g, 0, none⟩))
    (hl : (loadVar ty ⟨g, 0, none⟩).run P w = .ok v w) : (results fn tmps).run P w = .ok v w := by
  have hp' : tmps[p]?.getD undef = .pointer (some ⟨g, 0, none⟩) := by simpa using hp
  simp [results, h, hp', asAddr, hl]
theorem results_cell2 {P : Program} {fn : Func} {p p' : Tmp} {ty ty' : TypeId} {tmps : Array Value} {w : World} {g g' : Nat} {v v' : Value} (h : fn.results = #[.cell p ty, .cell p' ty']) (hp : tmps.getD p undef = .pointer (some ⟨g, 0, none⟩)) (hp2 : tmps.getD p' undef = .pointer (some ⟨g', 0, none⟩))
    (hl : (loadVar ty ⟨g, 0, none⟩).run P w = .ok v w) (hl' : (loadVar ty' ⟨g', 0, none⟩).run P w = .ok v' w) : (results fn tmps).run P w = .ok (.tuple #[v, v']) w := by
  have hp' : tmps[p]?.getD undef = .pointer (some ⟨g, 0, none⟩) := by simpa using hp
  have hp2' : tmps[p']?.getD undef = .pointer (some ⟨g', 0, none⟩) := by simpa using hp2
  simp [results, h, hp', hp2', asAddr, hl, hl']
theorem cell_put {W : World} {a : Addr} {v : Value} (r : Nat) (o : Obj) (h : W.cell? a = some v) (hr : a.block ≠ r) : (W.putObj r o).cell? a = some v :=
  (World.cell?_of_block (w := W) (World.putObj_heap_other hr)).trans h
theorem below_put {a W : World} (h : Below a.heap.size a W) {r : Nat} (o : Obj) (hr : a.heap.size ≤ r) : Below a.heap.size a (W.putObj r o) :=
  bgr h (grownBy_putObj' W r o) (fun k e => by cases e; exact hr)
end Go.Proofs.Ytooddicegkiiiaa
