/- Merged texts: range over functions, regions with a tail, maps; Images, Pattern, Sorts, Needless, Cut. -/
import Derived.RangeFuncNested
import Derived.RangeFuncBound
import Derived.RangeFuncCalls
import Derived.RangeFuncLeaves
import Derived.Shelf.Abstract
import Derived.Shelf.RegionOpen
import Derived.Test.YtdnaipiiponhpaaGA
import Derived.OwnWalkIn
import Derived.ChangeKeysEq
import Derived.TacticsInMore
import Derived.LoopNIn
import Derived.LoopIn
import Derived.StillTailTactics
import Derived.Lib.SliceRun
import Derived.WalkMore
namespace Go.Proofs.Ytdnaipiiponhpaa
open Go.RowKit Go.Shelf

/-- From block lo on, what was there in W is there in W'. -/
structure KF (lo : Nat) (W W' : World) : Prop where
  size : W.heap.size ≤ W'.heap.size
  same : ∀ r, lo ≤ r → r < W.heap.size → W'.heap[r]? = W.heap[r]?
theorem KF.refl (lo : Nat) (W : World) : KF lo W W := ⟨Nat.le_refl _, fun _ _ _ => rfl⟩
theorem KF.trans {lo : Nat} {A B C : World} (h : KF lo A B) (k : KF lo B C) : KF lo A C :=
  ⟨Nat.le_trans h.size k.size, fun r h1 h2 => (k.same r h1 (Nat.lt_of_lt_of_le h2 h.size)).trans (h.same r h1 h2)⟩
theorem KF.of_below {lo : Nat} {W W' : World} (h : Below W.heap.size W W') : KF lo W W' := ⟨h.size, fun r _ h2 => h.block r h2⟩
theorem KF.alloc {lo : Nat} {A W : World} (h : KF lo A W) (o : Obj) : KF lo A (W.alloc o) := h.trans (KF.of_below (bal (bz _) _))
theorem KF.set {lo : Nat} {A W : World} (h : KF lo A W) {p : Addr} (hp : p.block < lo) (u : Value) : KF lo A (W.setCell p u) :=
  h.trans ⟨by simp, fun r h1 _ => Below.heap_setCell _ _ _ _ (by omega)⟩

/-- An assertion that abides new blocks, draws, and the turn of a block between lo and hi. -/
def Abides1 (lo hi : Nat) (I : World → Prop) : Prop := ∀ W W' row, I W → W.grownBy W' row → (∀ r, row = some r → lo ≤ r ∧ r < hi) → I W'

/-- The iterator's contract: it yields the values xs one after another as long as it is told to go on; it keeps k blocks of its own, the first ones that it makes. -/
def Yields {α : Type} (n : Nat) (P : Program) (g : Nat) (lb : Array Value) (encs : α → Array Value) (k : Nat) (Rd : World → Prop) (xs : List α) : Prop :=
  ∀ (l : Nat) (J Jx : List α → World → Prop) (W : World),
    (∀ s, Abides1 W.heap.size (W.heap.size + k) (J s)) → (∀ s, Abides1 W.heap.size (W.heap.size + k) (Jx s)) → (∀ s W1, J s W1 → Rd W1) →
    (∀ pre x W1, J pre W1 → pre ++ [x] <+: xs → W.heap.size + k ≤ W1.heap.size → YieldAt Fence.wide (n - 1) P l (encs x) W1 fun e W' =>
      (e = .returned (.bool true) ∧ J (pre ++ [x]) W' ∧ W1.heap.size ≤ W'.heap.size ∧ ∀ r, W.heap.size ≤ r → r < W.heap.size + k → W'.heap[r]? = W1.heap[r]?) ∨ (e = .returned (.bool false) ∧ Jx (pre ++ [x]) W')) →
    J [] W →
    CallsIn Fence.wide n P g (#[.func (.yield l) #[] #[]] ++ lb) W fun e W' => (∃ v, e = .returned v) ∧ (J xs W' ∨ ∃ pre, pre <+: xs ∧ Jx pre W')

/-- How a round may end. -/
def roundEnd {α : Type} (lo : Nat) (I : List α → World → Prop) (Ix : Code → List α → World → Prop) (s : List α) (W : World) : Exit → Act → World → Prop
  | .normal, _, W' => KF lo W W' ∧ I s W'
  | .ret, _, W' => KF lo W W' ∧ Ix .ret s W'
  | .exit id, _, W' => KF lo W W' ∧ Ix (.exit id) s W'
  | .goto t, _, W' => KF lo W W' ∧ Ix (.goto t) s W'
  | .panic _, _, _ => False
  | .outgrown, _, _ => False

/-- The statement 'for x := range g'. -/
theorem range_law {P : Program} {n : Nat} {α : Type} {g : Operand} {ps : Array Tmp} {assign body : Code} {Q : Exit → Act → World → Prop} {a : Act} {w : World}
    {gf : Nat} {lb : Array Value} (hg : a.eval g = .func (.func gf) #[] lb) (eg : ∀ args w, (callFunc gf args).run P w = .ok (.enter gf args) w)
    {encs : α → Array Value} {k : Nat} {Rd : World → Prop} {xs : List α} (hseq : Yields (n - 1) P gf lb encs k Rd xs) (hps : ∀ x, (encs x).size = ps.size)
    (I : List α → World → Prop) (Ix : Code → List α → World → Prop)
    (hI : ∀ s, Abides1 w.heap.size (w.heap.size + 2 + k) (I s)) (hIx : ∀ c s, Abides1 w.heap.size (w.heap.size + 2 + k) (Ix c s)) (hR : ∀ s W1, I s W1 → Rd W1) (h0 : I [] w)
    (hround : ∀ (l : Nat) (pre : List α) (x : α) (W : World), I pre W → pre ++ [x] <+: xs → w.heap.size + 2 + k ≤ W.heap.size →
      assign.wpIn (Fence.wide.inRound l) (n - 1 - 1) P (Exit.then (fun a₁ W₁ => KF w.heap.size W W₁ ∧ ∀ W₂, W₁.grownBy W₂ (some (w.heap.size + 1)) → W₂.heap.size = W₁.heap.size →
          body.wpIn (Fence.wide.inRound l) (n - 1 - 1) P (roundEnd w.heap.size I Ix (pre ++ [x]) W₂) a₁ W₂) (fun _ _ _ => False))
        { tmps := (ps.zip (encs x)).foldl (fun t (p, v) => t.setIfInBounds p v) a.tmps, defers := [] } W)
    (hdone : ∀ (W : World), I xs W → W.heap[w.heap.size]? = some (.deferred (some [])) → Q .normal { a with defers := { target := .collected w.heap.size, args := #[] } :: a.defers } W)
    (hstop : ∀ (c : Code) (pre : List α) (W : World), pre <+: xs → Ix c pre W → W.heap[w.heap.size]? = some (.deferred (some [])) → c.wpIn Fence.wide n P Q { a with defers := { target := .collected w.heap.size, args := #[] } :: a.defers } W) :
    (Code.rangeFunc g ps assign body).wpIn Fence.wide n P Q a w := by
  refine wpIn_rangeFunc ?_
  intro fn hfn
  let rec0 : LoopState → Option Code → Loop := fun st pe => { state := st, pending := pe, fn, tmps := a.tmps, params := ps, assign, body, defers := w.heap.size }
  obtain ⟨V, hV⟩ : ∃ V, (w.alloc (.deferred (some []))).alloc (.loop (rec0 .ready none)) = V := ⟨_, rfl⟩
  have hVs : V.heap.size = w.heap.size + 2 := by rw [← hV]; simp
  have hVl : V.heap[w.heap.size + 1]? = some (.loop (rec0 .ready none)) := by rw [← hV]; exact heap_alloc2_new _ _ _
  have hVd : V.heap[w.heap.size]? = some (.deferred (some [])) := by rw [← hV]; exact heap_alloc2_old _ _ _
  have hVI : I [] V := by
    rw [← hV]
    exact hI [] _ _ none (hI [] _ _ none h0 (World.grownBy_alloc _ _ none) (fun r e => by cases e)) (World.grownBy_alloc _ _ none) (fun r e => by cases e)
  -- what stays of the two blocks of the loop's own
  have keep : ∀ {X Y : World} {row : Option Nat} {j : Nat} {o : Obj}, X.heap[j]? = some o → j < V.heap.size → X.grownBy Y row → (∀ r, row = some r → V.heap.size ≤ r ∧ r < V.heap.size + k) → Y.heap[j]? = some o := by
    intro X Y row j o hx hj hgr hr
    rw [hgr.block j (Array.getElem?_eq_some_iff.1 hx).1 (fun e => by have := hr j e.symm; omega)]
    exact hx
  have wider : ∀ {row : Option Nat}, (∀ r, row = some r → V.heap.size ≤ r ∧ r < V.heap.size + k) → ∀ r, row = some r → w.heap.size ≤ r ∧ r < w.heap.size + 2 + k := by
    intro row h r e
    have := h r e
    omega
  have turn : ∀ {X : World} {o : Obj} {J : World → Prop}, Abides1 w.heap.size (w.heap.size + 2 + k) J → J X → J (X.putObj (w.heap.size + 1) o) :=
    fun h hx => h _ _ (some (w.heap.size + 1)) hx (grownBy_putObj' _ _ _) (fun r e => by cases e; omega)
  refine ⟨w.heap.size + 1, [{ target := .collected w.heap.size, args := #[] }], V, { target := .fn (.func gf) lb, args := #[.func (.yield (w.heap.size + 1)) #[] #[]] }, V, gf,
    #[.func (.yield (w.heap.size + 1)) #[] #[]] ++ lb, V, ?_, ?_, fun _ _ => trivial, ?_, fun h => by simp [Fence.wide] at h, ?_⟩
  · rw [← hV]; exact run_enterLoop_outer _ _ _ _ _
  · simp only [resolve, hg]
    simp [go_sem]
  · simp [invoke, go_sem, eg]
  refine (hseq (w.heap.size + 1)
    (fun s X => I s X ∧ X.heap[w.heap.size + 1]? = some (.loop (rec0 .ready none)) ∧ X.heap[w.heap.size]? = some (.deferred (some [])))
    (fun s X => ∃ c, Ix c s X ∧ X.heap[w.heap.size + 1]? = some (.loop (rec0 .done (some c))) ∧ X.heap[w.heap.size]? = some (.deferred (some []))) V
    (fun s X Y row h hgr hr => ⟨hI s X Y row h.1 hgr (wider hr), keep h.2.1 (by omega) hgr hr, keep h.2.2 (by omega) hgr hr⟩)
    (fun s X Y row h hgr hr => by
      obtain ⟨c, h1, h2, h3⟩ := h
      exact ⟨c, hIx c s X Y row h1 hgr (wider hr), keep h2 (by omega) hgr hr, keep h3 (by omega) hgr hr⟩)
    (fun s X h => hR s X h.1) ?_ ⟨hVI, hVl, hVd⟩).mono ?_
  · rintro pre x X ⟨hi, hl, hd⟩ hpre hsz
    have hlt : w.heap.size + 1 < X.heap.size := (Array.getElem?_eq_some_iff.1 hl).1
    refine ⟨fn, _, assign, body, run_yield (args := encs x) hl (hps x), roundIn_of_wpIn trivial (wpIn_mono (hround (w.heap.size + 1) pre x X hi hpre (by omega)) ?_)⟩
    rintro e a1 X1 hp
    cases e with
    | normal =>
      obtain ⟨hk1, hbody⟩ := hp
      have hl1 := (hk1.same _ (by omega) hlt).trans hl
      have hd1 := (hk1.same _ (by omega) (by omega)).trans hd
      refine ⟨_, run_beginRound hl1 rfl, wpIn_mono (hbody _ (grownBy_putObj' _ _ _) (by simp)) ?_⟩
      have hlt1 : w.heap.size + 1 < X1.heap.size := (Array.getElem?_eq_some_iff.1 hl1).1
      have fin : ∀ (jump : Option Code) (X3 : World), KF w.heap.size (X1.putObj (w.heap.size + 1) (.loop { rec0 .ready none with state := .busy })) X3 →
          (Instr.endRound (w.heap.size + 1) jump).run P X3 = .ok (.bool jump.isNone) (X3.putObj (w.heap.size + 1) (.loop (rec0 (if jump.isNone then .ready else .done) jump))) ∧
          (X3.putObj (w.heap.size + 1) (.loop (rec0 (if jump.isNone then .ready else .done) jump))).heap[w.heap.size + 1]? = some (.loop (rec0 (if jump.isNone then .ready else .done) jump)) ∧
          (X3.putObj (w.heap.size + 1) (.loop (rec0 (if jump.isNone then .ready else .done) jump))).heap[w.heap.size]? = some (.deferred (some [])) ∧
          X.heap.size ≤ X3.heap.size ∧
          ∀ r, V.heap.size ≤ r → r < V.heap.size + k → (X3.putObj (w.heap.size + 1) (.loop (rec0 (if jump.isNone then .ready else .done) jump))).heap[r]? = X.heap[r]? := by
        intro jump X3 hk3
        have hl3 : X3.heap[w.heap.size + 1]? = some (.loop { rec0 .ready none with state := .busy }) := (hk3.same _ (by omega) (by simp; omega)).trans (World.putObj_heap_same hlt1)
        have hd3 : X3.heap[w.heap.size]? = some (.deferred (some [])) := (hk3.same _ (by omega) (by simp; omega)).trans ((World.putObj_heap_other (by omega)).trans hd1)
        refine ⟨run_endRound jump hl3, World.putObj_heap_same (Array.getElem?_eq_some_iff.1 hl3).1, (World.putObj_heap_other (by omega)).trans hd3, ?_, fun r h1 h2 => ?_⟩
        · have h1 := hk3.size; have h2 := hk1.size; simp at h1; omega
        · have h4 := hk1.size
          rw [World.putObj_heap_other (by omega), hk3.same r (by omega) (by simp; omega), World.putObj_heap_other (by omega), hk1.same r (by omega) (by omega)]
      rintro e2 a3 X3 hp2
      cases e2 with
      | normal =>
        obtain ⟨hk3, hi3⟩ := hp2
        obtain ⟨f1, f2, f3, f4, f5⟩ := fin none X3 hk3
        exact ⟨_, _, f1, .inl ⟨rfl, ⟨turn (hI _) hi3, f2, f3⟩, by simp; exact f4, f5⟩⟩
      | ret =>
        obtain ⟨hk3, hi3⟩ := hp2
        obtain ⟨f1, f2, f3, f4, f5⟩ := fin (some .ret) X3 hk3
        exact ⟨_, _, f1, .inr ⟨rfl, _, turn (hIx _ _) hi3, f2, f3⟩⟩
      | exit id =>
        obtain ⟨hk3, hi3⟩ := hp2
        obtain ⟨f1, f2, f3, f4, f5⟩ := fin (some (.exit id)) X3 hk3
        exact ⟨_, _, f1, .inr ⟨rfl, _, turn (hIx _ _) hi3, f2, f3⟩⟩
      | goto t =>
        obtain ⟨hk3, hi3⟩ := hp2
        obtain ⟨f1, f2, f3, f4, f5⟩ := fin (some (.goto t)) X3 hk3
        exact ⟨_, _, f1, .inr ⟨rfl, _, turn (hIx _ _) hi3, f2, f3⟩⟩
      | panic ch => exact hp2.elim
      | outgrown => exact hp2.elim
    | ret => exact hp.elim
    | exit id => exact hp.elim
    | goto t => exact hp.elim
    | panic ch => exact hp.elim
    | outgrown => exact hp.elim
  · rintro e X ⟨⟨v, rfl⟩, ⟨hi, hl, hd⟩ | ⟨pre, hpre, c, hi, hl, hd⟩⟩
    · exact ⟨none, _, run_endLoop hl (by simp [rec0]), hdone _ (turn (hI _) hi) ((World.putObj_heap_other (by omega)).trans hd)⟩
    · exact ⟨some c, _, run_endLoop hl (by simp [rec0]), hstop c pre _ hpre (turn (hIx _ _) hi) ((World.putObj_heap_other (by omega)).trans hd)⟩

/-- Cells behind new blocks. -/
theorem cal {w : World} {a : Addr} {v : Value} (o : Obj) (h : w.cell? a = some v) : (w.alloc o).cell? a = some v :=
  (World.cell?_of_block (w := w) (Below.heap_alloc w o a.block (World.block_lt_of_cell? w a h))).trans h
theorem cnew {w : World} {cs : Array Value} {t : TypeId} {n j : Nat} {v : Value} (hn : n = w.heap.size) (h : cs[j]? = some v) : (w.alloc (.cells cs t)).cell? ⟨n, j, none⟩ = some v := by
  subst hn; rw [cell_of_row _ _ _ _ _ _ (heap_alloc_new w _)]; exact h
theorem fal {w : World} {a : Addr} (o : Obj) (h : w.frozen? a = false) (hb : a.block < w.heap.size) : (w.alloc o).frozen? a = false :=
  (World.frozen?_of_block (w := w) (Below.heap_alloc w o a.block hb)).trans h
theorem fnew {w : World} {cs : Array Value} {t : TypeId} {n j : Nat} (hn : n = w.heap.size) : (w.alloc (.cells cs t)).frozen? ⟨n, j, none⟩ = false := by
  subst hn; exact frozen_of_row _ _ _ _ _ (heap_alloc_new w _)

theorem abides_below {lo hi B : Nat} {w0 : World} (h1 : B ≤ lo) (h2 : B ≤ w0.heap.size) : Abides1 lo hi (fun W => Below B w0 W) :=
  fun _ _ _ h hg hr => h.grown hg (Nat.le_trans h2 h.size) (fun k e => Nat.le_trans h1 (hr k e).1)
theorem abides_cell {lo hi : Nat} {a : Addr} {v : Value} (h1 : a.block < lo) : Abides1 lo hi (fun W => W.cell? a = some v) :=
  fun W _ _ h hg hr => (World.cell?_of_block (hg.block a.block (World.block_lt_of_cell? W a h) (fun e => by have := hr _ e.symm; omega))).trans h
theorem Abides1.and {lo hi : Nat} {I J : World → Prop} (h : Abides1 lo hi I) (k : Abides1 lo hi J) : Abides1 lo hi (fun W => I W ∧ J W) :=
  fun W W' row hs hg hr => ⟨h W W' row hs.1 hg hr, k W W' row hs.2 hg hr⟩
theorem abides_pure {lo hi : Nat} {q : Prop} : Abides1 lo hi (fun _ => q) := fun _ _ _ h _ _ => h

section
variable {n : Nat} {F : Fence} {P : Program} {ops : Array Oper} {rest : List Oper} {o : Oper} {a : Act} {w : World} {Q : Exit → Act → World → Prop}
/-- In a fence: a whole array or struct is read. -/
theorem inLoadRow (hF : ∀ f, F.fn f) (hgd : o.guard = none) (ty : TypeId) (x : Operand) (ho : o.op = .load ty x) (g : Nat) (hx : a.eval x = .pointer (some ⟨g, 0, none⟩)) (t : TypeId) (cs : Array Value) (fr : Nat × Nat) (d : TypeDesc)
    (hg : w.heap[g]? = some (.cells cs t fr)) (hu : P.underlying ty = some d) (hd : (match d with | .struct _ | .array _ _ => true | _ => false) = true) (hi : (P.info? ty).map (·.size) = some cs.size)
    (h : wpListIn F n P ops Q rest (a.put o.dst (.agg cs)) w) : wpListIn F n P ops Q (o :: rest) a w := by
  refine wpListIn_plain hgd fun K hK => ⟨fun _ _ => hF _, ?_⟩
  have e : o.semAt F.round a.eval = execOp a.eval o := by unfold Oper.semAt; cases F.round <;> simp [ho]
  rw [e]; unfold execOp
  simp only [ho, hx, Instr.loadAt, Instr.sureAddr, Sem.run_bind, Sem.run_pure, Result.andThen_ok, run_loadVar_row w g t ty cs fr d hg hu hd hi]
  exact hK _ _ h
/-- .. is written. -/
theorem inStoreRow (hF : ∀ f, F.fn f) (hgd : o.guard = none) (ty : TypeId) (x y : Operand) (ho : o.op = .store ty x y) (g : Nat) (cells : Array Value) (hx : a.eval x = .pointer (some ⟨g, 0, none⟩)) (hy : a.eval y = .agg cells)
    (t : TypeId) (old : Array Value) (hg : w.heap[g]? = some (.cells old t (0, 0))) (hi : (P.info? ty).map (·.size) = some cells.size) (hold : old.size = cells.size) (h1 : cells.all (·.oneCell') = true)
    (h : wpListIn F n P ops Q rest (a.put o.dst undef) (w.setRow g cells)) : wpListIn F n P ops Q (o :: rest) a w := by
  refine wpListIn_plain hgd fun K hK => ⟨fun _ _ => hF _, ?_⟩
  have e : o.semAt F.round a.eval = execOp a.eval o := by unfold Oper.semAt; cases F.round <;> simp [ho]
  rw [e]; unfold execOp
  simp only [ho, hx, hy, Instr.storeAt, Instr.sureAddr, Sem.run_bind, Sem.run_pure, Result.andThen_ok, run_storeVar_row w g t ty old cells hg hi hold h1]
  exact hK _ _ h
end
/-- The fence of everything, in a round or in none. -/
abbrev WF (r : Option Nat) : Fence := { Fence.wide with round := r }

section
variable {P : Program} {ops : Array Oper} {md : Region.Mode} {C : World → Prop} {n : Nat} {r : Option Nat}
theorem inOp_of_quiet {i : Nat} {a : Act} {K : Act → Prop} {K' : Act → World → Prop} {Q' : Exit → Act → World → Prop} {w : World} (hd : ∀ (i : Nat) (o : Oper), ops[i]? = some o → ∀ c, o.op ≠ .defer c)
    (hC : C w) (h : ∀ a w', C w' → K a → K' a w') (hh : qOp P ops C i K a) : wpOpIn (WF r) n P ops Q' i K' a w := by
  unfold qOp at hh
  unfold wpOpIn
  cases ho : ops[i]? with
  | none => simp only [ho] at hh; exact h _ _ hC hh
  | some o =>
    simp only [ho] at hh ⊢
    by_cases hw : Region.wanted o (yielded ops a.tmps) = true
    · simp only [hw, if_true] at hh ⊢
      obtain ⟨v, h1, h2⟩ := hh
      have h3 := h1 w hC
      unfold Oper.quietAt at h3
      refine ⟨fun _ _ => trivial, ?_⟩
      have e : o.semAt (WF r).round a.eval = execOp a.eval o := Oper.semAt_eq _ _ _ (hd i o ho)
      rw [e]
      generalize (execOp a.eval o).run P w = res at *
      cases res with
      | ok x w' =>
        cases x <;> simp only [Oper.quietUpon] at h3 <;> simp only [Oper.uponIn]
        case value u =>
          obtain ⟨e1, e2⟩ := h3
          rw [e1, e2]; exact h _ _ hC h2
        case skip =>
          obtain ⟨e1, e2⟩ := h3
          rw [e1, ← e2]; exact h _ _ hC h2
        case enter f args =>
          obtain ⟨e1, hc⟩ := h3
          rw [e1]
          refine ⟨fun hh => by simp [Fence.wide] at hh, ?_⟩
          exact (show CallsIn Fence.wide (n - 1) P f args w _ from callsIn_wide.2 (hc.mono fun e w'' ⟨he, hw''⟩ => by subst he; exact h _ _ hw'' h2))
      | halt x w' => simp only [Oper.quietUpon] at h3
    · simp only [hw] at hh ⊢
      exact ⟨fun _ _ => trivial, h _ _ hC hh⟩
theorem inAny_of_quiet {Q : Act → Prop} {Q' : Exit → Act → World → Prop} (hd : ∀ (i : Nat) (o : Oper), ops[i]? = some o → ∀ c, o.op ≠ .defer c) (hQ : ∀ a w, C w → Q a → Q' .normal a w) :
    ∀ (fuel : Nat) (listed : Array Bool) (a : Act) (w : World), C w → wpAnyQ P md ops C Q fuel listed a → wpAnyIn (WF r) n P md ops Q' fuel listed a w
  | 0, _, _, _, hw, h => ⟨h.1, hQ _ _ hw h.2⟩
  | fuel + 1, _, _, _, hw, h => ⟨fun h0 => hQ _ _ hw (h.1 h0), fun i hi => inOp_of_quiet hd hw (fun a' w' hw' => inAny_of_quiet hd hQ fuel _ a' w' hw') (h.2 i hi)⟩
def noDefer (l : List Oper) : Bool := l.all fun o => match o.op with | .defer _ => false | _ => true
/-- A region that draws its order, in a fence, whose operations only read and whose calls return one value and leave old memory alone: one walk. -/
theorem in_region_later {id : Nat} {Q : Exit → Act → World → Prop} {a : Act} {w : World} {l : List Oper} (hm : P.follows .mixedOrders = true) (hB : Region.lexB .any l.toArray = true) (hd : noDefer l = true)
    (h : wpQuiet P l.toArray (fun w' => ∃ x : Later w, w' = x.val) (fun a' => ∀ w', (∃ x : Later w, w' = x.val) → Q .normal a' w') l a) : (Code.region id l.toArray true).wpIn (WF r) n P Q a w := by
  have hd' : ∀ (i : Nat) (o : Oper), l.toArray[i]? = some o → ∀ c, o.op ≠ .defer c := by
    intro i o ho c e
    have hm : o ∈ l := by rw [List.getElem?_toArray] at ho; exact List.mem_of_getElem? ho
    have := List.all_eq_true.1 hd o hm
    rw [e] at this
    simp at this
  simp only [Region.lexB, Bool.and_eq_true] at hB
  refine wpIn_region_any hm (inAny_of_quiet (C := fun w' => ∃ x : Later w, w' = x.val) (Q := fun a' => ∀ w', (∃ x : Later w, w' = x.val) → Q .normal a' w') hd' (fun _ w' hw' h => h w' hw') _ _ _ _ ⟨⟨_, Below.drew (Below.refl _ _)⟩, rfl⟩ ?_)
  have := wpAnyQ_lex (P := P) (C := fun w' => ∃ x : Later w, w' = x.val) (md := .any) hB.1 l.toArray.toList 0 (Array.replicate l.toArray.size false) a (by simp) (by simpa using hB.2) (by simpa using h)
  simpa using this
end
/-- Arrays of ints, compared. -/
theorem eqItems_ints {P : Program} {w : World} (d : Nat) (e : TypeId) (k : IntKind) (he : P.underlying e = some (.int k)) (xs ys : List Int) : ∀ is : List Nat, (∀ i ∈ is, i < xs.length ∧ i < ys.length) →
    (Op.eqItems (d + 1) e 1 (xs.map (Value.int k)).toArray (ys.map (Value.int k)).toArray is).run P w = .ok (is.all fun i => xs[i]?.getD 0 == ys[i]?.getD 0) w
  | [], _ => by simp [Op.eqItems]
  | i :: is, h => by
    have ih := eqItems_ints (w := w) d e k he xs ys is (fun j hj => h j (List.mem_cons_of_mem _ hj))
    obtain ⟨h1, h2⟩ := h i (by simp)
    have px : (part e (xs.map (Value.int k)).toArray (i * 1)).run P w = .ok (.int k (xs[i]?.getD 0)) w := by
      simp [part, isAgg, run_underlying he, h1]
    have py : (part e (ys.map (Value.int k)).toArray (i * 1)).run P w = .ok (.int k (ys[i]?.getD 0)) w := by
      simp [part, isAgg, run_underlying he, h2]
    simp only [Op.eqItems, Sem.run_bind, px, py, Result.andThen_ok, run_equalIn_int w d e k k _ _ he, List.all_cons]
    cases hb : (xs[i]?.getD 0 == ys[i]?.getD 0)
    · simp
    · simpa using ih
theorem all_get_eq (xs ys : List Int) (h : xs.length = ys.length) : ((List.range xs.length).all fun i => xs[i]?.getD 0 == ys[i]?.getD 0) = decide (xs = ys) := by
  rw [Bool.eq_iff_iff, List.all_eq_true, decide_eq_true_eq]
  constructor
  · intro h1
    apply List.ext_getElem h
    intro i h2 h3
    have := h1 i (List.mem_range.2 h2)
    simpa [h2, h3] using this
  · rintro rfl i _; simp
theorem run_eq_arr {P : Program} (w : World) (d : Nat) (t e : TypeId) (n : Nat) (k : IntKind) (i : TypeInfo) (hu : P.underlying t = some (.array n e)) (hi : P.info? e = some i) (hc : P.cellsOf e = 1) (he : P.underlying e = some (.int k)) (xs ys : List Int) (hx : xs.length = n) (hy : ys.length = n) :
    (Op.equalIn (d + 2) t (.agg (xs.map (Value.int k)).toArray) (.agg (ys.map (Value.int k)).toArray)).run P w = .ok (decide (xs = ys)) w := by
  rw [run_equalIn_array w (d + 1) _ _ hu hi, hc, eqItems_ints d e k he xs ys _ (fun j hj => by rw [List.mem_range] at hj; omega), ← hx, all_get_eq xs ys (by omega)]
theorem run_neq_arr {P : Program} (w : World) (t e : TypeId) (n : Nat) (k : IntKind) (i : TypeInfo) (hu : P.underlying t = some (.array n e)) (hi : P.info? e = some i) (hc : P.cellsOf e = 1) (he : P.underlying e = some (.int k)) (xs ys : List Int) (hx : xs.length = n) (hy : ys.length = n) :
    (binOp .neq t (.agg (xs.map (Value.int k)).toArray) (.agg (ys.map (Value.int k)).toArray)).run P w = .ok (.bool (!decide (xs = ys))) w := by
  rw [run_neq_struct, run_eq_arr w 9998 t e n k i hu hi hc he xs ys hx hy]; rfl
/-- A whole array is read, in a region that draws. -/
theorem wpQuiet_load_row {P : Program} {ops : Array Oper} {Q : Act → Prop} {a : Act} {w : World} {rest : List Oper} {o : Oper} (hgd : o.guard = none) (ty : TypeId) (x : Operand) (ho : o.op = .load ty x) (g : Nat) (hx : a.eval x = .pointer (some ⟨g, 0, none⟩)) (t : TypeId) (cs : Array Value) (fr : Nat × Nat) (d : TypeDesc)
    (hg : w.heap[g]? = some (.cells cs t fr)) (hu : P.underlying ty = some d) (hd : (match d with | .struct _ | .array _ _ => true | _ => false) = true) (hi : (P.info? ty).map (·.size) = some cs.size)
    (h : wpQuiet P ops (fun w' => ∃ x : Later w, w' = x.val) Q rest (a.put o.dst (.agg cs))) : wpQuiet P ops (fun w' => ∃ x : Later w, w' = x.val) Q (o :: rest) a := by
  unfold wpQuiet
  rw [if_pos (by simp [Region.wanted, hgd])]
  refine ⟨.agg cs, ?_, h⟩
  rintro w' ⟨l, rfl⟩
  have hg' : l.val.heap[g]? = some (.cells cs t fr) := (l.le.block g (Array.getElem?_eq_some_iff.1 hg).1).trans hg
  unfold Oper.quietAt execOp
  simp only [ho, hx, Instr.loadAt, Instr.sureAddr, Sem.run_bind, Sem.run_pure, Result.andThen_ok, run_loadVar_row l.val g t ty cs fr d hg' hu hd hi, Oper.quietUpon, and_self]
/-- A struct or an array is built, in a region that draws. -/
theorem wpQuiet_build {P : Program} {ops : Array Oper} {Q : Act → Prop} {a : Act} {C : World → Prop} {rest : List Oper} {o : Oper} (hgd : o.guard = none) (t : TypeId) (x : Operand) (ho : o.op = .build t #[(0, x)]) (v : Value) (hx : a.eval x = v) (cells : Array Value)
    (hb : P.built t [(0, v)] = some cells)
    (h : wpQuiet P ops C Q rest (a.put o.dst (.agg cells))) : wpQuiet P ops C Q (o :: rest) a := by
  unfold wpQuiet
  rw [if_pos (by simp [Region.wanted, hgd])]
  refine ⟨.agg cells, fun w _ => ?_, h⟩
  unfold Oper.quietAt execOp
  have hp : (#[(0, x)].map fun (p : Nat × Operand) => (p.1, a.eval p.2)).toList = [(0, v)] := by simp [hx]
  simp only [ho, Sem.run_bind, run_build w t _ cells (by rw [hp]; exact hb), Result.andThen_ok, Sem.run_pure, Oper.quietUpon, and_self]
/-- What lies there when a round's body begins: the loop variable in its box, and all that was there but for the loop's record. -/
theorem round_start {W W2 : World} {z cs : Array Value} {t : TypeId} {r : Nat} (hr : r < W.heap.size) (hg : ((W.alloc (.cells z t)).setRow W.heap.size cs).grownBy W2 (some r)) (hs : W2.heap.size = ((W.alloc (.cells z t)).setRow W.heap.size cs).heap.size) :
    W2.heap[W.heap.size]? = some (.cells cs t (0, 0)) ∧ W2.heap.size = W.heap.size + 1 ∧ Below r W W2 ∧ KF r W ((W.alloc (.cells z t)).setRow W.heap.size cs) := by
  have h0 : ((W.alloc (.cells z t)).setRow W.heap.size cs).heap.size = W.heap.size + 1 := by simp
  have hk : ∀ j, j < W.heap.size → ((W.alloc (.cells z t)).setRow W.heap.size cs).heap[j]? = W.heap[j]? := fun j hj => by
    rw [setRow_other _ _ _ _ (by omega)]; exact Below.heap_alloc _ _ _ hj
  refine ⟨?_, by rw [hs, h0], ⟨hg.os, hg.tape, hg.output, by rw [hs, h0]; omega, fun j hj => ?_⟩, ⟨by rw [h0]; omega, fun j _ hj => hk j hj⟩⟩
  · rw [hg.block _ (by rw [h0]; omega) (by intro e; cases e; omega)]
    exact setRow_heap _ _ _ _ _ _ (heap_alloc_new _ _)
  · rw [hg.block _ (by rw [h0]; omega) (by intro e; cases e; omega)]
    exact hk j (by omega)
theorem kf_box (lo : Nat) (W : World) (z cs : Array Value) (t : TypeId) : KF lo W ((W.alloc (.cells z t)).setRow W.heap.size cs) :=
  ⟨by simp, fun j _ hj => by rw [setRow_other _ _ _ _ (by omega)]; exact Below.heap_alloc _ _ _ hj⟩
theorem below_box (W : World) (z cs : Array Value) (t : TypeId) : Below W.heap.size W ((W.alloc (.cells z t)).setRow W.heap.size cs) :=
  ⟨rfl, rfl, rfl, by simp, fun j hj => by rw [setRow_other _ _ _ _ (by omega)]; exact Below.heap_alloc _ _ _ hj⟩
theorem heap_box (W : World) (z cs : Array Value) (t : TypeId) : ((W.alloc (.cells z t)).setRow W.heap.size cs).heap[W.heap.size]? = some (.cells cs t (0, 0)) :=
  setRow_heap _ _ _ _ _ _ (heap_alloc_new _ _)
theorem results_cell {P : Program} {fn : Func} {p : Tmp} {ty : TypeId} {tmps : Array Value} {w : World} {g : Nat} {v : Value} (h : fn.results = #[.cell p ty]) (hp : tmps.getD p undef = .pointer (some ⟨g, 0, none⟩))
    (hl : (loadVar ty ⟨g, 0, none⟩).run P w = .ok v w) : (results fn tmps).run P w = .ok v w := by
  have hp' : tmps[p]?.getD undef = .pointer (some ⟨g, 0, none⟩) := by simpa using hp
  simp [results, h, hp', asAddr, hl]
theorem results_cell2 {P : Program} {fn : Func} {p p' : Tmp} {ty ty' : TypeId} {tmps : Array Value} {w : World} {g g' : Nat} {v v' : Value} (h : fn.results = #[.cell p ty, .cell p' ty']) (hp : tmps.getD p undef = .pointer (some ⟨g, 0, none⟩)) (hp2 : tmps.getD p' undef = .pointer (some ⟨g', 0, none⟩))
    (hl : (loadVar ty ⟨g, 0, none⟩).run P w = .ok v w) (hl' : (loadVar ty' ⟨g', 0, none⟩).run P w = .ok v' w) : (results fn tmps).run P w = .ok (.tuple #[v, v']) w := by
  have hp' : tmps[p]?.getD undef = .pointer (some ⟨g, 0, none⟩) := by simpa using hp
  have hp2' : tmps[p']?.getD undef = .pointer (some ⟨g', 0, none⟩) := by simpa using hp2
  simp [results, h, hp', hp2', asAddr, hl, hl']
theorem cell_put {W : World} {a : Addr} {v : Value} (r : Nat) (o : Obj) (h : W.cell? a = some v) (hr : a.block ≠ r) : (W.putObj r o).cell? a = some v :=
  (World.cell?_of_block (w := W) (World.putObj_heap_other hr)).trans h
theorem below_put {a W : World} (h : Below a.heap.size a W) {r : Nat} (o : Obj) (hr : a.heap.size ≤ r) : Below a.heap.size a (W.putObj r o) :=
  bgr h (grownBy_putObj' W r o) (fun k e => by cases e; exact hr)
end Go.Proofs.Ytdnaipiiponhpaa

namespace Go.Proofs.Ytdnaipiiponhpaa
open Go.RowKit Go.Shelf
attribute [local go_sem] Oper.semAt_some

/-- A pattern in a lane of eight places. -/
def laneOf (p t : Nat) : List Int := (List.range 8).map fun j => if j < p then ((t / 2 ^ (p - 1 - j) % 2 : Nat) : Int) else 0
theorem laneOf_length (p t : Nat) : (laneOf p t).length = 8 := by simp [laneOf]
theorem laneOf_get (p t k : Nat) (hp : p ≤ 8) (hk : k < p) : (laneOf p t)[p - 1 - k]?.getD 0 = ((t / 2 ^ k % 2 : Nat) : Int) := by
  have h1 : p - 1 - k < 8 := by omega
  have h2 : p - 1 - (p - 1 - k) = k := by omega
  simp [laneOf, h1, h2, show p - 1 - k < p by omega]
theorem bit_sub : ∀ s, s < 256 → ∀ k, k < 8 → s / 2 ^ k % 2 = 1 → ∀ j, j < 8 → (s - 2 ^ k) / 2 ^ j % 2 = if j = k then 0 else s / 2 ^ j % 2 := by decide +kernel
theorem bit_add : ∀ s, s < 256 → ∀ k, k < 8 → s / 2 ^ k % 2 = 0 → ∀ j, j < 8 → (s + 2 ^ k) / 2 ^ j % 2 = if j = k then 1 else s / 2 ^ j % 2 := by decide +kernel
theorem bit_ge : ∀ s, s < 256 → ∀ k, k < 8 → s / 2 ^ k % 2 = 1 → 2 ^ k ≤ s := by decide +kernel
theorem lane_set (p s k c s' : Nat) (hp : p ≤ 8) (hk : k < p) (h : ∀ j, j < 8 → s' / 2 ^ j % 2 = if j = k then c else s / 2 ^ j % 2) :
    (laneOf p s).set (p - 1 - k) (c : Int) = laneOf p s' := by
  apply List.ext_getElem
  · simp [laneOf]
  · intro i h1 h2
    have hi : i < 8 := by simpa [laneOf] using h2
    simp only [List.getElem_set, laneOf, List.getElem_map, List.getElem_range]
    by_cases e : p - 1 - k = i
    · rw [if_pos e, if_pos (by omega), h _ (by omega), if_pos (by omega)]
    · rw [if_neg e]
      by_cases hip : i < p
      · rw [if_pos hip, if_pos hip, h _ (by omega), if_neg (by omega)]
      · rw [if_neg hip, if_neg hip]
theorem lane_off (p s k : Nat) (hp : p ≤ 8) (hs : s < 256) (hk : k < p) (hb : s / 2 ^ k % 2 = 1) : (laneOf p s).set (p - 1 - k) 0 = laneOf p (s - 2 ^ k) :=
  lane_set p s k 0 _ hp hk (fun j hj => bit_sub s hs k (by omega) hb j hj)
theorem lane_on (p s k : Nat) (hp : p ≤ 8) (hs : s < 256) (hk : k < p) (hb : s / 2 ^ k % 2 = 0) : (laneOf p s).set (p - 1 - k) 1 = laneOf p (s + 2 ^ k) :=
  lane_set p s k 1 _ hp hk (fun j hj => bit_add s hs k (by omega) hb j hj)
theorem pow_le_8 : ∀ p, p ≤ 8 → 2 ^ p ≤ 256 := by decide

/-- All patterns, in their order. -/
def lanes (p : Nat) : List (List Int) := (List.range (2 ^ p)).map (laneOf p)
theorem lanes_take (p t : Nat) (ht : t < 2 ^ p) : (lanes p).take t ++ [laneOf p t] = (lanes p).take (t + 1) := by
  have : t < (lanes p).length := by simp [lanes, ht]
  rw [List.take_succ_eq_append_getElem this]
  simp [lanes]

theorem top_bit : ∀ p, p ≤ 8 → ∀ k, k < p → (2 ^ p - 2 ^ k) / 2 ^ k % 2 = 1 := by decide
theorem grownBy_set (W : World) (a : Addr) (u : Value) : W.grownBy (W.setCell a u) (some a.block) :=
  ⟨rfl, rfl, rfl, by simp, fun r _ h => Below.heap_setCell _ _ _ _ (fun e => h (by rw [e]))⟩

/-- The numbers in a block. -/
def numsOf : Option Obj → List Int
  | some (.cells c _ _) => c.toList.map intOf
  | _ => []
theorem numsOf_arr (l : List Int) (t : TypeId) : numsOf (some (.cells (arrI l) t (0, 0))) = l := by
  simp [numsOf, arrI, Function.comp_def, intOf]
def numOf (p : Nat) (l : List Int) : Nat := ((List.range p).map fun j => (l[j]?.getD 0).toNat * 2 ^ (p - 1 - j)).sum
theorem numOf_lane : ∀ p, p ≤ 8 → ∀ t, t < 2 ^ p → numOf p (laneOf p t) = t := by decide +kernel

set_option maxRecDepth 100000 in
set_option maxHeartbeats 1000000 in
theorem patterns_yields (n : Nat) (cb bb p : Nat) (x : Value) (hp1 : 1 ≤ p) (hp8 : p ≤ 8) :
    Yields n Try.prog 80 #[.pointer (some ⟨cb, 0, none⟩)] (fun l => #[.agg (arrI l)]) 1 (fun W => W.cell? ⟨cb, 0, none⟩ = some (.pointer (some ⟨bb, 0, none⟩)) ∧ IsBench W bb p x) (lanes p) := by
  intro l J Jx W hJ hJx hR hY h0
  obtain ⟨r1, r2⟩ := hR _ _ h0
  refine callsIn_of_wp Try.func80 rfl trivial ?_ rfl
  simp only [Try.ntmps80, List.size_toArray, List.length_cons, List.length_nil, Nat.reduceAdd, Nat.reduceSub, Array.replicate_succ, Array.replicate_zero, List.push_toArray, List.append_toArray, List.nil_append, List.cons_append]
  have hWcb : cb < W.heap.size := World.block_lt_of_cell? W _ r1
  have h256 := pow_le_8 p hp8
  gi_wp2
  gi_loopw [4] (fun _ wr => ∃ t : Nat, t < 2 ^ p ∧ J ((lanes p).take t) wr ∧ wr.heap[W.heap.size]? = some (.cells (arrI (laneOf p t)) 75 (0, 0))) (fun _ wr => 2 ^ p - numOf p (numsOf (wr.heap[W.heap.size]?)))
  case atStart =>
    refine ⟨0, Nat.two_pow_pos p, ?_, ?_⟩
    · exact hJ _ _ _ none h0 (World.grownBy_alloc _ _ _) (fun r e => by cases e)
    · have e : laneOf p 0 = [0,0,0,0,0,0,0,0] := by
        have h : ∀ p, p ≤ 8 → laneOf p 0 = [0,0,0,0,0,0,0,0] := by decide
        exact h p hp8
      rw [e]; exact heap_alloc_new _ _
  case round =>
    obtain ⟨t, ht, hj, hl⟩ := hrel
    have htk := lanes_take p t ht
    obtain ⟨fn, tmps, assign, body, hy, hR2⟩ := hY _ (laneOf p t) _ hj (by rw [htk]; exact List.take_prefix _ _) (by have := (Array.getElem?_eq_some_iff.1 hl).1; omega)
    rw [htk] at hR2
    have HL := Lib.hid hl; clear hl
    have HLL := Lib.hid (laneOf_length p t)
    have HT := Lib.hid htk; clear htk
    have hz : (Try.prog.info? 75).map (·.size) = some 8 := by kernel_rfl
    have HZ := Lib.hid hz; clear hz
    gi_wp2_with (refine inLoadRow (fun _ => trivial) rfl 75 (.tmp 3) rfl W.heap.size rfl 75 (arrI (laneOf p t)) (0, 0) _ HL.out Try.underlying75 rfl (by rw [arrI_size, HLL.out]; exact HZ.out) ?_)
    refine ⟨fun h => by simp [Fence.wide] at h, ?_⟩
    refine hR2.mono ?_
    rintro e W3 (⟨rfl, hJ3, hs3, hk3⟩ | ⟨rfl, hJx3⟩)
    · obtain ⟨q1, q2⟩ := hR _ _ hJ3
      obtain ⟨q2, q3, q4⟩ := q2
      have hl3 : W3.heap[W.heap.size]? = some (.cells (arrI (laneOf p t)) 75 (0, 0)) := (hk3 _ (Nat.le_refl _) (by omega)).trans HL.out
      gi_wp2
      gi_loopw [4] (fun i wr => ∃ k : Nat, k ≤ p ∧ 2 ^ k ≤ t + 1 ∧ i = .int .i64 ((p : Int) - 1 - k) ∧ J ((lanes p).take (t + 1)) wr ∧ wr.heap[W.heap.size]? = some (.cells (arrI (laneOf p (t + 1 - 2 ^ k))) 75 (0, 0))) (fun i _ => (intOf i + 1).toNat)
      case atStart => exact ⟨0, Nat.zero_le _, by simp, by simp, hJ3, by simpa using hl3⟩
      case round =>
        obtain ⟨k, hk, hkt, rfl, hjr, hlr⟩ := hrel
        by_cases hkp : k < p
        · have hbit := laneOf_get p (t + 1 - 2 ^ k) k hp8 hkp
          have hi0 : (0 : Int) ≤ (p : Int) - 1 - k := by omega
          have hi8 : (p : Int) - 1 - k < 8 := by omega
          have hin : ((p : Int) - 1 - k).toNat = p - 1 - k := by omega
          have hcc : wr.cell? ⟨W.heap.size, p - 1 - k, none⟩ = some (.int .i64 (((t + 1 - 2 ^ k) / 2 ^ k % 2 : Nat) : Int)) := by
            rw [← hbit]; exact (cell_of_row wr _ _ _ _ _ hlr).trans (arrI_get _ _ (by rw [laneOf_length]; omega))
          have hff := frozen_of_row wr W.heap.size (p - 1 - k) _ _ hlr
          have hk1 := Nat.two_pow_pos k
          rcases Nat.mod_two_eq_zero_or_one ((t + 1 - 2 ^ k) / 2 ^ k) with hb | hb
          · rw [hb] at hcc
            clear hbit
            have hlt1 : t + 1 < 2 ^ p := by
              rcases Nat.lt_or_ge (t + 1) (2 ^ p) with h | h
              · exact h
              · have e : t + 1 = 2 ^ p := by omega
                rw [e, top_bit p hp8 k hkp] at hb
                omega
            have hset := lane_on p (t + 1 - 2 ^ k) k hp8 (by omega) hkp hb
            rw [show t + 1 - 2 ^ k + 2 ^ k = t + 1 by omega] at hset
            have hnew := heap_setCell_same wr W.heap.size (p - 1 - k) _ _ (.int .i64 1) hlr
            rw [arrI_set, hset] at hnew
            have HN := Lib.hid hnew; have HLR := Lib.hid hlr; have HB := Lib.hid hb
            clear hnew hset hlr hb
            gi_wp2
            refine ⟨⟨t + 1, hlt1, ?_, HN.out⟩, ?_⟩
            · exact hJ _ _ _ (some W.heap.size) hjr (grownBy_set wr _ _) (fun r e => by cases e; omega)
            · rw [HN.out, HL.out, numsOf_arr, numsOf_arr, numOf_lane p hp8 _ hlt1, numOf_lane p hp8 _ ht]; omega
          · rw [hb] at hcc
            clear hbit
            have hge := bit_ge (t + 1 - 2 ^ k) (by omega) k (by omega) hb
            have hset := lane_off p (t + 1 - 2 ^ k) k hp8 (by omega) hkp hb
            rw [show t + 1 - 2 ^ k - 2 ^ k = t + 1 - 2 ^ (k + 1) by rw [Nat.pow_succ]; omega] at hset
            have hnew := heap_setCell_same wr W.heap.size (p - 1 - k) _ _ (.int .i64 0) hlr
            rw [arrI_set, hset] at hnew
            have HN := Lib.hid hnew; have HLR := Lib.hid hlr; have HB := Lib.hid hb; have HG := Lib.hid hge
            clear hnew hset hlr hb hge
            gi_wp2
            refine ⟨⟨k + 1, by omega, ?_, ?_, ?_, HN.out⟩, ?_⟩
            · have := HG.out; rw [Nat.pow_succ]; omega
            · congr 1; omega
            · exact hJ _ _ _ (some W.heap.size) hjr (grownBy_set wr _ _) (fun r e => by cases e; omega)
            · simp [intOf]; omega
        · gi_wp2
          refine bodyPost_ret (results_none rfl _ _ _) rfl ?_
          refine ⟨⟨_, rfl⟩, .inl ?_⟩
          have e : k = p := by omega
          subst e
          have e2 : t + 1 = 2 ^ k := by omega
          rw [e2, List.take_of_length_le (by simp [lanes])] at hjr
          exact hjr
    · gi_wp2
      refine bodyPost_ret (results_none rfl _ _ _) rfl ?_
      exact ⟨⟨_, rfl⟩, .inr ⟨_, List.take_prefix _ _, hJx3⟩⟩
end Go.Proofs.Ytdnaipiiponhpaa

namespace Go.Proofs.Ytdnaipiiponhpaa
open Go.RowKit Go.Shelf
attribute [local go_sem] Oper.semAt_some

set_option maxRecDepth 100000 in
set_option maxHeartbeats 400000 in
theorem patterns_any (bb : Nat) (w : World) :
    Calls Try.prog 65 #[.pointer (some ⟨bb, 0, none⟩)] w fun e w' => e = .returned (.func (.func 80) #[] #[.pointer (some ⟨w.heap.size, 0, none⟩)]) ∧ w.alloc (.cells #[.pointer (some ⟨bb, 0, none⟩)] 69) = w' := by
  go_enter Try.func65, Try.ntmps65
  go_wp2
  go_ret
  exact ⟨rfl, rfl⟩

/-- A valve exchanges nothing. -/
def needlessB (p : Nat) (V : List (Int × Int)) (v : Nat) : Bool := (lanes p).all fun l => decide (runV (V.take (v + 1)) l = runV (V.take v) l)

set_option maxRecDepth 100000 in
set_option maxHeartbeats 1000000 in
theorem bneedless_any (bb p : Nat) (x : Value) (V : List (Int × Int)) (v : Nat) (w : World) (hb : IsBench w bb p x) (hx : RdP w x V) (hV : OkRow p V) (hv : v < V.length) :
    Calls Try.prog 68 #[.pointer (some ⟨bb, 0, none⟩), .int .i64 v] w fun e w' => e = .returned (.bool (needlessB p V v)) ∧ Below w.heap.size w w' := by
  have hp1 := hV.p1; have hp8 := hV.p8; have h40 := hV.len
  refine callsIn_wide (n := 10).1 ?_
  refine callsIn_of_wp_marks Try.func68 rfl trivial ?_ rfl
  simp only [Try.ntmps68, List.size_toArray, List.length_cons, List.length_nil, Nat.reduceAdd, Nat.reduceSub, Array.replicate_succ, Array.replicate_zero, List.push_toArray, List.append_toArray, List.nil_append, List.cons_append]
  gi_wp2_with fail
  refine ⟨trivial, callsIn_wide.2 ((patterns_any _ _).mono ?_)⟩
  rintro e w4 ⟨rfl, hw4⟩
  have hB0 : Below w.heap.size w w4 := by rw [← hw4]; exact bal (bal (bal (bal (bz _) _) _) _) _
  have hsz : w.heap.size + 4 ≤ w4.heap.size := by rw [← hw4]; simp
  have c0 : w4.cell? ⟨w.heap.size, 0, none⟩ = some (.pointer (some ⟨bb, 0, none⟩)) := by rw [← hw4]; exact cal _ (cal _ (cal _ (cnew rfl rfl)))
  have c1 : w4.cell? ⟨w.heap.size + 1, 0, none⟩ = some (.int .i64 v) := by rw [← hw4]; exact cal _ (cal _ (cnew (by simp) rfl))
  have c2 : w4.cell? ⟨w.heap.size + 2, 0, none⟩ = some (.bool false) := by rw [← hw4]; exact cal _ (cnew (by simp) rfl)
  have f2 : w4.frozen? ⟨w.heap.size + 2, 0, none⟩ = false := by rw [← hw4]; exact fal _ (fnew (by simp)) (by simp)
  have c3 : w4.cell? ⟨w.heap.size + 3, 0, none⟩ = some (.pointer (some ⟨bb, 0, none⟩)) := by rw [← hw4]; exact cnew (by simp) rfl
  simp only [World.size_alloc]
  clear hw4
  have hb4 := hb.mono hB0
  have hx4 := hx.mono hB0
  gi_wp2
  refine range_law (gf := 80) (lb := #[.pointer (some ⟨w.heap.size + 3, 0, none⟩)]) rfl (enters_of Try.func80 (by kernel_rfl) rfl) (patterns_yields _ (w.heap.size + 3) bb p x (by omega) (by omega)) (fun _ => rfl)
    (fun pre W => Below w4.heap.size w4 W ∧ ∀ l ∈ pre, runV (V.take (v + 1)) l = runV (V.take v) l)
    (fun c pre W => c = .ret ∧ needlessB p V v = false ∧ Below w.heap.size w W ∧ W.cell? ⟨w.heap.size + 2, 0, none⟩ = some (.bool false))
    (fun s => (abides_below (Nat.le_refl _) (Nat.le_refl _)).and abides_pure)
    (fun c s => abides_pure.and (abides_pure.and ((abides_below (by omega) (by omega)).and (abides_cell (by simp; omega)))))
    (fun s W1 h => ⟨(h.1.cell (p := ⟨w.heap.size + 3, 0, none⟩) (by simp; omega)).trans c3, hb4.mono h.1⟩)
    ⟨bz _, by simp⟩ ?round ?done ?stop
  case round =>
    rintro l pre lx W ⟨hB, hpre⟩ hpx hszW
    have hll : lx.length = 8 := by
      obtain ⟨ys, e⟩ := hpx
      have : lx ∈ lanes p := by rw [← e]; simp
      simp only [lanes, List.mem_map] at this
      obtain ⟨t, _, rfl⟩ := this
      exact laneOf_length _ _
    have HLL := Lib.hid hll; clear hll
    have hz : (Try.prog.info? 75).map (·.size) = some 8 := by kernel_rfl
    have HZ := Lib.hid hz; clear hz
    have hone : (arrI lx).all (·.oneCell') = true := by simp [arrI, Value.oneCell']
    have HONE := Lib.hid hone; clear hone
    gi_wp2_with (refine inStoreRow (fun _ => trivial) rfl 75 (.tmp 5) (.tmp 9) rfl W.heap.size (arrI lx) rfl rfl 75 _ (heap_alloc_new _ _) (by rw [arrI_size, HLL.out]; exact HZ.out) (by rw [arrI_size, HLL.out]; rfl) HONE.out ?_)
    refine ⟨?_, fun W2 hg2 hs2 => ?_⟩
    · exact kf_box _ _ _ _ _
    obtain ⟨hl2, hz2, hB2, _⟩ := round_start (by omega) hg2 hs2
    have hB3 : Below w4.heap.size w4 W2 := hB.trans (hB2.mono (by omega))
    clear hg2 hs2
    have d0 := (hB3.cell (p := ⟨w.heap.size, 0, none⟩) (by simp; omega)).trans c0
    have d1 := (hB3.cell (p := ⟨w.heap.size + 1, 0, none⟩) (by simp; omega)).trans c1
    have hb2 := hb4.mono hB3
    have hx2 := hx4.mono hB3
    have HL2 := Lib.hid hl2; clear hl2
    gi_wp2_with (refine inLoadRow (fun _ => trivial) rfl 75 (.tmp 5) rfl W.heap.size rfl 75 (arrI lx) (0, 0) _ HL2.out Try.underlying75 rfl (by rw [arrI_size, HLL.out]; exact HZ.out) ?_)
    refine ⟨trivial, CallsIn.inRound l (callsIn_wide.2 ((run_any bb p x V lx v W2 hb2 hx2 (by omega) hV HLL.out).mono ?_))⟩
    rintro e w3 ⟨rfl, hB4⟩
    have e0 := (hB4.cell (p := ⟨w.heap.size, 0, none⟩) (World.block_lt_of_cell? W2 _ d0)).trans d0
    have e1 := (hB4.cell (p := ⟨w.heap.size + 1, 0, none⟩) (World.block_lt_of_cell? W2 _ d1)).trans d1
    have hz4 := hB4.size
    have e2 := (hB4.block W.heap.size (by omega)).trans HL2.out
    have E2 := Lib.hid e2; clear e2
    have HLR := Lib.hid (show (runV (V.take v) lx).length = 8 by rw [runV_length]; exact HLL.out)
    have hone : (arrI (runV (V.take v) lx)).all (·.oneCell') = true := by simp [arrI, Value.oneCell']
    have HONE2 := Lib.hid hone; clear hone
    gi_wp2_with (refine inStoreRow (fun _ => trivial) rfl 75 (.tmp 6) (.tmp 13) rfl w3.heap.size (arrI (runV (V.take v) lx)) rfl rfl 75 _ (heap_alloc_new _ _) (by rw [arrI_size, HLR.out]; exact HZ.out) (by rw [arrI_size, HLR.out]; rfl) HONE2.out ?_)
    generalize hw5 : World.setRow _ _ _ = w5
    have g0 : Below w3.heap.size w3 w5 := by rw [← hw5]; exact below_box _ _ _ _
    have g1 : w5.heap[w3.heap.size]? = some (.cells (arrI (runV (V.take v) lx)) 75 (0, 0)) := by rw [← hw5]; exact heap_box _ _ _ _
    clear hw5
    have k0 := (g0.cell (p := ⟨w.heap.size, 0, none⟩) (World.block_lt_of_cell? w3 _ e0)).trans e0
    have k1 := (g0.cell (p := ⟨w.heap.size + 1, 0, none⟩) (World.block_lt_of_cell? w3 _ e1)).trans e1
    have k2 := (g0.block W.heap.size (by omega)).trans E2.out
    have K2 := Lib.hid k2; have K3 := Lib.hid g1; clear k2 g1
    have hb5 := (hb2.mono hB4).mono g0
    have hx5 := (hx2.mono hB4).mono g0
    have hwr : IntKind.i64.wrap ((v : Int) + 1) = (v : Int) + 1 := IntWalk.i64_in _ (by omega)
    have hC : ∀ l' : Later w5, Calls Try.prog 58 #[.pointer (some ⟨bb, 0, none⟩), .agg (arrI lx), .int .i64 ((v : Int) + 1)] l'.val fun e w'' => e = .returned (.agg (arrI (runV (V.take (v + 1)) lx))) ∧ ∃ x : Later w5, w'' = x.val := by
      intro l'
      have := run_any bb p x V lx (v + 1) l'.val (hb5.mono l'.le) (hx5.mono l'.le) (by omega) hV HLL.out
      rw [show ((v + 1 : Nat) : Int) = (v : Int) + 1 by omega] at this
      exact Calls.later this
    have HC := Lib.hid hC; clear hC
    have hL := @Later.cell w5
    have l0 := World.block_lt_of_cell? w5 _ k0
    have l1 := World.block_lt_of_cell? w5 _ k1
    simp only at l0 l1
    obtain ⟨i3, hi3, _⟩ := info_parts Try.info2
    have hne : ∀ w' : World, (binOp .neq 75 (.agg (arrI (runV (V.take (v + 1)) lx))) (.agg (arrI (runV (V.take v) lx)))).run Try.prog w' = .ok (.bool (!decide (runV (V.take (v + 1)) lx = runV (V.take v) lx))) w' := fun w' => run_neq_arr (P := Try.prog) w' 75 2 8 .i64 i3 Try.underlying75 hi3 (by kernel_rfl) Try.underlying2 (runV (V.take (v + 1)) lx) (runV (V.take v) lx) (by rw [runV_length]; exact HLL.out) HLR.out
    refine in_region_later (r := some l) (by kernel_rfl) (by kernel_rfl) (by rfl) ?_
    repeat (first
      | (refine wpQuiet_load_row rfl 75 (.tmp 5) rfl W.heap.size rfl 75 (arrI lx) (0, 0) _ K2.out Try.underlying75 rfl (by rw [arrI_size, HLL.out]; exact HZ.out) ?_)
      | (refine wpQuiet_load_row rfl 75 (.tmp 6) rfl w3.heap.size rfl 75 (arrI (runV (V.take v) lx)) (0, 0) _ K3.out Try.underlying75 rfl (by rw [arrI_size, HLR.out]; exact HZ.out) ?_)
      | (quiet_step ((go_at_call 58; exact HC.out _))))
    refine wpQuiet_nil ?_
    intro w6 hw6
    have hL6 : Below w5.heap.size w5 w6 := by obtain ⟨⟨_, h⟩, rfl⟩ := hw6; exact h
    clear hw6
    have hB6 : Below W2.heap.size W2 w6 := btr (btr hB4 g0) hL6
    have r2 : w6.cell? ⟨w.heap.size + 1 + 1, 0, none⟩ = some (.bool false) := (hB6.cell (by simp; omega)).trans ((hB3.cell (by simp; omega)).trans c2)
    have r3 : w6.frozen? ⟨w.heap.size + 1 + 1, 0, none⟩ = false := (hB6.frozen (by simp; omega)).trans ((hB3.frozen (by simp; omega)).trans f2)
    generalize hq : decide (runV (V.take (v + 1)) lx = runV (V.take v) lx) = q
    have HQ := Lib.hid hq; clear hq hne
    have HR2 := Lib.hid r2; have HR3 := Lib.hid r3; have HX := Lib.hid hpx; have HP := Lib.hid hpre
    have HLX : Hid (lx ∈ lanes p) := by obtain ⟨ys, e⟩ := hpx; rw [← e]; exact Lib.hid (by simp)
    clear r2 r3 hpx hpre
    have R2 := HR2.out; have R3 := HR3.out
    cases q
    · gi_wp2
      refine ⟨(KF.of_below hB6).set (by simp; omega) _, rfl, ?_, bset (btr (btr hB0 hB3) hB6) (by simp; omega) _, World.cell?_setCell_same' _ _ _ (by rw [R2]; rfl)⟩
      unfold needlessB
      rw [← Bool.not_eq_true, List.all_eq_true]
      intro h
      have := h lx HLX.out
      rw [HQ.out] at this
      cases this
    · gi_wp2
      refine ⟨KF.of_below hB6, hB3.trans (hB6.mono (by omega)), fun l' hl' => ?_⟩
      rw [List.mem_append, List.mem_singleton] at hl'
      rcases hl' with h | h
      · exact HP.out l' h
      · subst h; exact of_decide_eq_true HQ.out
  case done =>
    rintro W ⟨hB, hpre⟩ hD
    have HD := Lib.hid hD; have HP := Lib.hid hpre; clear hD hpre
    have R2 : W.cell? ⟨w.heap.size + 1 + 1, 0, none⟩ = some (.bool false) := (hB.cell (by simp; omega)).trans c2
    have R3 : W.frozen? ⟨w.heap.size + 1 + 1, 0, none⟩ = false := (hB.frozen (by simp; omega)).trans f2
    gi_wp2
    have hD2 : (W.setCell ⟨w.heap.size + 1 + 1, 0, none⟩ (.bool true)).heap[w4.heap.size]? = some (.deferred (some [])) := (Below.heap_setCell _ _ _ _ (by simp; omega)).trans HD.out
    refine ⟨by simp, .inl ⟨_, _, rfl, run_takeDeferred hD2, ?_⟩⟩
    have cX : ((W.setCell ⟨w.heap.size + 1 + 1, 0, none⟩ (.bool true)).putObj w4.heap.size (.deferred none)).cell? ⟨w.heap.size + 1 + 1, 0, none⟩ = some (.bool true) :=
      cell_put _ _ (World.cell?_setCell_same' _ _ _ (by rw [R2]; rfl)) (by simp; omega)
    have bX : Below w.heap.size w ((W.setCell ⟨w.heap.size + 1 + 1, 0, none⟩ (.bool true)).putObj w4.heap.size (.deferred none)) :=
      below_put (bset (btr hB0 hB) (by simp; omega) _) _ (by omega)
    generalize (W.setCell ⟨w.heap.size + 1 + 1, 0, none⟩ (.bool true)).putObj w4.heap.size (.deferred none) = X at *
    refine ⟨.bool true, results_cell rfl rfl (by go_simp), ?_, bX⟩
    have : needlessB p V v = true := by unfold needlessB; rw [List.all_eq_true]; intro l hl; exact decide_eq_true (HP.out l hl)
    rw [this]
  case stop =>
    rintro c pre W hpre ⟨rfl, hnb, hB, hc⟩ hD
    have HD := Lib.hid hD; have HNB := Lib.hid hnb; clear hD hnb
    gi_wp2
    refine ⟨by simp, .inl ⟨_, _, rfl, run_takeDeferred HD.out, ?_⟩⟩
    have cX : (W.putObj w4.heap.size (.deferred none)).cell? ⟨w.heap.size + 1 + 1, 0, none⟩ = some (.bool false) := cell_put _ _ hc (by simp; omega)
    have bX : Below w.heap.size w (W.putObj w4.heap.size (.deferred none)) := below_put hB _ (by omega)
    generalize W.putObj w4.heap.size (.deferred none) = X at *
    exact ⟨.bool false, results_cell rfl rfl (by go_simp), by rw [HNB.out], bX⟩
end Go.Proofs.Ytdnaipiiponhpaa

namespace Go.Proofs.Ytdnaipiiponhpaa
open Go.RowKit Go.Shelf

section
variable {P : Program} {ops : Array Oper} {md : Region.Mode} {C : World → Prop}
/-- Some order of the first f operations that come up, all of the head; then L. -/
def headThen (P : Program) (md : Region.Mode) (ops : Array Oper) (C : World → Prop) (n : Nat) (L : Array Bool → Act → Prop) : Nat → Array Bool → Act → Prop
  | 0, listed, a => L listed a
  | f + 1, listed, a => Region.ready md ops listed ≠ [] ∧ ∀ i ∈ Region.ready md ops listed, i < n ∧ qOp P ops C i (headThen P md ops C n L f (listed.setIfInBounds i true)) a
theorem any_of_headThen {n g : Nat} {L : Array Bool → Act → Prop} {Q' : Exit → Act → World → Prop} (hL : ∀ listed a w, C w → L listed a → wpAny P md ops Q' g listed a w) :
    ∀ (f : Nat) (listed : Array Bool) (a : Act) (w : World), C w → headThen P md ops C n L f listed a → wpAny P md ops Q' (f + g) listed a w
  | 0, listed, a, w, hw, h => by rw [Nat.zero_add]; exact hL _ _ _ hw h
  | f + 1, listed, a, w, hw, h => by
    rw [show f + 1 + g = (f + g) + 1 by omega]
    exact ⟨fun h0 => absurd h0 h.1, fun i hi => wpOp_of_qOp hw (fun a' w' hw' h' => any_of_headThen hL f _ a' w' hw' h') (h.2 i hi).2⟩
/-- An operation of the head that may come up now may be taken first. -/
theorem headThen_first {n i : Nat} {oi : Oper} {v : Value} {L : Array Bool → Act → Prop} (hi : ops[i]? = some oi) (hsel : ∀ (j : Nat) (o : Oper) cs b, ops[j]? = some o → o.op ≠ .select cs b)
    (hwait : ∀ listed, HeadInv md ops n listed → ∀ i, i < n → listed.getD i true = false → ∀ t, n ≤ t → t ∉ Region.ready md ops listed) (hin : i < n) (hdone : ∀ listed a, L listed a → ∀ j ∈ Region.ready md ops listed, n ≤ j) :
    ∀ (f : Nat) (listed : Array Bool) (a : Act), HeadInv md ops n listed →
      (∀ j oj, ops[j]? = some oj → j ≠ i → listed.getD j true = false → (∀ e ∈ oj.after, Region.binds md e = true → e.on ≠ i) → oi.apart ops oj = true) →
      i ∈ Region.ready md ops listed → YieldsIn P ops C oi v a →
      headThen P md ops C n L f (listed.setIfInBounds i true) (a.put oi.dst v) → headThen P md ops C n L (f + 1) listed a := by
  intro f
  induction f with
  | zero =>
    intro listed a inv _ hr hy H
    refine ⟨fun h => (by rw [h] at hr; cases hr), fun j hj => ?_⟩
    have hjn : j < n := Nat.lt_of_not_le fun h => absurd hj (hwait _ inv i hin (mem_ready.1 hr).1 j h)
    refine ⟨hjn, ?_⟩
    by_cases hji : j = i
    · subst hji; exact hy.qOp hi H
    · have := hdone _ _ H j (ready_mono hj hji)
      omega
  | succ f ih =>
    intro listed a inv hfree hr hy H
    refine ⟨fun h => (by rw [h] at hr; cases hr), fun j hj => ?_⟩
    have hjn : j < n := Nat.lt_of_not_le fun h => absurd hj (hwait _ inv i hin (mem_ready.1 hr).1 j h)
    refine ⟨hjn, ?_⟩
    by_cases hji : j = i
    · subst hji; exact hy.qOp hi H
    obtain ⟨hjun, oj, hoj, hall⟩ := mem_ready.1 hj
    have hnot : ∀ e ∈ oj.after, Region.binds md e = true → e.on ≠ i := by
      intro e he hb heq
      have h1 := hall e he hb
      rw [heq, getD_both (mem_ready.1 hr).1] at h1
      cases h1
    refine qOp_mono (fun a' h3 => ih (listed.setIfInBounds j true) a' (inv.set hj hjn) ?_ (ready_mono hr (Ne.symm hji)) h3.1 ?_)
      (qOp_put hoj (hfree j oj hoj hji hjun hnot) (fun cs b => hsel i oi cs b hi) (fun cs b => hsel j oj cs b hoj) hy (H.2 j (ready_mono hj hji)).2)
    · intro k ok hk hki hun hno
      refine hfree k ok hk hki ?_ hno
      by_cases hjk : j = k
      · subst hjk; exact hjun
      · rw [getD_set_ne true hjk] at hun; exact hun
    · rw [Array.setIfInBounds_comm _ _ hji]
      exact h3.2
theorem headThen_lex {n g : Nat} {Lq : Act → Prop} (hsel : Region.noSelect ops = true) (hs : Region.sinkB md ops n = true) (hc : Region.chainB md ops n = true) (hn : n < ops.size) :
    ∀ (l : List Oper) (k : Nat) (listed : Array Bool) (a : Act), (∀ j, j < l.length → l[j]? = ops[k + j]?) → k + l.length = n → HeadInv md ops n listed →
    Region.lexHead md ops g l.length k listed = true → wpQuiet P ops C Lq l a →
    headThen P md ops C n (fun listed' a' => Region.seqB md ops g n listed' = true ∧ Lq a') l.length listed a
  | [], k, listed, a, _, hk, _, hB, h => by
    obtain rfl : k = n := by simpa using hk
    exact ⟨by simpa [Region.lexHead] using hB, h⟩
  | o :: l, k, listed, a, hl, hk, inv, hB, h => by
    have h0 : ops[k]? = some o := by simpa using (hl 0 (by simp)).symm
    simp only [List.length_cons, Region.lexHead, Bool.and_eq_true] at hB hk
    obtain ⟨⟨hr, hf⟩, hB'⟩ := hB
    have hr' : k ∈ Region.ready md ops listed := by simpa using hr
    have hst : qOp P ops C k (wpQuiet P ops C Lq l) a := by unfold qOp; simp only [h0]; exact h
    obtain ⟨v, hy, hK⟩ := yieldsIn_of_qOp h0 hst
    exact headThen_first h0 (Region.noSelect_spec hsel) (fun listed inv i hi hu => tail_waits hs hc hn inv _ i rfl hi hu) (by omega) (fun listed' a' hL => seqB_ready hL.1) l.length listed a inv (Region.free_spec h0 hf) hr' hy
      (headThen_lex hsel hs hc hn l (k + 1) _ _ (fun j hj => by have := hl (j + 1) (by simp; omega); simpa [Nat.add_assoc, Nat.add_comm 1 j] using this) (by omega) (inv.set hr' (by omega)) hB' hK)

theorem any_head_tail {Q : Exit → Act → World → Prop} {a : Act} {w : World} {l : List Oper} (n : Nat) (hB : Region.lexTailB .any l.toArray n = true) (hC : C w)
    (h : wpQuiet P l.toArray C (fun a' => ∀ w', C w' → wpList P l.toArray Q (l.drop n) a' w') (l.take n) a) : wpAny P .any l.toArray Q l.toArray.size (Array.replicate l.toArray.size false) a w := by
  simp only [Region.lexTailB, Bool.and_eq_true, decide_eq_true_eq] at hB
  obtain ⟨⟨⟨⟨hsel, hn⟩, hs⟩, hc⟩, hlex⟩ := hB
  have hn' : n < l.length := by simpa using hn
  have htl : (l.take n).length = n := by simp; omega
  have hdl : (l.drop n).length = l.toArray.size - n := by simp
  have inv0 : HeadInv .any l.toArray n (Array.replicate l.toArray.size false) :=
    ⟨by simp, fun j oj _ hl => (by rw [getD_replicate_false] at hl; cases hl), fun t _ ht => getD_in (by simpa using ht) (getD_replicate_false _ _)⟩
  have H := headThen_lex (md := .any) (g := l.toArray.size - n) hsel hs hc hn (l.take n) 0 _ a (fun j hj => by
    have hj' : j < n := by rw [htl] at hj; exact hj
    simp [hj']) (by simpa using htl) inv0 (by rw [htl]; exact hlex) h
  have := any_of_headThen (Q' := Q) (g := l.toArray.size - n) (fun listed a' w' hw' hL => by
    have := wpAny_of_seq (md := .any) (Q' := Q) (l.drop n) n listed a' w' (fun j => by simp [List.getElem?_drop]) (by rw [hdl]; exact hL.1) (hL.2 w' hw')
    rwa [hdl] at this) _ _ _ _ hC H
  rw [htl, show n + (l.toArray.size - n) = l.toArray.size by omega] at this
  exact this

/-- Every operation of the tail waits, itself or by an earlier one of the tail, for all of the head. -/
def tailB (md : Region.Mode) (ops : Array Oper) (n : Nat) : Bool :=
  (List.range ops.size).all fun t => decide (t < n) || (List.range t).any (fun t' => decide (n ≤ t') && Region.waitsFor md ops t t') ||
    (List.range n).all fun i => (List.range n).any (fun j => decide (i < j) && Region.waitsFor md ops j i) || Region.waitsFor md ops t i
theorem not_ready_of_waits {listed : Array Bool} {t i : Nat} (h : Region.waitsFor md ops t i = true) (hu : listed.getD i false = false) : t ∉ Region.ready md ops listed := by
  intro hr
  obtain ⟨_, ot, hot, hall⟩ := mem_ready.1 hr
  obtain ⟨o', ho', e, he, hb, hon⟩ := Region.waitsFor_spec h
  obtain rfl : o' = ot := Option.some.inj (ho'.symm.trans hot)
  have := hall e he hb
  rw [hon, hu] at this
  cases this
theorem tailB_waits {n : Nat} (h : tailB md ops n = true) : ∀ listed, HeadInv md ops n listed → ∀ i, i < n → listed.getD i true = false → ∀ t, n ≤ t → t ∉ Region.ready md ops listed := by
  intro listed inv i hi hu t ht
  by_cases hts : t < ops.size
  · have h1 := List.all_eq_true.1 h t (List.mem_range.2 hts)
    simp only [Bool.or_eq_true, decide_eq_true_eq] at h1
    rcases h1 with (h1 | h1) | h1
    · omega
    · obtain ⟨t', ht', h2⟩ := List.any_eq_true.1 h1
      simp only [Bool.and_eq_true, decide_eq_true_eq] at h2
      exact not_ready_of_waits h2.2 (getD_both (inv.tail t' h2.1 (by have := List.mem_range.1 ht'; omega)))
    · have key : ∀ d i, n - i = d → i < n → listed.getD i true = false → t ∉ Region.ready md ops listed := by
        intro d
        induction d using Nat.strongRecOn with
        | _ d ih =>
          intro i hd hi hu
          have h2 := List.all_eq_true.1 h1 i (List.mem_range.2 hi)
          simp only [Bool.or_eq_true] at h2
          rcases h2 with h2 | h2
          · obtain ⟨j, hj, h3⟩ := List.any_eq_true.1 h2
            simp only [Bool.and_eq_true, decide_eq_true_eq] at h3
            have hjn := List.mem_range.1 hj
            obtain ⟨oj, hoj, e, he, hb, hon⟩ := Region.waitsFor_spec h3.2
            cases hl : listed.getD j false with
            | true =>
              have h4 := inv.closed j oj hoj hl e he hb
              rw [hon, getD_both hu] at h4
              cases h4
            | false =>
              have hjs : j < listed.size := by rw [inv.size]; exact (Array.getElem?_eq_some_iff.1 hoj).1
              exact ih (n - j) (by omega) j rfl hjn (getD_in hjs hl)
          · exact not_ready_of_waits h2 (getD_both hu)
      exact key _ i rfl hi hu
  · intro hr
    obtain ⟨_, ot, hot, _⟩ := mem_ready.1 hr
    exact hts (Array.getElem?_eq_some_iff.1 hot).1
/-- The head in the text's order; what is listed behind it. -/
def lexHd (md : Region.Mode) (ops : Array Oper) : Nat → Nat → Array Bool → Bool
  | 0, _, _ => true
  | f + 1, k, listed => (Region.ready md ops listed).contains k && Region.free md ops listed k && lexHd md ops f (k + 1) (listed.setIfInBounds k true)
def marked : Nat → Nat → Array Bool → Array Bool
  | 0, _, listed => listed
  | f + 1, k, listed => marked f (k + 1) (listed.setIfInBounds k true)
theorem headThen_lex2 {n : Nat} {Lq : Act → Prop} (hsel : Region.noSelect ops = true) (hw : tailB md ops n = true) (hlist : Array Bool) (hdone : ∀ j ∈ Region.ready md ops hlist, n ≤ j) :
    ∀ (l : List Oper) (k : Nat) (listed : Array Bool) (a : Act), (∀ j, j < l.length → l[j]? = ops[k + j]?) → k + l.length = n → HeadInv md ops n listed → marked l.length k listed = hlist →
    lexHd md ops l.length k listed = true → wpQuiet P ops C Lq l a →
    headThen P md ops C n (fun listed' a' => listed' = hlist ∧ Lq a') l.length listed a
  | [], k, listed, a, _, hk, _, hm, hB, h => ⟨hm, h⟩
  | o :: l, k, listed, a, hl, hk, inv, hm, hB, h => by
    have h0 : ops[k]? = some o := by simpa using (hl 0 (by simp)).symm
    simp only [List.length_cons, lexHd, Bool.and_eq_true] at hB hk
    obtain ⟨⟨hr, hf⟩, hB'⟩ := hB
    have hr' : k ∈ Region.ready md ops listed := by simpa using hr
    have hst : qOp P ops C k (wpQuiet P ops C Lq l) a := by unfold qOp; simp only [h0]; exact h
    obtain ⟨v, hy, hK⟩ := yieldsIn_of_qOp h0 hst
    exact headThen_first h0 (Region.noSelect_spec hsel) (tailB_waits hw) (by omega) (fun listed' a' hL => by rw [hL.1]; exact hdone) l.length listed a inv (Region.free_spec h0 hf) hr' hy
      (headThen_lex2 hsel hw hlist hdone l (k + 1) _ _ (fun j hj => by have := hl (j + 1) (by simp; omega); simpa [Nat.add_assoc, Nat.add_comm 1 j] using this) (by omega) (inv.set hr' (by omega)) hm hB' hK)
def headB (md : Region.Mode) (ops : Array Oper) (n : Nat) : Bool :=
  Region.noSelect ops && decide (n < ops.size) && tailB md ops n && lexHd md ops n 0 (Array.replicate ops.size false) && (Region.ready md ops (marked n 0 (Array.replicate ops.size false))).all (fun j => decide (n ≤ j))
/-- Quiet operations first; what comes behind them in whatever order. -/
theorem any_head_any {Q : Exit → Act → World → Prop} {a : Act} {w : World} {l : List Oper} (n : Nat) (hB : headB .any l.toArray n = true) (hC : C w)
    (h : wpQuiet P l.toArray C (fun a' => ∀ w', C w' → wpAny P .any l.toArray Q (l.length - n) (marked n 0 (Array.replicate l.toArray.size false)) a' w') (l.take n) a) : wpAny P .any l.toArray Q l.toArray.size (Array.replicate l.toArray.size false) a w := by
  simp only [headB, Bool.and_eq_true, decide_eq_true_eq] at hB
  obtain ⟨⟨⟨⟨hsel, hn⟩, hw⟩, hlex⟩, hd⟩ := hB
  have hn' : n < l.length := by simpa using hn
  have htl : (l.take n).length = n := by simp; omega
  have inv0 : HeadInv .any l.toArray n (Array.replicate l.toArray.size false) :=
    ⟨by simp, fun j oj _ hl => (by rw [getD_replicate_false] at hl; cases hl), fun t _ ht => getD_in (by simpa using ht) (getD_replicate_false _ _)⟩
  have H := headThen_lex2 (md := .any) hsel hw _ (fun j hj => by simpa using List.all_eq_true.1 hd j hj) (l.take n) 0 _ a (fun j hj => by
    have hj' : j < n := by rw [htl] at hj; exact hj
    simp [hj']) (by simpa using htl) inv0 (by rw [htl]) (by rw [htl]; exact hlex) h
  have := any_of_headThen (Q' := Q) (g := l.length - n) (fun listed a' w' hw' hL => by
    obtain ⟨rfl, h2⟩ := hL
    exact h2 w' hw') _ _ _ _ hC H
  rw [htl, show n + (l.length - n) = l.toArray.size by simp; omega] at this
  exact this

/-- From an operation outside a fence to one inside the fence of everything. -/
theorem inOp_of_op {m : Nat} {r : Option Nat} {Q : Exit → Act → World → Prop} (hd : ∀ (i : Nat) (o : Oper), ops[i]? = some o → ∀ c, o.op ≠ .defer c) (hout : ¬ LetsOut Q) {i : Nat} {K K' : Act → World → Prop} {a : Act} {w : World} (hK : ∀ a w, K a w → K' a w)
    (h : wpOp P ops Q i K a w) : wpOpIn (WF r) m P ops Q i K' a w := by
  unfold wpOp at h
  unfold wpOpIn
  cases ho : ops[i]? with
  | none => simp only [ho] at h; exact hK _ _ h
  | some o =>
    simp only [ho] at h ⊢
    by_cases hw : Region.wanted o (yielded ops a.tmps) = true
    · simp only [hw, if_true] at h ⊢
      rcases h with h | ⟨_, h⟩
      · unfold Oper.wp at h
        refine ⟨fun _ _ => trivial, ?_⟩
        have e : o.semAt (WF r).round a.eval = execOp a.eval o := Oper.semAt_eq _ _ _ (hd i o ho)
        rw [e]
        generalize (execOp a.eval o).run P w = res at *
        cases res with
        | ok x w' =>
          cases x <;> simp only [Oper.upon] at h <;> simp only [Oper.uponIn]
          case value u => exact hK _ _ h
          case skip => exact hK _ _ h
          case defer d => exact hK _ _ h
          case enter f args =>
            refine ⟨fun hh => by simp [Fence.wide] at hh, ?_⟩
            refine (show CallsIn Fence.wide (m - 1) P f args w' _ from callsIn_wide.2 (h.mono fun e w'' he => ?_))
            cases e with
            | returned v => exact hK _ _ he
            | panicked c => exact he
            | outgrown => exact he
          case row row args =>
            refine ⟨fun hh => by simp [Fence.wide] at hh, fun c cs _ => ?_⟩
            obtain ⟨v, w2, h1, h2⟩ := h c cs
            exact ⟨v, w2, hK _ _ h1, stepsIn_wide.2 h2⟩
        | halt x w' => cases x <;> simp only [Oper.upon] at h <;> simp only [Oper.uponIn] <;> exact h
      · exact absurd h hout
    · simp only [hw] at h ⊢
      exact ⟨fun _ _ => trivial, hK _ _ h⟩
theorem inAny_of_any {m : Nat} {r : Option Nat} {Q : Exit → Act → World → Prop} (hd : ∀ (i : Nat) (o : Oper), ops[i]? = some o → ∀ c, o.op ≠ .defer c) (hout : ¬ LetsOut Q) :
    ∀ (fuel : Nat) (listed : Array Bool) (a : Act) (w : World), wpAny P md ops Q fuel listed a w → wpAnyIn (WF r) m P md ops Q fuel listed a w
  | 0, _, _, _, h => h
  | fuel + 1, _, _, _, h => ⟨h.1, fun i hi => inOp_of_op hd hout (fun a' w' => inAny_of_any hd hout fuel _ a' w') (h.2 i hi)⟩
theorem noDefer_spec {l : List Oper} (hd : noDefer l = true) : ∀ (i : Nat) (o : Oper), l.toArray[i]? = some o → ∀ c, o.op ≠ .defer c := by
  intro i o ho c e
  have hm : o ∈ l := by rw [List.getElem?_toArray] at ho; exact List.mem_of_getElem? ho
  have := List.all_eq_true.1 hd o hm
  rw [e] at this
  simp at this

/-- Quiet operations, then a tail: outside a fence. -/
theorem wp_region_tail {id : Nat} {Q : Exit → Act → World → Prop} {a : Act} {w : World} {l : List Oper} (n : Nat) (hm : P.follows .mixedOrders = true) (hB : Region.lexTailB .any l.toArray n = true)
    (h : wpQuiet P l.toArray (fun w' => ∃ x : Later w, w' = x.val) (fun a' => ∀ w', (∃ x : Later w, w' = x.val) → wpList P l.toArray Q (l.drop n) a' w') (l.take n) a) : (Code.region id l.toArray true).wp P Q a w :=
  wp_region_any hm (any_head_tail n hB ⟨⟨_, Below.drew (Below.refl _ _)⟩, rfl⟩ h)
/-- .. in the fence of everything. -/
theorem in_region_tail {id m : Nat} {r : Option Nat} {Q : Exit → Act → World → Prop} {a : Act} {w : World} {l : List Oper} (n : Nat) (hm : P.follows .mixedOrders = true) (hB : Region.lexTailB .any l.toArray n = true) (hd : noDefer l = true) (hout : ¬ LetsOut Q)
    (h : wpQuiet P l.toArray (fun w' => ∃ x : Later w, w' = x.val) (fun a' => ∀ w', (∃ x : Later w, w' = x.val) → wpList P l.toArray Q (l.drop n) a' w') (l.take n) a) : (Code.region id l.toArray true).wpIn (WF r) m P Q a w :=
  wpIn_region_any hm (inAny_of_any (noDefer_spec hd) hout _ _ _ _ (any_head_tail n hB ⟨⟨_, Below.drew (Below.refl _ _)⟩, rfl⟩ h))
/-- .. with a tail in whatever order: outside a fence, and in the fence of everything. -/
theorem wp_region_head {id : Nat} {Q : Exit → Act → World → Prop} {a : Act} {w : World} {l : List Oper} (n : Nat) (hm : P.follows .mixedOrders = true) (hB : headB .any l.toArray n = true)
    (h : wpQuiet P l.toArray (fun w' => ∃ x : Later w, w' = x.val) (fun a' => ∀ w', (∃ x : Later w, w' = x.val) → wpAny P .any l.toArray Q (l.length - n) (marked n 0 (Array.replicate l.toArray.size false)) a' w') (l.take n) a) : (Code.region id l.toArray true).wp P Q a w :=
  wp_region_any hm (any_head_any n hB ⟨⟨_, Below.drew (Below.refl _ _)⟩, rfl⟩ h)
theorem in_region_head {id m : Nat} {r : Option Nat} {Q : Exit → Act → World → Prop} {a : Act} {w : World} {l : List Oper} (n : Nat) (hm : P.follows .mixedOrders = true) (hB : headB .any l.toArray n = true) (hd : noDefer l = true) (hout : ¬ LetsOut Q)
    (h : wpQuiet P l.toArray (fun w' => ∃ x : Later w, w' = x.val) (fun a' => ∀ w', (∃ x : Later w, w' = x.val) → wpAny P .any l.toArray Q (l.length - n) (marked n 0 (Array.replicate l.toArray.size false)) a' w') (l.take n) a) : (Code.region id l.toArray true).wpIn (WF r) m P Q a w :=
  wpIn_region_any hm (inAny_of_any (noDefer_spec hd) hout _ _ _ _ (any_head_any n hB ⟨⟨_, Below.drew (Below.refl _ _)⟩, rfl⟩ h))
end
end Go.Proofs.Ytdnaipiiponhpaa

namespace Go.Proofs.Ytdnaipiiponhpaa
open Go.RowKit Go.Shelf Go.Instr

theorem Try.fields89 : (Try.prog.fieldsOf 89).toList.map (fun f => (f.name == "_", f.type, f.offset)) = [(false, 75, 0)] := by kernel_rfl
theorem Try.struct89 : Try.prog.underlying 89 = some (.struct (Try.prog.fieldsOf 89)) := by kernel_rfl
theorem Try.held89 : Try.prog.stoodInHeld 89 = false := by kernel_rfl
theorem Try.size75 (w : World) : (sizeOf 75).run Try.prog w = .ok 8 w := by kernel_rfl
theorem Try.agg75 (w : World) : (isAgg 75).run Try.prog w = .ok true w := by kernel_rfl
theorem Try.size2 (w : World) : (sizeOf 2).run Try.prog w = .ok 1 w := by kernel_rfl

theorem field89 : ∃ f, (Try.prog.fieldsOf 89).toList = [f] ∧ f.name ≠ "_" ∧ f.type = 75 ∧ f.offset = 0 := by
  have h := Try.fields89
  match hl : (Try.prog.fieldsOf 89).toList, h with
  | [f], h =>
    simp at h
    exact ⟨f, rfl, h.1, h.2.1, h.2.2⟩
  | [], h => simp at h
  | _ :: _ :: _, h => simp at h

theorem part_lane (w : World) (a : List Int) (ha : a.length = 8) : (part 75 (arrI a) 0).run Try.prog w = .ok (.agg (arrI a)) w := by
  have e : (arrI a).extract 0 (0 + 8) = arrI a := by
    apply Array.ext'
    simp only [arrI, List.extract_toArray, List.extract_eq_take_drop, List.drop_zero]
    rw [List.take_of_length_le (by simp [ha])]
  simp only [part, Sem.run_bind, Try.agg75, Result.andThen_ok, if_true, Try.size75, Sem.run_pure, e]

theorem eqKey (w : World) (a b : List Int) (ha : a.length = 8) (hb : b.length = 8) : (Op.equal 89 (.agg (arrI a)) (.agg (arrI b))).run Try.prog w = .ok (decide (a = b)) w := by
  obtain ⟨f, h1, h2, h3, h4⟩ := field89
  obtain ⟨i3, hi3, _⟩ := info_parts Try.info2
  unfold Op.equal Op.maxDepth
  rw [run_equalIn_struct w 9999 89 _ _ Try.struct89 Try.held89, h1]
  have he := run_eq_arr (P := Try.prog) w 9997 75 2 8 .i64 i3 Try.underlying75 hi3 (by kernel_rfl) Try.underlying2 a b ha hb
  simp only [Op.eqFields, Sem.run_bind, Sem.run_ite, h2, h3, h4, ne_eq, not_false_eq_true, if_true, part_lane w a ha, part_lane w b hb, Result.andThen_ok]
  rw [show (Op.equalIn 9999 75 (.agg (arrI a)) (.agg (arrI b))).run Try.prog w = .ok (decide (a = b)) w from he]
  cases decide (a = b) <;> simp

theorem checkLane (w : World) (e : Bool) (n : Nat) (a : List Int) (ha : a.length = 8) : (checkKey e (n + 2) 75 (.agg (arrI a))).run Try.prog w = .ok () w := by
  rw [checkKey]
  simp only [Sem.run_bind, run_underlying Try.underlying75, Result.andThen_ok, Std.Legacy.Range.forIn_eq_forIn_range', Std.Legacy.Range.size, Nat.sub_zero, Nat.add_sub_cancel, Nat.div_one]
  have hl : ∀ i ∈ List.range' 0 8 1, i < 8 := fun i hi => by simpa using (List.mem_range'_1.1 hi).2
  generalize List.range' 0 8 1 = l at hl
  induction l with
  | nil => simp
  | cons i l ih =>
    have hi := hl i (by simp)
    have px : (part 2 (arrI a) (i * 1)).run Try.prog w = .ok (.int .i64 (a[i]?.getD 0)) w := by
      simp [part, isAgg, run_underlying Try.underlying2, arrI, show i < a.length by omega]
    have pc : ∀ x, (checkKey e (n + 1) 2 (.int .i64 x)).run Try.prog w = .ok () w := by
      intro x; rw [checkKey]; simp [run_underlying Try.underlying2]
    simp only [List.forIn_cons, Sem.run_bind, Try.size2, Result.andThen_ok, px, pc, Sem.run_pure]
    exact ih fun j hj => hl j (by simp [hj])

theorem checkStruct (w : World) (e : Bool) (a : List Int) (ha : a.length = 8) : (checkKey e 10000 89 (.agg (arrI a))).run Try.prog w = .ok () w := by
  obtain ⟨f, h1, h2, h3, h4⟩ := field89
  rw [checkKey]
  simp only [Sem.run_bind, run_underlying Try.struct89, Result.andThen_ok]
  rw [← Array.forIn_toList, h1]
  simp only [List.forIn_cons, List.forIn_nil, Sem.run_bind, h2, h3, h4, ne_eq, not_false_eq_true, if_true, part_lane w a ha, Result.andThen_ok, checkLane w e 9997 a ha, Sem.run_pure]

/-- The entries of a map from lanes to ints: the key, the element, the stamp. -/
def entsOf (L : List (List Int × Int × Nat)) : Array MapEntry := (L.map fun e => { key := .agg (arrI e.1), val := .int .i64 e.2.1, born := e.2.2 }).toArray
/-- Block b is a map that reads as L. -/
structure MapAt (W : World) (b : Nat) (L : List (List Int × Int × Nat)) (clock : Nat) : Prop where
  blk : W.heap[b]? = some (.map (entsOf L) clock)
  len : ∀ e ∈ L, e.1.length = 8
  keys : (L.map (·.1)).Nodup
  born : (L.map (·.2.2)).Nodup
  old : ∀ e ∈ L, e.2.2 < clock

def findL (a : List Int) : List (List Int × Int × Nat) → Nat → Option (Nat × Value)
  | [], _ => none
  | e :: L, i => if a = e.1 then some (i, .int .i64 e.2.1) else findL a L (i + 1)

theorem run_findAsking (w : World) (a : List Int) (ha : a.length = 8) : ∀ (L : List (List Int × Int × Nat)) (i : Nat), (∀ e ∈ L, e.1.length = 8) → (findAsking 89 (.agg (arrI a)) (entsOf L).toList i).run Try.prog w = .ok (findL a L i) w
  | [], i, _ => by simp [entsOf, findAsking, findL]
  | e :: L, i, h => by
    have ih := run_findAsking w a ha L (i + 1) (fun x hx => h x (List.mem_cons_of_mem _ hx))
    have he := eqKey w a e.1 ha (h e (by simp))
    simp only [entsOf, List.map_cons, findAsking, findL] at ih ⊢
    simp only [Sem.run_bind, Sem.run_ite, he, Result.andThen_ok]
    by_cases hq : a = e.1
    · simp [hq]
    · simp only [hq, decide_false, if_false, Bool.false_eq_true]
      simpa using ih

theorem run_findKey (w : World) (a : List Int) (ha : a.length = 8) (L : List (List Int × Int × Nat)) (h : ∀ e ∈ L, e.1.length = 8) : (findKey 89 (.agg (arrI a)) (entsOf L).toList).run Try.prog w = .ok (findL a L 0) w := by
  unfold findKey
  simp only [Sem.run_bind, run_underlying Try.struct89, Result.andThen_ok]
  cases L with
  | nil => simp [entsOf, findNow, findL]
  | cons e L =>
    have : findNow (.struct (Try.prog.fieldsOf 89)) (.agg (arrI a)) (entsOf (e :: L)).toList 0 = none := by
      simp [entsOf, findNow, sameNow]
    rw [this]
    exact run_findAsking w a ha (e :: L) 0 h

theorem findL_none {a : List Int} : ∀ {L : List (List Int × Int × Nat)} {i : Nat}, findL a L i = none → a ∉ L.map (·.1)
  | [], _, _ => by simp
  | e :: L, i, h => by
    simp only [findL] at h
    split at h
    · cases h
    · rename_i hne
      have := findL_none h
      simp only [List.map_cons, List.mem_cons, not_or]
      exact ⟨hne, this⟩
theorem findL_some {a : List Int} : ∀ {L : List (List Int × Int × Nat)} {i j : Nat} {v : Value}, findL a L i = some (j, v) → ∃ k e, j = i + k ∧ L[k]? = some e ∧ e.1 = a ∧ v = .int .i64 e.2.1
  | [], _, _, _, h => by simp [findL] at h
  | e :: L, i, j, v, h => by
    simp only [findL] at h
    split at h
    · rename_i he
      simp only [Option.some.injEq, Prod.mk.injEq] at h
      exact ⟨0, e, by omega, by simp, he.symm, h.2.symm⟩
    · obtain ⟨k, e', h1, h2, h3, h4⟩ := findL_some h
      exact ⟨k + 1, e', by omega, by simpa using h2, h3, h4⟩

/-- What may be asked of the list of a map. -/
structure OkL (L : List (List Int × Int × Nat)) (clock : Nat) : Prop where
  len : ∀ e ∈ L, e.1.length = 8
  keys : (L.map (·.1)).Nodup
  born : (L.map (·.2.2)).Nodup
  old : ∀ e ∈ L, e.2.2 < clock

theorem sameBits_arr (a : List Int) : sameBits 10000 (.agg (arrI a)) (.agg (arrI a)) = true := by
  simp only [sameBits, arrI, beq_self_eq_true, Bool.true_and, List.all_eq_true]
  intro p hp
  rw [List.zip_map'] at hp
  simp only [List.mem_map] at hp
  obtain ⟨x, _, rfl⟩ := hp
  simp [sameBits]

theorem run_getMap {P : Program} {W : World} {b : Nat} {es : Array MapEntry} {c : Nat} (h : W.heap[b]? = some (.map es c)) : (getObj b).run P W = .ok (.map es c) W := by
  simp [getObj, Sem.run, h]
theorem run_setMap {P : Program} {W : World} {b : Nat} {o o' : Obj} (h : W.heap[b]? = some o) (ho : o.isCells = false := by rfl) : (setObj b o').run P W = .ok () (W.putObj b o') := by
  cases o <;> simp_all [setObj, Sem.run, World.putObj, Obj.isCells]
theorem map_set_same {α β : Type} (f : α → β) (L : List α) (k : Nat) (x : α) (h : ∀ hk : k < L.length, f L[k] = f x) : (L.set k x).map f = L.map f := by
  apply List.ext_getElem
  · simp
  · intro i h1 h2
    simp only [List.getElem_map, List.getElem_set]
    split
    · rename_i hki; subst hki; exact (h (by simpa using h2)).symm
    · rfl

theorem modify_same (L : List (List Int × Int × Nat)) (k : Nat) (e : List Int × Int × Nat) (h : L[k]? = some e) (a : List Int) (ha : e.1 = a) : (entsOf L).modify k (fun x => { x with key := .agg (arrI a) }) = entsOf L := by
  apply Array.ext
  · simp
  · intro i h1 h2
    rw [Array.getElem_modify]
    split
    · rename_i hk
      subst hk
      have hi : k < L.length := (List.getElem?_eq_some_iff.1 h).1
      have he : L[k] = e := (List.getElem?_eq_some_iff.1 h).2
      simp [entsOf, he, ha]
    · rfl

/-- The first half of 'm[a]++'. -/
theorem run_mapEntry {W : World} {b : Nat} {L : List (List Int × Int × Nat)} {c : Nat} (hb : W.heap[b]? = some (.map (entsOf L) c)) (hL : OkL L c) (a : List Int) (ha : a.length = 8) :
    ∃ v st L1 c1, (mapEntry 87 (.map (some b)) (.agg (arrI a))).run Try.prog W = .ok (.tuple #[v, goInt st]) (W.putObj b (.map (entsOf L1) c1)) ∧ OkL L1 c1 ∧ (∀ x, x ∈ L1.map (·.1) ↔ x = a ∨ x ∈ L.map (·.1)) ∧ ∃ e ∈ L1, ((e.2.2 : Nat) : Int) = st := by
  have hf := run_findKey W a ha L hL.len
  cases hr : findL a L 0 with
  | none =>
    rw [hr] at hf
    refine ⟨.int .i64 0, c, L ++ [(a, 0, c)], c + 1, ?_, ⟨?_, ?_, ?_, ?_⟩, ?_, (a, 0, c), by simp, rfl⟩
    · have hz : (zeroValue 3).run Try.prog W = .ok (.int .i64 0) W := by kernel_rfl
      have e : (entsOf L).push { key := .agg (arrI a), val := .int .i64 0, born := c } = entsOf (L ++ [(a, 0, c)]) := by simp [entsOf]
      simp only [mapEntry, Sem.run_bind, run_underlying Try.underlying87, Result.andThen_ok, run_getMap hb, checkStruct W false a ha, hf, hz, run_setMap hb, e, Sem.run_pure]
    · intro e he; simp at he; rcases he with he | rfl
      · exact hL.len e he
      · exact ha
    · rw [List.map_append, List.nodup_append]
      refine ⟨hL.keys, by simp, ?_⟩
      intro x hx y hy e; simp at hy; subst hy; subst e; exact findL_none hr hx
    · rw [List.map_append, List.nodup_append]
      refine ⟨hL.born, by simp, ?_⟩
      intro x hx y hy e; simp at hy; subst hy; subst e
      obtain ⟨q, hq, hq2⟩ := List.mem_map.1 hx
      have := hL.old q hq
      omega
    · intro e he; simp at he; rcases he with he | rfl
      · exact Nat.lt_succ_of_lt (hL.old e he)
      · exact Nat.lt_succ_self _
    · intro x; simp [or_comm]
  | some q =>
    obtain ⟨j, v⟩ := q
    rw [hr] at hf
    obtain ⟨k, e, hk, he, hea, hv⟩ := findL_some hr
    obtain rfl : j = k := by omega
    have hem : e ∈ L := List.mem_of_getElem? he
    refine ⟨v, e.2.2, L, c, ?_, hL, ?_, e, hem, rfl⟩
    · have hk1 : ((entsOf L)[j]?.map (·.key)).getD (.agg (arrI a)) = .agg (arrI a) := by simp [entsOf, he, hea]
      have hb1 : ((entsOf L)[j]?.map (fun x => (x.born : Int))).getD 0 = (e.2.2 : Int) := by simp [entsOf, he]
      simp only [mapEntry, Sem.run_bind, run_underlying Try.underlying87, Result.andThen_ok, run_getMap hb, checkStruct W false a ha, hf, keyThatStays, hk1, sameBits_arr, if_true, modify_same L j e he a hea, run_setMap hb, Sem.run_pure, hb1]
    · intro x
      constructor
      · exact .inr
      · rintro (rfl | h)
        · exact List.mem_map.2 ⟨e, hem, hea⟩
        · exact h

/-- The second half. -/
theorem run_entryStore {W : World} {b : Nat} {L : List (List Int × Int × Nat)} {c : Nat} (hb : W.heap[b]? = some (.map (entsOf L) c)) (hL : OkL L c) {e : List Int × Int × Nat} (he : e ∈ L) (val : Int) :
    ∃ L2, (entryStore 87 (.map (some b)) (goInt (e.2.2 : Nat)) (.int .i64 val)).run Try.prog W = .ok () (W.putObj b (.map (entsOf L2) c)) ∧ OkL L2 c ∧ L2.map (·.1) = L.map (·.1) := by
  obtain ⟨k, hk, hke⟩ := List.getElem_of_mem he
  have hidx : (entsOf L).findIdx? (fun x => ((x.born : Nat) : Int) == ((e.2.2 : Nat) : Int)) = some k := by
    rw [Array.findIdx?_eq_some_iff_getElem]
    refine ⟨by simp [entsOf, hk], by simp [entsOf, hke], ?_⟩
    intro j hj
    have hjl : j < L.length := by omega
    simp only [entsOf, List.getElem_toArray, List.getElem_map, beq_iff_eq, Int.natCast_inj]
    intro h
    have hnd := hL.born
    rw [List.nodup_iff_pairwise_ne, List.pairwise_iff_getElem] at hnd
    have := hnd j k (by simpa using hjl) (by simpa using hk) hj
    simp only [List.getElem_map, hke] at this
    exact this h
  refine ⟨L.set k (e.1, val, e.2.2), ?_, ?_, ?_⟩
  · have hm : (entsOf L).modify k (fun x => { x with val := .int .i64 val }) = entsOf (L.set k (e.1, val, e.2.2)) := by
      apply Array.ext
      · simp [entsOf]
      · intro i h1 h2
        rw [Array.getElem_modify]
        simp only [entsOf, List.getElem_toArray, List.getElem_map, List.getElem_set]
        split
        · rename_i hki; subst hki; simp [hke]
        · rfl
    simp [entryStore, Sem.run_bind, run_getMap hb, Result.andThen_ok, asInt, asIntOf, goInt, hidx, hm, run_setMap hb]
  · refine ⟨?_, ?_, ?_, ?_⟩
    · intro x hx
      rcases List.mem_or_eq_of_mem_set hx with h | rfl
      · exact hL.len x h
      · exact hL.len e he
    · rw [map_set_same (·.1) L k _ (fun _ => by simp [hke])]; exact hL.keys
    · rw [map_set_same (·.2.2) L k _ (fun _ => by simp [hke])]; exact hL.born
    · intro x hx
      rcases List.mem_or_eq_of_mem_set hx with h | rfl
      · exact hL.old x h
      · exact hL.old e he
  · exact map_set_same (·.1) L k (e.1, val, e.2.2) (fun _ => by simp [hke])

/-- 'm[a]' of ints. -/
theorem run_lookupL {W : World} {b : Nat} {L : List (List Int × Int × Nat)} {c : Nat} (hb : W.heap[b]? = some (.map (entsOf L) c)) (hL : OkL L c) (a : List Int) (ha : a.length = 8) :
    (Instr.lookup 87 (.map (some b)) (.agg (arrI a)) false).run Try.prog W = .ok (((findL a L 0).map (·.2)).getD (.int .i64 0)) W := by
  have hf := run_findKey W a ha L hL.len
  have hz : (zeroValue 3).run Try.prog W = .ok (.int .i64 0) W := by kernel_rfl
  cases hr : findL a L 0 with
  | none =>
    rw [hr] at hf
    simp [Instr.lookup, Sem.run_bind, run_underlying Try.underlying87, Result.andThen_ok, run_getMap hb, checkStruct W _ a ha, hf, hz]
  | some q =>
    rw [hr] at hf
    simp [Instr.lookup, Sem.run_bind, run_underlying Try.underlying87, Result.andThen_ok, run_getMap hb, checkStruct W _ a ha, hf]
theorem findL_int (a : List Int) (L : List (List Int × Int × Nat)) : ∃ n, ((findL a L 0).map (·.2)).getD (.int .i64 0) = .int .i64 n := by
  cases hr : findL a L 0 with
  | none => exact ⟨0, rfl⟩
  | some q =>
    obtain ⟨j, v⟩ := q
    obtain ⟨k, e, _, _, _, hv⟩ := findL_some hr
    exact ⟨e.2.1, by simp [hv]⟩

theorem map_erase {α β : Type} (f : α → β) : ∀ (L : List α) (j : Nat), (L.map f).eraseIdx j = (L.eraseIdx j).map f
  | [], j => by simp
  | x :: L, 0 => by simp
  | x :: L, j + 1 => by simp [map_erase f L j]

/-- 'delete(m, a)'. -/
theorem run_deleteL {W : World} {b : Nat} {L : List (List Int × Int × Nat)} {c : Nat} (hb : W.heap[b]? = some (.map (entsOf L) c)) (hL : OkL L c) (a : List Int) (ha : a.length = 8) :
    ∃ L2, (∀ t, (Builtin.delete_ #[87, 89] t #[.map (some b), .agg (arrI a)]).run Try.prog W = .ok (.tuple #[]) (W.putObj b (.map (entsOf L2) c))) ∧ OkL L2 c ∧ ∀ e, e ∈ L2 ↔ e ∈ L ∧ e.1 ≠ a := by
  have hf := run_findKey W a ha L hL.len
  cases hr : findL a L 0 with
  | none =>
    rw [hr] at hf
    refine ⟨L, fun t => ?_, hL, ?_⟩
    · simp [Builtin.delete_, Sem.run_bind, run_underlying Try.underlying87, Result.andThen_ok, run_getMap hb, checkStruct W _ a ha, hf, run_setMap hb]
    · intro e
      exact ⟨fun h => ⟨h, fun hea => findL_none hr (List.mem_map.2 ⟨e, h, hea⟩)⟩, fun h => h.1⟩
  | some q =>
    obtain ⟨j, v⟩ := q
    rw [hr] at hf
    obtain ⟨k, e0, hk, he, hea, hv⟩ := findL_some hr
    obtain rfl : j = k := by omega
    have hj : j < L.length := (List.getElem?_eq_some_iff.1 he).1
    have he0 : L[j] = e0 := (List.getElem?_eq_some_iff.1 he).2
    have hsub := List.eraseIdx_sublist L j
    refine ⟨L.eraseIdx j, fun t => ?_, ⟨fun x hx => hL.len x (hsub.subset hx), (hsub.map _).nodup hL.keys, (hsub.map _).nodup hL.born, fun x hx => hL.old x (hsub.subset hx)⟩, ?_⟩
    · have hm : (entsOf L).eraseIdxIfInBounds j = entsOf (L.eraseIdx j) := by
        simp [entsOf, map_erase]
      simp [Builtin.delete_, Sem.run_bind, run_underlying Try.underlying87, Result.andThen_ok, run_getMap hb, checkStruct W _ a ha, hf, run_setMap hb, hm]
    · intro e
      rw [List.mem_eraseIdx_iff_getElem]
      constructor
      · rintro ⟨i, hi, hne, rfl⟩
        refine ⟨List.getElem_mem _, fun h => ?_⟩
        have hnd := hL.keys
        rw [List.nodup_iff_pairwise_ne, List.pairwise_iff_getElem] at hnd
        rcases Nat.lt_or_gt_of_ne hne with hlt | hlt
        · have := hnd i j (by simpa using hi) (by simpa using hj) hlt
          simp only [List.getElem_map, he0, hea, h] at this
          exact this rfl
        · have := hnd j i (by simpa using hj) (by simpa using hi) hlt
          simp only [List.getElem_map, he0, hea, h] at this
          exact this rfl
      · rintro ⟨h1, h2⟩
        obtain ⟨i, hi, rfl⟩ := List.getElem_of_mem h1
        refine ⟨i, hi, ?_, rfl⟩
        rintro rfl
        rw [he0] at h2
        exact h2 hea

theorem run_choose_map {P : Program} (W : World) (n : Nat) (hn : 0 < n) : ∃ i k, i < n ∧ (choose (.mapNext n)).run P W = .ok i (W.drewN k) := by
  by_cases h : n ≤ 1
  · exact ⟨0, 0, hn, by simp [choose, Sem.run, Question.forced, h, World.drewN]⟩
  · exact ⟨W.tape W.drawn (.mapNext n) % n, 1, Nat.mod_lt _ hn, by simp [choose, Sem.run, Question.forced, Question.cut, h, World.drewN]⟩

/-- A range over the map under way, its iterator in block r: what has been met are the stamps in 'seen'. -/
theorem run_nextL {W : World} {b r : Nat} {L : List (List Int × Int × Nat)} {c : Nat} {seen : Array Nat} (hb : W.heap[b]? = some (.map (entsOf L) c)) (hL : OkL L c) (hr : W.heap[r]? = some (.mapIter (some b) c seen c)) :
    ((∀ e ∈ L, e.2.2 ∈ seen) ∧ ∀ t, (Instr.next (.pointer (some ⟨r, 0, none⟩)) false t).run Try.prog W = .ok (.tuple #[.bool false]) W) ∨
    ∃ e ∈ L, e.2.2 ∉ seen ∧ ∃ n, ∀ t, (Instr.next (.pointer (some ⟨r, 0, none⟩)) false t).run Try.prog W = .ok (.tuple #[.bool true, .agg (arrI e.1), .int .i64 e.2.1]) ((W.drewN n).putObj r (.mapIter (some b) c (seen.push e.2.2) c)) := by
  have hgr : (getObj r).run Try.prog W = .ok (.mapIter (some b) c seen c) W := by simp [getObj, Sem.run, hr]
  have hodd : (!seen.isEmpty && !(entsOf L).isEmpty && (entsOf L).all (fun x => decide (x.born ≥ c))) = false := by
    cases L with
    | nil => simp [entsOf]
    | cons e L =>
      have := hL.old e (by simp)
      simp [entsOf, show ¬ c ≤ e.2.2 by omega]
  have hleft : (entsOf L).filter (fun x => !seen.contains x.born) = entsOf (L.filter fun e => !seen.contains e.2.2) := by
    simp [entsOf, List.filter_map, Function.comp_def]
  have hold : (entsOf (L.filter fun e => !seen.contains e.2.2)).filter (fun x => decide (x.born < c)) = entsOf (L.filter fun e => !seen.contains e.2.2) := by
    rw [Array.filter_eq_self]
    intro x hx
    simp only [entsOf, List.mem_toArray, List.mem_map] at hx
    obtain ⟨e, he, rfl⟩ := hx
    simpa using hL.old e (List.mem_filter.1 he).1
  have hnew : (entsOf (L.filter fun e => !seen.contains e.2.2)).filter (fun x => decide (x.born ≥ c)) = #[] := by
    rw [Array.filter_eq_empty_iff]
    intro x hx
    simp only [entsOf, List.mem_toArray, List.mem_map] at hx
    obtain ⟨e, he, rfl⟩ := hx
    have := hL.old e (List.mem_filter.1 he).1
    simp; omega
  have hM : ∀ e, e ∈ L.filter (fun e => !seen.contains e.2.2) ↔ e ∈ L ∧ e.2.2 ∉ seen := by
    intro e; rw [List.mem_filter]; simp
  generalize L.filter (fun e => !seen.contains e.2.2) = M at *
  cases M with
  | nil =>
    refine .inl ⟨?_, fun t => ?_⟩
    · intro e he
      refine Classical.byContradiction fun h => ?_
      have := (hM e).2 ⟨he, h⟩
      cases this
    · have hd : ((entsOf []).filter fun x => decide (x.born < c)) = #[] ∧ ((entsOf []).filter fun x => decide (x.born ≥ c)) = #[] := by simp [entsOf]
      simp only [Instr.next, Sem.run_bind, hgr, Result.andThen_ok, run_getMap hb, hodd, hleft, hd.1, hd.2]
      simp [choose, Sem.run, Question.forced]
  | cons m M =>
    right
    obtain ⟨i, k, hi, hch⟩ := run_choose_map (P := Try.prog) W (m :: M).length (by simp)
    have hne : (entsOf (m :: M)).isEmpty = false := by simp [entsOf]
    obtain ⟨h1, h2⟩ := (hM _).1 (List.getElem_mem hi)
    refine ⟨_, h1, h2, k, fun t => ?_⟩
    have hsz : (#[] ++ (entsOf (m :: M) ++ #[]).map some).size = (m :: M).length := by simp [entsOf]
    have hcand : (#[] ++ (entsOf (m :: M) ++ #[]).map some)[i]? = some (some { key := .agg (arrI (m :: M)[i].1), val := .int .i64 (m :: M)[i].2.1, born := (m :: M)[i].2.2 }) := by
      rw [Array.empty_append, Array.append_empty, Array.getElem?_map]
      unfold entsOf
      rw [List.getElem?_toArray, List.getElem?_map, List.getElem?_eq_getElem hi]
      rfl
    have hr' : (W.drewN k).heap[r]? = some (.mapIter (some b) c seen c) := hr
    simp only [Instr.next, Sem.run_bind, hgr, Result.andThen_ok, run_getMap hb, hodd, hleft, hold, hnew, hne, Bool.false_eq_true, if_false, hsz, hch, hcand, run_setMap hr', Sem.run_pure]
/-- The entry that was met last. -/
theorem run_entryL {W : World} {b r : Nat} {L : List (List Int × Int × Nat)} {c : Nat} {seen : Array Nat} {e : List Int × Int × Nat} (hb : W.heap[b]? = some (.map (entsOf L) c)) (hL : OkL L c) (he : e ∈ L) (hr : W.heap[r]? = some (.mapIter (some b) c (seen.push e.2.2) c)) :
    (Instr.entry (.pointer (some ⟨r, 0, none⟩))).run Try.prog W = .ok (.tuple #[.agg (arrI e.1), .int .i64 e.2.1]) W := by
  have hgr : (getObj r).run Try.prog W = .ok (.mapIter (some b) c (seen.push e.2.2) c) W := by simp [getObj, Sem.run, hr]
  have hf : (entsOf L).find? (fun x => x.born == e.2.2) = some { key := .agg (arrI e.1), val := .int .i64 e.2.1, born := e.2.2 } := by
    obtain ⟨k, hk, rfl⟩ := List.getElem_of_mem he
    have hnd := hL.born
    rw [List.nodup_iff_pairwise_ne, List.pairwise_iff_getElem] at hnd
    simp only [entsOf, List.find?_toArray]
    rw [List.find?_eq_some_iff_getElem]
    refine ⟨by simp, k, by simpa using hk, by simp, fun j hj => ?_⟩
    have := hnd j k (by simp; omega) (by simpa using hk) hj
    simpa using this
  simp [Instr.entry, Sem.run_bind, hgr, Result.andThen_ok, run_getMap hb, hf]
end Go.Proofs.Ytdnaipiiponhpaa

namespace Go.Proofs.Ytdnaipiiponhpaa
/-- Each one once. -/
def once (l : List (List Int)) : List (List Int) := l.foldl (fun o x => if x ∈ o then o else o ++ [x]) []
theorem once_snoc (l : List (List Int)) (x : List Int) : once (l ++ [x]) = if x ∈ once l then once l else once l ++ [x] := by unfold once; rw [List.foldl_append]; rfl
theorem snoc_cases {α : Type} (l : List α) : l = [] ∨ ∃ r x, l = r ++ [x] := by
  cases h : l.reverse with
  | nil => left; simpa using h
  | cons x r => right; refine ⟨r.reverse, x, ?_⟩; rw [← List.reverse_reverse l, h]; simp
theorem snocRec {α : Type} {P : List α → Prop} (h0 : P []) (h1 : ∀ l x, P l → P (l ++ [x])) : ∀ l, P l := by
  intro l
  suffices ∀ n l, l.length = n → P l from this _ l rfl
  intro n
  induction n with
  | zero => intro l h; rw [List.length_eq_zero_iff] at h; subst h; exact h0
  | succ n ih =>
    intro l h
    rcases snoc_cases l with rfl | ⟨r, x, rfl⟩
    · exact h0
    · exact h1 _ _ (ih r (by simpa using h))
theorem mem_once (x : List Int) : ∀ l, x ∈ once l ↔ x ∈ l := by
  apply snocRec
  · simp [once]
  · intro l y ih
    rw [once_snoc]
    split
    · rename_i h
      rw [ih, List.mem_append, List.mem_singleton]
      refine ⟨.inl, ?_⟩
      rintro (h' | rfl)
      · exact h'
      · exact ih.1 h
    · simp [ih]
theorem nodup_once : ∀ l, (once l).Nodup := by
  apply snocRec
  · simp [once]
  · intro l y ih
    rw [once_snoc]
    split
    · exact ih
    · rename_i h
      rw [List.nodup_append]
      refine ⟨ih, by simp, ?_⟩
      rintro a ha b hb rfl
      rw [List.mem_singleton] at hb
      subst hb
      exact h ha
theorem nodup_le {α : Type} [DecidableEq α] : ∀ (l m : List α), l.Nodup → (∀ x ∈ l, x ∈ m) → l.length ≤ m.length := by
  intro l
  induction l with
  | nil => intro m _ _; simp
  | cons x r ih =>
    intro m hn hs
    rw [List.nodup_cons] at hn
    have hx := hs x (by simp)
    have := ih (m.erase x) hn.2 (fun y hy => by
      rw [List.mem_erase_of_ne]
      · exact hs y (by simp [hy])
      · rintro rfl; exact hn.1 hy)
    rw [List.length_erase_of_mem hx] at this
    have := List.length_pos_of_mem hx
    simp only [List.length_cons]
    omega
theorem nodup_len {α : Type} [DecidableEq α] (l m : List α) (hl : l.Nodup) (hm : m.Nodup) (h : ∀ x, x ∈ l ↔ x ∈ m) : l.length = m.length :=
  Nat.le_antisymm (nodup_le l m hl fun x => (h x).1) (nodup_le m l hm fun x => (h x).2)
theorem once_le (l : List (List Int)) : (once l).length ≤ l.length := nodup_le _ _ (nodup_once l) fun x => (mem_once x l).1
end Go.Proofs.Ytdnaipiiponhpaa

namespace Go.Proofs.Ytdnaipiiponhpaa
open Go.RowKit Go.Shelf
attribute [local go_sem] Oper.semAt_some

/-- What comes out of all patterns. -/
def imgs (p : Nat) (V : List (Int × Int)) : List (List Int) := (lanes p).map (runV V)
def imagesN (p : Nat) (V : List (Int × Int)) : Nat := (once ((imgs p V).filter fun l => !sortedB (l.take p))).length + p + 1

set_option maxRecDepth 100000 in
set_option maxHeartbeats 400000 in
theorem images_no (p : Int) (x : Value) (V : List (Int × Int)) (w : World) (hx0 : RdP w x V) (hl : V.length ≤ 1000) (h : checkR p V ≠ 0) :
    Calls Try.prog 25 #[.agg #[.int .i64 p, x]] w fun e w' => e = .returned (.tuple #[.int .i64 0, .int .i64 (checkR p V)]) ∧ Below w.heap.size w w' := by
  obtain ⟨a, ca, rfl, _, _, _⟩ := hx0.form
  have H0 := Lib.hid (open_no p (.slice a V.length ca) V (w.alloc (.cells #[.int .i64 p, .slice a V.length ca] 24)) (hx0.mono (bal (bz _) _)) hl h)
  generalize hc : checkR p V = c at *
  have HC := Lib.hid hc; clear hc
  have hcb : (c != 0) = true := by simpa using h
  have hce : (c == 0) = false := by simpa using h
  clear h
  go_enter Try.func25, Try.ntmps25
  go_wp2_with fail
  refine H0.out.mono ?_
  rintro e w2 ⟨rfl, hB2⟩
  go_wp2
  go_ret2
  exact ⟨rfl, bal (btr (bal (bz _) _) hB2) _⟩

theorem built89 (l : List Int) (hl : l.length = 8) : Try.prog.built 89 [(0, .agg (arrI l))] = some (arrI l) := by
  match l, hl with
  | [a0, a1, a2, a3, a4, a5, a6, a7], _ => show Try.prog.built 89 [(0, .agg (arrI [a0, a1, a2, a3, a4, a5, a6, a7]))] = some (arrI [a0, a1, a2, a3, a4, a5, a6, a7]); kernel_rfl
theorem abides_heap {lo hi j : Nat} {o : Obj} (h1 : j < lo) : Abides1 lo hi (fun W => W.heap[j]? = some o) :=
  fun _ _ _ h hg hr => (hg.block j (Array.getElem?_eq_some_iff.1 h).1 (fun e => by have := hr _ e.symm; omega)).trans h
theorem abides_ex {lo hi : Nat} {α : Type} {I : α → World → Prop} (h : ∀ x, Abides1 lo hi (I x)) : Abides1 lo hi (fun W => ∃ x, I x W) :=
  fun W W' row ⟨x, hx⟩ hg hr => ⟨x, h x W W' row hx hg hr⟩
theorem lane_len {p : Nat} {pre : List (List Int)} {lx : List Int} (hpx : pre ++ [lx] <+: lanes p) : lx.length = 8 := by
  obtain ⟨ys, e⟩ := hpx
  have : lx ∈ lanes p := by rw [← e]; simp
  simp only [lanes, List.mem_map] at this
  obtain ⟨t, _, rfl⟩ := this
  exact laneOf_length _ _
theorem one_arr (l : List Int) : (arrI l).all (·.oneCell') = true := by simp [arrI, Value.oneCell']
theorem arr8 (l : List Int) (h : l.length = 8) : (Try.prog.info? 75).map (·.size) = some (arrI l).size := by rw [arrI_size, h]; kernel_rfl

/-- How many entries a range has not met yet. -/
def unmet : Option Obj → Option Obj → Nat
  | some (.map es _), some (.mapIter _ _ seen _) => (es.filter fun e => !seen.contains e.born).size
  | _, _ => 0
theorem unmet_eq (L : List (List Int × Int × Nat)) (c : Nat) (seen : Array Nat) (m : Option Nat) (s l : Nat) : unmet (some (.map (entsOf L) c)) (some (.mapIter m s seen l)) = (L.filter fun e => !seen.contains e.2.2).length := by
  simp [unmet, entsOf, List.filter_map, Function.comp_def]
/-- The keys of L are what comes out of pre. -/
def KeysAre (V : List (Int × Int)) (L : List (List Int × Int × Nat)) (pre : List (List Int)) : Prop := ∀ l, l ∈ L.map (·.1) ↔ ∃ q ∈ pre, l = runV V q

theorem born_inj {L : List (List Int × Int × Nat)} {c : Nat} (hL : OkL L c) {e e' : List Int × Int × Nat} (h1 : e ∈ L) (h2 : e' ∈ L) (h : e.2.2 = e'.2.2) : e = e' := by
  obtain ⟨i, hi, rfl⟩ := List.getElem_of_mem h1
  obtain ⟨j, hj, rfl⟩ := List.getElem_of_mem h2
  have hb := hL.born
  rw [List.nodup_iff_pairwise_ne, List.pairwise_iff_getElem] at hb
  rcases Nat.lt_trichotomy i j with h' | rfl | h'
  · exact absurd (by rw [List.getElem_map, List.getElem_map]; exact h) (hb i j (by simpa) (by simpa) h')
  · rfl
  · exact absurd (by rw [List.getElem_map, List.getElem_map]; exact h.symm) (hb j i (by simpa) (by simpa) h')
theorem nodup_ents {L : List (List Int × Int × Nat)} {c : Nat} (hL : OkL L c) : L.Nodup := by
  have hb := hL.born
  unfold List.Nodup at hb ⊢
  rw [List.pairwise_map] at hb
  exact hb.imp fun h e => h (by rw [e])
theorem unmet_lt {L L2 : List (List Int × Int × Nat)} {c : Nat} {seen : Array Nat} {e : List Int × Int × Nat} (h2 : OkL L2 c) (hs : ∀ x ∈ L2, x ∈ L) (he : e ∈ L) (hes : e.2.2 ∉ seen) :
    (L2.filter fun x => !(seen.push e.2.2).contains x.2.2).length < (L.filter fun x => !seen.contains x.2.2).length := by
  have hm : e ∈ L.filter fun x => !seen.contains x.2.2 := by
    rw [List.mem_filter]; exact ⟨he, by simpa using hes⟩
  have h := nodup_le (L2.filter fun x => !(seen.push e.2.2).contains x.2.2) ((L.filter fun x => !seen.contains x.2.2).erase e) ((nodup_ents h2).filter _) (fun x hx => by
    rw [List.mem_filter] at hx
    obtain ⟨hx1, hx2⟩ := hx
    simp only [Array.contains_push, Bool.not_or, Bool.and_eq_true] at hx2
    have hne : x ≠ e := by rintro rfl; simp at hx2
    rw [List.mem_erase_of_ne hne, List.mem_filter]
    exact ⟨hs x hx1, by simp at hx2 ⊢; exact hx2.1⟩)
  rw [List.length_erase_of_mem hm] at h
  have := List.length_pos_of_mem hm
  omega

theorem imagesN_eq (p : Nat) (V : List (Int × Int)) (L L' : List (List Int × Int × Nat)) (c : Nat) (seen : Array Nat) (hL' : OkL L' c) (hk : KeysAre V L (lanes p))
    (hs1 : ∀ e ∈ L', e ∈ L) (hs2 : ∀ e ∈ L, sortedB (e.1.take p) = false → e ∈ L') (hs3 : ∀ e ∈ L', e.2.2 ∈ seen → sortedB (e.1.take p) = false) (hall : ∀ e ∈ L', e.2.2 ∈ seen) :
    imagesN p V = (entsOf L').size + p + 1 ∧ (entsOf L').size ≤ 2 ^ p := by
  have h : (L'.map (·.1)).length = (once ((imgs p V).filter fun l => !sortedB (l.take p))).length := by
    refine nodup_len _ _ hL'.keys (nodup_once _) fun l => ?_
    rw [mem_once, List.mem_filter]
    constructor
    · intro hl
      rw [List.mem_map] at hl
      obtain ⟨e, he, rfl⟩ := hl
      have h1 := (hk e.1).1 (List.mem_map_of_mem (hs1 e he))
      obtain ⟨q, hq, e1⟩ := h1
      exact ⟨by rw [e1]; exact List.mem_map_of_mem hq, by rw [hs3 e he (hall e he)]; rfl⟩
    · rintro ⟨hl, hs⟩
      unfold imgs at hl
      rw [List.mem_map] at hl
      obtain ⟨q, hq, e1⟩ := hl
      have h1 := (hk l).2 ⟨q, hq, e1.symm⟩
      rw [List.mem_map] at h1
      obtain ⟨e, he, rfl⟩ := h1
      exact List.mem_map_of_mem (hs2 e he (by simpa using hs))
  have h2 : (entsOf L').size = (L'.map (·.1)).length := by simp [entsOf]
  have h3 := once_le ((imgs p V).filter fun l => !sortedB (l.take p))
  have h4 := List.length_filter_le (fun l => !sortedB (List.take p l)) (imgs p V)
  have h5 : (imgs p V).length = 2 ^ p := by simp [imgs, lanes]
  unfold imagesN
  omega

set_option maxRecDepth 100000 in
set_option maxHeartbeats 2000000 in
theorem images_ok (p : Nat) (x : Value) (V : List (Int × Int)) (w : World) (hx0 : RdP w x V) (hV : OkRow p V) :
    Calls Try.prog 25 #[.agg #[.int .i64 p, x]] w fun e w' => e = .returned (.tuple #[.int .i64 (imagesN p V), .int .i64 0]) ∧ Below w.heap.size w w' := by
  have hp1 := hV.p1; have hp8 := hV.p8; have h40 := hV.len
  obtain ⟨a, ca, rfl, hca, hca2, _⟩ := hx0.form
  have hmm := @run_makeMap Try.prog
  refine callsIn_wide (n := 10).1 ?_
  refine callsIn_of_wp_marks Try.func25 rfl trivial ?_ rfl
  simp only [Try.ntmps25, List.size_toArray, List.length_cons, List.length_nil, Nat.reduceAdd, Nat.reduceSub, Array.replicate_succ, Array.replicate_zero, List.push_toArray, List.append_toArray, List.nil_append, List.cons_append]
  gi_wp2_with fail
  refine ⟨trivial, callsIn_wide.2 ((open_ok p _ V _ (hx0.mono (bal (bz _) _)) hV).mono ?_)⟩
  rintro e w2 ⟨b, rfl, hb0, hb, hB2⟩
  have hz2 := hB2.size
  rw [World.size_alloc] at hz2 hb0
  gi_wp2_with fail
  refine ⟨trivial, callsIn_wide.2 ((patterns_any _ _).mono ?_)⟩
  rintro e w4 ⟨rfl, hw4⟩
  have hb2 : Below w2.heap.size w2 w4 := by rw [← hw4]; exact bal (bal (bal (bal (bz _) _) _) _) _
  have hsz : w2.heap.size + 4 ≤ w4.heap.size := by rw [← hw4]; simp
  have c0 : w4.cell? ⟨w2.heap.size, 0, none⟩ = some (.pointer (some ⟨b, 0, none⟩)) := by rw [← hw4]; exact cal _ (cal _ (cal _ (cnew rfl rfl)))
  have c1 : w4.heap[w2.heap.size + 1]? = some (.map (entsOf []) 0) := by
    rw [← hw4]
    refine (Below.heap_alloc _ _ _ (by simp)).trans ((Below.heap_alloc _ _ _ (by simp)).trans ?_)
    have := heap_alloc_new (w2.alloc (.cells #[.pointer (some ⟨b, 0, none⟩)] 69)) (.map #[] 0)
    rw [World.size_alloc] at this
    exact this
  have c2 : w4.cell? ⟨w2.heap.size + 1 + 1, 0, none⟩ = some (.map (some (w2.heap.size + 1))) := by rw [← hw4]; exact cal _ (cnew (by simp) rfl)
  have c3 : w4.cell? ⟨w2.heap.size + 3, 0, none⟩ = some (.pointer (some ⟨b, 0, none⟩)) := by rw [← hw4]; exact cnew (by simp) rfl
  simp only [World.size_alloc]
  clear hw4 hmm
  have hx2 := hx0.mono (btr (bal (bz w) _) hB2)
  gi_wp2
  refine range_law (gf := 80) (lb := #[.pointer (some ⟨w2.heap.size + 3, 0, none⟩)]) rfl (enters_of Try.func80 (by kernel_rfl) rfl) (patterns_yields _ (w2.heap.size + 3) b p _ (by omega) (by omega)) (fun _ => rfl)
    (fun pre W => Below w2.heap.size w2 W ∧ W.cell? ⟨w2.heap.size, 0, none⟩ = some (.pointer (some ⟨b, 0, none⟩)) ∧ W.cell? ⟨w2.heap.size + 1 + 1, 0, none⟩ = some (.map (some (w2.heap.size + 1))) ∧ W.cell? ⟨w2.heap.size + 3, 0, none⟩ = some (.pointer (some ⟨b, 0, none⟩)) ∧
      ∃ L c, W.heap[w2.heap.size + 1]? = some (.map (entsOf L) c) ∧ OkL L c ∧ KeysAre V L pre)
    (fun _ _ _ => False)
    (fun s => (abides_below (by omega) (Nat.le_refl _)).and ((abides_cell (by simp; omega)).and ((abides_cell (by simp; omega)).and ((abides_cell (by simp; omega)).and (abides_ex fun L => abides_ex fun c => (abides_heap (by omega)).and (abides_pure.and abides_pure))))))
    (fun c s => abides_pure)
    (fun s W1 h => ⟨h.2.2.2.1, hb.mono h.1⟩)
    ⟨hb2, c0, c2, c3, [], 0, c1, ⟨by simp, by simp, by simp, by simp⟩, by intro l; simp⟩ ?round ?done ?stop
  case round =>
    rintro l pre lx W ⟨hB, d0, d2, d3, L, c, hm, hL, hkeys⟩ hpx hszW
    have HLL := Lib.hid (lane_len hpx)
    gi_wp2_with (refine inStoreRow (fun _ => trivial) rfl 75 (.tmp 7) (.tmp 20) rfl W.heap.size (arrI lx) rfl rfl 75 _ (heap_alloc_new _ _) (arr8 _ HLL.out) (by rw [arrI_size, HLL.out]; rfl) (one_arr _) ?_)
    refine ⟨kf_box _ _ _ _ _, fun W2 hg2 hs2 => ?_⟩
    obtain ⟨hl2, hz2', hB2', _⟩ := round_start (by omega) hg2 hs2
    have hz3 : W.heap.size + 1 ≤ W2.heap.size := by omega
    clear hz2'
    have hm2 : W2.heap[w2.heap.size + 1]? = some (.map (entsOf L) c) := (hB2'.block _ (by omega)).trans hm
    have hB3 : Below w2.heap.size w2 W2 := hB.trans (hB2'.mono (by omega))
    clear hg2 hs2
    have e0 := (hB2'.cell (p := ⟨w2.heap.size, 0, none⟩) (by simp; omega)).trans d0
    have e2 := (hB2'.cell (p := ⟨w2.heap.size + 1 + 1, 0, none⟩) (by simp; omega)).trans d2
    have e3 := (hB2'.cell (p := ⟨w2.heap.size + 3, 0, none⟩) (by simp; omega)).trans d3
    have hbb := hb.mono hB3
    obtain ⟨q0, q1, q2⟩ := hbb
    have hC : ∀ l' : Later W2, Calls Try.prog 58 #[.pointer (some ⟨b, 0, none⟩), .agg (arrI lx), .int .i64 (V.length : Int)] l'.val fun e w'' => e = .returned (.agg (arrI (runV V lx))) ∧ ∃ x : Later W2, w'' = x.val := by
      intro l'
      have := run_any b p _ V lx V.length l'.val ((hb.mono hB3).mono l'.le) ((hx2.mono hB3).mono l'.le) (Nat.le_refl _) hV HLL.out
      rw [List.take_length] at this
      exact Calls.later this
    have HC := Lib.hid hC; clear hC
    have HR : (runV V lx).length = 8 := by rw [runV_length]; exact HLL.out
    have hlk : ∀ l' : Later W2, (Instr.lookup 87 (.map (some (w2.heap.size + 1))) (.agg (arrI (runV V lx))) false).run Try.prog l'.val = .ok (((findL (runV V lx) L 0).map (·.2)).getD (.int .i64 0)) l'.val :=
      fun l' => run_lookupL ((l'.le.block _ (Array.getElem?_eq_some_iff.1 hm2).1).trans hm2) hL _ HR
    obtain ⟨vv, hvv⟩ := findL_int (runV V lx) L
    rw [hvv] at hlk
    have hLc := @Later.cell W2
    have l0 := World.block_lt_of_cell? W2 _ e0
    have l2 := World.block_lt_of_cell? W2 _ e2
    simp only at l0 l2
    have HRR := Lib.hid HR; have HL2 := Lib.hid hl2; have HM2 := Lib.hid hm2; have HV := Lib.hid hvv
    clear HR hl2 hm2 hvv
    gi_wp2_with fail
    simp only [Act.put]
    refine in_region_head (r := some l) 11 (by kernel_rfl) (by kernel_rfl) (by rfl) (by intro h; obtain ⟨_, _, h⟩ := h; exact h) ?_
    simp only [List.take_succ_cons, List.take_zero]
    repeat (first
      | (refine wpQuiet_load_row rfl 75 (.tmp 7) rfl W.heap.size rfl 75 (arrI lx) (0, 0) _ HL2.out Try.underlying75 rfl (arr8 _ HLL.out) ?_)
      | (refine wpQuiet_build rfl 89 (.tmp 30) rfl (.agg (arrI (runV V lx))) rfl (arrI (runV V lx)) (built89 _ HRR.out) ?_)
      | (quiet_step ((go_at_call 58; exact HC.out _))))
    refine wpQuiet_nil ?_
    intro w6 hw6
    have hL6 : Below W2.heap.size W2 w6 := by obtain ⟨⟨_, h⟩, rfl⟩ := hw6; exact h
    clear hw6 hlk hLc q1 q2 d0 d2 d3
    have hm6 : w6.heap[w2.heap.size + 1]? = some (.map (entsOf L) c) := (hL6.block _ (Array.getElem?_eq_some_iff.1 HM2.out).1).trans HM2.out
    obtain ⟨v1, st, L1, c1, hme, hL1, hk1, e1, he1, hst⟩ := run_mapEntry hm6 hL (runV V lx) HRR.out
    have hlt6 := (Array.getElem?_eq_some_iff.1 hm6).1
    have hm7 : (w6.putObj (w2.heap.size + 1) (.map (entsOf L1) c1)).heap[w2.heap.size + 1]? = some (.map (entsOf L1) c1) := World.putObj_heap_same hlt6
    have hl6 := run_lookupL hm6 hL (runV V lx) HRR.out
    have hl7 := run_lookupL hm7 hL1 (runV V lx) HRR.out
    obtain ⟨n6, hn6⟩ := findL_int (runV V lx) L
    obtain ⟨n7, hn7⟩ := findL_int (runV V lx) L1
    rw [hn6] at hl6; rw [hn7] at hl7
    have hes := fun val : Int => run_entryStore hm7 hL1 he1 val
    obtain ⟨f, hf⟩ := Classical.skolem.1 hes
    rw [hst] at hf
    have hes2 : ∀ val : Int, (Instr.entryStore 87 (.map (some (w2.heap.size + 1))) (.int .i64 st) (.int .i64 val)).run Try.prog (w6.putObj (w2.heap.size + 1) (.map (entsOf L1) c1)) = .ok () ((w6.putObj (w2.heap.size + 1) (.map (entsOf L1) c1)).putObj (w2.heap.size + 1) (.map (entsOf (f val)) c1)) := fun val => (hf val).1
    change (Instr.mapEntry 87 (.map (some (w2.heap.size + 1))) (.agg (arrI (runV V lx)))).run Try.prog w6 = .ok (.tuple #[v1, .int .i64 st]) (w6.putObj (w2.heap.size + 1) (.map (entsOf L1) c1)) at hme
    have g0 := (hL6.cell (p := ⟨w2.heap.size, 0, none⟩) (by simp; omega)).trans e0
    have g2 := (hL6.cell (p := ⟨w2.heap.size + 1 + 1, 0, none⟩) (by simp; omega)).trans e2
    have g3 := (hL6.cell (p := ⟨w2.heap.size + 3, 0, none⟩) (World.block_lt_of_cell? W2 _ e3)).trans e3
    have G0 := Lib.hid g0; have G2 := Lib.hid g2; have G3 := Lib.hid g3; have HF := Lib.hid hf; have HK1 := Lib.hid hk1; have HM7 := Lib.hid hm7; have HM6 := Lib.hid hm6; have HKEYS := Lib.hid hkeys; have HPX := Lib.hid hpx
    clear g0 g2 g3 hf hk1 hm7 hm6 e0 e2 e3 hes hkeys hpx hn6 hn7 hm
    generalize hw7 : w6.putObj (w2.heap.size + 1) (.map (entsOf L1) c1) = w7 at *
    have HW7 := Lib.hid hw7; clear hw7
    have hz7 : w7.heap.size = w6.heap.size := by rw [← HW7.out]; simp
    have hB7 : Below w2.heap.size w2 w7 := by
      rw [← HW7.out]; exact below_put (hB3.trans (hL6.mono (by omega))) _ (by omega)
    have fin : ∀ X : Int, KF w4.heap.size W2 (w7.putObj (w2.heap.size + 1) (.map (entsOf (f X)) c1)) ∧ Below w2.heap.size w2 (w7.putObj (w2.heap.size + 1) (.map (entsOf (f X)) c1)) ∧
        (w7.putObj (w2.heap.size + 1) (.map (entsOf (f X)) c1)).cell? ⟨w2.heap.size, 0, none⟩ = some (.pointer (some ⟨b, 0, none⟩)) ∧ (w7.putObj (w2.heap.size + 1) (.map (entsOf (f X)) c1)).cell? ⟨w2.heap.size + 1 + 1, 0, none⟩ = some (.map (some (w2.heap.size + 1))) ∧
        (w7.putObj (w2.heap.size + 1) (.map (entsOf (f X)) c1)).cell? ⟨w2.heap.size + 3, 0, none⟩ = some (.pointer (some ⟨b, 0, none⟩)) ∧
        ∃ L c, (w7.putObj (w2.heap.size + 1) (.map (entsOf (f X)) c1)).heap[w2.heap.size + 1]? = some (.map (entsOf L) c) ∧ OkL L c ∧ KeysAre V L (pre ++ [lx]) := by
      intro X
      obtain ⟨_, hLX, hkX⟩ := HF.out X
      refine ⟨⟨by simp [hz7]; exact hL6.size, fun r h1 h2 => ?_⟩, below_put hB7 _ (by omega), ?_, ?_, ?_, f X, c1, World.putObj_heap_same (by omega), hLX, fun l => ?_⟩
      · rw [World.putObj_heap_other (by omega), ← HW7.out, World.putObj_heap_other (by omega)]
        exact hL6.block r h2
      · exact cell_put _ _ (by rw [← HW7.out]; exact cell_put _ _ G0.out (by simp)) (by simp)
      · exact cell_put _ _ (by rw [← HW7.out]; exact cell_put _ _ G2.out (by simp)) (by simp)
      · exact cell_put _ _ (by rw [← HW7.out]; exact cell_put _ _ G3.out (by simp)) (by simp)
      · rw [hkX, HK1.out l, HKEYS.out l]
        constructor
        · rintro (rfl | ⟨q, hq, rfl⟩)
          · exact ⟨lx, by simp, rfl⟩
          · exact ⟨q, by simp [hq], rfl⟩
        · rintro ⟨q, hq, rfl⟩
          rw [List.mem_append, List.mem_singleton] at hq
          rcases hq with hq | rfl
          · exact .inr ⟨q, hq, rfl⟩
          · exact .inl rfl
    have FIN := Lib.hid fin; clear fin hz7 hB7
    simp only [Act.put]
    iterate 5
      all_goals first
        | (refine wpAny_ready (rs := [11, 13]) (by decide +kernel) (by simp) (AllReady.cons rfl (fun K hK => ?_) (AllReady.cons rfl (fun K hK => ?_) AllReady.nil)))
        | (refine wpAny_ready (rs := [12, 13]) (by decide +kernel) (by simp) (AllReady.cons rfl (fun K hK => ?_) (AllReady.cons rfl (fun K hK => ?_) AllReady.nil)))
        | (refine wpAny_ready (rs := [12, 14]) (by decide +kernel) (by simp) (AllReady.cons rfl (fun K hK => ?_) (AllReady.cons rfl (fun K hK => ?_) AllReady.nil)))
        | (refine wpAny_ready (rs := [11, 14]) (by decide +kernel) (by simp) (AllReady.cons rfl (fun K hK => ?_) (AllReady.cons rfl (fun K hK => ?_) AllReady.nil)))
        | (refine wpAny_ready (rs := [11]) (by decide +kernel) (by simp) (AllReady.cons rfl (fun K hK => ?_) AllReady.nil))
        | (refine wpAny_ready (rs := [12]) (by decide +kernel) (by simp) (AllReady.cons rfl (fun K hK => ?_) AllReady.nil))
        | (refine wpAny_ready (rs := [13]) (by decide +kernel) (by simp) (AllReady.cons rfl (fun K hK => ?_) AllReady.nil))
        | (refine wpAny_ready (rs := [14]) (by decide +kernel) (by simp) (AllReady.cons rfl (fun K hK => ?_) AllReady.nil))
        | (refine wpAny_ready (rs := [15]) (by decide +kernel) (by simp) (AllReady.cons rfl (fun K hK => ?_) AllReady.nil))
      all_goals go_simp
      all_goals (refine hK _ _ ?_; clear hK K)
    all_goals (refine wpAny_done (by decide +kernel) ?_ _)
    all_goals exact FIN.out _
  case done =>
    rintro W ⟨hB, d0, d2, d3, L, c, hm, hL, hkeys⟩ hD
    have HD := Lib.hid hD; have HK := Lib.hid hkeys; have HM := Lib.hid hm
    have hMB := (Array.getElem?_eq_some_iff.1 hm).1
    have hrg : (Instr.range 87 (.map (some (w2.heap.size + 1)))).run Try.prog W = .ok (.pointer (some ⟨W.heap.size, 0, none⟩)) (W.alloc (.mapIter (some (w2.heap.size + 1)) c #[] c)) := by
      simp [Instr.range, Sem.run_bind, run_underlying Try.underlying87, Result.andThen_ok, run_getMap hm]
    clear hD hkeys hm
    have hbW := hb.mono hB
    obtain ⟨q0, q1, q2⟩ := hbW
    have hDW : w4.heap.size < W.heap.size := (Array.getElem?_eq_some_iff.1 HD.out).1
    gi_wp2
    gi_loopw [8, 38, 39, 40, 41, 42, 43, 44, 45, 46, 47] (fun _ _ _ _ _ _ _ _ _ _ _ wr => ∃ L' seen, wr.heap[w2.heap.size + 1]? = some (.map (entsOf L') c) ∧ OkL L' c ∧ wr.heap[W.heap.size]? = some (.mapIter (some (w2.heap.size + 1)) c seen c) ∧
        (∀ e ∈ L', e ∈ L) ∧ (∀ e ∈ L, sortedB (e.1.take p) = false → e ∈ L') ∧ (∀ e ∈ L', e.2.2 ∈ seen → sortedB (e.1.take p) = false) ∧ wr.heap[w4.heap.size]? = some (.deferred (some [])) ∧
        Below w2.heap.size w2 wr ∧ wr.cell? ⟨w2.heap.size, 0, none⟩ = some (.pointer (some ⟨b, 0, none⟩)) ∧ wr.cell? ⟨w2.heap.size + 1 + 1, 0, none⟩ = some (.map (some (w2.heap.size + 1))))
      (fun _ _ _ _ _ _ _ _ _ _ _ wr => unmet (wr.heap[w2.heap.size + 1]?) (wr.heap[W.heap.size]?))
    case atStart =>
      refine ⟨L, #[], (Below.heap_alloc _ _ _ hMB).trans HM.out, hL, heap_alloc_new _ _, fun e h => h, fun e h _ => h, by simp, (Below.heap_alloc _ _ _ hDW).trans HD.out, bal hB _, cal _ d0, cal _ d2⟩
    case round =>
      obtain ⟨L', seen, hm', hL', hit, hs1, hs2, hs3, hdf, hBr, g0, g2⟩ := hrel
      have hzr := hBr.size
      have hbr := hb.mono hBr
      have hrM := (Array.getElem?_eq_some_iff.1 hm').1
      have hrI := (Array.getElem?_eq_some_iff.1 hit).1
      rcases run_nextL hm' hL' hit with ⟨hall, hnx⟩ | ⟨e, he, hes, n, hnx⟩
      · have HA := Lib.hid hall; have HM' := Lib.hid hm'; have HI := Lib.hid hit; have HDF := Lib.hid hdf
        obtain ⟨q0, q1, q2⟩ := hbr
        clear hall hm' hit hdf
        gi_wp2
        have hlc := @Later.cell wr
        have l0 := World.block_lt_of_cell? wr _ g0
        have l2 := World.block_lt_of_cell? wr _ g2
        have hln : ∀ l : Later wr, ∀ t, (Builtin.len_ #[87] t #[.map (some (w2.heap.size + 1))]).run Try.prog l.val = .ok (goInt (entsOf L').size) l.val := by
          intro l t; simp [Builtin.len_, Sem.run_bind, run_underlying Try.underlying87, Result.andThen_ok, run_getMap ((l.le.block _ hrM).trans HM'.out)]
        refine in_region_later (r := none) (by kernel_rfl) (by kernel_rfl) (by rfl) ?_
        repeat (quiet_step (exact hln _))
        refine wpQuiet_nil ?_
        intro w6 hw6
        have hL6 : Below wr.heap.size wr w6 := by obtain ⟨⟨_, h⟩, rfl⟩ := hw6; exact h
        clear hw6 hln hlc
        obtain ⟨hN, hle⟩ := imagesN_eq p V L L' c seen hL' HK.out hs1 hs2 hs3 HA.out
        have h256 := pow_le_8 p (by omega)
        have w1 : IntKind.i64.wrap (((entsOf L').size : Int) + (p : Int)) = ((entsOf L').size : Int) + (p : Int) := IntWalk.i64_in _ (by omega)
        have w2' : IntKind.i64.wrap (((entsOf L').size : Int) + (p : Int) + 1) = ((imagesN p V : Nat) : Int) := by rw [IntWalk.i64_in _ (by omega), hN]; omega
        rw [w1, w2']
        gi_wp2
        have hrD := (Array.getElem?_eq_some_iff.1 HDF.out).1
        refine ⟨by simp, .inl ⟨_, _, rfl, run_takeDeferred ((hL6.block _ hrD).trans HDF.out), ?_⟩⟩
        have bX : Below w.heap.size w (w6.putObj w4.heap.size (.deferred none)) := below_put ((btr (btr (bal (bz w) _) hB2) (hBr.trans (hL6.mono (by omega)))).mono (Nat.le_refl _)) _ (by omega)
        generalize w6.putObj w4.heap.size (.deferred none) = X at *
        refine ⟨_, results_tmp2 rfl _ _ _, ?_, bX⟩
        rfl
      · have HSN := Lib.hid hes; have HE := Lib.hid he; have HM' := Lib.hid hm'; have HI := Lib.hid hit; have HDF := Lib.hid hdf; have HS1 := Lib.hid hs1; have HS2 := Lib.hid hs2; have HS3 := Lib.hid hs3
        clear hes he hm' hit hdf hs1 hs2 hs3
        gi_wp2
        have hBn : Below w2.heap.size w2 ((wr.drewN n).putObj W.heap.size (Obj.mapIter (some (w2.heap.size + 1)) c (seen.push e.2.2) c)) := below_put (Below.drewN' n hBr) _ (hB.size)
        have hzn : ((wr.drewN n).putObj W.heap.size (Obj.mapIter (some (w2.heap.size + 1)) c (seen.push e.2.2) c)).heap.size = wr.heap.size := by simp [World.drewN]
        have hnI : ((wr.drewN n).putObj W.heap.size (Obj.mapIter (some (w2.heap.size + 1)) c (seen.push e.2.2) c)).heap[W.heap.size]? = some (Obj.mapIter (some (w2.heap.size + 1)) c (seen.push e.2.2) c) := World.putObj_heap_same hrI
        have hno : ∀ k, k ≠ W.heap.size → ((wr.drewN n).putObj W.heap.size (Obj.mapIter (some (w2.heap.size + 1)) c (seen.push e.2.2) c)).heap[k]? = wr.heap[k]? := fun k hk => World.putObj_heap_other hk
        generalize (wr.drewN n).putObj W.heap.size (Obj.mapIter (some (w2.heap.size + 1)) c (seen.push e.2.2) c) = wn at *
        have hnM := (hno _ (by omega)).trans HM'.out
        have hnD := (hno _ (by omega)).trans HDF.out
        have n0 : wn.cell? ⟨w2.heap.size, 0, none⟩ = some (.pointer (some ⟨b, 0, none⟩)) := (World.cell?_of_block (hno _ (by simp; omega))).trans g0
        have n2 : wn.cell? ⟨w2.heap.size + 1 + 1, 0, none⟩ = some (.map (some (w2.heap.size + 1))) := (World.cell?_of_block (hno _ (by simp; omega))).trans g2
        have hen := run_entryL hnM hL' HE.out hnI
        have HNI := Lib.hid hnI; have HNM := Lib.hid hnM; have HND := Lib.hid hnD
        have hzn' : wr.heap.size ≤ wn.heap.size := by omega
        have HZ := Lib.hid hzn
        clear hno hnI hnM hnD hzn hnx g0 g2 hBr hbr
        have HLE := Lib.hid (hL'.len e HE.out)
        unfold Oper.uponIn
        simp only [hen, Result.andThen_ok]
        clear hen
        gi_wp2_with (first
          | (refine inStoreRow (fun _ => trivial) rfl 89 (.tmp 8) (.tmp 41) rfl wn.heap.size (arrI e.1) rfl rfl 89 _ (heap_alloc_new _ _) (by rw [arrI_size, HLE.out]; kernel_rfl) (by rw [arrI_size, HLE.out]; rfl) (one_arr _) ?_
             generalize hw5 : World.setRow _ _ _ = w5
             have g0 : Below wn.heap.size wn w5 := by rw [← hw5]; exact below_box _ _ _ _
             have g1 : w5.heap[wn.heap.size]? = some (.cells (arrI e.1) 89 (0, 0)) := by rw [← hw5]; exact heap_box _ _ _ _
             clear hw5
             have m0 := (g0.cell (p := ⟨w2.heap.size, 0, none⟩) (World.block_lt_of_cell? wn _ n0)).trans n0
             have m2 := (g0.cell (p := ⟨w2.heap.size + 1 + 1, 0, none⟩) (World.block_lt_of_cell? wn _ n2)).trans n2
             have hb5 := hb.mono (hBn.trans (g0.mono (by omega)))
             have hB5 : Below w2.heap.size w2 w5 := hBn.trans (g0.mono (by omega))
             have G1 := Lib.hid g1; clear g1)
          | (refine inLoadRow (fun _ => trivial) rfl 75 (.tmp 43) rfl wn.heap.size rfl 89 (arrI e.1) (0, 0) _ G1.out Try.underlying75 rfl (arr8 _ HLE.out) ?_))
        refine ⟨trivial, callsIn_wide.2 ((bsorted_any b p _ e.1 w5 hb5 (by omega) (by omega) HLE.out).mono ?_)⟩
        rintro ee w6 ⟨rfl, hB6⟩
        have hB56 : Below wn.heap.size wn w6 := btr g0 hB6
        have r0 := (hB6.cell (p := ⟨w2.heap.size, 0, none⟩) (World.block_lt_of_cell? w5 _ m0)).trans m0
        have r2 := (hB6.cell (p := ⟨w2.heap.size + 1 + 1, 0, none⟩) (World.block_lt_of_cell? w5 _ m2)).trans m2
        have r1 := (hB6.block wn.heap.size (Array.getElem?_eq_some_iff.1 G1.out).1).trans G1.out
        have hz6 := hB56.size
        have rM := (hB56.block (w2.heap.size + 1) (by omega)).trans HNM.out
        have rI := (hB56.block W.heap.size (by omega)).trans HNI.out
        have rD := (hB56.block w4.heap.size (by omega)).trans HND.out
        have hB7 : Below w2.heap.size w2 w6 := hBn.trans (hB56.mono (by omega))
        obtain ⟨L2, hdel, hL2, hk2⟩ := run_deleteL rM hL' e.1 HLE.out
        have hM8 : (w6.putObj (w2.heap.size + 1) (.map (entsOf L2) c)).heap[w2.heap.size + 1]? = some (.map (entsOf L2) c) := World.putObj_heap_same (by omega)
        have hI8 : (w6.putObj (w2.heap.size + 1) (.map (entsOf L2) c)).heap[W.heap.size]? = _ := (World.putObj_heap_other (by omega)).trans rI
        have hD8 : (w6.putObj (w2.heap.size + 1) (.map (entsOf L2) c)).heap[w4.heap.size]? = _ := (World.putObj_heap_other (by omega)).trans rD
        have hB8 : Below w2.heap.size w2 (w6.putObj (w2.heap.size + 1) (.map (entsOf L2) c)) := below_put hB7 _ (by omega)
        have s0 : (w6.putObj (w2.heap.size + 1) (.map (entsOf L2) c)).cell? ⟨w2.heap.size, 0, none⟩ = _ := cell_put _ _ r0 (by simp)
        have s2 : (w6.putObj (w2.heap.size + 1) (.map (entsOf L2) c)).cell? ⟨w2.heap.size + 1 + 1, 0, none⟩ = _ := cell_put _ _ r2 (by simp)
        have S0 := Lib.hid s0; have S2 := Lib.hid s2; have HM8 := Lib.hid hM8; have HI8 := Lib.hid hI8; have HD8 := Lib.hid hD8; have R1 := Lib.hid r1; have RM := Lib.hid rM; have RI := Lib.hid rI; have RD := Lib.hid rD; have HK2 := Lib.hid hk2
        clear s0 s2 hM8 hI8 hD8 r1 rM rI rD hk2
        rw [show ((p : Int)).toNat = p by omega]
        generalize hs : sortedB (e.1.take p) = s
        have HS := Lib.hid hs
        clear hs
        cases s
        · gi_wp2
          refine ⟨⟨L', seen.push e.2.2, RM.out, hL', RI.out, HS1.out, HS2.out, fun x hx hxs => ?_, RD.out, hB7, r0, r2⟩, ?_⟩
          · rw [Array.mem_push] at hxs
            rcases hxs with h | h
            · exact HS3.out x hx h
            · rw [born_inj hL' hx HE.out h]; exact HS.out
          · rw [HM'.out, HI.out, RM.out, RI.out, unmet_eq, unmet_eq]
            exact unmet_lt hL' (fun x h => h) HE.out HSN.out
        · gi_wp2_with (refine inLoadRow (fun _ => trivial) rfl 89 (.tmp 8) rfl wn.heap.size rfl 89 (arrI e.1) (0, 0) _ R1.out Try.underlying89 rfl (by rw [arrI_size, HLE.out]; kernel_rfl) ?_)
          refine ⟨⟨L2, seen.push e.2.2, HM8.out, hL2, HI8.out, fun x h => HS1.out x ((HK2.out x).1 h).1, fun x h1 h2 => (HK2.out x).2 ⟨HS2.out x h1 h2, fun h => ?_⟩, fun x hx hxs => ?_, HD8.out, hB8, S0.out, S2.out⟩, ?_⟩
          · rw [h, HS.out] at h2; cases h2
          · obtain ⟨hx1, hx2⟩ := (HK2.out x).1 hx
            rw [Array.mem_push] at hxs
            rcases hxs with h | h
            · exact HS3.out x hx1 h
            · exact absurd (by rw [born_inj hL' hx1 HE.out h]) hx2
          · rw [HM'.out, HI.out, HM8.out, HI8.out, unmet_eq, unmet_eq]
            exact unmet_lt hL2 (fun x h => ((HK2.out x).1 h).1) HE.out HSN.out
  case stop => intro c pre W _ h; exact h.elim
end Go.Proofs.Ytdnaipiiponhpaa

namespace Go.Proofs.Ytdnaipiiponhpaa
open Go.RowKit Go.Shelf

/-- From block lo up to block hi, what was there in W is there in W'. -/
structure KB (lo hi : Nat) (W W' : World) : Prop where
  size : W.heap.size ≤ W'.heap.size
  same : ∀ r, lo ≤ r → r < hi → W'.heap[r]? = W.heap[r]?
/-- How a round may end that changes cells of its own. -/
def roundEnd2 {α : Type} (lo hi : Nat) (I : List α → World → Prop) (Ix : Code → List α → World → Prop) (s : List α) (W : World) : Exit → Act → World → Prop
  | .normal, _, W' => KB lo hi W W' ∧ I s W'
  | .ret, _, W' => KB lo hi W W' ∧ Ix .ret s W'
  | .exit id, _, W' => KB lo hi W W' ∧ Ix (.exit id) s W'
  | .goto t, _, W' => KB lo hi W W' ∧ Ix (.goto t) s W'
  | .panic _, _, _ => False
  | .outgrown, _, _ => False

/-- The statement 'for x := range g'. -/
theorem range_law2 {P : Program} {n : Nat} {α : Type} {g : Operand} {ps : Array Tmp} {assign body : Code} {Q : Exit → Act → World → Prop} {a : Act} {w : World}
    {gf : Nat} {lb : Array Value} (hg : a.eval g = .func (.func gf) #[] lb) (eg : ∀ args w, (callFunc gf args).run P w = .ok (.enter gf args) w)
    {encs : α → Array Value} {k : Nat} {Rd : World → Prop} {xs : List α} (hseq : Yields (n - 1) P gf lb encs k Rd xs) (hps : ∀ x, (encs x).size = ps.size)
    (I : List α → World → Prop) (Ix : Code → List α → World → Prop)
    (hI : ∀ s, Abides1 w.heap.size (w.heap.size + 2 + k) (I s)) (hIx : ∀ c s, Abides1 w.heap.size (w.heap.size + 2 + k) (Ix c s)) (hR : ∀ s W1, I s W1 → Rd W1) (h0 : I [] w)
    (hround : ∀ (l : Nat) (pre : List α) (x : α) (W : World), I pre W → pre ++ [x] <+: xs → w.heap.size + 2 + k ≤ W.heap.size →
      assign.wpIn (Fence.wide.inRound l) (n - 1 - 1) P (Exit.then (fun a₁ W₁ => KF w.heap.size W W₁ ∧ ∀ W₂, W₁.grownBy W₂ (some (w.heap.size + 1)) → W₂.heap.size = W₁.heap.size →
          body.wpIn (Fence.wide.inRound l) (n - 1 - 1) P (roundEnd2 w.heap.size (w.heap.size + 2 + k) I Ix (pre ++ [x]) W₂) a₁ W₂) (fun _ _ _ => False))
        { tmps := (ps.zip (encs x)).foldl (fun t (p, v) => t.setIfInBounds p v) a.tmps, defers := [] } W)
    (hdone : ∀ (W : World), I xs W → W.heap[w.heap.size]? = some (.deferred (some [])) → Q .normal { a with defers := { target := .collected w.heap.size, args := #[] } :: a.defers } W)
    (hstop : ∀ (c : Code) (pre : List α) (W : World), pre <+: xs → Ix c pre W → W.heap[w.heap.size]? = some (.deferred (some [])) → c.wpIn Fence.wide n P Q { a with defers := { target := .collected w.heap.size, args := #[] } :: a.defers } W) :
    (Code.rangeFunc g ps assign body).wpIn Fence.wide n P Q a w := by
  refine wpIn_rangeFunc ?_
  intro fn hfn
  let rec0 : LoopState → Option Code → Loop := fun st pe => { state := st, pending := pe, fn, tmps := a.tmps, params := ps, assign, body, defers := w.heap.size }
  obtain ⟨V, hV⟩ : ∃ V, (w.alloc (.deferred (some []))).alloc (.loop (rec0 .ready none)) = V := ⟨_, rfl⟩
  have hVs : V.heap.size = w.heap.size + 2 := by rw [← hV]; simp
  have hVl : V.heap[w.heap.size + 1]? = some (.loop (rec0 .ready none)) := by rw [← hV]; exact heap_alloc2_new _ _ _
  have hVd : V.heap[w.heap.size]? = some (.deferred (some [])) := by rw [← hV]; exact heap_alloc2_old _ _ _
  have hVI : I [] V := by
    rw [← hV]
    exact hI [] _ _ none (hI [] _ _ none h0 (World.grownBy_alloc _ _ none) (fun r e => by cases e)) (World.grownBy_alloc _ _ none) (fun r e => by cases e)
  -- what stays of the two blocks of the loop's own
  have keep : ∀ {X Y : World} {row : Option Nat} {j : Nat} {o : Obj}, X.heap[j]? = some o → j < V.heap.size → X.grownBy Y row → (∀ r, row = some r → V.heap.size ≤ r ∧ r < V.heap.size + k) → Y.heap[j]? = some o := by
    intro X Y row j o hx hj hgr hr
    rw [hgr.block j (Array.getElem?_eq_some_iff.1 hx).1 (fun e => by have := hr j e.symm; omega)]
    exact hx
  have wider : ∀ {row : Option Nat}, (∀ r, row = some r → V.heap.size ≤ r ∧ r < V.heap.size + k) → ∀ r, row = some r → w.heap.size ≤ r ∧ r < w.heap.size + 2 + k := by
    intro row h r e
    have := h r e
    omega
  have turn : ∀ {X : World} {o : Obj} {J : World → Prop}, Abides1 w.heap.size (w.heap.size + 2 + k) J → J X → J (X.putObj (w.heap.size + 1) o) :=
    fun h hx => h _ _ (some (w.heap.size + 1)) hx (grownBy_putObj' _ _ _) (fun r e => by cases e; omega)
  refine ⟨w.heap.size + 1, [{ target := .collected w.heap.size, args := #[] }], V, { target := .fn (.func gf) lb, args := #[.func (.yield (w.heap.size + 1)) #[] #[]] }, V, gf,
    #[.func (.yield (w.heap.size + 1)) #[] #[]] ++ lb, V, ?_, ?_, fun _ _ => trivial, ?_, fun h => by simp [Fence.wide] at h, ?_⟩
  · rw [← hV]; exact run_enterLoop_outer _ _ _ _ _
  · simp only [resolve, hg]
    simp [go_sem]
  · simp [invoke, go_sem, eg]
  refine (hseq (w.heap.size + 1)
    (fun s X => I s X ∧ X.heap[w.heap.size + 1]? = some (.loop (rec0 .ready none)) ∧ X.heap[w.heap.size]? = some (.deferred (some [])))
    (fun s X => ∃ c, Ix c s X ∧ X.heap[w.heap.size + 1]? = some (.loop (rec0 .done (some c))) ∧ X.heap[w.heap.size]? = some (.deferred (some []))) V
    (fun s X Y row h hgr hr => ⟨hI s X Y row h.1 hgr (wider hr), keep h.2.1 (by omega) hgr hr, keep h.2.2 (by omega) hgr hr⟩)
    (fun s X Y row h hgr hr => by
      obtain ⟨c, h1, h2, h3⟩ := h
      exact ⟨c, hIx c s X Y row h1 hgr (wider hr), keep h2 (by omega) hgr hr, keep h3 (by omega) hgr hr⟩)
    (fun s X h => hR s X h.1) ?_ ⟨hVI, hVl, hVd⟩).mono ?_
  · rintro pre x X ⟨hi, hl, hd⟩ hpre hsz
    have hlt : w.heap.size + 1 < X.heap.size := (Array.getElem?_eq_some_iff.1 hl).1
    refine ⟨fn, _, assign, body, run_yield (args := encs x) hl (hps x), roundIn_of_wpIn trivial (wpIn_mono (hround (w.heap.size + 1) pre x X hi hpre (by omega)) ?_)⟩
    rintro e a1 X1 hp
    cases e with
    | normal =>
      obtain ⟨hk1, hbody⟩ := hp
      have hl1 := (hk1.same _ (by omega) hlt).trans hl
      have hd1 := (hk1.same _ (by omega) (by omega)).trans hd
      refine ⟨_, run_beginRound hl1 rfl, wpIn_mono (hbody _ (grownBy_putObj' _ _ _) (by simp)) ?_⟩
      have hlt1 : w.heap.size + 1 < X1.heap.size := (Array.getElem?_eq_some_iff.1 hl1).1
      have fin : ∀ (jump : Option Code) (X3 : World), KB w.heap.size (w.heap.size + 2 + k) (X1.putObj (w.heap.size + 1) (.loop { rec0 .ready none with state := .busy })) X3 →
          (Instr.endRound (w.heap.size + 1) jump).run P X3 = .ok (.bool jump.isNone) (X3.putObj (w.heap.size + 1) (.loop (rec0 (if jump.isNone then .ready else .done) jump))) ∧
          (X3.putObj (w.heap.size + 1) (.loop (rec0 (if jump.isNone then .ready else .done) jump))).heap[w.heap.size + 1]? = some (.loop (rec0 (if jump.isNone then .ready else .done) jump)) ∧
          (X3.putObj (w.heap.size + 1) (.loop (rec0 (if jump.isNone then .ready else .done) jump))).heap[w.heap.size]? = some (.deferred (some [])) ∧
          X.heap.size ≤ X3.heap.size ∧
          ∀ r, V.heap.size ≤ r → r < V.heap.size + k → (X3.putObj (w.heap.size + 1) (.loop (rec0 (if jump.isNone then .ready else .done) jump))).heap[r]? = X.heap[r]? := by
        intro jump X3 hk3
        have hl3 : X3.heap[w.heap.size + 1]? = some (.loop { rec0 .ready none with state := .busy }) := (hk3.same _ (by omega) (by omega)).trans (World.putObj_heap_same hlt1)
        have hd3 : X3.heap[w.heap.size]? = some (.deferred (some [])) := (hk3.same _ (by omega) (by omega)).trans ((World.putObj_heap_other (by omega)).trans hd1)
        refine ⟨run_endRound jump hl3, World.putObj_heap_same (Array.getElem?_eq_some_iff.1 hl3).1, (World.putObj_heap_other (by omega)).trans hd3, ?_, fun r h1 h2 => ?_⟩
        · have h1 := hk3.size; have h2 := hk1.size; simp at h1; omega
        · have h4 := hk1.size
          rw [World.putObj_heap_other (by omega), hk3.same r (by omega) (by omega), World.putObj_heap_other (by omega), hk1.same r (by omega) (by omega)]
      rintro e2 a3 X3 hp2
      cases e2 with
      | normal =>
        obtain ⟨hk3, hi3⟩ := hp2
        obtain ⟨f1, f2, f3, f4, f5⟩ := fin none X3 hk3
        exact ⟨_, _, f1, .inl ⟨rfl, ⟨turn (hI _) hi3, f2, f3⟩, by simp; exact f4, f5⟩⟩
      | ret =>
        obtain ⟨hk3, hi3⟩ := hp2
        obtain ⟨f1, f2, f3, f4, f5⟩ := fin (some .ret) X3 hk3
        exact ⟨_, _, f1, .inr ⟨rfl, _, turn (hIx _ _) hi3, f2, f3⟩⟩
      | exit id =>
        obtain ⟨hk3, hi3⟩ := hp2
        obtain ⟨f1, f2, f3, f4, f5⟩ := fin (some (.exit id)) X3 hk3
        exact ⟨_, _, f1, .inr ⟨rfl, _, turn (hIx _ _) hi3, f2, f3⟩⟩
      | goto t =>
        obtain ⟨hk3, hi3⟩ := hp2
        obtain ⟨f1, f2, f3, f4, f5⟩ := fin (some (.goto t)) X3 hk3
        exact ⟨_, _, f1, .inr ⟨rfl, _, turn (hIx _ _) hi3, f2, f3⟩⟩
      | panic ch => exact hp2.elim
      | outgrown => exact hp2.elim
    | ret => exact hp.elim
    | exit id => exact hp.elim
    | goto t => exact hp.elim
    | panic ch => exact hp.elim
    | outgrown => exact hp.elim
  · rintro e X ⟨⟨v, rfl⟩, ⟨hi, hl, hd⟩ | ⟨pre, hpre, c, hi, hl, hd⟩⟩
    · exact ⟨none, _, run_endLoop hl (by simp [rec0]), hdone _ (turn (hI _) hi) ((World.putObj_heap_other (by omega)).trans hd)⟩
    · exact ⟨some c, _, run_endLoop hl (by simp [rec0]), hstop c pre _ hpre (turn (hIx _ _) hi) ((World.putObj_heap_other (by omega)).trans hd)⟩

end Go.Proofs.Ytdnaipiiponhpaa

namespace Go.Proofs.Ytdnaipiiponhpaa
open Go.RowKit Go.Shelf
attribute [local go_sem] Oper.semAt_some

/-- The first k numbers are doubled, and one more. -/
def oddly (k : Nat) (l : List Int) : List Int := l.mapIdx fun j v => if j < k then 1 + 2 * v else v
theorem oddly_length (k : Nat) (l : List Int) : (oddly k l).length = l.length := by simp [oddly]
theorem oddly_zero (l : List Int) : oddly 0 l = l := by
  apply List.ext_getElem
  · simp [oddly]
  · intro i h1 h2; simp [oddly]
theorem oddly_get (k : Nat) (l : List Int) : (oddly k l)[k]?.getD 0 = l[k]?.getD 0 := by
  by_cases h : k < l.length
  · simp [oddly, h]
  · simp [oddly, h]
theorem oddly_set (k : Nat) (l : List Int) : (oddly k l).set k (1 + 2 * l[k]?.getD 0) = oddly (k + 1) l := by
  apply List.ext_getElem
  · simp [oddly]
  · intro i h1 h2
    have hi : i < l.length := by simpa [oddly] using h2
    rw [List.getElem_set]
    by_cases e : k = i
    · subst e; simp [oddly, hi]
    · simp only [oddly, List.getElem_mapIdx, if_neg e]
      by_cases h : i < k
      · rw [if_pos h, if_pos (by omega)]
      · rw [if_neg h, if_neg (by omega)]
/-- A pattern with one middled place. -/
def middled (p place : Nat) (l : List Int) : List Int := (oddly p l).set place 2
theorem middled_length (p place : Nat) (l : List Int) : (middled p place l).length = l.length := by simp [middled, oddly_length]
/-- The value of a place can come to another one. -/
def endsB (p : Nat) (V : List (Int × Int)) (place at_ : Nat) : Bool := (lanes p).any fun l => (runV V (middled p place l))[at_]?.getD 0 == 2
theorem lane_bits {p : Nat} {l : List Int} (h : l ∈ lanes p) (k : Nat) : 0 ≤ l[k]?.getD 0 ∧ l[k]?.getD 0 ≤ 1 := by
  simp only [lanes, List.mem_map] at h
  obtain ⟨t, _, rfl⟩ := h
  unfold laneOf
  by_cases hk : k < 8
  · simp only [List.getElem?_map, List.getElem?_range hk, Option.map_some, Option.getD_some]
    split <;> omega
  · simp [hk]
theorem run_index8 (l : List Int) (hl : l.length = 8) (k : Nat) (hk : k < 8) (w : World) : (Instr.index 75 (.agg (arrI l)) (.int .i64 (k : Int))).run Try.prog w = .ok (.int .i64 (l[k]?.getD 0)) w := by
  match l, hl with
  | [a0, a1, a2, a3, a4, a5, a6, a7], _ =>
    match k, hk with
    | 0, _ => show (Instr.index 75 (.agg (arrI [a0, a1, a2, a3, a4, a5, a6, a7])) (.int .i64 0)).run Try.prog w = .ok (.int .i64 a0) w; kernel_rfl
    | 1, _ => show (Instr.index 75 (.agg (arrI [a0, a1, a2, a3, a4, a5, a6, a7])) (.int .i64 1)).run Try.prog w = .ok (.int .i64 a1) w; kernel_rfl
    | 2, _ => show (Instr.index 75 (.agg (arrI [a0, a1, a2, a3, a4, a5, a6, a7])) (.int .i64 2)).run Try.prog w = .ok (.int .i64 a2) w; kernel_rfl
    | 3, _ => show (Instr.index 75 (.agg (arrI [a0, a1, a2, a3, a4, a5, a6, a7])) (.int .i64 3)).run Try.prog w = .ok (.int .i64 a3) w; kernel_rfl
    | 4, _ => show (Instr.index 75 (.agg (arrI [a0, a1, a2, a3, a4, a5, a6, a7])) (.int .i64 4)).run Try.prog w = .ok (.int .i64 a4) w; kernel_rfl
    | 5, _ => show (Instr.index 75 (.agg (arrI [a0, a1, a2, a3, a4, a5, a6, a7])) (.int .i64 5)).run Try.prog w = .ok (.int .i64 a5) w; kernel_rfl
    | 6, _ => show (Instr.index 75 (.agg (arrI [a0, a1, a2, a3, a4, a5, a6, a7])) (.int .i64 6)).run Try.prog w = .ok (.int .i64 a6) w; kernel_rfl
    | 7, _ => show (Instr.index 75 (.agg (arrI [a0, a1, a2, a3, a4, a5, a6, a7])) (.int .i64 7)).run Try.prog w = .ok (.int .i64 a7) w; kernel_rfl

set_option maxRecDepth 100000 in
set_option maxHeartbeats 1000000 in
theorem bends_any (bb p : Nat) (x : Value) (V : List (Int × Int)) (place at_ : Nat) (w : World) (hb : IsBench w bb p x) (hx : RdP w x V) (hV : OkRow p V) (hpl : place < p) (hat : at_ < p) :
    Calls Try.prog 73 #[.pointer (some ⟨bb, 0, none⟩), .int .i64 place, .int .i64 at_] w fun e w' => e = .returned (.bool (endsB p V place at_)) ∧ Below w.heap.size w w' := by
  have hp1 := hV.p1; have hp8 := hV.p8; have h40 := hV.len
  refine callsIn_wide (n := 10).1 ?_
  refine callsIn_of_wp_marks Try.func73 rfl trivial ?_ rfl
  simp only [Try.ntmps73, List.size_toArray, List.length_cons, List.length_nil, Nat.reduceAdd, Nat.reduceSub, Array.replicate_succ, Array.replicate_zero, List.push_toArray, List.append_toArray, List.nil_append, List.cons_append]
  gi_wp2_with fail
  refine ⟨trivial, callsIn_wide.2 ((patterns_any _ _).mono ?_)⟩
  rintro e w4 ⟨rfl, hw4⟩
  have hB0 : Below w.heap.size w w4 := by rw [← hw4]; exact bal (bal (bal (bal (bal (bz _) _) _) _) _) _
  have hsz : w.heap.size + 5 ≤ w4.heap.size := by rw [← hw4]; simp
  have c0 : w4.cell? ⟨w.heap.size, 0, none⟩ = some (.pointer (some ⟨bb, 0, none⟩)) := by rw [← hw4]; exact cal _ (cal _ (cal _ (cal _ (cnew rfl rfl))))
  have c1 : w4.cell? ⟨w.heap.size + 1, 0, none⟩ = some (.int .i64 place) := by rw [← hw4]; exact cal _ (cal _ (cal _ (cnew (by simp) rfl)))
  have c2 : w4.cell? ⟨w.heap.size + 2, 0, none⟩ = some (.int .i64 at_) := by rw [← hw4]; exact cal _ (cal _ (cnew (by simp) rfl))
  have c3 : w4.cell? ⟨w.heap.size + 3, 0, none⟩ = some (.bool false) := by rw [← hw4]; exact cal _ (cnew (by simp) rfl)
  have f3 : w4.frozen? ⟨w.heap.size + 3, 0, none⟩ = false := by rw [← hw4]; exact fal _ (fnew (by simp)) (by simp)
  have c4 : w4.cell? ⟨w.heap.size + 4, 0, none⟩ = some (.pointer (some ⟨bb, 0, none⟩)) := by rw [← hw4]; exact cnew (by simp) rfl
  simp only [World.size_alloc]
  clear hw4
  have hb4 := hb.mono hB0
  have hx4 := hx.mono hB0
  gi_wp2
  refine range_law2 (gf := 80) (lb := #[.pointer (some ⟨w.heap.size + 4, 0, none⟩)]) rfl (enters_of Try.func80 (by kernel_rfl) rfl) (patterns_yields _ (w.heap.size + 4) bb p x (by omega) (by omega)) (fun _ => rfl)
    (fun pre W => Below w4.heap.size w4 W ∧ ∀ l ∈ pre, ((runV V (middled p place l))[at_]?.getD 0 == 2) = false)
    (fun c pre W => c = .ret ∧ endsB p V place at_ = true ∧ Below w.heap.size w W ∧ W.cell? ⟨w.heap.size + 3, 0, none⟩ = some (.bool true))
    (fun s => (abides_below (Nat.le_refl _) (Nat.le_refl _)).and abides_pure)
    (fun c s => abides_pure.and (abides_pure.and ((abides_below (by omega) (by omega)).and (abides_cell (by simp; omega)))))
    (fun s W1 h => ⟨(h.1.cell (p := ⟨w.heap.size + 4, 0, none⟩) (by simp; omega)).trans c4, hb4.mono h.1⟩)
    ⟨bz _, by simp⟩ ?round ?done ?stop
  case round =>
    rintro l pre lx W ⟨hB, hpre⟩ hpx hszW
    have HLL := Lib.hid (lane_len hpx)
    have HLX : Hid (lx ∈ lanes p) := by obtain ⟨ys, e⟩ := hpx; rw [← e]; exact Lib.hid (by simp)
    gi_wp2_with (refine inStoreRow (fun _ => trivial) rfl 75 (.tmp 7) (.tmp 11) rfl W.heap.size (arrI lx) rfl rfl 75 _ (heap_alloc_new _ _) (arr8 _ HLL.out) (by rw [arrI_size, HLL.out]; rfl) (one_arr _) ?_)
    refine ⟨kf_box _ _ _ _ _, fun W2 hg2 hs2 => ?_⟩
    obtain ⟨hl2, hz2, hB2, _⟩ := round_start (by omega) hg2 hs2
    have hB3 : Below w4.heap.size w4 W2 := hB.trans (hB2.mono (by omega))
    clear hg2 hs2
    have d0 := (hB3.cell (p := ⟨w.heap.size, 0, none⟩) (by simp; omega)).trans c0
    have hb2 := hb4.mono hB3
    obtain ⟨q0, q1, q2⟩ := hb2
    have HB3 := Lib.hid hB3; have HL2 := Lib.hid hl2; have HX := Lib.hid hpx; have HP := Lib.hid hpre
    clear hl2 hpx hpre
    gi_wp2
    gi_loopw [8, 17, 18, 19, 20, 21, 22, 23, 24, 25, 26, 27] (fun _ i _ _ _ _ _ _ _ _ _ _ wr => ∃ k : Nat, k ≤ p ∧ i = .int .i64 k ∧ KB w4.heap.size W.heap.size W2 wr ∧ Below w4.heap.size w4 wr ∧ wr.heap[W.heap.size]? = some (.cells (arrI (oddly k lx)) 75 (0, 0)))
      (fun _ i _ _ _ _ _ _ _ _ _ _ _ => ((p : Int) - intOf i).toNat)
    case atStart => exact ⟨0, Nat.zero_le _, rfl, ⟨Nat.le_refl _, fun _ _ _ => rfl⟩, HB3.out, by rw [oddly_zero]; exact HL2.out⟩
    case round =>
      obtain ⟨k, hk, rfl, hkb, hbr, hlr⟩ := hrel
      by_cases hkp : k < p
      · have hbit := lane_bits HLX.out k
        have hk8 : k < 8 := by omega
        have hcc : wr.cell? ⟨W.heap.size, k, none⟩ = some (.int .i64 (lx[k]?.getD 0)) := by
          rw [← oddly_get]; exact (cell_of_row wr _ _ _ _ _ hlr).trans (arrI_get _ _ (by rw [oddly_length, HLL.out]; omega))
        have hff := frozen_of_row wr W.heap.size k _ _ hlr
        have hnew := heap_setCell_same wr W.heap.size k _ _ (.int .i64 (1 + 2 * lx[k]?.getD 0)) hlr
        rw [arrI_set, oddly_set] at hnew
        have hwz := hbr.size
        have HN := Lib.hid hnew; have HLR := Lib.hid hlr; have HKB := Lib.hid hkb
        clear hnew hlr hkb
        generalize lx[k]?.getD 0 = v at *
        gi_wp2
        refine ⟨⟨k + 1, by omega, by simp, ⟨by simpa using HKB.out.size, fun r h1 h2 => ?_⟩, bset hbr (by simp; omega) _, HN.out⟩, by simp [intOf]; omega⟩
        exact (Below.heap_setCell _ _ _ _ (by simp; omega)).trans (HKB.out.same r h1 h2)
      · have hkk : k = p := by omega
        subst hkk
        have hwz := hbr.size
        have hrz := (Array.getElem?_eq_some_iff.1 hlr).1
        have e1 := (hbr.cell (p := ⟨w.heap.size + 1, 0, none⟩) (by simp; omega)).trans c1
        have hpl8 : place < 8 := by omega
        have hff := frozen_of_row wr W.heap.size place _ _ hlr
        have hcc : ∃ v, wr.cell? ⟨W.heap.size, place, none⟩ = some (.int .i64 v) :=
          ⟨_, (cell_of_row wr _ _ _ _ _ hlr).trans (arrI_get _ _ (by rw [oddly_length, HLL.out]; omega))⟩
        obtain ⟨v, hcc⟩ := hcc
        have hnew := heap_setCell_same wr W.heap.size place _ _ (.int .i64 2) hlr
        rw [arrI_set] at hnew
        change (wr.setCell ⟨W.heap.size, place, none⟩ (.int .i64 2)).heap[W.heap.size]? = some (.cells (arrI (middled k place lx)) 75 (0, 0)) at hnew
        have HN := Lib.hid hnew; have HLR := Lib.hid hlr; have HKB := Lib.hid hkb
        clear hnew hlr hkb
        gi_wp2
        have hb5 : Below w4.heap.size w4 (wr.setCell ⟨W.heap.size, place, none⟩ (.int .i64 2)) := bset hbr (by simp; omega) _
        have hk5 : KB w4.heap.size W.heap.size W2 (wr.setCell ⟨W.heap.size, place, none⟩ (.int .i64 2)) :=
          ⟨by simpa using HKB.out.size, fun r h1 h2 => (Below.heap_setCell _ _ _ _ (by simp; omega)).trans (HKB.out.same r h1 h2)⟩
        clear hff hcc e1 hrz hwz hbr q0 q1 q2 d0 hB2
        generalize wr.setCell ⟨W.heap.size, place, none⟩ (.int .i64 2) = w5 at *
        have hw5 := hb5.size
        have hn5 := (Array.getElem?_eq_some_iff.1 HN.out).1
        have k0 := (hb5.cell (p := ⟨w.heap.size, 0, none⟩) (by simp; omega)).trans c0
        have k2 := (hb5.cell (p := ⟨w.heap.size + 2, 0, none⟩) (by simp; omega)).trans c2
        have hbb := hb4.mono hb5
        have hxx := hx4.mono hb5
        have HMID := Lib.hid (show (middled k place lx).length = 8 by rw [middled_length]; exact HLL.out)
        have HRUN := Lib.hid (show (runV V (middled k place lx)).length = 8 by rw [runV_length]; exact HMID.out)
        have hC : ∀ l' : Later w5, Calls Try.prog 58 #[.pointer (some ⟨bb, 0, none⟩), .agg (arrI (middled k place lx)), .int .i64 (V.length : Int)] l'.val fun e w'' => e = .returned (.agg (arrI (runV V (middled k place lx)))) ∧ ∃ x : Later w5, w'' = x.val := by
          intro l'
          have := run_any bb k x V (middled k place lx) V.length l'.val (hbb.mono l'.le) (hxx.mono l'.le) (Nat.le_refl _) hV HMID.out
          rw [List.take_length] at this
          exact Calls.later this
        have HC := Lib.hid hC; clear hC
        have hix := run_index8 (runV V (middled k place lx)) HRUN.out at_ (by omega)
        obtain ⟨a, ca, rfl, hca, hca2, _⟩ := hxx.form
        obtain ⟨q0, q1, q2⟩ := hbb
        have hL := @Later.cell w5
        have l0 := World.block_lt_of_cell? w5 _ k0
        have l2 := World.block_lt_of_cell? w5 _ k2
        simp only at l0 l2
        generalize hv : (runV V (middled k place lx))[at_]?.getD 0 = y at *
        have HV := Lib.hid hv; clear hv
        refine in_region_later (r := some l) (by kernel_rfl) (by kernel_rfl) (by rfl) ?_
        repeat (first
          | (refine wpQuiet_load_row rfl 75 (.tmp 7) rfl W.heap.size rfl 75 (arrI (middled k place lx)) (0, 0) _ HN.out Try.underlying75 rfl (arr8 _ HMID.out) ?_)
          | (quiet_step ((go_at_call 58; exact HC.out _))))
        refine wpQuiet_nil ?_
        intro w6 hw6
        have hL6 : Below w5.heap.size w5 w6 := by obtain ⟨⟨_, h⟩, rfl⟩ := hw6; exact h
        clear hw6
        have hB6 : Below w4.heap.size w4 w6 := btr hb5 hL6
        have r2 : w6.cell? ⟨w.heap.size + 1 + 1 + 1, 0, none⟩ = some (.bool false) := (hB6.cell (by simp; omega)).trans c3
        have r3 : w6.frozen? ⟨w.heap.size + 1 + 1 + 1, 0, none⟩ = false := (hB6.frozen (by simp; omega)).trans f3
        have hk6 : KB w4.heap.size (w4.heap.size + 2 + 1) W2 w6 :=
          ⟨Nat.le_trans hk5.size hL6.size, fun r h1 h2 => (hL6.block r (by omega)).trans (hk5.same r h1 (by omega))⟩
        have HR2 := Lib.hid r2; have HR3 := Lib.hid r3
        clear r2 r3 hix
        have R2 := HR2.out; have R3 := HR3.out
        generalize hq : (y == 2) = q
        have HQ := Lib.hid hq; clear hq
        cases q
        · gi_wp2
          refine ⟨hk6, hB6, fun l' hl' => ?_⟩
          rw [List.mem_append, List.mem_singleton] at hl'
          rcases hl' with h | h
          · exact HP.out l' h
          · subst h; rw [HV.out]; exact HQ.out
        · gi_wp2
          refine ⟨⟨by simpa using hk6.size, fun r h1 h2 => (Below.heap_setCell _ _ _ _ (by simp; omega)).trans (hk6.same r h1 h2)⟩, rfl, ?_, bset (btr hB0 hB6) (by simp; omega) _, World.cell?_setCell_same' _ _ _ (by rw [R2]; rfl)⟩
          unfold endsB
          rw [List.any_eq_true]
          exact ⟨lx, HLX.out, by rw [HV.out]; exact HQ.out⟩
  case done =>
    rintro W ⟨hB, hpre⟩ hD
    have HD := Lib.hid hD; have HP := Lib.hid hpre; clear hD hpre
    have R2 : W.cell? ⟨w.heap.size + 1 + 1 + 1, 0, none⟩ = some (.bool false) := (hB.cell (by simp; omega)).trans c3
    have R3 : W.frozen? ⟨w.heap.size + 1 + 1 + 1, 0, none⟩ = false := (hB.frozen (by simp; omega)).trans f3
    gi_wp2
    have hD2 : (W.setCell ⟨w.heap.size + 1 + 1 + 1, 0, none⟩ (.bool false)).heap[w4.heap.size]? = some (.deferred (some [])) := (Below.heap_setCell _ _ _ _ (by simp; omega)).trans HD.out
    refine ⟨by simp, .inl ⟨_, _, rfl, run_takeDeferred hD2, ?_⟩⟩
    have cX : ((W.setCell ⟨w.heap.size + 1 + 1 + 1, 0, none⟩ (.bool false)).putObj w4.heap.size (.deferred none)).cell? ⟨w.heap.size + 1 + 1 + 1, 0, none⟩ = some (.bool false) :=
      cell_put _ _ (World.cell?_setCell_same' _ _ _ (by rw [R2]; rfl)) (by simp; omega)
    have bX : Below w.heap.size w ((W.setCell ⟨w.heap.size + 1 + 1 + 1, 0, none⟩ (.bool false)).putObj w4.heap.size (.deferred none)) :=
      below_put (bset (btr hB0 hB) (by simp; omega) _) _ (by omega)
    generalize (W.setCell ⟨w.heap.size + 1 + 1 + 1, 0, none⟩ (.bool false)).putObj w4.heap.size (.deferred none) = X at *
    refine ⟨.bool false, results_cell rfl rfl (by go_simp), ?_, bX⟩
    have : endsB p V place at_ = false := by
      unfold endsB
      rw [← Bool.not_eq_true, List.any_eq_true]
      rintro ⟨l, hl, h⟩
      rw [HP.out l hl] at h
      cases h
    rw [this]
  case stop =>
    rintro c pre W hpre ⟨rfl, hnb, hB, hc⟩ hD
    have HD := Lib.hid hD; have HNB := Lib.hid hnb; clear hD hnb
    gi_wp2
    refine ⟨by simp, .inl ⟨_, _, rfl, run_takeDeferred HD.out, ?_⟩⟩
    have cX : (W.putObj w4.heap.size (.deferred none)).cell? ⟨w.heap.size + 3, 0, none⟩ = some (.bool true) := cell_put _ _ hc (by simp; omega)
    have bX : Below w.heap.size w (W.putObj w4.heap.size (.deferred none)) := below_put hB _ (by omega)
    generalize W.putObj w4.heap.size (.deferred none) = X at *
    exact ⟨.bool true, results_cell rfl rfl (by go_simp), by rw [HNB.out], bX⟩
end Go.Proofs.Ytdnaipiiponhpaa

namespace Go.Proofs.Ytdnaipiiponhpaa
open Go.RowKit Go.Shelf
attribute [local go_sem] Oper.semAt_some
theorem run_store_fn (P : Program) (w : World) (a : Addr) (m : Mode) (f : Fn) (x y : Array Value) : (store a (.func f x y) m).run P w = stored P w a (.func f x y) m := run_store P w a _ m rfl
attribute [local go_sem] run_store_fn

/-- The first pattern that a row does not sort. -/
def patternO (p : Nat) (V : List (Int × Int)) : Option (List Int) := (lanes p).find? fun l => !sortedB ((runV V l).take p)
def patternL (p : Nat) (V : List (Int × Int)) : List Int := match patternO p V with | some l => l.take p | none => []
def patternE (p : Nat) (V : List (Int × Int)) : Int := match patternO p V with | some _ => 0 | none => 5

set_option maxRecDepth 100000 in
set_option maxHeartbeats 400000 in
theorem pattern_no (p : Int) (x : Value) (V : List (Int × Int)) (w : World) (hx0 : RdP w x V) (hl : V.length ≤ 1000) (h : checkR p V ≠ 0) :
    Calls Try.prog 23 #[.agg #[.int .i64 p, x]] w fun e w' => e = .returned (.tuple #[.slice none 0 0, .int .i64 (checkR p V)]) ∧ Below w.heap.size w w' := by
  obtain ⟨a, ca, rfl, _, _, _⟩ := hx0.form
  have H0 := Lib.hid (fun w1 (hB : Below w.heap.size w w1) => open_no p (.slice a V.length ca) V w1 (hx0.mono hB) hl h)
  generalize hc : checkR p V = c at *
  have HC := Lib.hid hc; clear hc
  have hcb : (c != 0) = true := by simpa using h
  have hce : (c == 0) = false := by simpa using h
  clear h
  go_enter Try.func23, Try.ntmps23
  go_wp2_with fail
  go_step3
  go_wp2_with fail
  refine (H0.out _ (bal (bal (bal (bz _) _) _) _)).mono ?_
  rintro e w2 ⟨rfl, hB2⟩
  have hB3 : Below w.heap.size w w2 := btr (bal (bal (bal (bz _) _) _) _) hB2
  have r1 : w2.cell? ⟨w.heap.size + 1, 0, none⟩ = some (.slice none 0 0) := (hB2.cell (by simp)).trans (cal _ (cnew (by simp) rfl))
  have r2 : w2.cell? ⟨w.heap.size + 1 + 1, 0, none⟩ = some (.int .i64 0) := (hB2.cell (by simp)).trans (cnew (by simp) rfl)
  have f1 : w2.frozen? ⟨w.heap.size + 1, 0, none⟩ = false := (hB2.frozen (by simp)).trans (fal _ (fnew (by simp)) (by simp))
  have f2 : w2.frozen? ⟨w.heap.size + 1 + 1, 0, none⟩ = false := (hB2.frozen (by simp)).trans (fnew (by simp))
  have hz2 := hB2.size
  simp only [World.size_alloc] at hz2
  clear hB2
  have z1 : w.heap.size + 1 < w2.heap.size := by omega
  have z2 : w.heap.size + 1 + 1 < w2.heap.size := by omega
  go_wp2
  simp only [Exit.noGoto]
  refine bodyPost_ret (results_cell2 rfl rfl rfl (v := .slice none 0 0) (v' := .int .i64 c) ?_ ?_) rfl ⟨rfl, ?_⟩
  · go_simp
  · go_simp
  · exact bal (bset (bset hB3 (by simp) _) (by simp; omega) _) _

theorem abides_heap' {lo hi j : Nat} {o : Obj} (h1 : j < lo ∨ hi ≤ j) : Abides1 lo hi (fun W => W.heap[j]? = some o) :=
  fun _ _ _ h hg hr => (hg.block j (Array.getElem?_eq_some_iff.1 h).1 (fun e => by have := hr _ e.symm; omega)).trans h
theorem RdC.same {w w' : World} {g n cap n' : Nat} {cs : List Value} (h : RdC w (.slice (some ⟨g, 0, none⟩) n cap) n' cs) (hg : w'.heap[g]? = w.heap[g]?) : RdC w' (.slice (some ⟨g, 0, none⟩) n cap) n' cs := by
  obtain ⟨a, cap', e, h1, h2, h⟩ := h
  refine ⟨a, cap', e, h1, h2, fun hne => ?_⟩
  obtain ⟨b, off, rfl, h3, h4⟩ := h hne
  cases e
  have h5 : g < w'.heap.size := by
    rw [Array.getElem?_eq_getElem h3] at hg
    exact (Array.getElem?_eq_some_iff.1 hg).1
  exact ⟨g, 0, rfl, h5, fun j u hu => (World.cell?_of_block (by simpa using hg)).trans (h4 j u hu)⟩
theorem owns_clear {base e g n cap : Nat} {z : Value} (k : Nat) : ∀ (o : Nat) (w : World), w.ownsRow base e 1 (.slice (some ⟨g, 0, none⟩) n cap) n (List.replicate n z) → (w.setCells g o (List.replicate k z)).ownsRow base e 1 (.slice (some ⟨g, 0, none⟩) n cap) n (List.replicate n z) := by
  induction k with
  | zero => intro o w h; exact h
  | succ k ih =>
    intro o w h
    rw [List.replicate_succ]
    refine ih (o + 1) _ ?_
    have := (h.stored o z).1
    rw [List.set_replicate_self] at this
    exact this
theorem bsets {a : World} {g : Nat} {z : Value} (hg : a.heap.size ≤ g) (k : Nat) : ∀ (o : Nat) (w : World), Below a.heap.size a w → Below a.heap.size a (w.setCells g o (List.replicate k z)) := by
  induction k with
  | zero => intro o w h; exact h
  | succ k ih =>
    intro o w h
    rw [List.replicate_succ]
    exact ih (o + 1) _ (bset h hg _)
/-- The first k numbers of a list, and nothing behind them. -/
def fillK (p k : Nat) (l : List Int) : List Int := (List.range p).map fun j => if j < k then l[j]?.getD 0 else 0
theorem fillK_zero (p : Nat) (l : List Int) : fillK p 0 l = List.replicate p 0 := by
  apply List.ext_getElem
  · simp [fillK]
  · intro i h1 h2; simp [fillK]
theorem fillK_length (p k : Nat) (l : List Int) : (fillK p k l).length = p := by simp [fillK]
theorem fillK_all (p : Nat) (l : List Int) (h : p ≤ l.length) : fillK p p l = l.take p := by
  apply List.ext_getElem
  · simp [fillK]; omega
  · intro i h1 h2
    have h3 : i < p := by simpa [fillK] using h1
    simp [fillK, h3, show i < l.length by omega]
theorem fillK_step (p k : Nat) (l : List Int) (_hk : k < p) : (fillK p k l).set k (l[k]?.getD 0) = fillK p (k + 1) l := by
  apply List.ext_getElem
  · simp [fillK]
  · intro i h1 h2
    have h3 : i < p := by simpa [fillK] using h2
    rw [List.getElem_set]
    by_cases e : k = i
    · subst e; simp [fillK]
    · simp only [fillK, List.getElem_map, List.getElem_range, if_neg e]
      by_cases h : i < k
      · rw [if_pos h, if_pos (by omega)]
      · rw [if_neg h, if_neg (by omega)]
theorem owns_lt {w : World} {base e g n cap : Nat} {cs : List Value} (h : w.ownsRow base e 1 (.slice (some ⟨g, 0, none⟩) n cap) n cs) (hn : 0 < n) : g < w.heap.size := by
  have h1 := h.cellAt 0 (by omega)
  have h2 : 0 < cs.length := by rw [h.1]; omega
  rw [List.getElem?_eq_getElem h2] at h1
  exact World.block_lt_of_cell? _ _ h1
theorem grown_of {a w : World} (h : Below a.heap.size a w) : a.grownBy w none := ⟨h.os, h.tape, h.output, h.size, fun r h1 _ => h.block r h1⟩
theorem owns_kept {w w' : World} {base e size n : Nat} {v : Value} {xs : List Value} (h : w.ownsRow base e size v n xs) (hb : Below w.heap.size w w') : w'.ownsRow base e size v n xs := by
  refine h.kept (grown_of hb) ?_
  cases hv : v.ownBlock with
  | none => exact .inl rfl
  | some k => exact .inr (by simp)
theorem find_prefix {α : Type} {q : α → Bool} {pre xs : List α} {x : α} (h : pre ++ [x] <+: xs) (h1 : ∀ l ∈ pre, q l = false) (h2 : q x = true) : xs.find? q = some x := by
  obtain ⟨ys, rfl⟩ := h
  have e : pre.find? q = none := by rw [List.find?_eq_none]; intro l hl; rw [h1 l hl]; simp
  rw [List.append_assoc, List.find?_append, e]
  simp [h2]
theorem zero3 (w : World) : (zeroValue 3).run Try.prog w = .ok (.int .i64 0) w := by kernel_rfl
theorem Try.info3' : (Try.prog.info? 3).map (fun i => (i.zero, i.size, i.bytes)) = some (some (.int .i64 0), 1, 8) := by kernel_rfl

set_option maxRecDepth 100000 in
set_option maxHeartbeats 2000000 in
theorem pattern_ok (p : Nat) (x : Value) (V : List (Int × Int)) (w : World) (hx0 : RdP w x V) (hV : OkRow p V) :
    Calls Try.prog 23 #[.agg #[.int .i64 p, x]] w fun e w' => ∃ v, e = .returned (.tuple #[v, .int .i64 (patternE p V)]) ∧ RdI w' .i64 v (patternL p V) ∧ Below w.heap.size w w' := by
  have hp1 := hV.p1; have hp8 := hV.p8; have h40 := hV.len
  obtain ⟨a, ca, rfl, hca, hca2, _⟩ := hx0.form
  refine callsIn_wide (n := 10).1 ?_
  refine callsIn_of_wp_marks Try.func23 rfl trivial ?_ rfl
  simp only [Try.ntmps23, List.size_toArray, List.length_cons, List.length_nil, Nat.reduceAdd, Nat.reduceSub, Array.replicate_succ, Array.replicate_zero, List.push_toArray, List.append_toArray, List.nil_append, List.cons_append]
  gi_wp2_with fail
  refine wpIn_wide.2 (wp_scope_straight (wpIn_wide (n := 10).1 ?_))
  gi_wp2_with fail
  refine ⟨trivial, callsIn_wide.2 ((open_ok p _ V _ (hx0.mono (bal (bal (bal (bz _) _) _) _)) hV).mono ?_)⟩
  rintro e w2 ⟨b, rfl, hb0, hb, hB2⟩
  have hz2 := hB2.size
  have hB3 : Below w.heap.size w w2 := btr (bal (bal (bal (bz _) _) _) _) hB2
  have r1 : w2.cell? ⟨w.heap.size + 1, 0, none⟩ = some (.slice none 0 0) := (hB2.cell (by simp)).trans (cal _ (cnew (by simp) rfl))
  have r2 : w2.cell? ⟨w.heap.size + 1 + 1, 0, none⟩ = some (.int .i64 0) := (hB2.cell (by simp)).trans (cnew (by simp) rfl)
  have f1 : w2.frozen? ⟨w.heap.size + 1, 0, none⟩ = false := (hB2.frozen (by simp)).trans (fal _ (fnew (by simp)) (by simp))
  have f2 : w2.frozen? ⟨w.heap.size + 1 + 1, 0, none⟩ = false := (hB2.frozen (by simp)).trans (fnew (by simp))
  simp only [World.size_alloc] at hz2 hb0
  clear hB2
  have z1 : w.heap.size + 1 < w2.heap.size := by omega
  have z2 : w.heap.size + 1 + 1 < w2.heap.size := by omega
  gi_wp2_with fail
  refine wpIn_wide.2 (wp_label ?_)
  gi_wp2_with fail
  refine ⟨trivial, callsIn_wide.2 ((patterns_any _ _).mono ?_)⟩
  rintro e w4 ⟨rfl, hw4⟩
  have hb2 : Below w2.heap.size w2 w4 := by rw [← hw4]; exact bal (bal (bal (bz _) _) _) _
  have hsz : w2.heap.size + 3 ≤ w4.heap.size := by rw [← hw4]; simp
  have c0 : w4.cell? ⟨w2.heap.size, 0, none⟩ = some (.pointer (some ⟨b, 0, none⟩)) := by rw [← hw4]; exact cal _ (cal _ (cnew rfl rfl))
  have c1 : w4.cell? ⟨w2.heap.size + 1, 0, none⟩ = some (.func (.func 64) #[.pointer (some ⟨b, 0, none⟩)] #[]) := by rw [← hw4]; exact cal _ (cnew (by simp) rfl)
  have c3 : w4.cell? ⟨w2.heap.size + 2, 0, none⟩ = some (.pointer (some ⟨b, 0, none⟩)) := by rw [← hw4]; exact cnew (by simp) rfl
  simp only [World.size_alloc]
  clear hw4
  have hx2 := hx0.mono hB3
  have hb4 := hb.mono hb2
  have hx4 := hx2.mono hb2
  have hB4 : Below w.heap.size w w4 := btr hB3 hb2
  have R1 := Lib.hid ((hb2.cell (p := ⟨w.heap.size + 1, 0, none⟩) z1).trans r1)
  have R2 := Lib.hid ((hb2.cell (p := ⟨w.heap.size + 1 + 1, 0, none⟩) z2).trans r2)
  have F1 := Lib.hid ((hb2.frozen (p := ⟨w.heap.size + 1, 0, none⟩) z1).trans f1)
  have F2 := Lib.hid ((hb2.frozen (p := ⟨w.heap.size + 1 + 1, 0, none⟩) z2).trans f2)
  clear r1 r2 f1 f2
  gi_wp2_with fail
  refine range_law (gf := 80) (lb := #[.pointer (some ⟨w2.heap.size + 2, 0, none⟩)]) rfl (enters_of Try.func80 (by kernel_rfl) rfl) (patterns_yields _ (w2.heap.size + 2) b p _ (by omega) (by omega)) (fun _ => rfl)
    (fun pre W => Below w4.heap.size w4 W ∧ ∀ l ∈ pre, sortedB ((runV V l).take p) = true)
    (fun c pre W => c = .ret ∧ ∃ lx g o, patternO p V = some lx ∧ w4.heap.size + 2 + 1 ≤ g ∧ (∀ W' : World, W'.heap[g]? = some o → RdI W' .i64 (.slice (some ⟨g, 0, none⟩) p p) (lx.take p)) ∧ W.heap[g]? = some o ∧ Below w.heap.size w W ∧ W.cell? ⟨w.heap.size + 1, 0, none⟩ = some (.slice (some ⟨g, 0, none⟩) p p) ∧ W.cell? ⟨w.heap.size + 1 + 1, 0, none⟩ = some (.int .i64 0))
    (fun s => (abides_below (Nat.le_refl _) (Nat.le_refl _)).and abides_pure)
    (fun c s => abides_pure.and (abides_ex fun lx => abides_ex fun g => abides_ex fun o => abides_pure.and (fun W W' row ⟨h0, h5, h1, h2, h3, h4⟩ hg hr => ⟨h0, h5, abides_heap' (.inr h0) _ _ _ h1 hg hr, abides_below (by omega) (by omega) _ _ _ h2 hg hr, abides_cell (by simp; omega) _ _ _ h3 hg hr, abides_cell (by simp; omega) _ _ _ h4 hg hr⟩)))
    (fun s W1 h => ⟨(h.1.cell (p := ⟨w2.heap.size + 2, 0, none⟩) (by simp; omega)).trans c3, hb4.mono h.1⟩)
    ⟨bz _, by simp⟩ ?round ?done ?stop
  case round =>
    rintro l pre lx W ⟨hB, hpre⟩ hpx hszW
    have HLL := Lib.hid (lane_len hpx)
    have HLX : Hid (lx ∈ lanes p) := by obtain ⟨ys, e⟩ := hpx; rw [← e]; exact Lib.hid (by simp)
    gi_wp2_with (refine inStoreRow (fun _ => trivial) rfl 75 (.tmp 7) (.tmp 22) rfl W.heap.size (arrI lx) rfl rfl 75 _ (heap_alloc_new _ _) (arr8 _ HLL.out) (by rw [arrI_size, HLL.out]; rfl) (one_arr _) ?_)
    refine ⟨kf_box _ _ _ _ _, fun W2 hg2 hs2 => ?_⟩
    obtain ⟨hl2, hze, hB2, _⟩ := round_start (by omega) hg2 hs2
    have hzw : W.heap.size < W2.heap.size := by omega
    clear hze
    have hB5 : Below w4.heap.size w4 W2 := hB.trans (hB2.mono (by omega))
    clear hg2 hs2
    have d0 := (hB5.cell (p := ⟨w2.heap.size, 0, none⟩) (by simp; omega)).trans c0
    have d1 := (hB5.cell (p := ⟨w2.heap.size + 1, 0, none⟩) (by simp; omega)).trans c1
    have hbb := hb4.mono hB5
    have hxx := hx4.mono hB5
    have HL2 := Lib.hid hl2; have HX := Lib.hid hpx; have HP := Lib.hid hpre
    clear hl2 hpx hpre hB2
    gi_wp2_with fail
    have HRUN := Lib.hid (show (runV V lx).length = 8 by rw [runV_length]; exact HLL.out)
    have hC : ∀ l' : Later W2, Calls Try.prog 58 #[.pointer (some ⟨b, 0, none⟩), .agg (arrI lx), .int .i64 (V.length : Int)] l'.val fun e w'' => e = .returned (.agg (arrI (runV V lx))) ∧ ∃ x : Later W2, w'' = x.val := by
      intro l'
      have := run_any b p _ V lx V.length l'.val (hbb.mono l'.le) (hxx.mono l'.le) (Nat.le_refl _) hV HLL.out
      rw [List.take_length] at this
      exact Calls.later this
    have hS : ∀ l' : Later W2, Calls Try.prog 64 #[.pointer (some ⟨b, 0, none⟩), .agg (arrI (runV V lx))] l'.val fun e w'' => e = .returned (.bool (sortedB ((runV V lx).take p))) ∧ ∃ x : Later W2, w'' = x.val := by
      intro l'
      have := bsorted_any b p _ (runV V lx) l'.val (hbb.mono l'.le) (by omega) (by omega) HRUN.out
      exact Calls.later this
    have HC := Lib.hid hC; have HS := Lib.hid hS; clear hC hS
    obtain ⟨q0, q1, q2⟩ := hbb
    have hL := @Later.cell W2
    have l0 := World.block_lt_of_cell? W2 _ d0
    have l2 := World.block_lt_of_cell? W2 _ d1
    simp only at l0 l2
    generalize hv : sortedB ((runV V lx).take p) = y at *
    have HV := Lib.hid hv; clear hv
    simp only [Act.put]
    refine in_region_later (r := some l) (by kernel_rfl) (by kernel_rfl) (by rfl) ?_
    repeat (first
      | (refine wpQuiet_load_row rfl 75 (.tmp 7) rfl W.heap.size rfl 75 (arrI lx) (0, 0) _ HL2.out Try.underlying75 rfl (arr8 _ HLL.out) ?_)
      | (quiet_step (first | (go_at_call 58; exact HC.out _) | (go_at_call 64; exact HS.out _))))
    refine wpQuiet_nil ?_
    intro w6 hw6
    have hL6 : Below W2.heap.size W2 w6 := by obtain ⟨⟨_, h⟩, rfl⟩ := hw6; exact h
    clear hw6
    have hB6 : Below w4.heap.size w4 w6 := btr hB5 hL6
    cases y
    · have e0 := (hB6.cell (p := ⟨w2.heap.size, 0, none⟩) (by simp; omega)).trans c0
      have hbe := hb4.mono hB6
      have hl6 := (hL6.block W.heap.size (by omega)).trans HL2.out
      have hzw6 := hL6.size
      obtain ⟨i0, hi, hz0, hz1, hz2⟩ := info_parts Try.info3'
      obtain ⟨w7, hmk, hown, hgrow⟩ := run_makeSlice_full (P := Try.prog) (w := w6) w6.heap.size 34 3 i0 (.int .i64 0) 1 Try.underlying34 hi hz0 hz1 .i64 .i64 p (by omega) (by rw [hz2]; omega) (by simp only [maxLen]; omega) (Nat.le_refl _)
      rw [Nat.mul_one, show (Value.int .i64 0).cells = #[Value.int .i64 0] from rfl, made_zeros, List.map_replicate] at hown
      have hB7 := bgr (bz w6) hgrow (fun k h => by cases h)
      have hcl : ∀ ty, (Builtin.clear_ #[34] ty #[.slice (some ⟨w6.heap.size, 0, none⟩) p p]).run Try.prog w7 = .ok (.tuple #[]) (w7.setCells w6.heap.size 0 (List.replicate p (.int .i64 0))) :=
        fun ty => Lib.run_clear_slice w7 34 3 ty (.int .i64 0) Try.underlying34 zero3 rfl rfl w6.heap.size 0 p p (by omega) (fun j hj => by have := hown.cellAt j (by omega); rw [Nat.zero_add, this]; simp [hj]) (fun j hj => by rw [Nat.zero_add]; exact hown.frozenAt j)
      have hown8 := owns_clear p 0 w7 hown
      have hB8 := bsets (Nat.le_refl _) (z := .int .i64 0) p 0 w7 hB7
      obtain ⟨q0, q1, q2⟩ := hbe
      have HL6 := Lib.hid hl6; clear hl6
      have HO := Lib.hid hown8
      clear hown hown8 hgrow hB7
      generalize hw8 : w7.setCells w6.heap.size 0 (List.replicate p (.int .i64 0)) = w8 at *
      gi_wp2
      clear hw8 hcl hmk w7
      have hz8 : w6.heap.size < w8.heap.size := owns_lt HO.out (by omega)
      gi_loopw [9, 43, 44, 45, 46, 47, 48, 49, 50, 51, 52, 53, 54, 55] (fun _ i _ _ _ _ _ _ _ _ _ _ _ _ wr => ∃ k : Nat, k ≤ p ∧ i = .int .i64 k ∧ Below w6.heap.size w6 wr ∧ wr.ownsRow w6.heap.size 3 1 (.slice (some ⟨w6.heap.size, 0, none⟩) p p) p ((fillK p k lx).map (Value.int .i64)))
        (fun _ i _ _ _ _ _ _ _ _ _ _ _ _ _ => ((p : Int) - intOf i).toNat)
      case atStart => exact ⟨0, Nat.zero_le _, rfl, hB8, by rw [fillK_zero, List.map_replicate]; exact HO.out⟩
      case round =>
        obtain ⟨k, hk, rfl, hbr, hor⟩ := hrel
        by_cases hkp : k < p
        · have hbit := lane_bits HLX.out k
          have hlr := (hbr.block W.heap.size (by omega)).trans HL6.out
          have hcc : wr.cell? ⟨W.heap.size, k, none⟩ = some (.int .i64 (lx[k]?.getD 0)) := (cell_of_row wr _ _ _ _ _ hlr).trans (arrI_get _ _ (by rw [HLL.out]; omega))
          have cf := hor.frozenAt k
          have cc := hor.cellAt k (by omega)
          have e0 : ((fillK p k lx).map (Value.int .i64))[k]? = some (.int .i64 0) := by simp [fillK, hkp]
          rw [e0] at cc
          have hO := Lib.hid hor
          have hwz := hbr.size
          have hk8 : (k : Int) < 8 := by omega
          have hWw : W.heap.size < wr.heap.size := by omega
          have hnew : ∀ W' : World, Below wr.heap.size wr W' → (W'.setCell ⟨w6.heap.size, k, none⟩ (.int .i64 (lx[k]?.getD 0))).ownsRow w6.heap.size 3 1 (.slice (some ⟨w6.heap.size, 0, none⟩) p p) p ((fillK p (k + 1) lx).map (Value.int .i64)) := by
            intro W' hW'
            have := ((owns_kept hor hW').stored k (.int .i64 (lx[k]?.getD 0))).1
            rw [← List.map_set, fillK_step p k lx hkp] at this
            exact this
          have HN := Lib.hid hnew
          have hgl := owns_lt hor (by omega)
          clear hor hnew hlr e0
          generalize lx[k]?.getD 0 = v at *
          have hwv : IntKind.i64.wrap (0 + v) = v := by rw [Int.zero_add]; exact IntWalk.i64_in _ (by omega)
          have hL := @Later.cell wr
          gi_wp2
          refine in_region_tail (r := some l) 9 (by kernel_rfl) (by kernel_rfl) (by rfl) (by intro h; obtain ⟨_, _, h⟩ := h; exact h) ?_
          simp only [List.take_succ_cons, List.take_zero]
          repeat (quiet_step (fail))
          refine wpQuiet_nil ?_
          intro w9 hw9
          have hL9 : Below wr.heap.size wr w9 := by obtain ⟨⟨_, h⟩, rfl⟩ := hw9; exact h
          clear hw9 hL hcc
          have cf9 := (hL9.frozen (p := ⟨w6.heap.size, k, none⟩) hgl).trans cf
          have cc9 := (hL9.cell (p := ⟨w6.heap.size, k, none⟩) hgl).trans cc
          clear cf cc
          have hgl9 : w6.heap.size < w9.heap.size := by have := hL9.size; omega
          simp only [List.drop_succ_cons, List.drop_zero]
          go_wp2
          gi_wp2
          exact ⟨⟨k + 1, by omega, by simp, bset (btr hbr hL9) (by simp) _, HN.out _ hL9⟩, by simp [intOf]; omega⟩
        · have hkk : k = p := by omega
          subst hkk
          rw [fillK_all _ _ (by rw [HLL.out]; omega)] at hor
          have hrd := RdI.of_owns hor
          have hgl := owns_lt hor (by omega)
          obtain ⟨o, ho⟩ : ∃ o, wr.heap[w6.heap.size]? = some o := ⟨_, Array.getElem?_eq_getElem hgl⟩
          have hwz := hbr.size
          have hB9 : Below w4.heap.size w4 wr := btr hB6 hbr
          have hK9 : KF w4.heap.size W2 wr := KF.of_below (btr hL6 hbr)
          have s1 := (hB9.cell (p := ⟨w.heap.size + 1, 0, none⟩) (by simp; omega)).trans R1.out
          have s2 := (hB9.cell (p := ⟨w.heap.size + 1 + 1, 0, none⟩) (by simp; omega)).trans R2.out
          have s3 := (hB9.frozen (p := ⟨w.heap.size + 1, 0, none⟩) (by simp; omega)).trans F1.out
          have s4 := (hB9.frozen (p := ⟨w.heap.size + 1 + 1, 0, none⟩) (by simp; omega)).trans F2.out
          have HRD := Lib.hid hrd; have HOo := Lib.hid ho
          have S1 := Lib.hid s1; have S2 := Lib.hid s2
          clear hor hrd ho
          gi_wp2
          refine ⟨(hK9.set (by simp; omega) _).set (by simp; omega) _, rfl, lx, w6.heap.size, o, find_prefix HX.out (fun l' h' => by rw [HP.out l' h']; rfl) (by rw [HV.out]; rfl), by omega, fun W' h' => RdC.same HRD.out (h'.trans HOo.out.symm), ?_, bset (bset (btr hB4 hB9) (by simp) _) (by simp; omega) _, ?_, ?_⟩
          · exact (Below.heap_setCell _ _ _ _ (by simp; omega)).trans ((Below.heap_setCell _ _ _ _ (by simp; omega)).trans HOo.out)
          · exact (World.cell?_of_block (Below.heap_setCell _ _ _ _ (by simp))).trans (World.cell?_setCell_same' _ _ _ (by rw [S1.out]; rfl))
          · exact World.cell?_setCell_same' _ _ _ (by rw [World.cell?_of_block (w := wr) (Below.heap_setCell _ _ _ _ (by simp)), S2.out]; rfl)
    · gi_wp2
      refine ⟨KF.of_below hL6, hB6, fun l' hl' => ?_⟩
      rw [List.mem_append, List.mem_singleton] at hl'
      rcases hl' with h | h
      · exact HP.out l' h
      · subst h; exact HV.out
  case done =>
    rintro W ⟨hB, hpre⟩ hD
    have HD := Lib.hid hD; have HP := Lib.hid hpre; clear hD hpre
    have s1 := (hB.cell (p := ⟨w.heap.size + 1, 0, none⟩) (by simp; omega)).trans R1.out
    have s2 := (hB.cell (p := ⟨w.heap.size + 1 + 1, 0, none⟩) (by simp; omega)).trans R2.out
    have s3 := (hB.frozen (p := ⟨w.heap.size + 1, 0, none⟩) (by simp; omega)).trans F1.out
    have s4 := (hB.frozen (p := ⟨w.heap.size + 1 + 1, 0, none⟩) (by simp; omega)).trans F2.out
    have S1 := Lib.hid s1; have S2 := Lib.hid s2
    have hn : patternO p V = none := by
      unfold patternO
      rw [List.find?_eq_none]
      intro l hl
      rw [HP.out l hl]
      simp
    have HN := Lib.hid hn; clear hn
    gi_wp2
    simp only [Exit.noGoto]
    have hD2 : ((W.setCell ⟨w.heap.size + 1, 0, none⟩ (.slice none 0 0)).setCell ⟨w.heap.size + 1 + 1, 0, none⟩ (.int .i64 5)).heap[w4.heap.size]? = some (.deferred (some [])) :=
      (Below.heap_setCell _ _ _ _ (by simp; omega)).trans ((Below.heap_setCell _ _ _ _ (by simp; omega)).trans HD.out)
    refine ⟨by simp, .inl ⟨_, _, rfl, run_takeDeferred hD2, ?_⟩⟩
    have g1 : ((W.setCell ⟨w.heap.size + 1, 0, none⟩ (.slice none 0 0)).setCell ⟨w.heap.size + 1 + 1, 0, none⟩ (.int .i64 5)).cell? ⟨w.heap.size + 1, 0, none⟩ = some (.slice none 0 0) :=
      (World.cell?_of_block (Below.heap_setCell _ _ _ _ (by simp))).trans (World.cell?_setCell_same' _ _ _ (by rw [S1.out]; rfl))
    have g2 : ((W.setCell ⟨w.heap.size + 1, 0, none⟩ (.slice none 0 0)).setCell ⟨w.heap.size + 1 + 1, 0, none⟩ (.int .i64 5)).cell? ⟨w.heap.size + 1 + 1, 0, none⟩ = some (.int .i64 5) :=
      World.cell?_setCell_same' _ _ _ (by rw [World.cell?_of_block (w := W) (Below.heap_setCell _ _ _ _ (by simp)), S2.out]; rfl)
    have cX1 := cell_put w4.heap.size (.deferred none) g1 (by simp; omega)
    have cX2 := cell_put w4.heap.size (.deferred none) g2 (by simp; omega)
    have bX : Below w.heap.size w (((W.setCell ⟨w.heap.size + 1, 0, none⟩ (.slice none 0 0)).setCell ⟨w.heap.size + 1 + 1, 0, none⟩ (.int .i64 5)).putObj w4.heap.size (.deferred none)) :=
      below_put (bset (bset (btr hB4 hB) (by simp) _) (by simp; omega) _) _ (by omega)
    generalize ((W.setCell ⟨w.heap.size + 1, 0, none⟩ (.slice none 0 0)).setCell ⟨w.heap.size + 1 + 1, 0, none⟩ (.int .i64 5)).putObj w4.heap.size (.deferred none) = X at *
    refine ⟨_, results_cell2 rfl rfl rfl (v := .slice none 0 0) (v' := .int .i64 5) (by go_simp) (by go_simp), .slice none 0 0, ?_, ?_, bX⟩
    · unfold patternE; rw [HN.out]
    · unfold patternL; rw [HN.out]; exact ⟨none, 0, rfl, Nat.le_refl _, by unfold maxLen; omega, fun h => absurd rfl h⟩
  case stop =>
    rintro c pre W hpre ⟨rfl, lx, g, o, hpo, hge, hrd, hgo, hB, hc1, hc2⟩ hD
    have HD := Lib.hid hD; have HN := Lib.hid hpo; have HRD := Lib.hid hrd; have HGO := Lib.hid hgo; clear hD hpo hrd hgo
    gi_wp2
    simp only [Exit.noGoto]
    refine ⟨by simp, .inl ⟨_, _, rfl, run_takeDeferred HD.out, ?_⟩⟩
    have cX1 := cell_put w4.heap.size (.deferred none) hc1 (by simp; omega)
    have cX2 := cell_put w4.heap.size (.deferred none) hc2 (by simp; omega)
    have hX : (W.putObj w4.heap.size (.deferred none)).heap[g]? = some o := (World.putObj_heap_other (by omega)).trans HGO.out
    have HX := Lib.hid hX; clear hX
    have bX : Below w.heap.size w (W.putObj w4.heap.size (.deferred none)) := below_put hB _ (by omega)
    generalize W.putObj w4.heap.size (.deferred none) = X at *
    refine ⟨_, results_cell2 rfl rfl rfl (v := .slice (some ⟨g, 0, none⟩) p p) (v' := .int .i64 0) (by go_simp) (by go_simp), .slice (some ⟨g, 0, none⟩) p p, ?_, ?_, bX⟩
    · unfold patternE; rw [HN.out]
    · unfold patternL; rw [HN.out]; exact HRD.out X HX.out
end Go.Proofs.Ytdnaipiiponhpaa

namespace Go.Proofs.Ytdnaipiiponhpaa
open Go.RowKit Go.Shelf

theorem cond_row {p : Int} {V : List (Int × Int)} (h : checkR p V = 0) : ∃ n : Nat, p = n ∧ OkRow n V := by
  have hV := okRow_of h
  have h1 := hV.p1
  refine ⟨p.toNat, by omega, ?_⟩
  rw [show ((p.toNat : Nat) : Int) = p by omega]
  exact hV
/-- Pattern's answers. -/
def patE (p : Int) (V : List (Int × Int)) : Int := if checkR p V = 0 then patternE p.toNat V else checkR p V
def patL (p : Int) (V : List (Int × Int)) : List Int := if checkR p V = 0 then patternL p.toNat V else []
theorem rdI_nil (w : World) (k : IntKind) : RdI w k (.slice none 0 0) [] := ⟨none, 0, rfl, Nat.le_refl _, by unfold maxLen; omega, fun h => absurd rfl h⟩
theorem pattern_any (p : Int) (x : Value) (V : List (Int × Int)) (w : World) (hx0 : RdP w x V) (hl : V.length ≤ 1000) :
    Calls Try.prog 23 #[.agg #[.int .i64 p, x]] w fun e w' => ∃ v, e = .returned (.tuple #[v, .int .i64 (patE p V)]) ∧ RdI w' .i64 v (patL p V) ∧ Below w.heap.size w w' := by
  by_cases h : checkR p V = 0
  · obtain ⟨n, rfl, hV⟩ := cond_row h
    refine (pattern_ok n x V w hx0 hV).mono ?_
    rintro e w' ⟨v, rfl, h1, h2⟩
    refine ⟨v, ?_, ?_, h2⟩
    · unfold patE; rw [if_pos h]; rfl
    · unfold patL; rw [if_pos h]; exact h1
  · refine (pattern_no p x V w hx0 hl h).mono ?_
    rintro e w' ⟨rfl, h2⟩
    refine ⟨.slice none 0 0, ?_, ?_, h2⟩
    · unfold patE; rw [if_neg h]
    · unfold patL; rw [if_neg h]; exact rdI_nil _ _
/-- Sorts' answer. -/
def sortsE (p : Int) (V : List (Int × Int)) : Int := if patE p V = 0 then 23 else if patE p V = 5 then 0 else patE p V

set_option maxRecDepth 100000 in
set_option maxHeartbeats 400000 in
theorem sorts_any (p : Int) (x : Value) (V : List (Int × Int)) (w : World) (hx0 : RdP w x V) (hl : V.length ≤ 1000) :
    Calls Try.prog 27 #[.agg #[.int .i64 p, x]] w fun e w' => e = .returned (.int .i64 (sortsE p V)) ∧ Below w.heap.size w w' := by
  obtain ⟨a, ca, rfl, _, _, _⟩ := hx0.form
  have H0 := Lib.hid (pattern_any p _ V _ (hx0.mono (bal (bz w) (.cells #[.int .i64 p, .slice a V.length ca] 24))) hl)
  unfold sortsE
  generalize patE p V = c at *
  by_cases h0 : c = 0
  · subst h0
    go_enter Try.func27, Try.ntmps27
    go_wp2_with fail
    refine H0.out.mono ?_
    rintro e w2 ⟨v, rfl, _, hB2⟩
    go_wp2
    go_ret
    exact ⟨rfl, btr (bal (bz _) _) hB2⟩
  · by_cases h5 : c = 5
    · subst h5
      go_enter Try.func27, Try.ntmps27
      go_wp2_with fail
      refine H0.out.mono ?_
      rintro e w2 ⟨v, rfl, _, hB2⟩
      go_wp2
      go_ret
      exact ⟨rfl, btr (bal (bz _) _) hB2⟩
    · have e0 : (c == 0) = false := by simpa using h0
      have e5 : (c == 5) = false := by simpa using h5
      go_enter Try.func27, Try.ntmps27
      go_wp2_with fail
      refine H0.out.mono ?_
      rintro e w2 ⟨v, rfl, _, hB2⟩
      go_wp2
      go_ret
      exact ⟨rfl, btr (bal (bz _) _) hB2⟩

/-- CheckPattern's answer. -/
def chkPatE (p : Int) (V : List (Int × Int)) (q : List Int) : Int :=
  if checkR p V ≠ 0 then checkR p V else if (q.length : Int) ≠ p then 15 else if q.any (outB 0 1) then 3 else if sortedB ((runV V (fillK 8 q.length q)).take p.toNat) then 5 else 0

theorem fill8_set (k : Nat) (l : List Int) (hk : k < 8) : (fillK 8 k l).set k (l[k]?.getD 0) = fillK 8 (k + 1) l := fillK_step 8 k l hk

set_option maxRecDepth 100000 in
set_option maxHeartbeats 400000 in
theorem chkpat_no (p : Int) (x y : Value) (V : List (Int × Int)) (q : List Int) (w : World) (hx0 : RdP w x V) (hy0 : RdI w .i64 y q) (hl : V.length ≤ 1000) (_hq : q.length ≤ 1000) (h : checkR p V ≠ 0) :
    Calls Try.prog 29 #[.agg #[.int .i64 p, x], y] w fun e w' => e = .returned (.int .i64 (chkPatE p V q)) ∧ Below w.heap.size w w' := by
  obtain ⟨a, ca, rfl, _, _, _⟩ := hx0.form
  obtain ⟨b, cb, rfl, _, _, _⟩ := hy0.form
  have H0 := Lib.hid (open_no p _ V _ (hx0.mono (bal (bz w) (.cells #[.int .i64 p, .slice a V.length ca] 24))) hl h)
  unfold chkPatE
  rw [if_pos h]
  generalize checkR p V = c at *
  have e0 : (c != 0) = true := by simpa using h
  clear h
  go_enter Try.func29, Try.ntmps29
  go_wp2_with fail
  refine H0.out.mono ?_
  rintro e w2 ⟨rfl, hB2⟩
  go_wp2
  go_ret
  exact ⟨rfl, btr (bal (bz _) _) hB2⟩

set_option maxRecDepth 100000 in
set_option maxHeartbeats 1000000 in
theorem chkpat_ok (p : Nat) (x y : Value) (V : List (Int × Int)) (q : List Int) (w : World) (hx0 : RdP w x V) (hy0 : RdI w .i64 y q) (hV : OkRow p V) (hq : q.length ≤ 1000) :
    Calls Try.prog 29 #[.agg #[.int .i64 p, x], y] w fun e w' => e = .returned (.int .i64 (chkPatE p V q)) ∧ Below w.heap.size w w' := by
  have hp1 := hV.p1; have hp8 := hV.p8; have h40 := hV.len
  obtain ⟨a, ca, rfl, _, _, _⟩ := hx0.form
  obtain ⟨b, cb, rfl, _, _, hyf⟩ := hy0.form
  have H0 := Lib.hid (open_ok p _ V _ (hx0.mono (bal (bz w) (.cells #[.int .i64 p, .slice a V.length ca] 24))) hV)
  unfold chkPatE
  rw [if_neg (by rw [check_of_ok hV]; simp)]
  by_cases hlen : (q.length : Int) = p
  · obtain rfl : p = q.length := by omega
    clear hlen
    rw [if_neg (by simp)]
    cases hany : q.any (outB 0 1)
    · rw [if_neg (by simp), show ((q.length : Int)).toNat = q.length by omega]
      generalize hr : (if sortedB ((runV V (fillK 8 q.length q)).take q.length) = true then (5 : Int) else 0) = r
      have HR := Lib.hid hr; clear hr
      have hbits : ∀ k, k < q.length → 0 ≤ q[k]?.getD 0 ∧ q[k]?.getD 0 ≤ 1 := by
        intro k hk
        have h1 := List.any_eq_false.1 hany (q[k]'hk) (List.getElem_mem hk)
        simp only [outB, decide_eq_true_eq] at h1
        rw [List.getElem?_eq_getElem hk, Option.getD_some]
        omega
      have HA := Lib.hid hany; have HBT := Lib.hid hbits; clear hany hbits
      obtain ⟨bq, oq, rfl, hbq, hcq⟩ := hyf (by omega)
      have HCQ := Lib.hid hcq; clear hyf hcq
      go_enter Try.func29, Try.ntmps29
      go_wp2_with fail
      refine H0.out.mono ?_
      rintro e w2 ⟨bb, rfl, hb0, hb, hB2⟩
      have hB3 : Below w.heap.size w w2 := btr (bal (bz _) _) hB2
      obtain ⟨q0, q1, q2⟩ := id hb
      go_wp2_with fail
      refine (within_any _ q 0 1 _ (hy0.mono hB3) hq).mono ?_
      rintro e w3 ⟨rfl, hB4⟩
      rw [HA.out]
      have hb3 := hb.mono hB4
      have hB5 := btr hB3 hB4
      have hz3 := hB5.size
      have hx3 := hx0.mono hB5
      clear q0 q1 q2 hb hB2 hB3 hB4
      go_wp2
      go_loopw [8, 9, 34, 35, 36, 37, 38, 39, 40, 41, 42] (fun _ _ i _ _ _ _ _ _ _ _ wr => ∃ k : Nat, k ≤ q.length ∧ i = .int .i64 k ∧ Below w3.heap.size w3 wr ∧ wr.heap[w3.heap.size]? = some (.cells (arrI (fillK 8 k q)) 75 (0, 0)))
        (fun _ _ i _ _ _ _ _ _ _ _ _ => ((q.length : Int) - intOf i).toNat)
      case atStart => exact ⟨0, Nat.zero_le _, rfl, bal (bz _) _, by rw [fillK_zero]; exact heap_alloc_new _ _⟩
      case round =>
        obtain ⟨k, hk, rfl, hbr, hlr⟩ := hrel
        by_cases hkp : k < q.length
        · have hcc := ((hB5.trans (hbr.mono hz3)).cell (p := ⟨bq, oq + k, none⟩) hbq).trans (HCQ.out k hkp)
          have hbit := HBT.out k hkp
          have hff := frozen_of_row wr w3.heap.size k _ _ hlr
          have hc2 : ∃ v, wr.cell? ⟨w3.heap.size, k, none⟩ = some (.int .i64 v) := ⟨_, (cell_of_row wr _ _ _ _ _ hlr).trans (arrI_get _ _ (by rw [fillK_length]; omega))⟩
          obtain ⟨v0, hc2⟩ := hc2
          have hnew := heap_setCell_same wr w3.heap.size k _ _ (.int .i64 (q[k]?.getD 0)) hlr
          rw [arrI_set, fill8_set _ _ (by omega)] at hnew
          have hk8 : (k : Int) < 8 := by omega
          have HN := Lib.hid hnew; have HLR := Lib.hid hlr
          clear hnew hlr
          generalize q[k]?.getD 0 = v at *
          go_wp2
          exact ⟨⟨k + 1, by omega, by simp, bset hbr (by simp) _, HN.out⟩, by simp [intOf]; omega⟩
        · have hkk : k = q.length := by omega
          subst hkk
          have hbb := hb3.mono hbr
          have hxx := hx3.mono hbr
          have HLR := Lib.hid hlr
          have hgl := (Array.getElem?_eq_some_iff.1 hlr).1
          clear hlr
          have HLL := Lib.hid (fillK_length 8 q.length q)
          have HRUN := Lib.hid (show (runV V (fillK 8 q.length q)).length = 8 by rw [runV_length]; exact HLL.out)
          have hC : ∀ l' : Later wr, Calls Try.prog 58 #[.pointer (some ⟨bb, 0, none⟩), .agg (arrI (fillK 8 q.length q)), .int .i64 (V.length : Int)] l'.val fun e w'' => e = .returned (.agg (arrI (runV V (fillK 8 q.length q)))) ∧ ∃ x : Later wr, w'' = x.val := by
            intro l'
            have := run_any bb q.length _ V (fillK 8 q.length q) V.length l'.val (hbb.mono l'.le) (hxx.mono l'.le) (Nat.le_refl _) hV HLL.out
            rw [List.take_length] at this
            exact Calls.later this
          have hS : ∀ l' : Later wr, Calls Try.prog 64 #[.pointer (some ⟨bb, 0, none⟩), .agg (arrI (runV V (fillK 8 q.length q)))] l'.val fun e w'' => e = .returned (.bool (sortedB ((runV V (fillK 8 q.length q)).take q.length))) ∧ ∃ x : Later wr, w'' = x.val := by
            intro l'
            have := bsorted_any bb q.length _ (runV V (fillK 8 q.length q)) l'.val (hbb.mono l'.le) (by omega) (by omega) HRUN.out
            exact Calls.later this
          have HC := Lib.hid hC; have HS := Lib.hid hS; clear hC hS
          obtain ⟨q0, q1, q2⟩ := hbb
          have hL := @Later.cell wr
          generalize hv : sortedB ((runV V (fillK 8 q.length q)).take q.length) = sv at *
          have HV := Lib.hid hv; clear hv
          generalize fillK 8 q.length q = fq at *
          generalize runV V fq = rq at *
          go_wp2
          refine wp_region_later (by kernel_rfl) (by kernel_rfl) ?_
          repeat (first
            | (refine wpQuiet_load_row rfl 75 (.tmp 7) rfl w3.heap.size rfl 75 (arrI fq) (0, 0) _ HLR.out Try.underlying75 rfl (arr8 _ HLL.out) ?_)
            | (quiet_step (first | (go_at_call 58; exact HC.out _) | (go_at_call 64; exact HS.out _))))
          refine wpQuiet_nil ?_
          intro w6 hw6
          have hL6 : Below wr.heap.size wr w6 := by obtain ⟨⟨_, h⟩, rfl⟩ := hw6; exact h
          clear hw6
          cases sv
          · go_wp2
            go_ret
            exact ⟨ret_int (HR.out), btr (btr hB5 hbr) hL6⟩
          · go_wp2
            go_ret
            exact ⟨ret_int (HR.out), btr (btr hB5 hbr) hL6⟩
    · rw [if_pos rfl]
      have HA := Lib.hid hany; clear hany
      go_enter Try.func29, Try.ntmps29
      go_wp2_with fail
      refine H0.out.mono ?_
      rintro e w2 ⟨bb, rfl, hb0, hb, hB2⟩
      have hB3 : Below w.heap.size w w2 := btr (bal (bz _) _) hB2
      obtain ⟨q0, q1, q2⟩ := hb
      go_wp2_with fail
      refine (within_any _ q 0 1 _ (hy0.mono hB3) hq).mono ?_
      rintro e w3 ⟨rfl, hB4⟩
      rw [HA.out]
      go_wp2
      go_ret
      exact ⟨rfl, btr hB3 hB4⟩
  · rw [if_pos (by simpa using hlen)]
    go_enter Try.func29, Try.ntmps29
    go_wp2_with fail
    refine H0.out.mono ?_
    rintro e w2 ⟨bb, rfl, hb0, hb, hB2⟩
    obtain ⟨q0, q1, q2⟩ := hb
    have hne : ((q.length : Int) != (p : Int)) = true := by simpa using hlen
    go_wp2
    go_ret
    exact ⟨rfl, btr (bal (bz _) _) hB2⟩
end Go.Proofs.Ytdnaipiiponhpaa

namespace Go.Proofs.Ytdnaipiiponhpaa
open Go.RowKit Go.Shelf

/-- Run's answers. -/
def runE (p : Int) (V : List (Int × Int)) (l : List Int) : Int := if checkR p V ≠ 0 then checkR p V else if (l.length : Int) ≠ p then 15 else 0
def runR (p : Int) (V : List (Int × Int)) (l : List Int) : List Int := if checkR p V ≠ 0 then [] else if (l.length : Int) ≠ p then [] else (runV V (fillK 8 l.length l)).take l.length

theorem fills (g : Nat) (t : TypeId) (l : List Int) : ∀ (m k : Nat) (w : World), k + m = l.length → l.length ≤ 8 → w.heap[g]? = some (.cells (arrI (fillK 8 k l)) t (0, 0)) →
    (w.setCells g k ((l.drop k).map (Value.int .i64))).heap[g]? = some (.cells (arrI (fillK 8 l.length l)) t (0, 0)) := by
  intro m
  induction m with
  | zero =>
    intro k w hk _ h
    obtain rfl : k = l.length := by omega
    rw [List.drop_length]; exact h
  | succ m ih =>
    intro k w hk h8 h
    have hkl : k < l.length := by omega
    rw [List.drop_eq_getElem_cons hkl, List.map_cons]
    refine ih (k + 1) _ (by omega) h8 ?_
    have hnew := heap_setCell_same w g k _ _ (.int .i64 (l[k]?.getD 0)) h
    rw [arrI_set, fill8_set _ _ (by omega), List.getElem?_eq_getElem hkl] at hnew
    exact hnew
theorem bsets' {a : World} {g : Nat} (hg : a.heap.size ≤ g) (vs : List Value) : ∀ (o : Nat) (w : World), Below a.heap.size a w → Below a.heap.size a (w.setCells g o vs) := by
  induction vs with
  | nil => intro o w h; exact h
  | cons v vs ih => intro o w h; exact ih (o + 1) _ (bset h hg _)

theorem below_row {a W : World} (h : Below a.heap.size a W) {g : Nat} (cs : Array Value) (hg : a.heap.size ≤ g) : Below a.heap.size a (W.setRow g cs) :=
  ⟨h.os, h.tape, h.output, by have := h.size; simpa using this, fun j hj => by rw [setRow_other _ _ _ _ (by omega)]; exact h.block j hj⟩
theorem RdI.row {w : World} {g : Nat} {t : TypeId} {r : List Int} (n cap : Nat) (h : w.heap[g]? = some (.cells (arrI r) t (0, 0))) (hn : n ≤ r.length) (hc : n ≤ cap) (hm : cap ≤ maxLen) : RdI w .i64 (.slice (some ⟨g, 0, none⟩) n cap) (r.take n) := by
  have hl : (r.take n).length = n := by rw [List.length_take]; omega
  refine ⟨some ⟨g, 0, none⟩, cap, by rw [hl], by omega, hm, fun _ => ⟨g, 0, rfl, (Array.getElem?_eq_some_iff.1 h).1, fun j u hu => ?_⟩⟩
  rw [Nat.zero_add, cell_of_row w g j _ _ _ h]
  have hj : j < n := by
    have := (List.getElem?_eq_some_iff.1 hu).1
    rw [List.length_map, hl] at this
    exact this
  rw [List.getElem?_map, List.getElem?_take, if_pos hj] at hu
  unfold arrI
  rw [List.getElem?_toArray, List.getElem?_map]
  exact hu

set_option maxRecDepth 100000 in
set_option maxHeartbeats 1000000 in
theorem vrun_any (p : Int) (x y : Value) (V : List (Int × Int)) (q : List Int) (w : World) (hx0 : RdP w x V) (hy0 : RdI w .i64 y q) (hl : V.length ≤ 1000) (hq : q.length ≤ 1000) :
    Calls Try.prog 18 #[.agg #[.int .i64 p, x], y] w fun e w' => ∃ v, e = .returned (.tuple #[v, .int .i64 (runE p V q)]) ∧ RdI w' .i64 v (runR p V q) ∧ Below w.heap.size w w' := by
  obtain ⟨a, ca, rfl, _, _, _⟩ := hx0.form
  obtain ⟨b, cb, rfl, _, _, hyf⟩ := hy0.form
  unfold runE runR
  by_cases h : checkR p V = 0
  · have hc0 : ¬ (checkR p V ≠ 0) := by simpa using h
    simp only [if_neg hc0]
    clear hc0
    obtain ⟨n, rfl, hV⟩ := cond_row h
    clear h
    have hp1 := hV.p1; have hp8 := hV.p8; have h40 := hV.len
    have H0 := Lib.hid (open_ok n _ V _ (hx0.mono (bal (bz w) (.cells #[.int .i64 n, .slice a V.length ca] 24))) hV)
    by_cases hlen : (q.length : Int) = n
    · obtain rfl : n = q.length := by omega
      clear hlen
      simp only [ne_eq, not_true_eq_false, if_false]
      obtain ⟨ad, rfl, hsp, hbd, hnews⟩ := RdC.news hy0 (by intro e; simp at e; subst e; simp at hp1)
      have HY := Lib.hid hnews; have HYF := Lib.hid hy0
      clear hyf hnews hy0
      go_enter Try.func18, Try.ntmps18
      go_wp2_with fail
      refine H0.out.mono ?_
      rintro e w2 ⟨bb, rfl, hb0, hb, hB2⟩
      have hB3 : Below w.heap.size w w2 := btr (bal (bz _) _) hB2
      have hz3 := hB3.size
      have hx3 := hx0.mono hB3
      obtain ⟨q0, q1, q2⟩ := id hb
      have hN : ∀ j, j < q.length → ((w2.alloc (.cells (arrI (fillK 8 0 q)) 75)).cell? ⟨w2.heap.size, 0 + j, none⟩).isSome = true := by
        intro j hj
        rw [Nat.zero_add, cnew rfl (arrI_get _ _ (by rw [fillK_length]; omega))]; rfl
      have hF : ∀ j, j < q.length → (w2.alloc (.cells (arrI (fillK 8 0 q)) 75)).frozen? ⟨w2.heap.size, 0 + j, none⟩ = false := fun j _ => fnew rfl
      have hcp : ∀ t, (Builtin.copy_ #[25, 25] t #[.slice (some ⟨w2.heap.size, 0, none⟩) 8 8, .slice (some ad) q.length cb]).run Try.prog (w2.alloc (.cells (arrI (fillK 8 0 q)) 75)) =
          .ok (goInt (q.map (Value.int .i64)).length) ((w2.alloc (.cells (arrI (fillK 8 0 q)) 75)).setCells w2.heap.size 0 (q.map (Value.int .i64))) := by
        intro t
        refine run_copy_cells _ 25 25 t 2 w2.heap.size 0 8 8 ad q.length cb _ Try.underlying25 (by kernel_rfl) (by rw [List.length_map]; exact (Nat.min_eq_left (by omega)).symm) (fun j v hv => ?_) (fun j hj => hN j (by simpa using hj)) (fun j hj => hF j (by simpa using hj)) (by simp [Value.oneCell'])
        have h1 := (hB3.cell (p := ad.add j) (by unfold Addr.add; split <;> exact hbd)).trans (HY.out j v hv)
        refine (World.cell?_of_block (Below.heap_alloc _ _ _ (World.block_lt_of_cell? _ _ h1))).trans h1
      have hrow := fills w2.heap.size 75 q q.length 0 (w2.alloc (.cells (arrI (fillK 8 0 q)) 75)) (by omega) (by omega) (heap_alloc_new _ _)
      rw [List.drop_zero] at hrow
      have hBC : Below w2.heap.size w2 ((w2.alloc (.cells (arrI (fillK 8 0 q)) 75)).setCells w2.heap.size 0 (q.map (Value.int .i64))) := bsets' (Nat.le_refl _) _ _ _ (bal (bz _) _)
      rw [show arrI (fillK 8 0 q) = #[.int .i64 0, .int .i64 0, .int .i64 0, .int .i64 0, .int .i64 0, .int .i64 0, .int .i64 0, .int .i64 0] by rw [fillK_zero]; rfl] at hcp hrow hBC
      generalize hwc : (w2.alloc (.cells #[.int .i64 0, .int .i64 0, .int .i64 0, .int .i64 0, .int .i64 0, .int .i64 0, .int .i64 0, .int .i64 0] 75)).setCells w2.heap.size 0 (q.map (Value.int .i64)) = wc at *
      have HROW := Lib.hid hrow; have HWC := Lib.hid hwc
      clear hN hF hrow hwc
      have hbc := hb.mono hBC
      have hxc := hx3.mono hBC
      have hB5 : Below w.heap.size w wc := btr hB3 hBC
      go_wp2
      clear hcp
      have HLL := Lib.hid (fillK_length 8 q.length q)
      have HRUN := Lib.hid (show (runV V (fillK 8 q.length q)).length = 8 by rw [runV_length]; exact HLL.out)
      have hC : ∀ l' : Later wc, Calls Try.prog 58 #[.pointer (some ⟨bb, 0, none⟩), .agg (arrI (fillK 8 q.length q)), .int .i64 (V.length : Int)] l'.val fun e w'' => e = .returned (.agg (arrI (runV V (fillK 8 q.length q)))) ∧ ∃ x : Later wc, w'' = x.val := by
        intro l'
        have := run_any bb q.length _ V (fillK 8 q.length q) V.length l'.val (hbc.mono l'.le) (hxc.mono l'.le) (Nat.le_refl _) hV HLL.out
        rw [List.take_length] at this
        exact Calls.later this
      have HC := Lib.hid hC; clear hC
      clear q0 q1 q2
      obtain ⟨q0, q1, q2⟩ := id hbc
      have hL := @Later.cell wc
      have hgl := (Array.getElem?_eq_some_iff.1 HROW.out).1
      generalize hfq : fillK 8 q.length q = fq at *
      generalize hrq : runV V fq = rq at *
      have HFQ := Lib.hid hfq; have HRQ := Lib.hid hrq
      clear hfq hrq
      refine wp_region_tail 9 (by kernel_rfl) (by kernel_rfl) ?_
      simp only [List.take_succ_cons, List.take_zero]
      repeat (first
        | (refine wpQuiet_load_row rfl 75 (.tmp 8) rfl w2.heap.size rfl 75 (arrI fq) (0, 0) _ HROW.out Try.underlying75 rfl (arr8 _ HLL.out) ?_)
        | (quiet_step ((go_at_call 58; exact HC.out _))))
      refine wpQuiet_nil ?_
      intro w6 hw6
      have hL6 : Below wc.heap.size wc w6 := by obtain ⟨⟨_, h⟩, rfl⟩ := hw6; exact h
      clear hw6 hL
      have hr6 := (hL6.block w2.heap.size hgl).trans HROW.out
      have HR6 := Lib.hid hr6; clear hr6
      simp only [List.drop_succ_cons, List.drop_zero]
      refine wpList_store_row rfl 75 (.tmp 8) (.tmp 38) rfl w2.heap.size (arrI rq) rfl rfl 75 _ HR6.out (arr8 _ HRUN.out) (by rw [arrI_size, arrI_size, HLL.out, HRUN.out]) (one_arr _) ?_
      have hw7 := below_row (btr hBC hL6) (arrI rq) (Nat.le_refl w2.heap.size)
      have hr7 := setRow_heap w6 w2.heap.size _ (arrI rq) _ _ HR6.out
      generalize w6.setRow w2.heap.size (arrI rq) = w7 at *
      have hb7 := hb.mono hw7
      obtain ⟨t0, t1, t2⟩ := hb7
      have hB7 : Below w.heap.size w w7 := btr hB3 hw7
      have HRD := Lib.hid (RdI.row q.length 8 hr7 (by rw [HRUN.out]; omega) (by omega) (by unfold maxLen; omega))
      clear hr7
      have hq8 : (q.length : Int) ≤ 8 := by omega
      go_wp2_with fail
      have hlt : (rq.take q.length).length = q.length := by rw [List.length_take, HRUN.out]; omega
      refine (cloneI_any _ _ w7 HRD.out (by omega) (by omega)).mono ?_
      rintro e w8 ⟨v, rfl, hown, hB8⟩
      go_wp2
      go_ret2
      rw [hlt] at hown
      refine ⟨v, rfl, ?_, btr hB7 hB8⟩
      rw [HFQ.out, HRQ.out]
      exact RdI.of_owns hown
    · have hc0 : (q.length : Int) ≠ n := by simpa using hlen
      simp only [if_pos hc0]
      clear hc0
      go_enter Try.func18, Try.ntmps18
      go_wp2_with fail
      refine H0.out.mono ?_
      rintro e w2 ⟨bb, rfl, hb0, hb, hB2⟩
      obtain ⟨q0, q1, q2⟩ := hb
      have hne : ((q.length : Int) != (n : Int)) = true := by simpa using hlen
      go_wp2
      go_ret2
      exact ⟨_, rfl, rdI_nil _ _, btr (bal (bz _) _) hB2⟩
  · simp only [if_pos (show checkR p V ≠ 0 from h)]
    have H0 := Lib.hid (open_no p _ V _ (hx0.mono (bal (bz w) (.cells #[.int .i64 p, .slice a V.length ca] 24))) hl h)
    generalize checkR p V = c at *
    have e0 : (c != 0) = true := by simpa using h
    clear h
    go_enter Try.func18, Try.ntmps18
    go_wp2_with fail
    refine H0.out.mono ?_
    rintro e w2 ⟨rfl, hB2⟩
    go_wp2
    go_ret2
    exact ⟨_, rfl, rdI_nil _ _, btr (bal (bz _) _) hB2⟩
end Go.Proofs.Ytdnaipiiponhpaa

namespace Go.Proofs.Ytdnaipiiponhpaa
open Go.RowKit Go.Shelf

theorem run_clip (a : Option Addr) (n cap : Nat) (h : n ≤ cap) (ha : ∀ ad, a = some ad → ad.off = 0 ∧ ad.spot = none) (w : World) :
    (Instr.slice 34 (.slice a n cap) none (some (.int .i64 (n : Int))) (some (.int .i64 (n : Int)))).run Try.prog w = .ok (.slice a n n) w := by
  have h1 : ¬ ((n : Int) < 0) := by omega
  have h2 : ¬ ((cap : Int) < (n : Int)) := by omega
  obtain ⟨i0, hi, hz0, hz1, hz2⟩ := info_parts Try.info3'
  cases a with
  | none => simp [Instr.slice, run_underlying Try.underlying34, Sem.run_bind, Instr.sliceBounds, Instr.sliceBound, asIntOf, h, sizeOf, typeInfo, hi, Addr.add]
  | some ad =>
    obtain ⟨e1, e2⟩ := ha ad rfl
    obtain ⟨b, o, sp⟩ := ad
    simp only at e1 e2
    subst e1; subst e2
    simp [Instr.slice, run_underlying Try.underlying34, Sem.run_bind, Instr.sliceBounds, Instr.sliceBound, asIntOf, h, sizeOf, typeInfo, hi, Addr.add]

/-- One more element behind a slice that is clipped to its length. -/
theorem append_clip (w : World) (base : Nat) (v : Value) (n : Nat) (xs : List Int) (hown : w.ownsRow base 3 1 v n (xs.map (Value.int .i64))) (hn : n ≤ 1000) (hb : base ≤ w.heap.size) (ad : Addr) (x : Int) (hx : w.cell? (ad.add 0) = some (.int .i64 x)) :
    ∃ a cap, v = .slice a n cap ∧ n ≤ cap ∧ (∀ ad, a = some ad → ad.off = 0 ∧ ad.spot = none) ∧ ∀ ty, ∃ v' w', (Builtin.append_ #[34, 34] ty #[.slice a n n, .slice (some ad) 1 1]).run Try.prog w = .ok v' w' ∧ w'.ownsRow base 3 1 v' (n + 1) ((xs ++ [x]).map (Value.int .i64)) ∧ w.grownBy w' none := by
  obtain ⟨i0, hi, hz0, hz1, hz2⟩ := info_parts Try.info3'
  have hl := hown.1
  rw [List.length_map] at hl
  have hnews : ∀ j u, ([Value.int .i64 x] : List Value)[j]? = some u → w.cell? (ad.add j) = some u := by
    intro j u hu
    cases j with
    | zero => simp at hu; rw [hx, hu]
    | succ j => simp at hu
  have grown : ∀ (old : Nat), (w.drew.alloc (.cells ((xs.map (Value.int .i64)).toArray ++ [Value.int .i64 x].toArray ++ Builtin.zeroCells (Value.int .i64 0).cells (grownCap w (n + 1) old 3 - (n + 1))) 3)).ownsRow base 3 1
        (.slice (some ⟨w.heap.size, 0, none⟩) (n + 1) (grownCap w (n + 1) old 3)) (n + 1) ((xs ++ [x]).map (Value.int .i64)) ∧
      w.grownBy (w.drew.alloc (.cells ((xs.map (Value.int .i64)).toArray ++ [Value.int .i64 x].toArray ++ Builtin.zeroCells (Value.int .i64 0).cells (grownCap w (n + 1) old 3 - (n + 1))) 3)) none := by
    intro old
    have hge := grownCap_ge w (n + 1) old 3
    have hcm : grownCap w (n + 1) old 3 ≤ maxLen := grownCap_le_maxLen w (n + 1) old 3 (by unfold maxLen; omega)
    refine ⟨⟨by simp; omega, .inr ⟨w.heap.size, _, _, rfl, hb, heap_alloc_new w.drew _, hge, hcm, ?_, ?_⟩⟩, ⟨rfl, rfl, rfl, by simp, fun k hk _ => heap_alloc_old w.drew _ k hk⟩⟩
    · simp only [Array.size_append, List.size_toArray, size_zeroCells, List.length_map, List.length_cons, List.length_nil]
      simp [Value.cells]
      omega
    · simp only [Array.toList_append, List.append_assoc, List.map_append, List.map_cons, List.map_nil]
      rw [← List.append_assoc, List.take_append_of_le_length (by simp; omega), List.take_of_length_le (by simp; omega)]
  rcases hown.2 with ⟨rfl, rfl⟩ | ⟨g, cap, cur, rfl, hbg, hg, hnc, hcm, hcs, htake⟩
  · obtain rfl : xs = [] := List.eq_nil_of_length_eq_zero (by omega)
    refine ⟨none, 0, rfl, Nat.le_refl _, by simp, fun ty => ?_⟩
    have hr := run_append_nil (P := Try.prog) w 34 ty 3 i0 (.int .i64 0) Try.underlying34 hi hz0 ad 1 1 [.int .i64 x] (by rw [hz1]; rfl) hnews (by omega) (by omega) (by rw [hz2]; omega)
    have hgr := grown 0
    simp only [Nat.zero_add, List.map_nil, List.nil_append, Array.empty_append] at hgr ⊢
    exact ⟨_, _, hr, hgr.1, hgr.2⟩
  · refine ⟨some ⟨g, 0, none⟩, cap, rfl, hnc, by rintro a e; cases e; exact ⟨rfl, rfl⟩, fun ty => ?_⟩
    have holds : ∀ j u, (xs.map (Value.int .i64))[j]? = some u → w.cell? ((⟨g, 0, none⟩ : Addr).add j) = some u := hown.cells (g := g) rfl
    have hr := run_append_grow (P := Try.prog) w 34 ty 3 i0 (.int .i64 0) Try.underlying34 hi hz0 ⟨g, 0, none⟩ n n (xs.map (Value.int .i64)) (by rw [hz1]; simp; omega) holds ad 1 1 [.int .i64 x] (by rw [hz1]; rfl) hnews (by omega) (by omega) (growslice_fits (by omega) (by rw [hz2]; omega))
    have hgr := grown n
    exact ⟨_, _, hr, hgr.1, hgr.2⟩

/-- The operation 'append', where its run is known. -/
theorem wpList_append_eq {P : Program} (w : World) {ops : Array Oper} {rest : List Oper} {o : Oper} {a : Act} {Q : Exit → Act → World → Prop} (hgd : o.guard = none) (s x : Operand) (t : TypeId)
    (ho : o.op = .call { callee := .builtin .append, args := #[s, x], argTypes := #[t, t] }) (v u : Value) (hs : a.eval s = v) (hx : a.eval x = u) {v' : Value} {w' : World}
    (hr : (Builtin.append_ #[t, t] o.type #[v, u]).run P w = .ok v' w') (h : wpList P ops Q rest (a.put o.dst v') w') : wpList P ops Q (o :: rest) a w := by
  refine wpList_plain hgd fun K hK => ?_
  unfold Oper.wp execOp
  simp only [ho, resolve, invoke, builtin, Sem.run_bind, Sem.run_pure, Result.andThen_ok, List.map_toArray, List.map_cons, List.map_nil, hs, hx, hr]
  exact hK _ _ h

/-- The needless valves. -/
def needlessL (p : Nat) (V : List (Int × Int)) (k : Nat) : List Int := ((List.range k).filter (needlessB p V)).map fun i => ((i : Nat) : Int)
theorem needlessL_succ (p : Nat) (V : List (Int × Int)) (k : Nat) : needlessL p V (k + 1) = if needlessB p V k then needlessL p V k ++ [(k : Int)] else needlessL p V k := by
  unfold needlessL
  rw [List.range_succ, List.filter_append]
  cases h : needlessB p V k <;> simp [h]
theorem needlessL_le (p : Nat) (V : List (Int × Int)) (k : Nat) : (needlessL p V k).length ≤ k := by
  unfold needlessL
  have := List.length_filter_le (needlessB p V) (List.range k)
  simp at this ⊢
  exact this
/-- Needless' answers. -/
def needL (p : Int) (V : List (Int × Int)) : List Int := if checkR p V = 0 then needlessL p.toNat V V.length else []

set_option maxRecDepth 100000 in
set_option maxHeartbeats 1000000 in
theorem needless_any (p : Int) (x : Value) (V : List (Int × Int)) (w : World) (hx0 : RdP w x V) (hl : V.length ≤ 1000) :
    Calls Try.prog 32 #[.agg #[.int .i64 p, x]] w fun e w' => ∃ v, e = .returned (.tuple #[v, .int .i64 (checkR p V)]) ∧ w'.ownsRow w.heap.size 3 1 v (needL p V).length ((needL p V).map (Value.int .i64)) ∧ Below w.heap.size w w' := by
  obtain ⟨a, ca, rfl, hca, hca2, _⟩ := hx0.form
  unfold needL
  by_cases h : checkR p V = 0
  · simp only [if_pos h]
    obtain ⟨n, rfl, hV⟩ := cond_row h
    rw [h]
    have hp1 := hV.p1; have hp8 := hV.p8; have h40 := hV.len
    rw [show ((n : Nat) : Int).toNat = n by omega]
    have H0 := Lib.hid (open_ok n _ V _ (hx0.mono (bal (bz w) (.cells #[.int .i64 n, .slice a V.length ca] 24))) hV)
    clear h
    go_enter Try.func32, Try.ntmps32
    go_wp2_with fail
    refine H0.out.mono ?_
    rintro e w2 ⟨bb, rfl, hb0, hb, hB2⟩
    have hB3 : Below w.heap.size w w2 := btr (bal (bz _) _) hB2
    have hz3 := hB3.size
    have hx3 := hx0.mono hB3
    obtain ⟨q0, q1, q2⟩ := id hb
    go_wp2
    go_loopw [6, 7, 22, 23, 24, 25, 26, 27, 28, 29, 30, 31, 32, 33, 34, 35, 36, 37] (fun o _ i _ _ _ _ _ _ _ _ _ _ _ _ _ _ _ wr => ∃ k : Nat, k ≤ V.length ∧ i = .int .i64 k ∧ Below w2.heap.size w2 wr ∧ wr.ownsRow w.heap.size 3 1 o (needlessL n V k).length ((needlessL n V k).map (Value.int .i64)))
      (fun _ _ i _ _ _ _ _ _ _ _ _ _ _ _ _ _ _ _ => ((V.length : Int) - intOf i).toNat)
    case atStart => exact ⟨0, Nat.zero_le _, rfl, bz _, World.ownsRow_nil _ _ _ _⟩
    case round =>
      obtain ⟨k, hk, rfl, hbr, hor⟩ := hrel
      have hkl := needlessL_le n V k
      have hO := Lib.hid hor; clear hor
      by_cases hkp : k < V.length
      · have hwz := hbr.size
        go_wp2_with fail
        refine (bneedless_any bb n _ V k wr (hb.mono hbr) (hx3.mono hbr) hV hkp).mono ?_
        rintro e w4 ⟨rfl, hB4⟩
        have ho4 := owns_kept hO.out hB4
        have hB5 : Below w2.heap.size w2 w4 := btr hbr hB4
        have hz5 := hB5.size
        have hst := needlessL_succ n V k
        generalize hv : needlessB n V k = y at *
        cases y
        · rw [if_neg (by simp)] at hst
          rw [← hst] at ho4
          have hO4 := Lib.hid ho4; clear ho4
          clear hO hst hv hkl
          go_wp2
          exact ⟨⟨k + 1, by omega, by simp, hB5, hO4.out⟩, by simp [intOf]; omega⟩
        · rw [if_pos rfl] at hst
          obtain ⟨ao, cap, rfl, hcap, hao, hap⟩ := append_clip (w4.alloc (.cells #[.int .i64 k] 3)) w.heap.size _ _ _ (ho4.alloc _) (by omega) (by simp; omega) ⟨w4.heap.size, 0, none⟩ k (cnew rfl rfl)
          obtain ⟨v', hap⟩ := Classical.skolem.1 hap
          obtain ⟨w', hap⟩ := Classical.skolem.1 hap
          have hsl := run_clip ao (needlessL n V k).length cap hcap hao
          have hap1 := Lib.hid fun ty => (hap ty).1
          have hap2 := Lib.hid fun ty => (hap ty).2
          have hln := congrArg List.length hst
          rw [List.length_append] at hln
          have HLN := Lib.hid hln; have HST := Lib.hid hst
          clear hap hO ho4 hln hst hv
          generalize hnn : (needlessL n V k).length = m at *
          have HNN := Lib.hid hnn; clear hnn
          go_wp2_with (at_builtin; refine wpList_append_eq _ rfl _ _ 34 rfl _ _ rfl rfl (hap1.out _) ?_)
          obtain ⟨h1, h2⟩ := hap2.out 34
          have hB6 : Below w2.heap.size w2 (w' 34) := btr (bal hB5 _) ((bgr (bz _) h2 (fun k h => by cases h)))
          refine ⟨⟨k + 1, by omega, by simp, hB6, ?_⟩, by simp [intOf]; omega⟩
          rw [HLN.out, HST.out]
          exact h1
      · obtain rfl : k = V.length := by omega
        go_wp2
        go_ret2
        exact ⟨_, rfl, hO.out, btr hB3 hbr⟩
  · simp only [if_neg h]
    have H0 := Lib.hid (open_no p _ V _ (hx0.mono (bal (bz w) (.cells #[.int .i64 p, .slice a V.length ca] 24))) hl h)
    generalize checkR p V = c at *
    have e0 : (c != 0) = true := by simpa using h
    clear h
    go_enter Try.func32, Try.ntmps32
    go_wp2_with fail
    refine H0.out.mono ?_
    rintro e w2 ⟨rfl, hB2⟩
    go_wp2
    go_ret2
    exact ⟨_, rfl, World.ownsRow_nil _ _ _ _, btr (bal (bz _) _) hB2⟩
end Go.Proofs.Ytdnaipiiponhpaa

namespace Go.Proofs.Ytdnaipiiponhpaa
open Go.RowKit Go.Shelf

set_option maxRecDepth 100000 in
set_option maxHeartbeats 400000 in
theorem index_any (x : Value) (xs : List Int) (q : Int) (w : World) (hx0 : RdI w .i64 x xs) (hl : xs.length ≤ 1000) :
    Calls Try.prog 83 #[x, .int .i64 q] w fun e w' => e = .returned (.int .i64 (idxOf (fun y => decide (q = y)) xs)) ∧ Below w.heap.size w w' := by
  obtain ⟨a, ca, rfl, _, _, hx⟩ := hx0.form
  clear hx0
  go_enter Try.func83, Try.ntmps83
  go_wp2
  go_loopw [5, 8] (fun j i wr => ∃ k : Nat, k ≤ xs.length ∧ i = .int .i64 k ∧ (∀ i, i < k → (fun y => decide (q = y)) (xs[i]?.getD 0) = false) ∧ Below w.heap.size w wr) (fun _ i _ => xs.length - (intOf i).toNat)
  case atStart => exact ⟨0, Nat.zero_le _, rfl, by intro i h1; omega, Below.refl _ _⟩
  case round =>
    obtain ⟨k, hk, rfl, ht, hB⟩ := hrel
    have HT := Lib.hid ht; clear ht
    by_cases hlt : k < xs.length
    · obtain ⟨bx, ox, rfl, hbx, hcx⟩ := hx (by omega)
      have gx := (hB.cell (p := ⟨bx, ox + k, none⟩) hbx).trans (hcx k hlt)
      clear hx hcx
      generalize hp : xs[k]?.getD 0 = p at *
      have HP := Lib.hid hp; clear hp
      by_cases hb : q = p
      · subst hb
        go_wp2
        go_ret
        exact ⟨ret_int (find_none_step HT.out hlt (by rw [HP.out]; simp)).symm, hB⟩
      · have hbb : (q == p) = false := by simpa using hb
        go_wp2
        go_roundw
        case rel =>
          refine ⟨k + 1, by omega, by go_num, fun i h1 => ?_, hB⟩
          by_cases e : i = k
          · subst e; rw [HP.out]; simpa using hb
          · exact HT.out i (by omega)
        case measure => simp [intOf]; omega
    · go_wp2
      go_ret
      exact ⟨ret_int (find_none fun i hi => HT.out i (by omega)).symm, hB⟩

set_option maxRecDepth 100000 in
set_option maxHeartbeats 400000 in
theorem contains_any (x : Value) (xs : List Int) (q : Int) (w : World) (hx0 : RdI w .i64 x xs) (hl : xs.length ≤ 1000) :
    Calls Try.prog 70 #[x, .int .i64 q] w fun e w' => e = .returned (.bool (xs.any fun y => decide (q = y))) ∧ Below w.heap.size w w' := by
  go_enter Try.func70, Try.ntmps70
  go_wp2_with fail
  refine (index_any _ _ _ _ hx0 hl).mono ?_
  rintro e w2 ⟨rfl, hB2⟩
  have H := Lib.hid (idxOf_any (fun y => decide (q = y)) xs)
  go_wp2
  go_ret
  exact ⟨ret_bool H.out, hB2⟩

/-- The row without its needless valves, up to a valve. -/
def cutK (p : Nat) (V : List (Int × Int)) (k : Nat) : List (Int × Int) := ((List.range k).filter fun i => !needlessB p V i).map fun i => V[i]?.getD (0, 0)
theorem cutK_succ (p : Nat) (V : List (Int × Int)) (k : Nat) : cutK p V (k + 1) = if needlessB p V k then cutK p V k else cutK p V k ++ [V[k]?.getD (0, 0)] := by
  unfold cutK
  rw [List.range_succ, List.filter_append]
  cases h : needlessB p V k <;> simp [h]
theorem cutK_le (p : Nat) (V : List (Int × Int)) (k : Nat) : (cutK p V k).length ≤ k := by
  unfold cutK
  have := List.length_filter_le (fun i => !needlessB p V i) (List.range k)
  simp at this ⊢
  exact this
theorem needlessL_has (p : Nat) (V : List (Int × Int)) (n k : Nat) (hk : k < n) : ((needlessL p V n).any fun y => decide ((k : Int) = y)) = needlessB p V k := by
  unfold needlessL
  cases h : needlessB p V k
  · rw [List.any_eq_false]
    intro y hy
    rw [List.mem_map] at hy
    obtain ⟨i, hi, rfl⟩ := hy
    rw [List.mem_filter] at hi
    intro e
    have e2 := of_decide_eq_true e
    have e3 : k = i := by omega
    subst e3
    rw [h] at hi
    exact absurd hi.2 (by simp)
  · rw [List.any_eq_true]
    exact ⟨(k : Int), List.mem_map.2 ⟨k, List.mem_filter.2 ⟨List.mem_range.2 hk, h⟩, rfl⟩, by simp⟩
/-- Cut's answers. -/
def cutP (p : Int) (V : List (Int × Int)) : Int := if checkR p V = 0 then p else 0
def cutL (p : Int) (V : List (Int × Int)) : List (Int × Int) := if checkR p V = 0 then cutK p.toNat V V.length else []
theorem rdP_nil (w : World) : RdP w (.slice none 0 0) [] := ⟨none, 0, rfl, Nat.le_refl _, by unfold maxLen; omega, fun h => absurd rfl h⟩
theorem prs_append (a b : List (Int × Int)) : prs (a ++ b) = prs a ++ prs b := by simp [prs]
theorem Try.info59 : (Try.prog.info? 59).map (fun i => (i.zero, i.size, i.bytes)) = some (some (.agg #[.int .i64 0, .int .i64 0]), 2, 16) := by kernel_rfl

theorem cell_two_new (w : World) (x y : Value) (t : TypeId) : ∀ j u, ([x, y] : List Value)[j]? = some u → (w.alloc (.cells #[x, y] t)).cell? ((⟨w.heap.size, 0, none⟩ : Addr).add j) = some u := by
  intro j u h
  match j, h with
  | 0, h => simp at h; subst h; exact cnew rfl rfl
  | 1, h => simp at h; subst h; exact cnew rfl rfl
  | j + 2, h => simp at h
theorem two_int (a b : Int) : ∀ u ∈ [Value.int .i64 a, Value.int .i64 b], u.oneCell' = true := by simp [Value.oneCell']
theorem owns_form {w : World} {base e size n : Nat} {v : Value} {xs : List Value} (h : w.ownsRow base e size v n xs) : ∃ a c, v = .slice a n c := by
  rcases h.2 with ⟨rfl, rfl⟩ | ⟨g, cap, cur, rfl, _⟩
  · exact ⟨_, _, rfl⟩
  · exact ⟨_, _, rfl⟩
theorem append_keep {w w' : World} {base e size n j : Nat} {v : Value} {xs : List Value} (h : w.ownsRow base e size v n xs) (hg : w.grownBy w' v.ownBlock) (hj : j < base) (hjw : j < w.heap.size) : w'.heap[j]? = w.heap[j]? :=
  hg.block j hjw fun e => by have := (h.lt j e.symm).1; omega
theorem append_below {a w w' : World} {base e size n : Nat} {v : Value} {xs : List Value} (hb : Below a.heap.size a w) (h : w.ownsRow base e size v n xs) (hg : w.grownBy w' v.ownBlock) (hj : a.heap.size ≤ base) : Below a.heap.size a w' :=
  bgr hb hg fun k e => Nat.le_trans hj (h.lt k e).1

/-- A result in a struct's cells, and one in a slot. -/
theorem results_row_tmp {P : Program} {fn : Func} {p t : Tmp} {ty t0 : TypeId} {tmps : Array Value} {w : World} {g : Nat} {cs : Array Value} {fr : Nat × Nat} {d : TypeDesc} {u : Value} (h : fn.results = #[.cell p ty, .tmp t]) (hp : tmps.getD p undef = .pointer (some ⟨g, 0, none⟩)) (hv : tmps.getD t undef = u)
    (hg : w.heap[g]? = some (.cells cs t0 fr)) (hu : P.underlying ty = some d) (hd : (match d with | .struct _ | .array _ _ => true | _ => false) = true) (hi : (P.info? ty).map (·.size) = some cs.size) :
    (results fn tmps).run P w = .ok (.tuple #[.agg cs, u]) w := by
  subst hv
  have hp' : tmps[p]?.getD undef = .pointer (some ⟨g, 0, none⟩) := by simpa using hp
  simp [results, h, hp', asAddr, run_loadVar_row w g t0 ty cs fr d hg hu hd hi]

set_option maxRecDepth 100000 in
set_option maxHeartbeats 1000000 in
theorem cut_any (p : Int) (x : Value) (V : List (Int × Int)) (w : World) (hx0 : RdP w x V) (hl : V.length ≤ 1000) :
    Calls Try.prog 34 #[.agg #[.int .i64 p, x]] w fun e w' => ∃ v, e = .returned (.tuple #[.agg #[.int .i64 (cutP p V), v], .int .i64 (checkR p V)]) ∧ RdP w' v (cutL p V) ∧ Below w.heap.size w w' := by
  obtain ⟨a, ca, rfl, hca, hca2, hxf⟩ := hx0.form
  have H0 := Lib.hid fun w1 (hB : Below w.heap.size w w1) => needless_any p _ V w1 (hx0.mono hB) hl
  unfold cutP cutL
  by_cases h : checkR p V = 0
  · obtain ⟨n, rfl, hV⟩ := cond_row h
    simp only [if_pos h]
    have e : needL n V = needlessL n V V.length := by unfold needL; rw [if_pos h]; rfl
    rw [e, h] at H0
    rw [h]
    have hp1 := hV.p1; have hp8 := hV.p8; have h40 := hV.len
    rw [show ((n : Nat) : Int).toNat = n by omega]
    clear h e
    go_enter Try.func34, Try.ntmps34
    go_wp2_with fail
    refine (H0.out _ (bal (bal (bz _) _) _)).mono ?_
    rintro e w2 ⟨v, rfl, hown, hB2⟩
    have hB3 : Below w.heap.size w w2 := btr (bal (bal (bz _) _) _) hB2
    have z0 : w2.cell? ⟨w.heap.size, 0, none⟩ = some (.int .i64 n) := (hB2.cell (by simp; omega)).trans (cal _ (cnew rfl rfl))
    have z1 : w2.cell? ⟨w.heap.size, 1, none⟩ = some (.slice a V.length ca) := (hB2.cell (by simp; omega)).trans (cal _ (cnew rfl rfl))
    have hzz := hB2.size
    simp only [World.size_alloc] at hzz hown
    have zl : w.heap.size < w2.heap.size := by omega
    have zl1 : w.heap.size + 1 < w2.heap.size := by omega
    have HOWN := Lib.hid hown
    have hr0 : w2.heap[w.heap.size + 1]? = some (.cells #[.int .i64 0, .slice none 0 0] 24 (0, 0)) := by
      refine (hB2.block _ (by simp)).trans ?_
      have := heap_alloc_new (w.alloc (.cells #[.int .i64 n, .slice a V.length ca] 24)) (.cells #[.int .i64 0, .slice none 0 0] 24)
      rw [World.size_alloc] at this
      exact this
    have HR0 := Lib.hid hr0
    have hx3 := hx0.mono hB3
    clear hown hr0
    obtain ⟨i0, hi, hz0, hz1, hz2⟩ := info_parts Try.info59
    go_wp2
    go_loopw [7, 8, 24, 25, 26, 27, 28, 29, 30, 31, 32, 33, 34, 35, 36, 37, 38, 39] (fun _ _ i _ _ _ _ _ _ _ _ _ _ _ _ _ _ _ wr => ∃ k v, k ≤ V.length ∧ i = .int .i64 (k : Nat) ∧ Below w2.heap.size w2 wr ∧ wr.heap[w2.heap.size]? = some (.cells #[.int .i64 n, v] 24 (0, 0)) ∧ wr.ownsRow (w2.heap.size + 1) 59 2 v (cutK n V k).length (prs (cutK n V k)))
      (fun _ _ i _ _ _ _ _ _ _ _ _ _ _ _ _ _ _ _ => ((V.length : Int) - intOf i).toNat)
    case atStart => exact ⟨0, .slice none 0 0, Nat.zero_le _, rfl, bal (bz _) _, heap_alloc_new _ _, World.ownsRow_nil _ _ _ _⟩
    case round =>
      obtain ⟨k, v2, hk, rfl, hbr, hrow, hor⟩ := hrel
      have hkl := cutK_le n V k
      have hO := Lib.hid hor; have hROW := Lib.hid hrow; clear hor hrow
      by_cases hkp : k < V.length
      · obtain ⟨bx, ox, rfl, hbx, hcx⟩ := hxf (by omega)
        have hzw : w.heap.size ≤ w2.heap.size := by omega
        have hwz := hbr.size
        have hB9 := hB3.trans (hbr.mono hzw)
        have gx := (hB9.cell (p := ⟨bx, ox + k * 2, none⟩) hbx).trans (hcx k (by omega)).1
        have gy := (hB9.cell (p := ⟨bx, ox + k * 2 + 1, none⟩) hbx).trans (hcx k (by omega)).2
        have hbx' : bx < wr.heap.size := by omega
        have hgl := (Array.getElem?_eq_some_iff.1 hROW.out).1
        clear hxf hcx
        have hst := cutK_succ n V k
        have hnd := needlessL_has n V V.length k hkp
        generalize V[k]?.getD (0, 0) = pr at *
        obtain ⟨q1, q2⟩ := pr
        simp only at gx gy
        have HST := Lib.hid hst; have HND := Lib.hid hnd; clear hst hnd
        go_wp2_with fail
        have hrd := RdI.of_owns (owns_kept HOWN.out (btr hbr (bal (bz _) (.cells #[.int .i64 q1, .int .i64 q2] 59))))
        refine (contains_any _ _ k _ hrd (by have := needlessL_le n V V.length; omega)).mono ?_
        rintro e w4 ⟨rfl, hB4⟩
        rw [HND.out]
        have hB5 : Below wr.heap.size wr w4 := btr (bal (bz _) _) hB4
        have e0 : w4.cell? ⟨wr.heap.size, 0, none⟩ = some (.int .i64 q1) := (hB4.cell (by simp)).trans (cnew rfl rfl)
        have e1 : w4.cell? ⟨wr.heap.size, 1, none⟩ = some (.int .i64 q2) := (hB4.cell (by simp)).trans (cnew rfl rfl)
        have hr4 := (hB5.block _ hgl).trans hROW.out
        have c1 : w4.cell? ⟨w2.heap.size, 1, none⟩ = some v2 := by rw [cell_of_row w4 _ 1 _ _ _ hr4]; rfl
        have f1 := frozen_of_row w4 w2.heap.size 1 _ _ hr4
        have ho4 := owns_kept hO.out hB5
        have hz4 := hB5.size
        have hz5 := hB4.size
        simp only [World.size_alloc] at hz5
        have HO4 := Lib.hid ho4; have HR4 := Lib.hid hr4; have HST' := HST.out
        clear hO ho4 hr4 hrd
        generalize hy : needlessB n V k = y at *
        have zg : w2.heap.size < w4.heap.size := by omega
        have zw : wr.heap.size < w4.heap.size := by omega
        cases y
        · rw [if_neg (by simp)] at HST'
          have HS2 := Lib.hid HST'; clear HST'
          go_wp2_with (at_builtin; refine wpList_append_own _ rfl _ _ 22 rfl (w2.heap.size + 1) 59 i0 (.agg #[.int .i64 0, .int .i64 0]) 2 16 Try.underlying22 hi hz0 hz1 hz2 rfl (by decide) _ _ _ rfl (HO4.out.alloc _) ⟨w4.heap.size, 0, none⟩ 1 1 [.int .i64 q1, .int .i64 q2] rfl rfl (cell_two_new _ _ _ _) (two_int _ _) (by simp only [maxLen]; omega) (by omega) (by simp; omega) ?_)
          intro v' w' hown' hgrow hnil
          have hra := (append_keep (HO4.out.alloc _) hgrow (Nat.lt_succ_self _) (by simp; omega)).trans ((Below.heap_alloc _ _ _ zg).trans HR4.out)
          have hB6 : Below w2.heap.size w2 w' := append_below (bal (btr hbr hB5) _) (HO4.out.alloc _) hgrow (by omega)
          have c1' : w'.cell? ⟨w2.heap.size, 1, none⟩ = some v2 := by rw [cell_of_row w' _ 1 _ _ _ hra]; rfl
          have f1' := frozen_of_row w' w2.heap.size 1 _ _ hra
          have hnew := heap_setCell_same w' w2.heap.size 1 _ _ v' hra
          have hkeep := (hown'.kept (w' := w'.setCell ⟨w2.heap.size, 1, none⟩ v') (grownBy_set w' _ _) (by
            cases hvv : v'.ownBlock with
            | none => exact .inl rfl
            | some q => exact .inr (by intro e; cases e; have := (hown'.lt _ hvv).1; simp only at this; omega)))
          have HNEW := Lib.hid hnew; have HKEEP := Lib.hid hkeep
          obtain ⟨a9, c9, hv9⟩ := owns_form hown'
          subst hv9
          clear hown' hgrow hnil hra hnew hkeep c1 f1 e0 e1
          go_wp2
          refine ⟨⟨k + 1, _, by omega, by simp, bset hB6 (by simp) _, HNEW.out, ?_⟩, by simp [intOf]; omega⟩
          rw [HS2.out, List.length_append, prs_append]
          exact HKEEP.out
        · rw [if_pos rfl] at HST'
          have HS2 := Lib.hid HST'; clear HST'
          go_wp2
          exact ⟨⟨k + 1, v2, by omega, by simp, btr hbr hB5, HR4.out, by rw [HS2.out]; exact HO4.out⟩, by simp [intOf]; omega⟩
      · obtain rfl : k = V.length := by omega
        have hr1 := (hbr.block _ (by omega)).trans HR0.out
        have HR1 := Lib.hid hr1; clear hr1
        have hsz : (Try.prog.info? 24).map (·.size) = some 2 := by kernel_rfl
        have HSZ := Lib.hid hsz; clear hsz
        obtain ⟨a9, c9, hv9⟩ := owns_form hO.out
        subst hv9
        have hB9 := btr hB3 hbr
        have hrd := RdP.of_owns hO.out
        have HRD := Lib.hid hrd; clear hrd
        have c0 : wr.cell? ⟨w.heap.size + 1, 0, none⟩ = some (.int .i64 0) := by rw [cell_of_row wr _ 0 _ _ _ HR1.out]; rfl
        have c1 : wr.cell? ⟨w.heap.size + 1, 1, none⟩ = some (.slice none 0 0) := by rw [cell_of_row wr _ 1 _ _ _ HR1.out]; rfl
        have f0 := frozen_of_row wr (w.heap.size + 1) 0 _ _ HR1.out
        have f1 := frozen_of_row wr (w.heap.size + 1) 1 _ _ HR1.out
        have d0 : wr.cell? ⟨w2.heap.size, 0, none⟩ = some (.int .i64 n) := by rw [cell_of_row wr _ 0 _ _ _ hROW.out]; rfl
        have d1 : wr.cell? ⟨w2.heap.size, 1, none⟩ = some (.slice a9 (cutK n V V.length).length c9) := by rw [cell_of_row wr _ 1 _ _ _ hROW.out]; rfl
        have hn2 := heap_setCell_same _ _ 1 _ _ (.slice a9 (cutK n V V.length).length c9) (heap_setCell_same wr (w.heap.size + 1) 0 _ _ (.int .i64 n) HR1.out)
        have HN2 := Lib.hid hn2; clear hn2
        have hkeep := (hO.out.kept (w' := wr.setCell ⟨w.heap.size + 1, 0, none⟩ (.int .i64 n)) (grownBy_set wr _ _) (by
            cases hvv : (Value.slice a9 (cutK n V V.length).length c9).ownBlock with
            | none => exact .inl rfl
            | some q => exact .inr (by intro e; cases e; have := (hO.out.lt _ hvv).1; simp only at this; omega)))
        have hkeep2 := (hkeep.kept (w' := (wr.setCell ⟨w.heap.size + 1, 0, none⟩ (.int .i64 n)).setCell ⟨w.heap.size + 1, 1, none⟩ (.slice a9 (cutK n V V.length).length c9)) (grownBy_set _ _ _) (by
            cases hvv : (Value.slice a9 (cutK n V V.length).length c9).ownBlock with
            | none => exact .inl rfl
            | some q => exact .inr (by intro e; cases e; have := (hkeep.lt _ hvv).1; simp only at this; omega)))
        have HK2 := Lib.hid hkeep2; clear hkeep hkeep2
        go_wp2
        (try simp only [Exit.inBlock, Exit.then])
        refine bodyPost_ret (v := .tuple #[.agg #[.int .i64 n, .slice a9 (cutK n V V.length).length c9], .int .i64 0]) ?_ ?_ ?_
        · exact results_row_tmp rfl rfl rfl HN2.out Try.underlying24 rfl HSZ.out
        · rfl
        · exact ⟨_, rfl, RdP.of_owns HK2.out, bset (bset hB9 (by simp) _) (by simp) _⟩
  · simp only [if_neg h]
    have e : needL p V = [] := by unfold needL; rw [if_neg h]
    rw [e] at H0
    generalize checkR p V = c at *
    have e0 : (c != 0) = true := by simpa using h
    clear h e
    go_enter Try.func34, Try.ntmps34
    go_wp2_with fail
    refine (H0.out _ (bal (bal (bz _) _) _)).mono ?_
    rintro e w2 ⟨v, rfl, _, hB2⟩
    have hB3 : Below w.heap.size w w2 := btr (bal (bal (bz _) _) _) hB2
    have hr : w2.heap[w.heap.size + 1]? = some (.cells #[.int .i64 0, .slice none 0 0] 24 (0, 0)) := by
      refine (hB2.block _ (by simp)).trans ?_
      have := heap_alloc_new (w.alloc (.cells #[.int .i64 p, .slice a V.length ca] 24)) (.cells #[.int .i64 0, .slice none 0 0] 24)
      rw [World.size_alloc] at this
      exact this
    have HR := Lib.hid hr; clear hr
    have hsz : (Try.prog.info? 24).map (·.size) = some 2 := by kernel_rfl
    have HSZ := Lib.hid hsz; clear hsz
    have c0 : w2.cell? ⟨w.heap.size + 1, 0, none⟩ = some (.int .i64 0) := by rw [cell_of_row w2 _ 0 _ _ _ HR.out]; rfl
    have c1 : w2.cell? ⟨w.heap.size + 1, 1, none⟩ = some (.slice none 0 0) := by rw [cell_of_row w2 _ 1 _ _ _ HR.out]; rfl
    have f0 := frozen_of_row w2 (w.heap.size + 1) 0 _ _ HR.out
    have f1 := frozen_of_row w2 (w.heap.size + 1) 1 _ _ HR.out
    have hn2 := heap_setCell_same _ _ 1 _ _ (.slice none 0 0) (heap_setCell_same w2 (w.heap.size + 1) 0 _ _ (.int .i64 0) HR.out)
    have HN2 := Lib.hid hn2; clear hn2
    go_wp2
    (try simp only [Exit.inBlock, Exit.then])
    refine bodyPost_ret (v := .tuple #[.agg #[.int .i64 0, .slice none 0 0], .int .i64 c]) ?_ ?_ ?_
    · exact results_row_tmp rfl rfl rfl HN2.out Try.underlying24 rfl HSZ.out
    · rfl
    · exact ⟨.slice none 0 0, rfl, rdP_nil _, bset (bset hB3 (by simp) _) (by simp) _⟩
end Go.Proofs.Ytdnaipiiponhpaa
