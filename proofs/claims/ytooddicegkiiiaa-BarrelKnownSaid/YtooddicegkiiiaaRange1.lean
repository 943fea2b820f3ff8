/- A range over a function whose loop ends in its first round; every program, no condition. -/
import Derived.Test.YtooddicegkiiiaaFlow
namespace Go.Proofs.Ytooddicegkiiiaa
open Go.RowKit Go.Shelf

/-- An assertion that abides new blocks, draws, and the turn of a block of R. -/
def AbR (R : Nat → Prop) (I : World → Prop) : Prop := ∀ W W' row, I W → W.grownBy W' row → (∀ r, row = some r → R r) → I W'
theorem AbR.and {R : Nat → Prop} {I J : World → Prop} (h : AbR R I) (k : AbR R J) : AbR R (fun W => I W ∧ J W) := fun W W' row ⟨h1, h2⟩ hg hr => ⟨h W W' row h1 hg hr, k W W' row h2 hg hr⟩
theorem abR_pure {R : Nat → Prop} {q : Prop} : AbR R (fun _ => q) := fun _ _ _ h _ _ => h
theorem abR_heap {R : Nat → Prop} {j : Nat} {o : Obj} (h1 : ¬ R j) : AbR R (fun W => W.heap[j]? = some o) :=
  fun _ _ _ h hg hr => (hg.block j (Array.getElem?_eq_some_iff.1 h).1 (fun e => h1 (hr _ e.symm))).trans h
theorem abR_below {R : Nat → Prop} {a : World} (h1 : ∀ r, R r → a.heap.size ≤ r) : AbR R (fun W => Below a.heap.size a W) :=
  fun _ _ _ h hg hr => bgr h hg (fun k e => h1 k (hr k e))

/-- The iterator's contract, for a loop that is left in its first round: it yields x, if o; then it is told to stop. -/
def YieldsO {α : Type} (n : Nat) (P : Program) (g : Nat) (lb : Array Value) (encs : α → Array Value) (R : Nat → Prop) (o : Bool) (x : α) (W : World) : Prop :=
  ∀ (l : Nat) (J Jx : World → Prop), AbR R J → AbR R Jx →
    (o = true → ∀ W1, J W1 → W.heap.size ≤ W1.heap.size → YieldAt Fence.wide (n - 1) P l (encs x) W1 fun e W' => e = .returned (.bool false) ∧ Jx W') → J W →
    CallsIn Fence.wide n P g (#[.func (.yield l) #[] #[]] ++ lb) W fun e W' => (∃ v, e = .returned v) ∧ ((o = false ∧ J W') ∨ (o = true ∧ Jx W'))

/-- How the round may end. -/
def roundEndO (lo : Nat) (Ix : Code → World → Prop) (W : World) : Exit → Act → World → Prop
  | .ret, _, W' => KF lo W W' ∧ Ix .ret W'
  | .exit id, _, W' => KF lo W W' ∧ Ix (.exit id) W'
  | .goto t, _, W' => KF lo W W' ∧ Ix (.goto t) W'
  | _, _, _ => False

/-- The statement 'for x := range g', left in its first round. -/
theorem range_once {P : Program} {n : Nat} {α : Type} {g : Operand} {ps : Array Tmp} {assign body : Code} {Q : Exit → Act → World → Prop} {a : Act} {w : World}
    {gf : Nat} {lb : Array Value} (hg : a.eval g = .func (.func gf) #[] lb) (eg : ∀ args w, (callFunc gf args).run P w = .ok (.enter gf args) w)
    {encs : α → Array Value} {R : Nat → Prop} {o : Bool} {x : α} (hR : ∀ r, R r → r < w.heap.size) (hseq : ∀ V, Below w.heap.size w V → YieldsO (n - 1) P gf lb encs R o x V) (hps : (encs x).size = ps.size)
    (I : World → Prop) (Ix : Code → World → Prop) (hI : AbR (fun r => R r ∨ (w.heap.size ≤ r ∧ r < w.heap.size + 2)) I) (hIx : ∀ c, AbR (fun r => R r ∨ (w.heap.size ≤ r ∧ r < w.heap.size + 2)) (Ix c)) (h0 : I w)
    (hround : o = true → ∀ (l : Nat) (W : World), I W → w.heap.size + 2 ≤ W.heap.size →
      assign.wpIn (Fence.wide.inRound l) (n - 1 - 1) P (Exit.then (fun a₁ W₁ => KF w.heap.size W W₁ ∧ ∀ W₂, W₁.grownBy W₂ (some (w.heap.size + 1)) → W₂.heap.size = W₁.heap.size →
          body.wpIn (Fence.wide.inRound l) (n - 1 - 1) P (roundEndO w.heap.size Ix W₂) a₁ W₂) (fun _ _ _ => False))
        { tmps := (ps.zip (encs x)).foldl (fun t (p, v) => t.setIfInBounds p v) a.tmps, defers := [] } W)
    (hdone : o = false → ∀ (W : World), I W → W.heap[w.heap.size]? = some (.deferred (some [])) → Q .normal { a with defers := { target := .collected w.heap.size, args := #[] } :: a.defers } W)
    (hstop : o = true → ∀ (c : Code) (W : World), Ix c W → W.heap[w.heap.size]? = some (.deferred (some [])) → c.wpIn Fence.wide n P Q { a with defers := { target := .collected w.heap.size, args := #[] } :: a.defers } W) :
    (Code.rangeFunc g ps assign body).wpIn Fence.wide n P Q a w := by
  refine wpIn_rangeFunc ?_
  intro fn hfn
  let rec0 : LoopState → Option Code → Loop := fun st pe => { state := st, pending := pe, fn, tmps := a.tmps, params := ps, assign, body, defers := w.heap.size }
  obtain ⟨V, hV⟩ : ∃ V, (w.alloc (.deferred (some []))).alloc (.loop (rec0 .ready none)) = V := ⟨_, rfl⟩
  have hVs : V.heap.size = w.heap.size + 2 := by rw [← hV]; simp
  have hVl : V.heap[w.heap.size + 1]? = some (.loop (rec0 .ready none)) := by rw [← hV]; exact heap_alloc2_new _ _ _
  have hVd : V.heap[w.heap.size]? = some (.deferred (some [])) := by rw [← hV]; exact heap_alloc2_old _ _ _
  have hVB : Below w.heap.size w V := by rw [← hV]; exact bal (bal (bz _) _) _
  have hVI : I V := by
    rw [← hV]
    exact hI _ _ none (hI _ _ none h0 (World.grownBy_alloc _ _ none) (fun r e => by cases e)) (World.grownBy_alloc _ _ none) (fun r e => by cases e)
  have keep : ∀ {X Y : World} {row : Option Nat} {j : Nat} {o : Obj}, X.heap[j]? = some o → w.heap.size ≤ j → X.grownBy Y row → (∀ r, row = some r → R r) → Y.heap[j]? = some o := by
    intro X Y row j o hx hj hgr hr
    rw [hgr.block j (Array.getElem?_eq_some_iff.1 hx).1 (fun e => by have := hR j (hr j e.symm); omega)]
    exact hx
  have turn : ∀ {X : World} {o : Obj} {J : World → Prop}, AbR (fun r => R r ∨ (w.heap.size ≤ r ∧ r < w.heap.size + 2)) J → J X → J (X.putObj (w.heap.size + 1) o) :=
    fun h hx => h _ _ (some (w.heap.size + 1)) hx (grownBy_putObj' _ _ _) (fun r e => by cases e; exact .inr ⟨by omega, by omega⟩)
  refine ⟨w.heap.size + 1, [{ target := .collected w.heap.size, args := #[] }], V, { target := .fn (.func gf) lb, args := #[.func (.yield (w.heap.size + 1)) #[] #[]] }, V, gf,
    #[.func (.yield (w.heap.size + 1)) #[] #[]] ++ lb, V, ?_, ?_, fun _ _ => trivial, ?_, fun h => by simp [Fence.wide] at h, ?_⟩
  · rw [← hV]; exact run_enterLoop_outer _ _ _ _ _
  · simp only [resolve, hg]
    simp [go_sem]
  · simp [invoke, go_sem, eg]
  refine (hseq V hVB (w.heap.size + 1)
    (fun X => I X ∧ X.heap[w.heap.size + 1]? = some (.loop (rec0 .ready none)) ∧ X.heap[w.heap.size]? = some (.deferred (some [])))
    (fun X => ∃ c, Ix c X ∧ X.heap[w.heap.size + 1]? = some (.loop (rec0 .done (some c))) ∧ X.heap[w.heap.size]? = some (.deferred (some [])))
    (fun X Y row h hgr hr => ⟨hI X Y row h.1 hgr (fun r e => .inl (hr r e)), keep h.2.1 (by omega) hgr hr, keep h.2.2 (by omega) hgr hr⟩)
    (fun X Y row h hgr hr => by
      obtain ⟨c, h1, h2, h3⟩ := h
      exact ⟨c, hIx c X Y row h1 hgr (fun r e => .inl (hr r e)), keep h2 (by omega) hgr hr, keep h3 (by omega) hgr hr⟩)
    ?_ ⟨hVI, hVl, hVd⟩).mono ?_
  · rintro ho X ⟨hi, hl, hd⟩ hsz
    have hlt : w.heap.size + 1 < X.heap.size := (Array.getElem?_eq_some_iff.1 hl).1
    refine ⟨fn, _, assign, body, run_yield (args := encs x) hl hps, roundIn_of_wpIn trivial (wpIn_mono (hround ho (w.heap.size + 1) X hi (by omega)) ?_)⟩
    rintro e a1 X1 hp
    cases e with
    | normal =>
      obtain ⟨hk1, hbody⟩ := hp
      have hl1 := (hk1.same _ (by omega) hlt).trans hl
      have hd1 := (hk1.same _ (by omega) (by omega)).trans hd
      refine ⟨_, run_beginRound hl1 rfl, wpIn_mono (hbody _ (grownBy_putObj' _ _ _) (by simp)) ?_⟩
      have hlt1 : w.heap.size + 1 < X1.heap.size := (Array.getElem?_eq_some_iff.1 hl1).1
      have fin : ∀ (jump : Code) (X3 : World), KF w.heap.size (X1.putObj (w.heap.size + 1) (.loop { rec0 .ready none with state := .busy })) X3 →
          (Instr.endRound (w.heap.size + 1) (some jump)).run P X3 = .ok (.bool false) (X3.putObj (w.heap.size + 1) (.loop (rec0 .done (some jump)))) ∧
          (X3.putObj (w.heap.size + 1) (.loop (rec0 .done (some jump)))).heap[w.heap.size + 1]? = some (.loop (rec0 .done (some jump))) ∧
          (X3.putObj (w.heap.size + 1) (.loop (rec0 .done (some jump)))).heap[w.heap.size]? = some (.deferred (some [])) := by
        intro jump X3 hk3
        have hl3 : X3.heap[w.heap.size + 1]? = some (.loop { rec0 .ready none with state := .busy }) := (hk3.same _ (by omega) (by simp; omega)).trans (World.putObj_heap_same hlt1)
        have hd3 : X3.heap[w.heap.size]? = some (.deferred (some [])) := (hk3.same _ (by omega) (by simp; omega)).trans ((World.putObj_heap_other (by omega)).trans hd1)
        exact ⟨run_endRound (some jump) hl3, World.putObj_heap_same (Array.getElem?_eq_some_iff.1 hl3).1, (World.putObj_heap_other (by omega)).trans hd3⟩
      rintro e2 a3 X3 hp2
      cases e2 with
      | normal => exact hp2.elim
      | ret =>
        obtain ⟨hk3, hi3⟩ := hp2
        obtain ⟨f1, f2, f3⟩ := fin .ret X3 hk3
        exact ⟨_, _, f1, rfl, _, turn (hIx _) hi3, f2, f3⟩
      | exit id =>
        obtain ⟨hk3, hi3⟩ := hp2
        obtain ⟨f1, f2, f3⟩ := fin (.exit id) X3 hk3
        exact ⟨_, _, f1, rfl, _, turn (hIx _) hi3, f2, f3⟩
      | goto t =>
        obtain ⟨hk3, hi3⟩ := hp2
        obtain ⟨f1, f2, f3⟩ := fin (.goto t) X3 hk3
        exact ⟨_, _, f1, rfl, _, turn (hIx _) hi3, f2, f3⟩
      | panic ch => exact hp2.elim
      | outgrown => exact hp2.elim
    | ret => exact hp.elim
    | exit id => exact hp.elim
    | goto t => exact hp.elim
    | panic ch => exact hp.elim
    | outgrown => exact hp.elim
  · rintro e X ⟨⟨v, rfl⟩, ⟨ho, hi, hl, hd⟩ | ⟨ho, c, hi, hl, hd⟩⟩
    · exact ⟨none, _, run_endLoop hl (by simp [rec0]), hdone ho _ (turn hI hi) ((World.putObj_heap_other (by omega)).trans hd)⟩
    · exact ⟨some c, _, run_endLoop hl (by simp [rec0]), hstop ho c _ (turn (hIx _) hi) ((World.putObj_heap_other (by omega)).trans hd)⟩
end Go.Proofs.Ytooddicegkiiiaa
