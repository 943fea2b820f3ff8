/- The law for a range over a function, for rounds that change cells of their own. -/
import Derived.Test.YtdnaipiiponhpaaOnce
namespace Go.Proofs.Ytdnaipiiponhpaa
open Go.RowKit Go.Shelf

/-- From block lo up to block hi, what was there in W is there in W'. -/
structure KB (lo hi : Nat) (W W' : World) : Prop where
  size : W.heap.size ≤ W'.heap.size
  same : ∀ r, lo ≤ r → r < hi → W'.heap[r]? = W.heap[r]?
/-- How a round may end that changes cells of its own. -/
def roundEnd2 {α : Type} (lo hi : Nat) (I : List α → World → Prop) (Ix : Code → List α → World → Prop) (s : List α) (W : World) : Exit → Act → World → Prop
  | .normal, _, W' => KB lo hi W W' ∧ I s W'
  | .ret, _, W' => KB lo hi W W' ∧ Ix .ret s W'
  | .exit id, _, W' => KB lo hi W W' ∧ Ix (.exit id) s W'
  | .goto t, _, W' => KB lo hi W W' ∧ Ix (.goto t) s W'
  | .panic _, _, _ => False
  | .outgrown, _, _ => False

/-- The statement 'for x := range g'. -/
theorem range_law2 {P : Program} {n : Nat} {α : Type} {g : Operand} {ps : Array Tmp} {assign body : Code} {Q : Exit → Act → World → Prop} {a : Act} {w : World}
    {gf : Nat} {lb : Array Value} (hg : a.eval g = .func (.func gf) #[] lb) (eg : ∀ args w, (callFunc gf args).run P w = .ok (.enter gf args) w)
    {encs : α → Array Value} {k : Nat} {Rd : World → Prop} {xs : List α} (hseq : Yields (n - 1) P gf lb encs k Rd xs) (hps : ∀ x, (encs x).size = ps.size)
    (I : List α → World → Prop) (Ix : Code → List α → World → Prop)
    (hI : ∀ s, Abides1 w.heap.size (w.heap.size + 2 + k) (I s)) (hIx : ∀ c s, Abides1 w.heap.size (w.heap.size + 2 + k) (Ix c s)) (hR : ∀ s W1, I s W1 → Rd W1) (h0 : I [] w)
    (hround : ∀ (l : Nat) (pre : List α) (x : α) (W : World), I pre W → pre ++ [x] <+: xs → w.heap.size + 2 + k ≤ W.heap.size →
      assign.wpIn (Fence.wide.inRound l) (n - 1 - 1) P (Exit.then (fun a₁ W₁ => KF w.heap.size W W₁ ∧ ∀ W₂, W₁.grownBy W₂ (some (w.heap.size + 1)) → W₂.heap.size = W₁.heap.size →
          body.wpIn (Fence.wide.inRound l) (n - 1 - 1) P (roundEnd2 w.heap.size (w.heap.size + 2 + k) I Ix (pre ++ [x]) W₂) a₁ W₂) (fun _ _ _ => False))
        { tmps := (ps.zip (encs x)).foldl (fun t (p, v) => t.setIfInBounds p v) a.tmps, defers := [] } W)
    (hdone : ∀ (W : World), I xs W → W.heap[w.heap.size]? = some (.deferred (some [])) → Q .normal { a with defers := { target := .collected w.heap.size, args := #[] } :: a.defers } W)
    (hstop : ∀ (c : Code) (pre : List α) (W : World), pre <+: xs → Ix c pre W → W.heap[w.heap.size]? = some (.deferred (some [])) → c.wpIn Fence.wide n P Q { a with defers := { target := .collected w.heap.size, args := #[] } :: a.defers } W) :
    (Code.rangeFunc g ps assign body).wpIn Fence.wide n P Q a w := by
  refine wpIn_rangeFunc ?_
  intro fn hfn
  let rec0 : LoopState → Option Code → Loop := fun st pe => { state := st, pending := pe, fn, tmps := a.tmps, params := ps, assign, body, defers := w.heap.size }
  obtain ⟨V, hV⟩ : ∃ V, (w.alloc (.deferred (some []))).alloc (.loop (rec0 .ready none)) = V := ⟨_, rfl⟩
  have hVs : V.heap.size = w.heap.size + 2 := by rw [← hV]; simp
  have hVl : V.heap[w.heap.size + 1]? = some (.loop (rec0 .ready none)) := by rw [← hV]; exact heap_alloc2_new _ _ _
  have hVd : V.heap[w.heap.size]? = some (.deferred (some [])) := by rw [← hV]; exact heap_alloc2_old _ _ _
  have hVI : I [] V := by
    rw [← hV]
    exact hI [] _ _ none (hI [] _ _ none h0 (World.grownBy_alloc _ _ none) (fun r e => by cases e)) (World.grownBy_alloc _ _ none) (fun r e => by cases e)
  -- what stays of the two blocks of the loop's own
  have keep : ∀ {X Y : World} {row : Option Nat} {j : Nat} {o : Obj}, X.heap[j]? = some o → j < V.heap.size → X.grownBy Y row → (∀ r, row = some r → V.heap.size ≤ r ∧ r < V.heap.size + k) → Y.heap[j]? = some o := by
    intro X Y row j o hx hj hgr hr
    rw [hgr.block j (Array.getElem?_eq_some_iff.1 hx).1 (fun e => by have := hr j e.symm; omega)]
    exact hx
  have wider : ∀ {row : Option Nat}, (∀ r, row = some r → V.heap.size ≤ r ∧ r < V.heap.size + k) → ∀ r, row = some r → w.heap.size ≤ r ∧ r < w.heap.size + 2 + k := by
    intro row h r e
    have := h r e
    omega
  have turn : ∀ {X : World} {o : Obj} {J : World → Prop}, Abides1 w.heap.size (w.heap.size + 2 + k) J → J X → J (X.putObj (w.heap.size + 1) o) :=
    fun h hx => h _ _ (some (w.heap.size + 1)) hx (grownBy_putObj' _ _ _) (fun r e => by cases e; omega)
  refine ⟨w.heap.size + 1, [{ target := .collected w.heap.size, args := #[] }], V, { target := .fn (.func gf) lb, args := #[.func (.yield (w.heap.size + 1)) #[] #[]] }, V, gf,
    #[.func (.yield (w.heap.size + 1)) #[] #[]] ++ lb, V, ?_, ?_, fun _ _ => trivial, ?_, fun h => by simp [Fence.wide] at h, ?_⟩
  · rw [← hV]; exact run_enterLoop_outer _ _ _ _ _
  · simp only [resolve, hg]
    simp [go_sem]
  · simp [invoke, go_sem, eg]
  refine (hseq (w.heap.size + 1)
    (fun s X => I s X ∧ X.heap[w.heap.size + 1]? = some (.loop (rec0 .ready none)) ∧ X.heap[w.heap.size]? = some (.deferred (some [])))
    (fun s X => ∃ c, Ix c s X ∧ X.heap[w.heap.size + 1]? = some (.loop (rec0 .done (some c))) ∧ X.heap[w.heap.size]? = some (.deferred (some []))) V
    (fun s X Y row h hgr hr => ⟨hI s X Y row h.1 hgr (wider hr), keep h.2.1 (by omega) hgr hr, keep h.2.2 (by omega) hgr hr⟩)
    (fun s X Y row h hgr hr => by
      obtain ⟨c, h1, h2, h3⟩ := h
      exact ⟨c, hIx c s X Y row h1 hgr (wider hr), keep h2 (by omega) hgr hr, keep h3 (by omega) hgr hr⟩)
    (fun s X h => hR s X h.1) ?_ ⟨hVI, hVl, hVd⟩).mono ?_
  · rintro pre x X ⟨hi, hl, hd⟩ hpre hsz
    have hlt : w.heap.size + 1 < X.heap.size := (Array.getElem?_eq_some_iff.1 hl).1
    refine ⟨fn, _, assign, body, run_yield (args := encs x) hl (hps x), roundIn_of_wpIn trivial (wpIn_mono (hround (w.heap.size + 1) pre x X hi hpre (by omega)) ?_)⟩
    rintro e a1 X1 hp
    cases e with
    | normal =>
      obtain ⟨hk1, hbody⟩ := hp
      have hl1 := (hk1.same _ (by omega) hlt).trans hl
      have hd1 := (hk1.same _ (by omega) (by omega)).trans hd
      refine ⟨_, run_beginRound hl1 rfl, wpIn_mono (hbody _ (grownBy_putObj' _ _ _) (by simp)) ?_⟩
      have hlt1 : w.heap.size + 1 < X1.heap.size := (Array.getElem?_eq_some_iff.1 hl1).1
      have fin : ∀ (jump : Option Code) (X3 : World), KB w.heap.size (w.heap.size + 2 + k) (X1.putObj (w.heap.size + 1) (.loop { rec0 .ready none with state := .busy })) X3 →
          (Instr.endRound (w.heap.size + 1) jump).run P X3 = .ok (.bool jump.isNone) (X3.putObj (w.heap.size + 1) (.loop (rec0 (if jump.isNone then .ready else .done) jump))) ∧
          (X3.putObj (w.heap.size + 1) (.loop (rec0 (if jump.isNone then .ready else .done) jump))).heap[w.heap.size + 1]? = some (.loop (rec0 (if jump.isNone then .ready else .done) jump)) ∧
          (X3.putObj (w.heap.size + 1) (.loop (rec0 (if jump.isNone then .ready else .done) jump))).heap[w.heap.size]? = some (.deferred (some [])) ∧
          X.heap.size ≤ X3.heap.size ∧
          ∀ r, V.heap.size ≤ r → r < V.heap.size + k → (X3.putObj (w.heap.size + 1) (.loop (rec0 (if jump.isNone then .ready else .done) jump))).heap[r]? = X.heap[r]? := by
        intro jump X3 hk3
        have hl3 : X3.heap[w.heap.size + 1]? = some (.loop { rec0 .ready none with state := .busy }) := (hk3.same _ (by omega) (by omega)).trans (World.putObj_heap_same hlt1)
        have hd3 : X3.heap[w.heap.size]? = some (.deferred (some [])) := (hk3.same _ (by omega) (by omega)).trans ((World.putObj_heap_other (by omega)).trans hd1)
        refine ⟨run_endRound jump hl3, World.putObj_heap_same (Array.getElem?_eq_some_iff.1 hl3).1, (World.putObj_heap_other (by omega)).trans hd3, ?_, fun r h1 h2 => ?_⟩
        · have h1 := hk3.size; have h2 := hk1.size; simp at h1; omega
        · have h4 := hk1.size
          rw [World.putObj_heap_other (by omega), hk3.same r (by omega) (by omega), World.putObj_heap_other (by omega), hk1.same r (by omega) (by omega)]
      rintro e2 a3 X3 hp2
      cases e2 with
      | normal =>
        obtain ⟨hk3, hi3⟩ := hp2
        obtain ⟨f1, f2, f3, f4, f5⟩ := fin none X3 hk3
        exact ⟨_, _, f1, .inl ⟨rfl, ⟨turn (hI _) hi3, f2, f3⟩, by simp; exact f4, f5⟩⟩
      | ret =>
        obtain ⟨hk3, hi3⟩ := hp2
        obtain ⟨f1, f2, f3, f4, f5⟩ := fin (some .ret) X3 hk3
        exact ⟨_, _, f1, .inr ⟨rfl, _, turn (hIx _ _) hi3, f2, f3⟩⟩
      | exit id =>
        obtain ⟨hk3, hi3⟩ := hp2
        obtain ⟨f1, f2, f3, f4, f5⟩ := fin (some (.exit id)) X3 hk3
        exact ⟨_, _, f1, .inr ⟨rfl, _, turn (hIx _ _) hi3, f2, f3⟩⟩
      | goto t =>
        obtain ⟨hk3, hi3⟩ := hp2
        obtain ⟨f1, f2, f3, f4, f5⟩ := fin (some (.goto t)) X3 hk3
        exact ⟨_, _, f1, .inr ⟨rfl, _, turn (hIx _ _) hi3, f2, f3⟩⟩
      | panic ch => exact hp2.elim
      | outgrown => exact hp2.elim
    | ret => exact hp.elim
    | exit id => exact hp.elim
    | goto t => exact hp.elim
    | panic ch => exact hp.elim
    | outgrown => exact hp.elim
  · rintro e X ⟨⟨v, rfl⟩, ⟨hi, hl, hd⟩ | ⟨pre, hpre, c, hi, hl, hd⟩⟩
    · exact ⟨none, _, run_endLoop hl (by simp [rec0]), hdone _ (turn (hI _) hi) ((World.putObj_heap_other (by omega)).trans hd)⟩
    · exact ⟨some c, _, run_endLoop hl (by simp [rec0]), hstop c pre _ hpre (turn (hIx _ _) hi) ((World.putObj_heap_other (by omega)).trans hd)⟩

end Go.Proofs.Ytdnaipiiponhpaa
