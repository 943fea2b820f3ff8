/- Merged texts: slices and pins read, maps keyed by pairs, join, First, Count, isGroup. -/
import Derived.Test.YtooddicegkiiiaaRows
import Derived.WalkKit
import Derived.WalkSpells
import Derived.WalkLawsBesides
import Derived.BigRegion
import Derived.BigQuiet
import Derived.Lib.Hide
import Derived.Deep.QuietTactic
import Derived.RangeFuncBox
import Derived.Deep.Cut
import Derived.Deep.DeepCutAuto
import Derived.Deep.RegionWith
import Derived.RangeFuncNested
import Derived.RangeFuncBound
import Derived.RangeFuncCalls
import Derived.RangeFuncLeaves
import Derived.Shelf.Abstract
import Derived.Shelf.RegionOpen
import Derived.OwnWalkIn
import Derived.ChangeKeysEq
import Derived.TacticsInMore
import Derived.LoopNIn
import Derived.LoopIn
import Derived.StillTailTactics
import Derived.OrdersHeld
namespace Go.Proofs.Ytooddicegkiiiaa
open Go.RowKit

/-- The slice value v, of n elements, reads the cells cs. -/
def RdC (w : World) (v : Value) (n : Nat) (cs : List Value) : Prop :=
  ∃ a cap, v = .slice a n cap ∧ n ≤ cap ∧ cap ≤ maxLen ∧ (cs ≠ [] → ∃ b off, a = some ⟨b, off, none⟩ ∧ b < w.heap.size ∧ ∀ j u, cs[j]? = some u → w.cell? ⟨b, off + j, none⟩ = some u)

/-- A slice of integers of one kind. -/
def RdI (w : World) (k : IntKind) (v : Value) (xs : List Int) : Prop := RdC w v xs.length (xs.map (Value.int k))

/-- A slice of pairs of ints. -/
def prs (V : List (Int × Int)) : List Value := V.flatMap fun p => [.int .i64 p.1, .int .i64 p.2]
def RdP (w : World) (v : Value) (V : List (Int × Int)) : Prop := RdC w v V.length (prs V)

theorem RdC.mono {w w' : World} {v : Value} {n : Nat} {cs : List Value} (h : RdC w v n cs) (hb : Below w.heap.size w w') : RdC w' v n cs := by
  obtain ⟨a, cap, rfl, hc1, hc2, h⟩ := h
  refine ⟨a, cap, rfl, hc1, hc2, fun hne => ?_⟩
  obtain ⟨b, off, rfl, h1, h2⟩ := h hne
  exact ⟨b, off, rfl, Nat.lt_of_lt_of_le h1 hb.size, fun j u hu => (hb.cell (p := ⟨b, off + j, none⟩) h1).trans (h2 j u hu)⟩
theorem RdI.mono {w w' : World} {k : IntKind} {v : Value} {xs : List Int} (h : RdI w k v xs) (hb : Below w.heap.size w w') : RdI w' k v xs := RdC.mono h hb
theorem RdP.mono {w w' : World} {v : Value} {V : List (Int × Int)} (h : RdP w v V) (hb : Below w.heap.size w w') : RdP w' v V := RdC.mono h hb

theorem RdI.form {w : World} {k : IntKind} {v : Value} {xs : List Int} (h : RdI w k v xs) :
    ∃ a cap, v = .slice a xs.length cap ∧ xs.length ≤ cap ∧ cap ≤ maxLen ∧ (0 < xs.length → ∃ b off, a = some ⟨b, off, none⟩ ∧ b < w.heap.size ∧ ∀ j, j < xs.length → w.cell? ⟨b, off + j, none⟩ = some (.int k (xs[j]?.getD 0))) := by
  obtain ⟨a, cap, rfl, hc1, hc2, h⟩ := h
  refine ⟨a, cap, rfl, hc1, hc2, fun hne => ?_⟩
  obtain ⟨b, off, rfl, h1, h2⟩ := h (by intro e; simp at e; subst e; simp at hne)
  exact ⟨b, off, rfl, h1, fun j hj => h2 j _ (by simp [hj])⟩

theorem prs_get (V : List (Int × Int)) : ∀ j, j < V.length → (prs V)[j * 2]? = some (.int .i64 ((V[j]?.getD (0, 0)).1)) ∧ (prs V)[j * 2 + 1]? = some (.int .i64 ((V[j]?.getD (0, 0)).2)) := by
  induction V with
  | nil => intro j hj; simp at hj
  | cons p V ih =>
    intro j hj
    cases j with
    | zero => simp [prs]
    | succ j =>
      have := ih j (by simpa using hj)
      have e1 : (j + 1) * 2 = j * 2 + 1 + 1 := by omega
      simp only [prs, List.flatMap_cons, List.cons_append, List.nil_append] at this ⊢
      rw [e1]
      simpa using this
theorem prs_length (V : List (Int × Int)) : (prs V).length = V.length * 2 := by
  induction V with
  | nil => rfl
  | cons p V ih => simp only [prs, List.flatMap_cons, List.length_append, List.length_cons, List.length_nil] at ih ⊢; omega

theorem RdP.form {w : World} {v : Value} {V : List (Int × Int)} (h : RdP w v V) :
    ∃ a cap, v = .slice a V.length cap ∧ V.length ≤ cap ∧ cap ≤ maxLen ∧ (0 < V.length → ∃ b off, a = some ⟨b, off, none⟩ ∧ b < w.heap.size ∧
      ∀ j, j < V.length → w.cell? ⟨b, off + j * 2, none⟩ = some (.int .i64 ((V[j]?.getD (0, 0)).1)) ∧ w.cell? ⟨b, off + j * 2 + 1, none⟩ = some (.int .i64 ((V[j]?.getD (0, 0)).2))) := by
  obtain ⟨a, cap, rfl, hc1, hc2, h⟩ := h
  refine ⟨a, cap, rfl, hc1, hc2, fun hne => ?_⟩
  obtain ⟨b, off, rfl, h1, h2⟩ := h (by intro e; have := prs_length V; rw [e] at this; simp at this; omega)
  refine ⟨b, off, rfl, h1, fun j hj => ?_⟩
  obtain ⟨g1, g2⟩ := prs_get V j hj
  exact ⟨h2 _ _ g1, by have := h2 _ _ g2; rwa [← Nat.add_assoc] at this⟩

/-- What the call owns reads. -/
theorem RdC.of_owns {w : World} {base : Nat} {e : TypeId} {size : Nat} {v : Value} {n : Nat} {cs : List Value} (h : w.ownsRow base e size v n cs) : RdC w v n cs := by
  have hl := h.1
  have h' := h
  rcases h.2 with ⟨rfl, rfl⟩ | ⟨g, cap, cur, rfl, hb, hg, hc1, hc2, _, htake⟩
  · exact ⟨none, 0, rfl, Nat.le_refl _, by unfold maxLen; omega, fun hne => by simp at hl; exact absurd hl hne⟩
  · refine ⟨_, _, rfl, hc1, hc2, fun hne => ⟨g, 0, rfl, (Array.getElem?_eq_some_iff.1 hg).1, fun j u hu => ?_⟩⟩
    rw [Nat.zero_add, h'.cellAt j (by rw [← hl]; exact (List.getElem?_eq_some_iff.1 hu).1)]
    exact hu
theorem RdI.of_owns {w : World} {base : Nat} {e : TypeId} {k : IntKind} {v : Value} {n : Nat} {xs : List Int} (h : w.ownsRow base e 1 v n (xs.map (Value.int k))) : RdI w k v xs := by
  have hl := h.1
  simp at hl
  subst hl
  exact RdC.of_owns h
theorem RdP.of_owns {w : World} {base : Nat} {e : TypeId} {v : Value} {n : Nat} {V : List (Int × Int)} (h : w.ownsRow base e 2 v n (prs V)) : RdP w v V := by
  have hl := h.1
  rw [prs_length] at hl
  obtain rfl : V.length = n := by omega
  exact RdC.of_owns h

theorem bcell {W w1 : World} (hb : Below W.heap.size W w1) : (∀ b o, b < W.heap.size → w1.cell? ⟨b, o, none⟩ = W.cell? ⟨b, o, none⟩) ∧ (∀ b o, b < W.heap.size → w1.frozen? ⟨b, o, none⟩ = W.frozen? ⟨b, o, none⟩) :=
  ⟨fun b o h => hb.cell (p := ⟨b, o, none⟩) h, fun b o h => hb.frozen (p := ⟨b, o, none⟩) h⟩

theorem bz (w : World) : Below w.heap.size w w := Below.refl _ _
theorem bal {a w : World} (h : Below a.heap.size a w) (o : Obj) : Below a.heap.size a (w.alloc o) := h.alloc h.size o
theorem btr {a w w' : World} (h : Below a.heap.size a w) (h2 : Below w.heap.size w w') : Below a.heap.size a w' := h.trans (h2.mono h.size)
theorem bset {a w : World} (h : Below a.heap.size a w) {p : Addr} (hp : a.heap.size ≤ p.block) (u : Value) : Below a.heap.size a (w.setCell p u) := h.setCell hp u
theorem bgr {a w w' : World} {row : Option Nat} (h : Below a.heap.size a w) (hg : w.grownBy w' row) (hr : ∀ k, row = some k → a.heap.size ≤ k) : Below a.heap.size a w' := h.grown hg h.size hr
theorem Below.drewN' {B : Nat} {a w : World} (n : Nat) (h : Below B a w) : Below B a (w.drewN n) := ⟨h.os, h.tape, h.output, h.size, h.block⟩
theorem ret_int {k : IntKind} {a b : Int} (h : a = b) : Ending.returned (.int k a) = .returned (.int k b) := by rw [h]
theorem ret_bool {a b : Bool} (h : a = b) : Ending.returned (.bool a) = .returned (.bool b) := by rw [h]

/-- A world in which all that was there when w was reads as it did. -/
structure Later (w : World) where
  val : World
  le : Below w.heap.size w val
instance (w : World) : Nonempty (Later w) := ⟨⟨w, Below.refl _ _⟩⟩
theorem Later.cell {w : World} (l : Later w) (b o : Nat) (h : b < w.heap.size) : l.val.cell? ⟨b, o, none⟩ = w.cell? ⟨b, o, none⟩ := l.le.cell (p := ⟨b, o, none⟩) h
theorem wp_region_later {P : Program} {id : Nat} {Q : Exit → Act → World → Prop} {a : Act} {w : World} {l : List Oper} (hm : P.follows .mixedOrders = true) (hB : Region.lexB .any l.toArray = true)
    (h : wpQuiet P l.toArray (fun w' => ∃ x : Later w, w' = x.val) (fun a' => ∀ w', (∃ x : Later w, w' = x.val) → Q .normal a' w') l a) : (Code.region id l.toArray true).wp P Q a w :=
  wp_region_quiet (C := fun w' => ∃ x : Later w, w' = x.val) hm hB ⟨⟨_, Below.drew (Below.refl _ _)⟩, rfl⟩ (by simpa using h)
theorem Calls.later {P : Program} {f : FuncId} {args : Array Value} {w : World} {l : Later w} {v : Value}
    (h : Calls P f args l.val fun e w' => e = .returned v ∧ Below l.val.heap.size l.val w') : Calls P f args l.val fun e w'' => e = .returned v ∧ ∃ x : Later w, w'' = x.val :=
  h.mono fun _ w' ⟨he, hb⟩ => ⟨he, ⟨w', btr l.le hb⟩, rfl⟩

end Go.Proofs.Ytooddicegkiiiaa

namespace Go.Proofs.Ytooddicegkiiiaa
open Go.RowKit Go.Shelf

/-- From block lo on, what was there in W is there in W'. -/
structure KF (lo : Nat) (W W' : World) : Prop where
  size : W.heap.size ≤ W'.heap.size
  same : ∀ r, lo ≤ r → r < W.heap.size → W'.heap[r]? = W.heap[r]?
theorem KF.refl (lo : Nat) (W : World) : KF lo W W := ⟨Nat.le_refl _, fun _ _ _ => rfl⟩
theorem KF.trans {lo : Nat} {A B C : World} (h : KF lo A B) (k : KF lo B C) : KF lo A C :=
  ⟨Nat.le_trans h.size k.size, fun r h1 h2 => (k.same r h1 (Nat.lt_of_lt_of_le h2 h.size)).trans (h.same r h1 h2)⟩
theorem KF.of_below {lo : Nat} {W W' : World} (h : Below W.heap.size W W') : KF lo W W' := ⟨h.size, fun r _ h2 => h.block r h2⟩
theorem KF.alloc {lo : Nat} {A W : World} (h : KF lo A W) (o : Obj) : KF lo A (W.alloc o) := h.trans (KF.of_below (bal (bz _) _))
theorem KF.set {lo : Nat} {A W : World} (h : KF lo A W) {p : Addr} (hp : p.block < lo) (u : Value) : KF lo A (W.setCell p u) :=
  h.trans ⟨by simp, fun r h1 _ => Below.heap_setCell _ _ _ _ (by omega)⟩

/-- An assertion that abides new blocks, draws, and the turn of a block between lo and hi. -/
def Abides1 (lo hi : Nat) (I : World → Prop) : Prop := ∀ W W' row, I W → W.grownBy W' row → (∀ r, row = some r → lo ≤ r ∧ r < hi) → I W'

/-- The iterator's contract: it yields the values xs one after another as long as it is told to go on; it keeps k blocks of its own, the first ones that it makes. -/
def Yields {α : Type} (n : Nat) (P : Program) (g : Nat) (lb : Array Value) (encs : α → Array Value) (k : Nat) (Rd : World → Prop) (xs : List α) : Prop :=
  ∀ (l : Nat) (J Jx : List α → World → Prop) (W : World),
    (∀ s, Abides1 W.heap.size (W.heap.size + k) (J s)) → (∀ s, Abides1 W.heap.size (W.heap.size + k) (Jx s)) → (∀ s W1, J s W1 → Rd W1) →
    (∀ pre x W1, J pre W1 → pre ++ [x] <+: xs → W.heap.size + k ≤ W1.heap.size → YieldAt Fence.wide (n - 1) P l (encs x) W1 fun e W' =>
      (e = .returned (.bool true) ∧ J (pre ++ [x]) W' ∧ W1.heap.size ≤ W'.heap.size ∧ ∀ r, W.heap.size ≤ r → r < W.heap.size + k → W'.heap[r]? = W1.heap[r]?) ∨ (e = .returned (.bool false) ∧ Jx (pre ++ [x]) W')) →
    J [] W →
    CallsIn Fence.wide n P g (#[.func (.yield l) #[] #[]] ++ lb) W fun e W' => (∃ v, e = .returned v) ∧ (J xs W' ∨ ∃ pre, pre <+: xs ∧ Jx pre W')

/-- How a round may end. -/
def roundEnd {α : Type} (lo : Nat) (I : List α → World → Prop) (Ix : Code → List α → World → Prop) (s : List α) (W : World) : Exit → Act → World → Prop
  | .normal, _, W' => KF lo W W' ∧ I s W'
  | .ret, _, W' => KF lo W W' ∧ Ix .ret s W'
  | .exit id, _, W' => KF lo W W' ∧ Ix (.exit id) s W'
  | .goto t, _, W' => KF lo W W' ∧ Ix (.goto t) s W'
  | .panic _, _, _ => False
  | .outgrown, _, _ => False

/-- The statement 'for x := range g'. -/
theorem range_law {P : Program} {n : Nat} {α : Type} {g : Operand} {ps : Array Tmp} {assign body : Code} {Q : Exit → Act → World → Prop} {a : Act} {w : World}
    {gf : Nat} {lb : Array Value} (hg : a.eval g = .func (.func gf) #[] lb) (eg : ∀ args w, (callFunc gf args).run P w = .ok (.enter gf args) w)
    {encs : α → Array Value} {k : Nat} {Rd : World → Prop} {xs : List α} (hseq : Yields (n - 1) P gf lb encs k Rd xs) (hps : ∀ x, (encs x).size = ps.size)
    (I : List α → World → Prop) (Ix : Code → List α → World → Prop)
    (hI : ∀ s, Abides1 w.heap.size (w.heap.size + 2 + k) (I s)) (hIx : ∀ c s, Abides1 w.heap.size (w.heap.size + 2 + k) (Ix c s)) (hR : ∀ s W1, I s W1 → Rd W1) (h0 : I [] w)
    (hround : ∀ (l : Nat) (pre : List α) (x : α) (W : World), I pre W → pre ++ [x] <+: xs → w.heap.size + 2 + k ≤ W.heap.size →
      assign.wpIn (Fence.wide.inRound l) (n - 1 - 1) P (Exit.then (fun a₁ W₁ => KF w.heap.size W W₁ ∧ ∀ W₂, W₁.grownBy W₂ (some (w.heap.size + 1)) → W₂.heap.size = W₁.heap.size →
          body.wpIn (Fence.wide.inRound l) (n - 1 - 1) P (roundEnd w.heap.size I Ix (pre ++ [x]) W₂) a₁ W₂) (fun _ _ _ => False))
        { tmps := (ps.zip (encs x)).foldl (fun t (p, v) => t.setIfInBounds p v) a.tmps, defers := [] } W)
    (hdone : ∀ (W : World), I xs W → W.heap[w.heap.size]? = some (.deferred (some [])) → Q .normal { a with defers := { target := .collected w.heap.size, args := #[] } :: a.defers } W)
    (hstop : ∀ (c : Code) (pre : List α) (W : World), pre <+: xs → Ix c pre W → W.heap[w.heap.size]? = some (.deferred (some [])) → c.wpIn Fence.wide n P Q { a with defers := { target := .collected w.heap.size, args := #[] } :: a.defers } W) :
    (Code.rangeFunc g ps assign body).wpIn Fence.wide n P Q a w := by
  refine wpIn_rangeFunc ?_
  intro fn hfn
  let rec0 : LoopState → Option Code → Loop := fun st pe => { state := st, pending := pe, fn, tmps := a.tmps, params := ps, assign, body, defers := w.heap.size }
  obtain ⟨V, hV⟩ : ∃ V, (w.alloc (.deferred (some []))).alloc (.loop (rec0 .ready none)) = V := ⟨_, rfl⟩
  have hVs : V.heap.size = w.heap.size + 2 := by rw [← hV]; simp
  have hVl : V.heap[w.heap.size + 1]? = some (.loop (rec0 .ready none)) := by rw [← hV]; exact heap_alloc2_new _ _ _
  have hVd : V.heap[w.heap.size]? = some (.deferred (some [])) := by rw [← hV]; exact heap_alloc2_old _ _ _
  have hVI : I [] V := by
    rw [← hV]
    exact hI [] _ _ none (hI [] _ _ none h0 (World.grownBy_alloc _ _ none) (fun r e => by cases e)) (World.grownBy_alloc _ _ none) (fun r e => by cases e)
  -- what stays of the two blocks of the loop's own
  have keep : ∀ {X Y : World} {row : Option Nat} {j : Nat} {o : Obj}, X.heap[j]? = some o → j < V.heap.size → X.grownBy Y row → (∀ r, row = some r → V.heap.size ≤ r ∧ r < V.heap.size + k) → Y.heap[j]? = some o := by
    intro X Y row j o hx hj hgr hr
    rw [hgr.block j (Array.getElem?_eq_some_iff.1 hx).1 (fun e => by have := hr j e.symm; omega)]
    exact hx
  have wider : ∀ {row : Option Nat}, (∀ r, row = some r → V.heap.size ≤ r ∧ r < V.heap.size + k) → ∀ r, row = some r → w.heap.size ≤ r ∧ r < w.heap.size + 2 + k := by
    intro row h r e
    have := h r e
    omega
  have turn : ∀ {X : World} {o : Obj} {J : World → Prop}, Abides1 w.heap.size (w.heap.size + 2 + k) J → J X → J (X.putObj (w.heap.size + 1) o) :=
    fun h hx => h _ _ (some (w.heap.size + 1)) hx (grownBy_putObj' _ _ _) (fun r e => by cases e; omega)
  refine ⟨w.heap.size + 1, [{ target := .collected w.heap.size, args := #[] }], V, { target := .fn (.func gf) lb, args := #[.func (.yield (w.heap.size + 1)) #[] #[]] }, V, gf,
    #[.func (.yield (w.heap.size + 1)) #[] #[]] ++ lb, V, ?_, ?_, fun _ _ => trivial, ?_, fun h => by simp [Fence.wide] at h, ?_⟩
  · rw [← hV]; exact run_enterLoop_outer _ _ _ _ _
  · simp only [resolve, hg]
    simp [go_sem]
  · simp [invoke, go_sem, eg]
  refine (hseq (w.heap.size + 1)
    (fun s X => I s X ∧ X.heap[w.heap.size + 1]? = some (.loop (rec0 .ready none)) ∧ X.heap[w.heap.size]? = some (.deferred (some [])))
    (fun s X => ∃ c, Ix c s X ∧ X.heap[w.heap.size + 1]? = some (.loop (rec0 .done (some c))) ∧ X.heap[w.heap.size]? = some (.deferred (some []))) V
    (fun s X Y row h hgr hr => ⟨hI s X Y row h.1 hgr (wider hr), keep h.2.1 (by omega) hgr hr, keep h.2.2 (by omega) hgr hr⟩)
    (fun s X Y row h hgr hr => by
      obtain ⟨c, h1, h2, h3⟩ := h
      exact ⟨c, hIx c s X Y row h1 hgr (wider hr), keep h2 (by omega) hgr hr, keep h3 (by omega) hgr hr⟩)
    (fun s X h => hR s X h.1) ?_ ⟨hVI, hVl, hVd⟩).mono ?_
  · rintro pre x X ⟨hi, hl, hd⟩ hpre hsz
    have hlt : w.heap.size + 1 < X.heap.size := (Array.getElem?_eq_some_iff.1 hl).1
    refine ⟨fn, _, assign, body, run_yield (args := encs x) hl (hps x), roundIn_of_wpIn trivial (wpIn_mono (hround (w.heap.size + 1) pre x X hi hpre (by omega)) ?_)⟩
    rintro e a1 X1 hp
    cases e with
    | normal =>
      obtain ⟨hk1, hbody⟩ := hp
      have hl1 := (hk1.same _ (by omega) hlt).trans hl
      have hd1 := (hk1.same _ (by omega) (by omega)).trans hd
      refine ⟨_, run_beginRound hl1 rfl, wpIn_mono (hbody _ (grownBy_putObj' _ _ _) (by simp)) ?_⟩
      have hlt1 : w.heap.size + 1 < X1.heap.size := (Array.getElem?_eq_some_iff.1 hl1).1
      have fin : ∀ (jump : Option Code) (X3 : World), KF w.heap.size (X1.putObj (w.heap.size + 1) (.loop { rec0 .ready none with state := .busy })) X3 →
          (Instr.endRound (w.heap.size + 1) jump).run P X3 = .ok (.bool jump.isNone) (X3.putObj (w.heap.size + 1) (.loop (rec0 (if jump.isNone then .ready else .done) jump))) ∧
          (X3.putObj (w.heap.size + 1) (.loop (rec0 (if jump.isNone then .ready else .done) jump))).heap[w.heap.size + 1]? = some (.loop (rec0 (if jump.isNone then .ready else .done) jump)) ∧
          (X3.putObj (w.heap.size + 1) (.loop (rec0 (if jump.isNone then .ready else .done) jump))).heap[w.heap.size]? = some (.deferred (some [])) ∧
          X.heap.size ≤ X3.heap.size ∧
          ∀ r, V.heap.size ≤ r → r < V.heap.size + k → (X3.putObj (w.heap.size + 1) (.loop (rec0 (if jump.isNone then .ready else .done) jump))).heap[r]? = X.heap[r]? := by
        intro jump X3 hk3
        have hl3 : X3.heap[w.heap.size + 1]? = some (.loop { rec0 .ready none with state := .busy }) := (hk3.same _ (by omega) (by simp; omega)).trans (World.putObj_heap_same hlt1)
        have hd3 : X3.heap[w.heap.size]? = some (.deferred (some [])) := (hk3.same _ (by omega) (by simp; omega)).trans ((World.putObj_heap_other (by omega)).trans hd1)
        refine ⟨run_endRound jump hl3, World.putObj_heap_same (Array.getElem?_eq_some_iff.1 hl3).1, (World.putObj_heap_other (by omega)).trans hd3, ?_, fun r h1 h2 => ?_⟩
        · have h1 := hk3.size; have h2 := hk1.size; simp at h1; omega
        · have h4 := hk1.size
          rw [World.putObj_heap_other (by omega), hk3.same r (by omega) (by simp; omega), World.putObj_heap_other (by omega), hk1.same r (by omega) (by omega)]
      rintro e2 a3 X3 hp2
      cases e2 with
      | normal =>
        obtain ⟨hk3, hi3⟩ := hp2
        obtain ⟨f1, f2, f3, f4, f5⟩ := fin none X3 hk3
        exact ⟨_, _, f1, .inl ⟨rfl, ⟨turn (hI _) hi3, f2, f3⟩, by simp; exact f4, f5⟩⟩
      | ret =>
        obtain ⟨hk3, hi3⟩ := hp2
        obtain ⟨f1, f2, f3, f4, f5⟩ := fin (some .ret) X3 hk3
        exact ⟨_, _, f1, .inr ⟨rfl, _, turn (hIx _ _) hi3, f2, f3⟩⟩
      | exit id =>
        obtain ⟨hk3, hi3⟩ := hp2
        obtain ⟨f1, f2, f3, f4, f5⟩ := fin (some (.exit id)) X3 hk3
        exact ⟨_, _, f1, .inr ⟨rfl, _, turn (hIx _ _) hi3, f2, f3⟩⟩
      | goto t =>
        obtain ⟨hk3, hi3⟩ := hp2
        obtain ⟨f1, f2, f3, f4, f5⟩ := fin (some (.goto t)) X3 hk3
        exact ⟨_, _, f1, .inr ⟨rfl, _, turn (hIx _ _) hi3, f2, f3⟩⟩
      | panic ch => exact hp2.elim
      | outgrown => exact hp2.elim
    | ret => exact hp.elim
    | exit id => exact hp.elim
    | goto t => exact hp.elim
    | panic ch => exact hp.elim
    | outgrown => exact hp.elim
  · rintro e X ⟨⟨v, rfl⟩, ⟨hi, hl, hd⟩ | ⟨pre, hpre, c, hi, hl, hd⟩⟩
    · exact ⟨none, _, run_endLoop hl (by simp [rec0]), hdone _ (turn (hI _) hi) ((World.putObj_heap_other (by omega)).trans hd)⟩
    · exact ⟨some c, _, run_endLoop hl (by simp [rec0]), hstop c pre _ hpre (turn (hIx _ _) hi) ((World.putObj_heap_other (by omega)).trans hd)⟩

/-- Cells behind new blocks. -/
theorem cal {w : World} {a : Addr} {v : Value} (o : Obj) (h : w.cell? a = some v) : (w.alloc o).cell? a = some v :=
  (World.cell?_of_block (w := w) (Below.heap_alloc w o a.block (World.block_lt_of_cell? w a h))).trans h
theorem cnew {w : World} {cs : Array Value} {t : TypeId} {n j : Nat} {v : Value} (hn : n = w.heap.size) (h : cs[j]? = some v) : (w.alloc (.cells cs t)).cell? ⟨n, j, none⟩ = some v := by
  subst hn; rw [cell_of_row _ _ _ _ _ _ (heap_alloc_new w _)]; exact h
theorem fal {w : World} {a : Addr} (o : Obj) (h : w.frozen? a = false) (hb : a.block < w.heap.size) : (w.alloc o).frozen? a = false :=
  (World.frozen?_of_block (w := w) (Below.heap_alloc w o a.block hb)).trans h
theorem fnew {w : World} {cs : Array Value} {t : TypeId} {n j : Nat} (hn : n = w.heap.size) : (w.alloc (.cells cs t)).frozen? ⟨n, j, none⟩ = false := by
  subst hn; exact frozen_of_row _ _ _ _ _ (heap_alloc_new w _)

theorem abides_below {lo hi B : Nat} {w0 : World} (h1 : B ≤ lo) (h2 : B ≤ w0.heap.size) : Abides1 lo hi (fun W => Below B w0 W) :=
  fun _ _ _ h hg hr => h.grown hg (Nat.le_trans h2 h.size) (fun k e => Nat.le_trans h1 (hr k e).1)
theorem abides_cell {lo hi : Nat} {a : Addr} {v : Value} (h1 : a.block < lo) : Abides1 lo hi (fun W => W.cell? a = some v) :=
  fun W _ _ h hg hr => (World.cell?_of_block (hg.block a.block (World.block_lt_of_cell? W a h) (fun e => by have := hr _ e.symm; omega))).trans h
theorem Abides1.and {lo hi : Nat} {I J : World → Prop} (h : Abides1 lo hi I) (k : Abides1 lo hi J) : Abides1 lo hi (fun W => I W ∧ J W) :=
  fun W W' row hs hg hr => ⟨h W W' row hs.1 hg hr, k W W' row hs.2 hg hr⟩
theorem abides_pure {lo hi : Nat} {q : Prop} : Abides1 lo hi (fun _ => q) := fun _ _ _ h _ _ => h

section
variable {n : Nat} {F : Fence} {P : Program} {ops : Array Oper} {rest : List Oper} {o : Oper} {a : Act} {w : World} {Q : Exit → Act → World → Prop}
/-- In a fence: a whole array or struct is read. -/
theorem inLoadRow (hF : ∀ f, F.fn f) (hgd : o.guard = none) (ty : TypeId) (x : Operand) (ho : o.op = .load ty x) (g : Nat) (hx : a.eval x = .pointer (some ⟨g, 0, none⟩)) (t : TypeId) (cs : Array Value) (fr : Nat × Nat) (d : TypeDesc)
    (hg : w.heap[g]? = some (.cells cs t fr)) (hu : P.underlying ty = some d) (hd : (match d with | .struct _ | .array _ _ => true | _ => false) = true) (hi : (P.info? ty).map (·.size) = some cs.size)
    (h : wpListIn F n P ops Q rest (a.put o.dst (.agg cs)) w) : wpListIn F n P ops Q (o :: rest) a w := by
  refine wpListIn_plain hgd fun K hK => ⟨fun _ _ => hF _, ?_⟩
  have e : o.semAt F.round a.eval = execOp a.eval o := by unfold Oper.semAt; cases F.round <;> simp [ho]
  rw [e]; unfold execOp
  simp only [ho, hx, Instr.loadAt, Instr.sureAddr, Sem.run_bind, Sem.run_pure, Result.andThen_ok, run_loadVar_row w g t ty cs fr d hg hu hd hi]
  exact hK _ _ h
/-- .. is written. -/
theorem inStoreRow (hF : ∀ f, F.fn f) (hgd : o.guard = none) (ty : TypeId) (x y : Operand) (ho : o.op = .store ty x y) (g : Nat) (cells : Array Value) (hx : a.eval x = .pointer (some ⟨g, 0, none⟩)) (hy : a.eval y = .agg cells)
    (t : TypeId) (old : Array Value) (hg : w.heap[g]? = some (.cells old t (0, 0))) (hi : (P.info? ty).map (·.size) = some cells.size) (hold : old.size = cells.size) (h1 : cells.all (·.oneCell') = true)
    (h : wpListIn F n P ops Q rest (a.put o.dst undef) (w.setRow g cells)) : wpListIn F n P ops Q (o :: rest) a w := by
  refine wpListIn_plain hgd fun K hK => ⟨fun _ _ => hF _, ?_⟩
  have e : o.semAt F.round a.eval = execOp a.eval o := by unfold Oper.semAt; cases F.round <;> simp [ho]
  rw [e]; unfold execOp
  simp only [ho, hx, hy, Instr.storeAt, Instr.sureAddr, Sem.run_bind, Sem.run_pure, Result.andThen_ok, run_storeVar_row w g t ty old cells hg hi hold h1]
  exact hK _ _ h
end
/-- The fence of everything, in a round or in none. -/
abbrev WF (r : Option Nat) : Fence := { Fence.wide with round := r }

section
variable {P : Program} {ops : Array Oper} {md : Region.Mode} {C : World → Prop} {n : Nat} {r : Option Nat}
theorem inOp_of_quiet {i : Nat} {a : Act} {K : Act → Prop} {K' : Act → World → Prop} {Q' : Exit → Act → World → Prop} {w : World} (hd : ∀ (i : Nat) (o : Oper), ops[i]? = some o → ∀ c, o.op ≠ .defer c)
    (hC : C w) (h : ∀ a w', C w' → K a → K' a w') (hh : qOp P ops C i K a) : wpOpIn (WF r) n P ops Q' i K' a w := by
  unfold qOp at hh
  unfold wpOpIn
  cases ho : ops[i]? with
  | none => simp only [ho] at hh; exact h _ _ hC hh
  | some o =>
    simp only [ho] at hh ⊢
    by_cases hw : Region.wanted o (yielded ops a.tmps) = true
    · simp only [hw, if_true] at hh ⊢
      obtain ⟨v, h1, h2⟩ := hh
      have h3 := h1 w hC
      unfold Oper.quietAt at h3
      refine ⟨fun _ _ => trivial, ?_⟩
      have e : o.semAt (WF r).round a.eval = execOp a.eval o := Oper.semAt_eq _ _ _ (hd i o ho)
      rw [e]
      generalize (execOp a.eval o).run P w = res at *
      cases res with
      | ok x w' =>
        cases x <;> simp only [Oper.quietUpon] at h3 <;> simp only [Oper.uponIn]
        case value u =>
          obtain ⟨e1, e2⟩ := h3
          rw [e1, e2]; exact h _ _ hC h2
        case skip =>
          obtain ⟨e1, e2⟩ := h3
          rw [e1, ← e2]; exact h _ _ hC h2
        case enter f args =>
          obtain ⟨e1, hc⟩ := h3
          rw [e1]
          refine ⟨fun hh => by simp [Fence.wide] at hh, ?_⟩
          exact (show CallsIn Fence.wide (n - 1) P f args w _ from callsIn_wide.2 (hc.mono fun e w'' ⟨he, hw''⟩ => by subst he; exact h _ _ hw'' h2))
      | halt x w' => simp only [Oper.quietUpon] at h3
    · simp only [hw] at hh ⊢
      exact ⟨fun _ _ => trivial, h _ _ hC hh⟩
theorem inAny_of_quiet {Q : Act → Prop} {Q' : Exit → Act → World → Prop} (hd : ∀ (i : Nat) (o : Oper), ops[i]? = some o → ∀ c, o.op ≠ .defer c) (hQ : ∀ a w, C w → Q a → Q' .normal a w) :
    ∀ (fuel : Nat) (listed : Array Bool) (a : Act) (w : World), C w → wpAnyQ P md ops C Q fuel listed a → wpAnyIn (WF r) n P md ops Q' fuel listed a w
  | 0, _, _, _, hw, h => ⟨h.1, hQ _ _ hw h.2⟩
  | fuel + 1, _, _, _, hw, h => ⟨fun h0 => hQ _ _ hw (h.1 h0), fun i hi => inOp_of_quiet hd hw (fun a' w' hw' => inAny_of_quiet hd hQ fuel _ a' w' hw') (h.2 i hi)⟩
def noDefer (l : List Oper) : Bool := l.all fun o => match o.op with | .defer _ => false | _ => true
/-- A region that draws its order, in a fence, whose operations only read and whose calls return one value and leave old memory alone: one walk. -/
theorem in_region_later {id : Nat} {Q : Exit → Act → World → Prop} {a : Act} {w : World} {l : List Oper} (hm : P.follows .mixedOrders = true) (hB : Region.lexB .any l.toArray = true) (hd : noDefer l = true)
    (h : wpQuiet P l.toArray (fun w' => ∃ x : Later w, w' = x.val) (fun a' => ∀ w', (∃ x : Later w, w' = x.val) → Q .normal a' w') l a) : (Code.region id l.toArray true).wpIn (WF r) n P Q a w := by
  have hd' : ∀ (i : Nat) (o : Oper), l.toArray[i]? = some o → ∀ c, o.op ≠ .defer c := by
    intro i o ho c e
    have hm : o ∈ l := by rw [List.getElem?_toArray] at ho; exact List.mem_of_getElem? ho
    have := List.all_eq_true.1 hd o hm
    rw [e] at this
    simp at this
  simp only [Region.lexB, Bool.and_eq_true] at hB
  refine wpIn_region_any hm (inAny_of_quiet (C := fun w' => ∃ x : Later w, w' = x.val) (Q := fun a' => ∀ w', (∃ x : Later w, w' = x.val) → Q .normal a' w') hd' (fun _ w' hw' h => h w' hw') _ _ _ _ ⟨⟨_, Below.drew (Below.refl _ _)⟩, rfl⟩ ?_)
  have := wpAnyQ_lex (P := P) (C := fun w' => ∃ x : Later w, w' = x.val) (md := .any) hB.1 l.toArray.toList 0 (Array.replicate l.toArray.size false) a (by simp) (by simpa using hB.2) (by simpa using h)
  simpa using this
end
/-- Arrays of ints, compared. -/
theorem eqItems_ints {P : Program} {w : World} (d : Nat) (e : TypeId) (k : IntKind) (he : P.underlying e = some (.int k)) (xs ys : List Int) : ∀ is : List Nat, (∀ i ∈ is, i < xs.length ∧ i < ys.length) →
    (Op.eqItems (d + 1) e 1 (xs.map (Value.int k)).toArray (ys.map (Value.int k)).toArray is).run P w = .ok (is.all fun i => xs[i]?.getD 0 == ys[i]?.getD 0) w
  | [], _ => by simp [Op.eqItems]
  | i :: is, h => by
    have ih := eqItems_ints (w := w) d e k he xs ys is (fun j hj => h j (List.mem_cons_of_mem _ hj))
    obtain ⟨h1, h2⟩ := h i (by simp)
    have px : (part e (xs.map (Value.int k)).toArray (i * 1)).run P w = .ok (.int k (xs[i]?.getD 0)) w := by
      simp [part, isAgg, run_underlying he, h1]
    have py : (part e (ys.map (Value.int k)).toArray (i * 1)).run P w = .ok (.int k (ys[i]?.getD 0)) w := by
      simp [part, isAgg, run_underlying he, h2]
    simp only [Op.eqItems, Sem.run_bind, px, py, Result.andThen_ok, run_equalIn_int w d e k k _ _ he, List.all_cons]
    cases hb : (xs[i]?.getD 0 == ys[i]?.getD 0)
    · simp
    · simpa using ih
theorem all_get_eq (xs ys : List Int) (h : xs.length = ys.length) : ((List.range xs.length).all fun i => xs[i]?.getD 0 == ys[i]?.getD 0) = decide (xs = ys) := by
  rw [Bool.eq_iff_iff, List.all_eq_true, decide_eq_true_eq]
  constructor
  · intro h1
    apply List.ext_getElem h
    intro i h2 h3
    have := h1 i (List.mem_range.2 h2)
    simpa [h2, h3] using this
  · rintro rfl i _; simp
theorem run_eq_arr {P : Program} (w : World) (d : Nat) (t e : TypeId) (n : Nat) (k : IntKind) (i : TypeInfo) (hu : P.underlying t = some (.array n e)) (hi : P.info? e = some i) (hc : P.cellsOf e = 1) (he : P.underlying e = some (.int k)) (xs ys : List Int) (hx : xs.length = n) (hy : ys.length = n) :
    (Op.equalIn (d + 2) t (.agg (xs.map (Value.int k)).toArray) (.agg (ys.map (Value.int k)).toArray)).run P w = .ok (decide (xs = ys)) w := by
  rw [run_equalIn_array w (d + 1) _ _ hu hi, hc, eqItems_ints d e k he xs ys _ (fun j hj => by rw [List.mem_range] at hj; omega), ← hx, all_get_eq xs ys (by omega)]
theorem run_neq_arr {P : Program} (w : World) (t e : TypeId) (n : Nat) (k : IntKind) (i : TypeInfo) (hu : P.underlying t = some (.array n e)) (hi : P.info? e = some i) (hc : P.cellsOf e = 1) (he : P.underlying e = some (.int k)) (xs ys : List Int) (hx : xs.length = n) (hy : ys.length = n) :
    (binOp .neq t (.agg (xs.map (Value.int k)).toArray) (.agg (ys.map (Value.int k)).toArray)).run P w = .ok (.bool (!decide (xs = ys))) w := by
  rw [run_neq_struct, run_eq_arr w 9998 t e n k i hu hi hc he xs ys hx hy]; rfl
/-- A whole array is read, in a region that draws. -/
theorem wpQuiet_load_row {P : Program} {ops : Array Oper} {Q : Act → Prop} {a : Act} {w : World} {rest : List Oper} {o : Oper} (hgd : o.guard = none) (ty : TypeId) (x : Operand) (ho : o.op = .load ty x) (g : Nat) (hx : a.eval x = .pointer (some ⟨g, 0, none⟩)) (t : TypeId) (cs : Array Value) (fr : Nat × Nat) (d : TypeDesc)
    (hg : w.heap[g]? = some (.cells cs t fr)) (hu : P.underlying ty = some d) (hd : (match d with | .struct _ | .array _ _ => true | _ => false) = true) (hi : (P.info? ty).map (·.size) = some cs.size)
    (h : wpQuiet P ops (fun w' => ∃ x : Later w, w' = x.val) Q rest (a.put o.dst (.agg cs))) : wpQuiet P ops (fun w' => ∃ x : Later w, w' = x.val) Q (o :: rest) a := by
  unfold wpQuiet
  rw [if_pos (by simp [Region.wanted, hgd])]
  refine ⟨.agg cs, ?_, h⟩
  rintro w' ⟨l, rfl⟩
  have hg' : l.val.heap[g]? = some (.cells cs t fr) := (l.le.block g (Array.getElem?_eq_some_iff.1 hg).1).trans hg
  unfold Oper.quietAt execOp
  simp only [ho, hx, Instr.loadAt, Instr.sureAddr, Sem.run_bind, Sem.run_pure, Result.andThen_ok, run_loadVar_row l.val g t ty cs fr d hg' hu hd hi, Oper.quietUpon, and_self]
/-- A struct or an array is built, in a region that draws. -/
theorem wpQuiet_build {P : Program} {ops : Array Oper} {Q : Act → Prop} {a : Act} {C : World → Prop} {rest : List Oper} {o : Oper} (hgd : o.guard = none) (t : TypeId) (x : Operand) (ho : o.op = .build t #[(0, x)]) (v : Value) (hx : a.eval x = v) (cells : Array Value)
    (hb : P.built t [(0, v)] = some cells)
    (h : wpQuiet P ops C Q rest (a.put o.dst (.agg cells))) : wpQuiet P ops C Q (o :: rest) a := by
  unfold wpQuiet
  rw [if_pos (by simp [Region.wanted, hgd])]
  refine ⟨.agg cells, fun w _ => ?_, h⟩
  unfold Oper.quietAt execOp
  have hp : (#[(0, x)].map fun (p : Nat × Operand) => (p.1, a.eval p.2)).toList = [(0, v)] := by simp [hx]
  simp only [ho, Sem.run_bind, run_build w t _ cells (by rw [hp]; exact hb), Result.andThen_ok, Sem.run_pure, Oper.quietUpon, and_self]
/-- What lies there when a round's body begins: the loop variable in its box, and all that was there but for the loop's record. -/
theorem round_start {W W2 : World} {z cs : Array Value} {t : TypeId} {r : Nat} (hr : r < W.heap.size) (hg : ((W.alloc (.cells z t)).setRow W.heap.size cs).grownBy W2 (some r)) (hs : W2.heap.size = ((W.alloc (.cells z t)).setRow W.heap.size cs).heap.size) :
    W2.heap[W.heap.size]? = some (.cells cs t (0, 0)) ∧ W2.heap.size = W.heap.size + 1 ∧ Below r W W2 ∧ KF r W ((W.alloc (.cells z t)).setRow W.heap.size cs) := by
  have h0 : ((W.alloc (.cells z t)).setRow W.heap.size cs).heap.size = W.heap.size + 1 := by simp
  have hk : ∀ j, j < W.heap.size → ((W.alloc (.cells z t)).setRow W.heap.size cs).heap[j]? = W.heap[j]? := fun j hj => by
    rw [setRow_other _ _ _ _ (by omega)]; exact Below.heap_alloc _ _ _ hj
  refine ⟨?_, by rw [hs, h0], ⟨hg.os, hg.tape, hg.output, by rw [hs, h0]; omega, fun j hj => ?_⟩, ⟨by rw [h0]; omega, fun j _ hj => hk j hj⟩⟩
  · rw [hg.block _ (by rw [h0]; omega) (by intro e; cases e; omega)]
    exact setRow_heap _ _ _ _ _ _ (heap_alloc_new _ _)
  · rw [hg.block _ (by rw [h0]; omega) (by intro e; cases e; omega)]
    exact hk j (by omega)
theorem kf_box (lo : Nat) (W : World) (z cs : Array Value) (t : TypeId) : KF lo W ((W.alloc (.cells z t)).setRow W.heap.size cs) :=
  ⟨by simp, fun j _ hj => by rw [setRow_other _ _ _ _ (by omega)]; exact Below.heap_alloc _ _ _ hj⟩
theorem below_box (W : World) (z cs : Array Value) (t : TypeId) : Below W.heap.size W ((W.alloc (.cells z t)).setRow W.heap.size cs) :=
  ⟨rfl, rfl, rfl, by simp, fun j hj => by rw [setRow_other _ _ _ _ (by omega)]; exact Below.heap_alloc _ _ _ hj⟩
theorem heap_box (W : World) (z cs : Array Value) (t : TypeId) : ((W.alloc (.cells z t)).setRow W.heap.size cs).heap[W.heap.size]? = some (.cells cs t (0, 0)) :=
  setRow_heap _ _ _ _ _ _ (heap_alloc_new _ _)
theorem results_cell {P : Program} {fn : Func} {p : Tmp} {ty : TypeId} {tmps : Array Value} {w : World} {g : Nat} {v : Value} (h : fn.results = #[.cell p ty]) (hp : tmps.getD p undef = .pointer (some ⟨g, 0, none⟩))
    (hl : (loadVar ty ⟨g, 0, none⟩).run P w = .ok v w) : (results fn tmps).run P w = .ok v w := by
  have hp' : tmps[p]?.getD undef = .pointer (some ⟨g, 0, none⟩) := by simpa using hp
  simp [results, h, hp', asAddr, hl]
theorem results_cell2 {P : Program} {fn : Func} {p p' : Tmp} {ty ty' : TypeId} {tmps : Array Value} {w : World} {g g' : Nat} {v v' : Value} (h : fn.results = #[.cell p ty, .cell p' ty']) (hp : tmps.getD p undef = .pointer (some ⟨g, 0, none⟩)) (hp2 : tmps.getD p' undef = .pointer (some ⟨g', 0, none⟩))
    (hl : (loadVar ty ⟨g, 0, none⟩).run P w = .ok v w) (hl' : (loadVar ty' ⟨g', 0, none⟩).run P w = .ok v' w) : (results fn tmps).run P w = .ok (.tuple #[v, v']) w := by
  have hp' : tmps[p]?.getD undef = .pointer (some ⟨g, 0, none⟩) := by simpa using hp
  have hp2' : tmps[p']?.getD undef = .pointer (some ⟨g', 0, none⟩) := by simpa using hp2
  simp [results, h, hp', hp2', asAddr, hl, hl']
theorem cell_put {W : World} {a : Addr} {v : Value} (r : Nat) (o : Obj) (h : W.cell? a = some v) (hr : a.block ≠ r) : (W.putObj r o).cell? a = some v :=
  (World.cell?_of_block (w := W) (World.putObj_heap_other hr)).trans h
theorem below_put {a W : World} (h : Below a.heap.size a W) {r : Nat} (o : Obj) (hr : a.heap.size ≤ r) : Below a.heap.size a (W.putObj r o) :=
  bgr h (grownBy_putObj' W r o) (fun k e => by cases e; exact hr)
end Go.Proofs.Ytooddicegkiiiaa

namespace Go.Proofs.Ytooddicegkiiiaa
open Go.RowKit Go.Shelf

section
variable {P : Program} {ops : Array Oper} {md : Region.Mode} {C : World → Prop}
/-- Some order of the first f operations that come up, all of the head; then L. -/
def headThen (P : Program) (md : Region.Mode) (ops : Array Oper) (C : World → Prop) (n : Nat) (L : Array Bool → Act → Prop) : Nat → Array Bool → Act → Prop
  | 0, listed, a => L listed a
  | f + 1, listed, a => Region.ready md ops listed ≠ [] ∧ ∀ i ∈ Region.ready md ops listed, i < n ∧ qOp P ops C i (headThen P md ops C n L f (listed.setIfInBounds i true)) a
theorem any_of_headThen {n g : Nat} {L : Array Bool → Act → Prop} {Q' : Exit → Act → World → Prop} (hL : ∀ listed a w, C w → L listed a → wpAny P md ops Q' g listed a w) :
    ∀ (f : Nat) (listed : Array Bool) (a : Act) (w : World), C w → headThen P md ops C n L f listed a → wpAny P md ops Q' (f + g) listed a w
  | 0, listed, a, w, hw, h => by rw [Nat.zero_add]; exact hL _ _ _ hw h
  | f + 1, listed, a, w, hw, h => by
    rw [show f + 1 + g = (f + g) + 1 by omega]
    exact ⟨fun h0 => absurd h0 h.1, fun i hi => wpOp_of_qOp hw (fun a' w' hw' h' => any_of_headThen hL f _ a' w' hw' h') (h.2 i hi).2⟩
/-- An operation of the head that may come up now may be taken first. -/
theorem headThen_first {n i : Nat} {oi : Oper} {v : Value} {L : Array Bool → Act → Prop} (hi : ops[i]? = some oi) (hsel : ∀ (j : Nat) (o : Oper) cs b, ops[j]? = some o → o.op ≠ .select cs b)
    (hwait : ∀ listed, HeadInv md ops n listed → ∀ i, i < n → listed.getD i true = false → ∀ t, n ≤ t → t ∉ Region.ready md ops listed) (hin : i < n) (hdone : ∀ listed a, L listed a → ∀ j ∈ Region.ready md ops listed, n ≤ j) :
    ∀ (f : Nat) (listed : Array Bool) (a : Act), HeadInv md ops n listed →
      (∀ j oj, ops[j]? = some oj → j ≠ i → listed.getD j true = false → (∀ e ∈ oj.after, Region.binds md e = true → e.on ≠ i) → oi.apart ops oj = true) →
      i ∈ Region.ready md ops listed → YieldsIn P ops C oi v a →
      headThen P md ops C n L f (listed.setIfInBounds i true) (a.put oi.dst v) → headThen P md ops C n L (f + 1) listed a := by
  intro f
  induction f with
  | zero =>
    intro listed a inv _ hr hy H
    refine ⟨fun h => (by rw [h] at hr; cases hr), fun j hj => ?_⟩
    have hjn : j < n := Nat.lt_of_not_le fun h => absurd hj (hwait _ inv i hin (mem_ready.1 hr).1 j h)
    refine ⟨hjn, ?_⟩
    by_cases hji : j = i
    · subst hji; exact hy.qOp hi H
    · have := hdone _ _ H j (ready_mono hj hji)
      omega
  | succ f ih =>
    intro listed a inv hfree hr hy H
    refine ⟨fun h => (by rw [h] at hr; cases hr), fun j hj => ?_⟩
    have hjn : j < n := Nat.lt_of_not_le fun h => absurd hj (hwait _ inv i hin (mem_ready.1 hr).1 j h)
    refine ⟨hjn, ?_⟩
    by_cases hji : j = i
    · subst hji; exact hy.qOp hi H
    obtain ⟨hjun, oj, hoj, hall⟩ := mem_ready.1 hj
    have hnot : ∀ e ∈ oj.after, Region.binds md e = true → e.on ≠ i := by
      intro e he hb heq
      have h1 := hall e he hb
      rw [heq, getD_both (mem_ready.1 hr).1] at h1
      cases h1
    refine qOp_mono (fun a' h3 => ih (listed.setIfInBounds j true) a' (inv.set hj hjn) ?_ (ready_mono hr (Ne.symm hji)) h3.1 ?_)
      (qOp_put hoj (hfree j oj hoj hji hjun hnot) (fun cs b => hsel i oi cs b hi) (fun cs b => hsel j oj cs b hoj) hy (H.2 j (ready_mono hj hji)).2)
    · intro k ok hk hki hun hno
      refine hfree k ok hk hki ?_ hno
      by_cases hjk : j = k
      · subst hjk; exact hjun
      · rw [getD_set_ne true hjk] at hun; exact hun
    · rw [Array.setIfInBounds_comm _ _ hji]
      exact h3.2
theorem headThen_lex {n g : Nat} {Lq : Act → Prop} (hsel : Region.noSelect ops = true) (hs : Region.sinkB md ops n = true) (hc : Region.chainB md ops n = true) (hn : n < ops.size) :
    ∀ (l : List Oper) (k : Nat) (listed : Array Bool) (a : Act), (∀ j, j < l.length → l[j]? = ops[k + j]?) → k + l.length = n → HeadInv md ops n listed →
    Region.lexHead md ops g l.length k listed = true → wpQuiet P ops C Lq l a →
    headThen P md ops C n (fun listed' a' => Region.seqB md ops g n listed' = true ∧ Lq a') l.length listed a
  | [], k, listed, a, _, hk, _, hB, h => by
    obtain rfl : k = n := by simpa using hk
    exact ⟨by simpa [Region.lexHead] using hB, h⟩
  | o :: l, k, listed, a, hl, hk, inv, hB, h => by
    have h0 : ops[k]? = some o := by simpa using (hl 0 (by simp)).symm
    simp only [List.length_cons, Region.lexHead, Bool.and_eq_true] at hB hk
    obtain ⟨⟨hr, hf⟩, hB'⟩ := hB
    have hr' : k ∈ Region.ready md ops listed := by simpa using hr
    have hst : qOp P ops C k (wpQuiet P ops C Lq l) a := by unfold qOp; simp only [h0]; exact h
    obtain ⟨v, hy, hK⟩ := yieldsIn_of_qOp h0 hst
    exact headThen_first h0 (Region.noSelect_spec hsel) (fun listed inv i hi hu => tail_waits hs hc hn inv _ i rfl hi hu) (by omega) (fun listed' a' hL => seqB_ready hL.1) l.length listed a inv (Region.free_spec h0 hf) hr' hy
      (headThen_lex hsel hs hc hn l (k + 1) _ _ (fun j hj => by have := hl (j + 1) (by simp; omega); simpa [Nat.add_assoc, Nat.add_comm 1 j] using this) (by omega) (inv.set hr' (by omega)) hB' hK)

theorem any_head_tail {Q : Exit → Act → World → Prop} {a : Act} {w : World} {l : List Oper} (n : Nat) (hB : Region.lexTailB .any l.toArray n = true) (hC : C w)
    (h : wpQuiet P l.toArray C (fun a' => ∀ w', C w' → wpList P l.toArray Q (l.drop n) a' w') (l.take n) a) : wpAny P .any l.toArray Q l.toArray.size (Array.replicate l.toArray.size false) a w := by
  simp only [Region.lexTailB, Bool.and_eq_true, decide_eq_true_eq] at hB
  obtain ⟨⟨⟨⟨hsel, hn⟩, hs⟩, hc⟩, hlex⟩ := hB
  have hn' : n < l.length := by simpa using hn
  have htl : (l.take n).length = n := by simp; omega
  have hdl : (l.drop n).length = l.toArray.size - n := by simp
  have inv0 : HeadInv .any l.toArray n (Array.replicate l.toArray.size false) :=
    ⟨by simp, fun j oj _ hl => (by rw [getD_replicate_false] at hl; cases hl), fun t _ ht => getD_in (by simpa using ht) (getD_replicate_false _ _)⟩
  have H := headThen_lex (md := .any) (g := l.toArray.size - n) hsel hs hc hn (l.take n) 0 _ a (fun j hj => by
    have hj' : j < n := by rw [htl] at hj; exact hj
    simp [hj']) (by simpa using htl) inv0 (by rw [htl]; exact hlex) h
  have := any_of_headThen (Q' := Q) (g := l.toArray.size - n) (fun listed a' w' hw' hL => by
    have := wpAny_of_seq (md := .any) (Q' := Q) (l.drop n) n listed a' w' (fun j => by simp [List.getElem?_drop]) (by rw [hdl]; exact hL.1) (hL.2 w' hw')
    rwa [hdl] at this) _ _ _ _ hC H
  rw [htl, show n + (l.toArray.size - n) = l.toArray.size by omega] at this
  exact this

/-- Every operation of the tail waits, itself or by an earlier one of the tail, for all of the head. -/
def tailB (md : Region.Mode) (ops : Array Oper) (n : Nat) : Bool :=
  (List.range ops.size).all fun t => decide (t < n) || (List.range t).any (fun t' => decide (n ≤ t') && Region.waitsFor md ops t t') ||
    (List.range n).all fun i => (List.range n).any (fun j => decide (i < j) && Region.waitsFor md ops j i) || Region.waitsFor md ops t i
theorem not_ready_of_waits {listed : Array Bool} {t i : Nat} (h : Region.waitsFor md ops t i = true) (hu : listed.getD i false = false) : t ∉ Region.ready md ops listed := by
  intro hr
  obtain ⟨_, ot, hot, hall⟩ := mem_ready.1 hr
  obtain ⟨o', ho', e, he, hb, hon⟩ := Region.waitsFor_spec h
  obtain rfl : o' = ot := Option.some.inj (ho'.symm.trans hot)
  have := hall e he hb
  rw [hon, hu] at this
  cases this
theorem tailB_waits {n : Nat} (h : tailB md ops n = true) : ∀ listed, HeadInv md ops n listed → ∀ i, i < n → listed.getD i true = false → ∀ t, n ≤ t → t ∉ Region.ready md ops listed := by
  intro listed inv i hi hu t ht
  by_cases hts : t < ops.size
  · have h1 := List.all_eq_true.1 h t (List.mem_range.2 hts)
    simp only [Bool.or_eq_true, decide_eq_true_eq] at h1
    rcases h1 with (h1 | h1) | h1
    · omega
    · obtain ⟨t', ht', h2⟩ := List.any_eq_true.1 h1
      simp only [Bool.and_eq_true, decide_eq_true_eq] at h2
      exact not_ready_of_waits h2.2 (getD_both (inv.tail t' h2.1 (by have := List.mem_range.1 ht'; omega)))
    · have key : ∀ d i, n - i = d → i < n → listed.getD i true = false → t ∉ Region.ready md ops listed := by
        intro d
        induction d using Nat.strongRecOn with
        | _ d ih =>
          intro i hd hi hu
          have h2 := List.all_eq_true.1 h1 i (List.mem_range.2 hi)
          simp only [Bool.or_eq_true] at h2
          rcases h2 with h2 | h2
          · obtain ⟨j, hj, h3⟩ := List.any_eq_true.1 h2
            simp only [Bool.and_eq_true, decide_eq_true_eq] at h3
            have hjn := List.mem_range.1 hj
            obtain ⟨oj, hoj, e, he, hb, hon⟩ := Region.waitsFor_spec h3.2
            cases hl : listed.getD j false with
            | true =>
              have h4 := inv.closed j oj hoj hl e he hb
              rw [hon, getD_both hu] at h4
              cases h4
            | false =>
              have hjs : j < listed.size := by rw [inv.size]; exact (Array.getElem?_eq_some_iff.1 hoj).1
              exact ih (n - j) (by omega) j rfl hjn (getD_in hjs hl)
          · exact not_ready_of_waits h2 (getD_both hu)
      exact key _ i rfl hi hu
  · intro hr
    obtain ⟨_, ot, hot, _⟩ := mem_ready.1 hr
    exact hts (Array.getElem?_eq_some_iff.1 hot).1
/-- The head in the text's order; what is listed behind it. -/
def lexHd (md : Region.Mode) (ops : Array Oper) : Nat → Nat → Array Bool → Bool
  | 0, _, _ => true
  | f + 1, k, listed => (Region.ready md ops listed).contains k && Region.free md ops listed k && lexHd md ops f (k + 1) (listed.setIfInBounds k true)
def marked : Nat → Nat → Array Bool → Array Bool
  | 0, _, listed => listed
  | f + 1, k, listed => marked f (k + 1) (listed.setIfInBounds k true)
theorem headThen_lex2 {n : Nat} {Lq : Act → Prop} (hsel : Region.noSelect ops = true) (hw : tailB md ops n = true) (hlist : Array Bool) (hdone : ∀ j ∈ Region.ready md ops hlist, n ≤ j) :
    ∀ (l : List Oper) (k : Nat) (listed : Array Bool) (a : Act), (∀ j, j < l.length → l[j]? = ops[k + j]?) → k + l.length = n → HeadInv md ops n listed → marked l.length k listed = hlist →
    lexHd md ops l.length k listed = true → wpQuiet P ops C Lq l a →
    headThen P md ops C n (fun listed' a' => listed' = hlist ∧ Lq a') l.length listed a
  | [], k, listed, a, _, hk, _, hm, hB, h => ⟨hm, h⟩
  | o :: l, k, listed, a, hl, hk, inv, hm, hB, h => by
    have h0 : ops[k]? = some o := by simpa using (hl 0 (by simp)).symm
    simp only [List.length_cons, lexHd, Bool.and_eq_true] at hB hk
    obtain ⟨⟨hr, hf⟩, hB'⟩ := hB
    have hr' : k ∈ Region.ready md ops listed := by simpa using hr
    have hst : qOp P ops C k (wpQuiet P ops C Lq l) a := by unfold qOp; simp only [h0]; exact h
    obtain ⟨v, hy, hK⟩ := yieldsIn_of_qOp h0 hst
    exact headThen_first h0 (Region.noSelect_spec hsel) (tailB_waits hw) (by omega) (fun listed' a' hL => by rw [hL.1]; exact hdone) l.length listed a inv (Region.free_spec h0 hf) hr' hy
      (headThen_lex2 hsel hw hlist hdone l (k + 1) _ _ (fun j hj => by have := hl (j + 1) (by simp; omega); simpa [Nat.add_assoc, Nat.add_comm 1 j] using this) (by omega) (inv.set hr' (by omega)) hm hB' hK)
def headB (md : Region.Mode) (ops : Array Oper) (n : Nat) : Bool :=
  Region.noSelect ops && decide (n < ops.size) && tailB md ops n && lexHd md ops n 0 (Array.replicate ops.size false) && (Region.ready md ops (marked n 0 (Array.replicate ops.size false))).all (fun j => decide (n ≤ j))
/-- Quiet operations first; what comes behind them in whatever order. -/
theorem any_head_any {Q : Exit → Act → World → Prop} {a : Act} {w : World} {l : List Oper} (n : Nat) (hB : headB .any l.toArray n = true) (hC : C w)
    (h : wpQuiet P l.toArray C (fun a' => ∀ w', C w' → wpAny P .any l.toArray Q (l.length - n) (marked n 0 (Array.replicate l.toArray.size false)) a' w') (l.take n) a) : wpAny P .any l.toArray Q l.toArray.size (Array.replicate l.toArray.size false) a w := by
  simp only [headB, Bool.and_eq_true, decide_eq_true_eq] at hB
  obtain ⟨⟨⟨⟨hsel, hn⟩, hw⟩, hlex⟩, hd⟩ := hB
  have hn' : n < l.length := by simpa using hn
  have htl : (l.take n).length = n := by simp; omega
  have inv0 : HeadInv .any l.toArray n (Array.replicate l.toArray.size false) :=
    ⟨by simp, fun j oj _ hl => (by rw [getD_replicate_false] at hl; cases hl), fun t _ ht => getD_in (by simpa using ht) (getD_replicate_false _ _)⟩
  have H := headThen_lex2 (md := .any) hsel hw _ (fun j hj => by simpa using List.all_eq_true.1 hd j hj) (l.take n) 0 _ a (fun j hj => by
    have hj' : j < n := by rw [htl] at hj; exact hj
    simp [hj']) (by simpa using htl) inv0 (by rw [htl]) (by rw [htl]; exact hlex) h
  have := any_of_headThen (Q' := Q) (g := l.length - n) (fun listed a' w' hw' hL => by
    obtain ⟨rfl, h2⟩ := hL
    exact h2 w' hw') _ _ _ _ hC H
  rw [htl, show n + (l.length - n) = l.toArray.size by simp; omega] at this
  exact this

/-- From an operation outside a fence to one inside the fence of everything. -/
theorem inOp_of_op {m : Nat} {r : Option Nat} {Q : Exit → Act → World → Prop} (hd : ∀ (i : Nat) (o : Oper), ops[i]? = some o → ∀ c, o.op ≠ .defer c) (hout : ¬ LetsOut Q) {i : Nat} {K K' : Act → World → Prop} {a : Act} {w : World} (hK : ∀ a w, K a w → K' a w)
    (h : wpOp P ops Q i K a w) : wpOpIn (WF r) m P ops Q i K' a w := by
  unfold wpOp at h
  unfold wpOpIn
  cases ho : ops[i]? with
  | none => simp only [ho] at h; exact hK _ _ h
  | some o =>
    simp only [ho] at h ⊢
    by_cases hw : Region.wanted o (yielded ops a.tmps) = true
    · simp only [hw, if_true] at h ⊢
      rcases h with h | ⟨_, h⟩
      · unfold Oper.wp at h
        refine ⟨fun _ _ => trivial, ?_⟩
        have e : o.semAt (WF r).round a.eval = execOp a.eval o := Oper.semAt_eq _ _ _ (hd i o ho)
        rw [e]
        generalize (execOp a.eval o).run P w = res at *
        cases res with
        | ok x w' =>
          cases x <;> simp only [Oper.upon] at h <;> simp only [Oper.uponIn]
          case value u => exact hK _ _ h
          case skip => exact hK _ _ h
          case defer d => exact hK _ _ h
          case enter f args =>
            refine ⟨fun hh => by simp [Fence.wide] at hh, ?_⟩
            refine (show CallsIn Fence.wide (m - 1) P f args w' _ from callsIn_wide.2 (h.mono fun e w'' he => ?_))
            cases e with
            | returned v => exact hK _ _ he
            | panicked c => exact he
            | outgrown => exact he
          case row row args =>
            refine ⟨fun hh => by simp [Fence.wide] at hh, fun c cs _ => ?_⟩
            obtain ⟨v, w2, h1, h2⟩ := h c cs
            exact ⟨v, w2, hK _ _ h1, stepsIn_wide.2 h2⟩
        | halt x w' => cases x <;> simp only [Oper.upon] at h <;> simp only [Oper.uponIn] <;> exact h
      · exact absurd h hout
    · simp only [hw] at h ⊢
      exact ⟨fun _ _ => trivial, hK _ _ h⟩
theorem inAny_of_any {m : Nat} {r : Option Nat} {Q : Exit → Act → World → Prop} (hd : ∀ (i : Nat) (o : Oper), ops[i]? = some o → ∀ c, o.op ≠ .defer c) (hout : ¬ LetsOut Q) :
    ∀ (fuel : Nat) (listed : Array Bool) (a : Act) (w : World), wpAny P md ops Q fuel listed a w → wpAnyIn (WF r) m P md ops Q fuel listed a w
  | 0, _, _, _, h => h
  | fuel + 1, _, _, _, h => ⟨h.1, fun i hi => inOp_of_op hd hout (fun a' w' => inAny_of_any hd hout fuel _ a' w') (h.2 i hi)⟩
theorem noDefer_spec {l : List Oper} (hd : noDefer l = true) : ∀ (i : Nat) (o : Oper), l.toArray[i]? = some o → ∀ c, o.op ≠ .defer c := by
  intro i o ho c e
  have hm : o ∈ l := by rw [List.getElem?_toArray] at ho; exact List.mem_of_getElem? ho
  have := List.all_eq_true.1 hd o hm
  rw [e] at this
  simp at this

/-- Quiet operations, then a tail: outside a fence. -/
theorem wp_region_tail {id : Nat} {Q : Exit → Act → World → Prop} {a : Act} {w : World} {l : List Oper} (n : Nat) (hm : P.follows .mixedOrders = true) (hB : Region.lexTailB .any l.toArray n = true)
    (h : wpQuiet P l.toArray (fun w' => ∃ x : Later w, w' = x.val) (fun a' => ∀ w', (∃ x : Later w, w' = x.val) → wpList P l.toArray Q (l.drop n) a' w') (l.take n) a) : (Code.region id l.toArray true).wp P Q a w :=
  wp_region_any hm (any_head_tail n hB ⟨⟨_, Below.drew (Below.refl _ _)⟩, rfl⟩ h)
/-- .. in the fence of everything. -/
theorem in_region_tail {id m : Nat} {r : Option Nat} {Q : Exit → Act → World → Prop} {a : Act} {w : World} {l : List Oper} (n : Nat) (hm : P.follows .mixedOrders = true) (hB : Region.lexTailB .any l.toArray n = true) (hd : noDefer l = true) (hout : ¬ LetsOut Q)
    (h : wpQuiet P l.toArray (fun w' => ∃ x : Later w, w' = x.val) (fun a' => ∀ w', (∃ x : Later w, w' = x.val) → wpList P l.toArray Q (l.drop n) a' w') (l.take n) a) : (Code.region id l.toArray true).wpIn (WF r) m P Q a w :=
  wpIn_region_any hm (inAny_of_any (noDefer_spec hd) hout _ _ _ _ (any_head_tail n hB ⟨⟨_, Below.drew (Below.refl _ _)⟩, rfl⟩ h))
/-- .. with a tail in whatever order: outside a fence, and in the fence of everything. -/
theorem wp_region_head {id : Nat} {Q : Exit → Act → World → Prop} {a : Act} {w : World} {l : List Oper} (n : Nat) (hm : P.follows .mixedOrders = true) (hB : headB .any l.toArray n = true)
    (h : wpQuiet P l.toArray (fun w' => ∃ x : Later w, w' = x.val) (fun a' => ∀ w', (∃ x : Later w, w' = x.val) → wpAny P .any l.toArray Q (l.length - n) (marked n 0 (Array.replicate l.toArray.size false)) a' w') (l.take n) a) : (Code.region id l.toArray true).wp P Q a w :=
  wp_region_any hm (any_head_any n hB ⟨⟨_, Below.drew (Below.refl _ _)⟩, rfl⟩ h)
theorem in_region_head {id m : Nat} {r : Option Nat} {Q : Exit → Act → World → Prop} {a : Act} {w : World} {l : List Oper} (n : Nat) (hm : P.follows .mixedOrders = true) (hB : headB .any l.toArray n = true) (hd : noDefer l = true) (hout : ¬ LetsOut Q)
    (h : wpQuiet P l.toArray (fun w' => ∃ x : Later w, w' = x.val) (fun a' => ∀ w', (∃ x : Later w, w' = x.val) → wpAny P .any l.toArray Q (l.length - n) (marked n 0 (Array.replicate l.toArray.size false)) a' w') (l.take n) a) : (Code.region id l.toArray true).wpIn (WF r) m P Q a w :=
  wpIn_region_any hm (inAny_of_any (noDefer_spec hd) hout _ _ _ _ (any_head_any n hB ⟨⟨_, Below.drew (Below.refl _ _)⟩, rfl⟩ h))
end
end Go.Proofs.Ytooddicegkiiiaa

namespace Go.Proofs.Ytooddicegkiiiaa
open Go.RowKit Go.Shelf

section
variable {P : Program} {ops : Array Oper} {md : Region.Mode} {S : World → Prop} {Q : Exit → Act → World → Prop}

def wpAnyU (P : Program) (md : Region.Mode) (ops : Array Oper) (Q : Exit → Act → World → Prop) (S : World → Prop) (need : Nat → Bool) : Nat → Array Bool → Act → World → Prop
  | 0, listed, a, w => Region.ready md ops listed = [] ∧ Q .normal a w
  | fuel + 1, listed, a, w =>
    (Region.ready md ops listed = [] → Q .normal a w) ∧
    ∀ i ∈ Region.ready md ops listed, wpOp P ops Q i (fun a' w' => (need i = true → S w') ∧ wpAnyU P md ops Q S need fuel (listed.setIfInBounds i true) a' w') a w
theorem wpAny_of_U {need : Nat → Bool} : ∀ (fuel : Nat) (listed : Array Bool) (a : Act) (w : World), wpAnyU P md ops Q S need fuel listed a w → wpAny P md ops Q fuel listed a w
  | 0, _, _, _, h => h
  | fuel + 1, _, _, _, h => ⟨h.1, fun i hi => wpOp_mono (fun a' w' h' => wpAny_of_U fuel _ a' w' h'.2) (h.2 i hi)⟩

def ClosedL (md : Region.Mode) (ops : Array Oper) (listed : Array Bool) : Prop :=
  ∀ j oj, ops[j]? = some oj → listed.getD j false = true → ∀ e ∈ oj.after, Region.binds md e = true → listed.getD e.on false = true
theorem ClosedL.set {i : Nat} {listed : Array Bool} (h : ClosedL md ops listed) (hi : i ∈ Region.ready md ops listed) : ClosedL md ops (listed.setIfInBounds i true) := by
  obtain ⟨_, oi, hoi, hall⟩ := mem_ready.1 hi
  intro j oj hj hl e he hb
  by_cases hij : i = j
  · subst hij
    obtain rfl : oj = oi := Option.some.inj (hj.symm.trans hoi)
    exact getD_set_true (hall e he hb)
  · rw [getD_set_ne false hij] at hl
    exact getD_set_true (h j oj hj hl e he hb)

theorem wpAnyU_first {need : Nat → Bool} {i : Nat} {oi : Oper} {v : Value} (hi : ops[i]? = some oi) (hsel : ∀ (j : Nat) (o : Oper) cs b, ops[j]? = some o → o.op ≠ .select cs b)
    (hQ : ∀ c a w, Q (.panic c) (a.put oi.dst v) w → Q (.panic c) a w)
    (hwait : ∀ listed, ClosedL md ops listed → listed.getD i true = false → ∀ j ∈ Region.ready md ops listed, j ≠ i → need j = true) :
    ∀ (fuel : Nat) (listed : Array Bool) (a : Act) (w : World), ClosedL md ops listed →
      (∀ j oj, ops[j]? = some oj → j ≠ i → listed.getD j true = false → (∀ e ∈ oj.after, Region.binds md e = true → e.on ≠ i) → oi.apart ops oj = true) →
      i ∈ Region.ready md ops listed → YieldsIf P ops S oi v a → S w →
      wpAnyU P md ops Q S need fuel (listed.setIfInBounds i true) (a.put oi.dst v) w → wpAnyU P md ops Q S need (fuel + 1) listed a w := by
  intro fuel
  induction fuel with
  | zero =>
    intro listed a w _ _ hr hy hS H
    refine ⟨fun h => (by rw [h] at hr; cases hr), fun j hj => ?_⟩
    by_cases hji : j = i
    · subst hji; exact hy.wpOp hi hS ⟨fun _ => hS, H⟩
    · have := ready_mono hj hji
      rw [H.1] at this
      cases this
  | succ fuel ih =>
    intro listed a w hcl hfree hr hy hS H
    refine ⟨fun h => (by rw [h] at hr; cases hr), fun j hj => ?_⟩
    by_cases hji : j = i
    · subst hji; exact hy.wpOp hi hS ⟨fun _ => hS, H⟩
    · have h1 := H.2 j (ready_mono hj hji)
      have hneed := hwait listed hcl (mem_ready.1 hr).1 j hj hji
      obtain ⟨hjun, oj, hoj, hall⟩ := mem_ready.1 hj
      have hnot : ∀ e ∈ oj.after, Region.binds md e = true → e.on ≠ i := fun e he hb heq => by
        have h1 := hall e he hb
        rw [heq, getD_both (mem_ready.1 hr).1] at h1
        cases h1
      have h2 := wpOp_putIf hoj (hfree j oj hoj hji hjun hnot) (fun cs b => hsel i oi cs b hi) (fun cs b => hsel j oj cs b hoj) hQ hy h1
      refine wpOp_mono (fun a' w' h3 => ⟨h3.2.1, ih (listed.setIfInBounds j true) a' w' (hcl.set hj) ?_ (ready_mono hr (Ne.symm hji)) h3.1 (h3.2.1 hneed) ?_⟩) h2
      · intro k ok hk hki hun hno
        refine hfree k ok hk hki ?_ hno
        by_cases hjk : j = k
        · subst hjk; exact hjun
        · rw [getD_set_ne true hjk] at hun; exact hun
      · rw [Array.setIfInBounds_comm _ _ hji]
        exact h3.2.2

/-! Who waits for whom. -/
inductive Anc (md : Region.Mode) (ops : Array Oper) : Nat → Nat → Prop
  | one {t : Nat} {o : Oper} {e : _} : ops[t]? = some o → e ∈ o.after → Region.binds md e = true → Anc md ops e.on t
  | more {h t : Nat} {o : Oper} {e : _} : Anc md ops h e.on → ops[t]? = some o → e ∈ o.after → Region.binds md e = true → Anc md ops h t
theorem Anc.closed {h t : Nat} {listed : Array Bool} (hc : ClosedL md ops listed) (H : Anc md ops h t) : listed.getD t false = true → listed.getD h false = true := by
  induction H with
  | one ht he hb => exact fun hl => hc _ _ ht hl _ he hb
  | more _ ht he hb ih => exact fun hl => ih (hc _ _ ht hl _ he hb)
theorem Anc.listed {h t : Nat} {listed : Array Bool} (hc : ClosedL md ops listed) (H : Anc md ops h t) (hr : t ∈ Region.ready md ops listed) : listed.getD h false = true := by
  obtain ⟨_, o', ho', hall⟩ := mem_ready.1 hr
  cases H with
  | one ht he hb =>
    obtain rfl := Option.some.inj (ho'.symm.trans ht)
    exact hall _ he hb
  | more H ht he hb =>
    obtain rfl := Option.some.inj (ho'.symm.trans ht)
    exact H.closed hc (hall _ he hb)
def depsL (md : Region.Mode) (ops : Array Oper) (t : Nat) : List Nat :=
  match ops[t]? with
  | none => []
  | some o => (o.after.toList.filter fun e => Region.binds md e).map fun e => e.on
def growL (md : Region.Mode) (ops : Array Oper) : Nat → List Nat → List Nat → List Nat
  | 0, seen, _ => seen
  | f + 1, seen, front => growL md ops f (seen ++ ((front.flatMap (depsL md ops)).filter fun x => !seen.contains x).eraseDups) ((front.flatMap (depsL md ops)).filter fun x => !seen.contains x).eraseDups
theorem deps_anc {t x : Nat} (h : x ∈ depsL md ops t) : Anc md ops x t := by
  unfold depsL at h
  split at h
  · cases h
  · rename_i o ho
    obtain ⟨e, he, rfl⟩ := List.mem_map.1 h
    obtain ⟨he, hb⟩ := List.mem_filter.1 he
    exact .one ho (by simpa using he) hb
theorem anc_trans {a b t : Nat} (h1 : Anc md ops a b) (h2 : Anc md ops b t) : Anc md ops a t := by
  revert h1
  induction h2 with
  | one ht he hb => exact fun h1 => .more h1 ht he hb
  | more _ ht he hb ih => exact fun h1 => .more (ih h1) ht he hb
theorem grow_anc {t : Nat} : ∀ (f : Nat) (seen front : List Nat), (∀ x ∈ seen, Anc md ops x t) → (∀ x ∈ front, Anc md ops x t) → ∀ x ∈ growL md ops f seen front, Anc md ops x t
  | 0, _, _, h1, _, x, hx => h1 x hx
  | f + 1, seen, front, h1, h2, x, hx => by
    have hn : ∀ y ∈ ((front.flatMap (depsL md ops)).filter fun x => !seen.contains x).eraseDups, Anc md ops y t := by
      intro y hy
      have hy := List.mem_eraseDups.1 hy
      obtain ⟨hy, _⟩ := List.mem_filter.1 hy
      obtain ⟨z, hz, hyz⟩ := List.mem_flatMap.1 hy
      exact anc_trans (deps_anc hyz) (h2 z hz)
    exact grow_anc f _ _ (fun y hy => (List.mem_append.1 hy).elim (h1 y) (hn y)) hn x hx
def ancsL (md : Region.Mode) (ops : Array Oper) (t : Nat) : List Nat := growL md ops ops.size (depsL md ops t) (depsL md ops t)
theorem ancs_anc {t x : Nat} (h : x ∈ ancsL md ops t) : Anc md ops x t := grow_anc _ _ _ (fun _ => deps_anc) (fun _ => deps_anc) x h

/-! Operations that yield a value and do nothing else, if they come through. -/
def valOp : Op → Bool
  | .move _ | .assign _ | .pick .. | .build .. | .load .. | .fieldAddr .. | .field .. | .indexAddr .. | .index .. | .binOp .. | .unOp .. | .convert .. | .slice .. | .extract .. | .nilCheck _ => true
  | .call c => match c.callee with | .builtin .len | .builtin .min | .builtin .max => true | _ => false
  | _ => false
theorem vrun (s : Sem Value) (w : World) : ((do pure (Next.value (← s))) : Sem Next).run P w = (s.run P w).andThen fun v w' => .ok (.value v) w' := by
  rw [Sem.run_bind]; rfl
theorem val_run {o : Oper} {ρ : Operand → Value} (h : valOp o.op = true) (w : World) : (∃ v w', (execOp ρ o).run P w = .ok (.value v) w') ∨ ∃ x w', (execOp ρ o).run P w = .halt x w' := by
  have key : ∀ s : Sem Value, (∃ v w', ((do pure (Next.value (← s))) : Sem Next).run P w = .ok (.value v) w') ∨ ∃ x w', ((do pure (Next.value (← s))) : Sem Next).run P w = .halt x w' := by
    intro s
    rw [vrun]
    cases s.run P w with
    | ok v w' => exact .inl ⟨v, w', rfl⟩
    | halt x w' => exact .inr ⟨x, w', rfl⟩
  unfold execOp
  cases ho : o.op <;> simp only [ho, valOp] at h ⊢ <;> first | exact key _ | exact Bool.noConfusion h | skip
  case move x => exact .inl ⟨_, _, rfl⟩
  case assign x => exact .inl ⟨_, _, rfl⟩
  case pick c x y =>
    rw [Sem.run_bind]
    cases (asBool (ρ c)).run P w with
    | ok v w' => exact .inl ⟨_, w', rfl⟩
    | halt x w' => exact .inr ⟨x, w', rfl⟩
  case nilCheck x =>
    have rp : ∀ w, ∃ x w', ((runtimePanic .nilDeref : Sem Next).run P w) = .halt x w' := fun w => by simp [runtimePanic, goPanic]
    split
    · exact .inr (rp _)
    · exact .inr (rp _)
    · exact .inr (rp _)
    · split
      · exact .inr (rp _)
      · rw [Sem.run_bind]
        cases (program).run P w with
        | halt x w' => exact .inr ⟨x, w', rfl⟩
        | ok p w1 =>
          simp only [Result.andThen_ok, Sem.run_bind]
          generalize (nilAhead _ _ _ _).run P w1 = r
          cases r with
          | halt x w' => exact .inr ⟨x, w', rfl⟩
          | ok b w2 =>
            simp only [Result.andThen_ok]
            split
            · exact .inr (by simp [Result.andThen])
            · exact .inl ⟨_, _, rfl⟩
      · exact .inl ⟨_, _, rfl⟩
    · exact .inl ⟨_, _, rfl⟩
  case call c =>
    obtain ⟨cal, args, tys⟩ := c
    cases cal with
    | value f => simp at h
    | invoke r m => simp at h
    | builtin b =>
      cases b <;> simp at h
      · simp only [resolve, Sem.run_bind, Sem.run_pure, Result.andThen_ok, invoke, builtin]
        cases (Builtin.len_ tys o.type (Array.map ρ args)).run P w with
        | ok v w' => exact .inl ⟨v, w', rfl⟩
        | halt x w' => exact .inr ⟨x, w', rfl⟩
      · simp only [resolve, Sem.run_bind, Sem.run_pure, Result.andThen_ok, invoke, builtin]
        cases (Builtin.max_ tys o.type (Array.map ρ args)).run P w with
        | ok v w' => exact .inl ⟨v, w', rfl⟩
        | halt x w' => exact .inr ⟨x, w', rfl⟩
      · simp only [resolve, Sem.run_bind, Sem.run_pure, Result.andThen_ok, invoke, builtin]
        cases (Builtin.min_ tys o.type (Array.map ρ args)).run P w with
        | ok v w' => exact .inl ⟨v, w', rfl⟩
        | halt x w' => exact .inr ⟨x, w', rfl⟩
theorem yieldsIf_of_quiet {o : Oper} {rest : List Oper} {Lq : Act → Prop} {a : Act} (hv : valOp o.op = true) (h : wpQuiet P ops S Lq (o :: rest) a) :
    ∃ v, YieldsIf P ops S o v a ∧ wpQuiet P ops S Lq rest (a.put o.dst v) := by
  unfold wpQuiet at h
  by_cases hw : Region.wanted o (yielded ops a.tmps) = true
  · rw [if_pos hw] at h
    obtain ⟨v, h1, h2⟩ := h
    refine ⟨v, .inl ⟨hw, fun w' hw' => ?_⟩, h2⟩
    have h3 := h1 w' hw'
    unfold Oper.quietAt at h3
    rcases val_run (P := P) (ρ := a.eval) hv w' with ⟨u, w2, e⟩ | ⟨x, w2, e⟩
    · rw [e] at h3 ⊢
      obtain ⟨rfl, rfl⟩ := h3
      rfl
    · rw [e] at h3; exact h3.elim
  · rw [if_neg hw] at h
    exact ⟨undef, .inr ⟨by simpa using hw, rfl⟩, h⟩

/-! The walk. -/
def pickL (l : List Oper) : List Nat → List Oper
  | [] => []
  | k :: ks => match l[k]? with | some o => o :: pickL l ks | none => []
def segQ (Q : Exit → Act → World → Prop) (K : Act → World → Prop) : Exit → Act → World → Prop
  | .normal, a, w => K a w
  | e, a, w => Q e a w
def segK (nd : Bool) (S : World → Prop) (_ : Act) (w : World) (p : Prop) : Prop := (nd = true → S w) ∧ p
def flow (P : Program) (l : List Oper) (Q : Exit → Act → World → Prop) (S : World → Prop) : List (List Nat × Nat × Bool) → List Nat → Act → World → Prop
  | [], last, a, w => wpQuiet P l.toArray S (fun a' => Q .normal a' w) (pickL l last) a
  | (hs, c, nd) :: r, last, a, w => wpQuiet P l.toArray S (fun a' => wpList P l.toArray (segQ Q (fun a'' w'' => segK nd S a'' w'' (flow P l Q S r last a'' w''))) (pickL l [c]) a' w) (pickL l hs) a

def headsB (md : Region.Mode) (ops : Array Oper) : List Nat → Array Bool → Bool
  | [], _ => true
  | k :: ks, listed => (Region.ready md ops listed).contains k && Region.free md ops listed k && ((ops[k]?).map fun o => valOp o.op).getD false && headsB md ops ks (listed.setIfInBounds k true)
def markL : List Nat → Array Bool → Array Bool
  | [], listed => listed
  | k :: ks, listed => markL ks (listed.setIfInBounds k true)
def segsB (md : Region.Mode) (ops : Array Oper) (H : List Nat) : List (List Nat × Nat × Bool) → List Nat → Array Bool → Bool
  | [], last, listed => headsB md ops last listed && (Region.ready md ops (markL last listed)).isEmpty && last.all (fun k => H.contains k)
  | (hs, c, nd) :: r, last, listed => headsB md ops hs listed && decide (Region.ready md ops (markL hs listed) = [c]) && hs.all (fun k => H.contains k) &&
      (nd || (H.all (fun h => (ancsL md ops c).contains h) && r.all (fun s => s.1.isEmpty) && last.isEmpty)) && segsB md ops H r last ((markL hs listed).setIfInBounds c true)
def needB (segs : List (List Nat × Nat × Bool)) (j : Nat) : Bool := segs.all fun s => !(s.2.1 == j) || s.2.2
def fuelS (last : List Nat) : List (List Nat × Nat × Bool) → Nat
  | [] => last.length
  | (hs, _, _) :: r => hs.length + (fuelS last r + 1)
def flowB (md : Region.Mode) (ops : Array Oper) (pre : List Nat) (segs : List (List Nat × Nat × Bool)) (last : List Nat) : Bool :=
  Region.noSelect ops && segs.all (fun s => s.2.2 || (segs.flatMap (·.1) ++ last).all (fun h => (ancsL md ops s.2.1).contains h)) && decide (pre.length + fuelS last segs = ops.size) && headsB md ops pre (Array.replicate ops.size false) && segsB md ops (segs.flatMap (·.1) ++ last) segs last (markL pre (Array.replicate ops.size false))

theorem heads_U {need : Nat → Bool} (l : List Oper) (hsel : Region.noSelect l.toArray = true) (hQ : ∀ c a d v w, Q (.panic c) (Act.put a d v) w → Q (.panic c) a w) (H : List Nat)
    (hwait : ∀ i ∈ H, ∀ listed, ClosedL md l.toArray listed → listed.getD i true = false → ∀ j ∈ Region.ready md l.toArray listed, j ≠ i → need j = true) {w : World} {Lq : Act → Prop} (fuel : Nat) :
    ∀ (hs : List Nat) (listed : Array Bool) (a : Act), hs.all (fun k => H.contains k) = true → headsB md l.toArray hs listed = true → ClosedL md l.toArray listed → (hs ≠ [] → S w) →
      (∀ a', ClosedL md l.toArray (markL hs listed) → Lq a' → wpAnyU P md l.toArray Q S need fuel (markL hs listed) a' w) →
      wpQuiet P l.toArray S Lq (pickL l hs) a → wpAnyU P md l.toArray Q S need (hs.length + fuel) listed a w
  | [], listed, a, _, _, hc, _, hk, h => by rw [show ([] : List Nat).length + fuel = fuel by simp]; exact hk a hc h
  | k :: ks, listed, a, hH, hB, hc, hS, hk, h => by
    simp only [headsB, Bool.and_eq_true] at hB
    obtain ⟨⟨⟨hr, hf⟩, hv⟩, hB⟩ := hB
    simp only [List.all_cons, Bool.and_eq_true] at hH
    have hr' : k ∈ Region.ready md l.toArray listed := by simpa using hr
    obtain ⟨_, o, ho, _⟩ := mem_ready.1 hr'
    have hol : l[k]? = some o := by simpa using ho
    have hv' : valOp o.op = true := by rw [ho] at hv; exact hv
    simp only [pickL, hol] at h
    obtain ⟨v, hy, h2⟩ := yieldsIf_of_quiet hv' h
    rw [show (k :: ks).length + fuel = (ks.length + fuel) + 1 by simp; omega]
    refine wpAnyU_first ho (Region.noSelect_spec hsel) (fun c a w => hQ c a _ _ w) (hwait k (by simpa using hH.1)) _ _ _ _ hc (Region.free_spec ho hf) hr' hy (hS (by simp)) ?_
    exact heads_U l hsel hQ H hwait fuel ks _ _ hH.2 hB (hc.set hr') (fun _ => hS (by simp)) hk h2

theorem letsOut_seg {K : Act → World → Prop} : LetsOut (segQ Q K) = LetsOut Q := rfl
theorem wp_seg {o : Oper} {K : Act → World → Prop} {a : Act} {w : World} {K' : Act → World → Prop} (h : o.wp P a w K' (segQ Q K)) : o.wp P a w K' Q := by
  unfold Oper.wp at *
  generalize (execOp a.eval o).run P w = r at *
  cases r with
  | ok n w' =>
    cases n <;> simp only [Oper.upon] at h ⊢ <;> first
      | exact h
      | exact h.mono fun e w'' he => by cases e <;> exact he
  | halt x w' => cases x <;> simp only [Oper.upon] at h ⊢ <;> exact h

theorem segs_U {need : Nat → Bool} (l : List Oper) (hsel : Region.noSelect l.toArray = true) (hQ : ∀ c a d v w, Q (.panic c) (Act.put a d v) w → Q (.panic c) a w) (H : List Nat)
    (hwait : ∀ i ∈ H, ∀ listed, ClosedL md l.toArray listed → listed.getD i true = false → ∀ j ∈ Region.ready md l.toArray listed, j ≠ i → need j = true) (last : List Nat) :
    ∀ (segs : List (List Nat × Nat × Bool)) (listed : Array Bool) (a : Act) (w : World), (∀ s ∈ segs, need s.2.1 = true → s.2.2 = true) → segsB md l.toArray H segs last listed = true → ClosedL md l.toArray listed →
      (S w ∨ (segs.all (fun s => s.1.isEmpty) = true ∧ last = [])) → flow P l Q S segs last a w → wpAnyU P md l.toArray Q S need (fuelS last segs) listed a w
  | [], listed, a, w, _, hB, hc, hS, h => by
    simp only [segsB, Bool.and_eq_true] at hB
    obtain ⟨⟨hB, he⟩, hH⟩ := hB
    exact heads_U (need := need) l hsel hQ H hwait 0 last listed a hH hB hc (fun hne => hS.elim id fun h => absurd h.2 hne) (fun a' _ h' => ⟨by simpa using he, h'⟩) h
  | (hs, c, nd) :: r, listed, a, w, hnd, hB, hc, hS, h => by
    simp only [segsB, Bool.and_eq_true, decide_eq_true_eq] at hB
    obtain ⟨⟨⟨⟨hB, hone⟩, hH⟩, hnn⟩, hB'⟩ := hB
    have hr' : ∀ L, Region.ready md l.toArray L = [c] → c ∈ Region.ready md l.toArray L := fun L e => by rw [e]; simp
    refine heads_U (need := need) l hsel hQ H hwait (fuelS last r + 1) hs listed a hH hB hc (fun hne => hS.elim id fun h => absurd h.1 (by simp [hne])) (fun a' hc' h' => ?_) h
    refine ⟨fun h0 => (by rw [hone] at h0; cases h0), fun i hi => ?_⟩
    rw [hone] at hi
    obtain rfl : i = c := by simpa using hi
    have hrd := hr' _ hone
    obtain ⟨_, o, ho, _⟩ := mem_ready.1 hrd
    have hol : l[i]? = some o := by simpa using ho
    simp only [pickL, hol] at h'
    have hgo : ∀ a'' w'', (nd = true → S w'') ∧ flow P l Q S r last a'' w'' → (need i = true → S w'') ∧ wpAnyU P md l.toArray Q S need (fuelS last r) ((markL hs listed).setIfInBounds i true) a'' w'' := by
      intro a'' w'' ⟨h1, h2⟩
      refine ⟨fun hn => h1 (hnd (hs, i, nd) (by simp) hn), segs_U l hsel hQ H hwait last r _ _ _ (fun s hs => hnd s (by simp [hs])) hB' (hc'.set hrd) ?_ h2⟩
      simp only [Bool.or_eq_true, Bool.and_eq_true] at hnn
      rcases hnn with hnn | ⟨⟨_, hnn⟩, hl⟩
      · exact .inl (h1 hnn)
      · exact .inr ⟨hnn, by simpa using hl⟩
    unfold wpList at h'
    unfold wpOp
    simp only [ho]
    split
    · rename_i hw
      rw [if_pos hw] at h'
      rcases h' with h' | ⟨h1, h2⟩
      · exact .inl (Oper.wp_mono (fun a'' w'' h3 => hgo _ _ h3) (wp_seg h'))
      · exact .inr ⟨h1, h2⟩
    · rename_i hw
      rw [if_neg hw] at h'
      exact hgo _ _ h'

theorem pre_any (l : List Oper) (hsel : Region.noSelect l.toArray = true) (hQ : ∀ c a d v w, Q (.panic c) (Act.put a d v) w → Q (.panic c) a w) {w : World} {Lq : Act → Prop} (fuel : Nat) :
    ∀ (hs : List Nat) (listed : Array Bool) (a : Act), headsB md l.toArray hs listed = true → ClosedL md l.toArray listed →
      (∀ a', ClosedL md l.toArray (markL hs listed) → Lq a' → wpAny P md l.toArray Q fuel (markL hs listed) a' w) →
      wpQuiet P l.toArray (fun _ => True) Lq (pickL l hs) a → wpAny P md l.toArray Q (hs.length + fuel) listed a w
  | [], listed, a, _, hc, hk, h => by rw [show ([] : List Nat).length + fuel = fuel by simp]; exact hk a hc h
  | k :: ks, listed, a, hB, hc, hk, h => by
    simp only [headsB, Bool.and_eq_true] at hB
    obtain ⟨⟨⟨hr, hf⟩, hv⟩, hB⟩ := hB
    have hr' : k ∈ Region.ready md l.toArray listed := by simpa using hr
    obtain ⟨_, o, ho, _⟩ := mem_ready.1 hr'
    have hol : l[k]? = some o := by simpa using ho
    have hv' : valOp o.op = true := by rw [ho] at hv; exact hv
    simp only [pickL, hol] at h
    obtain ⟨v, hy, h2⟩ := yieldsIf_of_quiet hv' h
    rw [show (k :: ks).length + fuel = (ks.length + fuel) + 1 by simp; omega]
    refine wpAny_first ho (Region.noSelect_spec hsel) (fun c a w => hQ c a _ _ w) _ _ _ _ (Region.free_spec ho hf) hr' (hy.imp (fun ⟨hw, hv⟩ => ⟨hw, fun w => hv w trivial⟩) id) ?_
    exact pre_any l hsel hQ fuel ks _ _ hB (hc.set hr') hk h2

def flowP (P : Program) (l : List Oper) (Q : Exit → Act → World → Prop) (S : World → Prop) (pre : List Nat) (segs : List (List Nat × Nat × Bool)) (last : List Nat) (a : Act) (w : World) : Prop :=
  wpQuiet P l.toArray (fun _ => True) (fun a' => flow P l Q S segs last a' w) (pickL l pre) a
theorem any_flow {a : Act} {w : World} {l : List Oper} (pre : List Nat) (segs : List (List Nat × Nat × Bool)) (last : List Nat) (hB : flowB .any l.toArray pre segs last = true)
    (hQ : ∀ c a d v w, Q (.panic c) (Act.put a d v) w → Q (.panic c) a w) (hS : S w) (h : flowP P l Q S pre segs last a w) : wpAny P .any l.toArray Q l.toArray.size (Array.replicate l.toArray.size false) a w := by
  simp only [flowB, Bool.and_eq_true, decide_eq_true_eq] at hB
  obtain ⟨⟨⟨⟨hsel, hnd⟩, hfu⟩, hpre⟩, hB⟩ := hB
  refine (show wpAny P .any l.toArray Q (pre.length + fuelS last segs) (Array.replicate l.toArray.size false) a w → _ from fun H => by rwa [hfu] at H) ?_
  refine pre_any l hsel hQ (fuelS last segs) pre _ a hpre ?_ ?_ h
  · intro j oj _ hl
    rw [getD_replicate_false] at hl
    cases hl
  intro a' hc0 h
  have H := segs_U (S := S) (need := needB segs) l hsel hQ (segs.flatMap (·.1) ++ last) ?_ last segs _ a' w ?_ hB hc0 (.inl hS) h
  · exact wpAny_of_U _ _ _ _ H
  · intro i hi listed hc hu j hj hji
    unfold needB
    rw [List.all_eq_true]
    intro s hs
    have h1 := List.all_eq_true.1 hnd s hs
    simp only [Bool.or_eq_true] at h1 ⊢
    rcases h1 with h1 | h1
    · exact .inr h1
    · refine .inl ?_
      rw [Bool.not_eq_true', beq_eq_false_iff_ne]
      rintro rfl
      have h2 := List.all_eq_true.1 h1 i hi
      have := (ancs_anc (by simpa using h2)).listed hc hj
      rw [getD_both hu] at this
      cases this
  · intro s hs hn
    have := List.all_eq_true.1 hn s hs
    simpa using this

def onlyN (K : Act → World → Prop) : Exit → Act → World → Prop
  | .normal, a, w => K a w
  | _, _, _ => False
theorem onlyN_imp {Q : Exit → Act → World → Prop} : ∀ (e : Exit) (a : Act) (w : World), onlyN (Q .normal) e a w → Q e a w := fun e a w h => by
  cases e <;> first | exact h | exact (h : False).elim
theorem seg_grow {F : Act → World → Prop} {a : Act} {w : World} (hS : S w) (h : F a w) : segQ Q (fun a'' w'' => segK true S a'' w'' (F a'' w'')) .normal a w := ⟨fun _ => hS, h⟩
theorem seg_write {F : Act → World → Prop} {a : Act} {w : World} (h : F a w) : segQ Q (fun a'' w'' => segK false S a'' w'' (F a'' w'')) .normal a w := ⟨fun h => Bool.noConfusion h, h⟩
theorem only_done {K : Act → World → Prop} {a : Act} {w : World} (h : K a w) : onlyN K .normal a w := h
/-- One walk serves every order: outside a fence, and in the fence of everything. -/
theorem wp_region_flow {id : Nat} {a : Act} {w : World} {l : List Oper} (pre : List Nat) (segs : List (List Nat × Nat × Bool)) (last : List Nat) (hm : P.follows .mixedOrders = true) (hB : flowB .any l.toArray pre segs last = true)
    (h : ∀ w', Below w.heap.size w w' → w'.heap = w.heap → flowP P l (onlyN (Q .normal)) (fun w2 => ∃ x : Later w', w2 = x.val) pre segs last a w') : (Code.region id l.toArray true).wp P Q a w :=
  Code.wp_mono onlyN_imp (wp_region_any hm (any_flow pre segs last hB (fun _ _ _ _ _ h => h) (S := fun w2 => ∃ x : Later (w.drewN 1), w2 = x.val) ⟨⟨_, Below.refl _ _⟩, rfl⟩ (h _ (Below.drewN' 1 (Below.refl _ _)) rfl)))
theorem in_region_flow {id m : Nat} {r : Option Nat} {a : Act} {w : World} {l : List Oper} (pre : List Nat) (segs : List (List Nat × Nat × Bool)) (last : List Nat) (hm : P.follows .mixedOrders = true) (hB : flowB .any l.toArray pre segs last = true) (hd : noDefer l = true)
    (h : ∀ w', Below w.heap.size w w' → w'.heap = w.heap → flowP P l (onlyN (Q .normal)) (fun w2 => ∃ x : Later w', w2 = x.val) pre segs last a w') : (Code.region id l.toArray true).wpIn (WF r) m P Q a w :=
  Code.wpIn_mono onlyN_imp (wpIn_region_any hm (inAny_of_any (noDefer_spec hd) (by rintro ⟨_, _, h⟩; exact h) _ _ _ _ (any_flow pre segs last hB (fun _ _ _ _ _ h => h) (S := fun w2 => ∃ x : Later (w.drewN 1), w2 = x.val) ⟨⟨_, Below.refl _ _⟩, rfl⟩ (h _ (Below.drewN' 1 (Below.refl _ _)) rfl))))

/-! The same, step by step: where several operations may come next. -/
def closedB (md : Region.Mode) (ops : Array Oper) (listed : Array Bool) : Bool :=
  (List.range ops.size).all fun j => !listed.getD j false || (depsL md ops j).all fun i => listed.getD i false
theorem closedB_spec {listed : Array Bool} (h : closedB md ops listed = true) : ClosedL md ops listed := by
  intro j oj hj hl e he hb
  have h1 := List.all_eq_true.1 h j (List.mem_range.2 (Array.getElem?_eq_some_iff.1 hj).1)
  rw [hl] at h1
  simp only [Bool.not_true, Bool.false_or] at h1
  refine List.all_eq_true.1 h1 e.on ?_
  unfold depsL
  rw [hj]
  exact List.mem_map.2 ⟨e, List.mem_filter.2 ⟨by simpa using he, hb⟩, rfl⟩
def UB (md : Region.Mode) (ops : Array Oper) (H W : List Nat) : Bool := Region.noSelect ops && W.all fun c => H.all fun h => (ancsL md ops c).contains h
/-- What may come from here on, in a region whose operations are l. -/
def wpU (P : Program) (l : List Oper) (Q : Exit → Act → World → Prop) (S : World → Prop) (H W : List Nat) (fuel : Nat) (listed : Array Bool) (a : Act) (w : World) : Prop :=
  UB .any l.toArray H W = true → wpAnyU P .any l.toArray Q S (fun j => !W.contains j) fuel listed a w
theorem wp_region_U {id : Nat} {a : Act} {w : World} {l : List Oper} (H W : List Nat) (hm : P.follows .mixedOrders = true) (hB : UB .any l.toArray H W = true)
    (h : ∀ w', Below w.heap.size w w' → w'.heap = w.heap → wpU P l (onlyN (Q .normal)) (fun w2 => ∃ x : Later w', w2 = x.val) H W l.length (Array.replicate l.length false) a w') : (Code.region id l.toArray true).wp P Q a w := by
  refine Code.wp_mono onlyN_imp (wp_region_any hm ?_)
  have := h (w.drewN 1) (Below.drewN' 1 (Below.refl _ _)) rfl hB
  have := wpAny_of_U _ _ _ _ this
  rw [show l.toArray.size = l.length from rfl]
  exact this
theorem U_heads {K : Act → World → Prop} {a : Act} {w : World} {l : List Oper} {H W : List Nat} {fuel : Nat} {listed : Array Bool} (hs : List Nat)
    (hB : (hs.all (fun k => H.contains k) && headsB .any l.toArray hs listed && closedB .any l.toArray listed && decide (hs.length ≤ fuel)) = true) (hS : S w)
    (h : wpQuiet P l.toArray S (fun a' => wpU P l (onlyN K) S H W (fuel - hs.length) (markL hs listed) a' w) (pickL l hs) a) : wpU P l (onlyN K) S H W fuel listed a w := by
  intro hU
  simp only [Bool.and_eq_true, decide_eq_true_eq] at hB
  obtain ⟨⟨⟨h1, h2⟩, h3⟩, h4⟩ := hB
  have hU' := hU
  simp only [UB, Bool.and_eq_true] at hU'
  have := heads_U (need := fun j => !W.contains j) (Q := onlyN K) l hU'.1 (fun _ _ _ _ _ h => h) H ?_ (fuel - hs.length) hs listed a h1 h2 (closedB_spec h3) (fun _ => hS) (fun a' _ h' => h' hU) h
  · rwa [show hs.length + (fuel - hs.length) = fuel by omega] at this
  · intro i hi listed hc hu j hj hji
    cases hw : W.contains j with
    | false => rfl
    | true =>
      have h5 := List.all_eq_true.1 (List.all_eq_true.1 hU'.2 j (by simpa using hw)) i hi
      have := (ancs_anc (by simpa using h5)).listed hc hj
      rw [getD_both hu] at this
      cases this
theorem U_all {K : Act → World → Prop} {a : Act} {w : World} {l : List Oper} {H W : List Nat} {fuel : Nat} {listed : Array Bool} (cs : List Nat)
    (hB : (decide (Region.ready .any l.toArray listed = cs) && decide (0 < fuel) && !cs.isEmpty) = true)
    (h : ∀ c ∈ cs, wpList P l.toArray (segQ (onlyN K) (fun a'' w'' => segK (!W.contains c) S a'' w'' (wpU P l (onlyN K) S H W (fuel - 1) (listed.setIfInBounds c true) a'' w''))) (pickL l [c]) a w) : wpU P l (onlyN K) S H W fuel listed a w := by
  intro hU
  simp only [Bool.and_eq_true, decide_eq_true_eq] at hB
  obtain ⟨⟨h1, h2⟩, h3⟩ := hB
  obtain ⟨f, rfl⟩ : ∃ f, fuel = f + 1 := ⟨fuel - 1, by omega⟩
  refine ⟨fun h0 => (by rw [h1] at h0; subst h0; simp at h3), fun i hi => ?_⟩
  obtain ⟨_, o, ho, _⟩ := mem_ready.1 hi
  have hol : l[i]? = some o := by simpa using ho
  rw [h1] at hi
  have h' := h i hi
  simp only [pickL, hol] at h'
  unfold wpList at h'
  unfold wpOp
  simp only [ho]
  split
  · rename_i hw
    rw [if_pos hw] at h'
    rcases h' with h' | ⟨h1, h2⟩
    · exact .inl (Oper.wp_mono (fun a'' w'' h3 => ⟨h3.1, h3.2 hU⟩) (wp_seg h'))
    · exact .inr ⟨h1, h2⟩
  · rename_i hw
    rw [if_neg hw] at h'
    exact ⟨h'.1, h'.2 hU⟩
theorem U_one {K : Act → World → Prop} {a : Act} {w : World} {l : List Oper} {H W : List Nat} {fuel : Nat} {listed : Array Bool} (c : Nat)
    (hB : (decide (Region.ready .any l.toArray listed = [c]) && decide (0 < fuel)) = true)
    (h : wpList P l.toArray (segQ (onlyN K) (fun a'' w'' => segK (!W.contains c) S a'' w'' (wpU P l (onlyN K) S H W (fuel - 1) (listed.setIfInBounds c true) a'' w''))) (pickL l [c]) a w) : wpU P l (onlyN K) S H W fuel listed a w :=
  U_all [c] (by simpa using hB) (fun c' hc => by simp at hc; subst hc; exact h)
theorem U_two {K : Act → World → Prop} {a : Act} {w : World} {l : List Oper} {H W : List Nat} {fuel : Nat} {listed : Array Bool} (c d : Nat)
    (hB : (decide (Region.ready .any l.toArray listed = [c, d]) && decide (0 < fuel)) = true)
    (h1 : wpList P l.toArray (segQ (onlyN K) (fun a'' w'' => segK (!W.contains c) S a'' w'' (wpU P l (onlyN K) S H W (fuel - 1) (listed.setIfInBounds c true) a'' w''))) (pickL l [c]) a w)
    (h2 : wpList P l.toArray (segQ (onlyN K) (fun a'' w'' => segK (!W.contains d) S a'' w'' (wpU P l (onlyN K) S H W (fuel - 1) (listed.setIfInBounds d true) a'' w''))) (pickL l [d]) a w) : wpU P l (onlyN K) S H W fuel listed a w :=
  U_all [c, d] (by simpa using hB) (fun c' hc => by simp at hc; rcases hc with rfl | rfl <;> assumption)
theorem U_done {K : Act → World → Prop} {a : Act} {w : World} {l : List Oper} {H W : List Nat} {fuel : Nat} {listed : Array Bool} (hB : (Region.ready .any l.toArray listed).isEmpty = true) (h : K a w) : wpU P l (onlyN K) S H W fuel listed a w := by
  intro _
  have he : Region.ready .any l.toArray listed = [] := by simpa using hB
  cases fuel with
  | zero => exact ⟨he, h⟩
  | succ f => exact ⟨fun _ => h, fun i hi => by rw [he] at hi; cases hi⟩
/-- The same; what is read first holds in each world of S. -/
theorem wp_region_flowS (S : World → Prop) {id : Nat} {a : Act} {w : World} {l : List Oper} (pre : List Nat) (segs : List (List Nat × Nat × Bool)) (last : List Nat) (hm : P.follows .mixedOrders = true) (hB : flowB .any l.toArray pre segs last = true)
    (hS : ∀ w', Below w.heap.size w w' → w'.heap = w.heap → S w')
    (h : ∀ w', Below w.heap.size w w' → w'.heap = w.heap → flowP P l (onlyN (Q .normal)) S pre segs last a w') : (Code.region id l.toArray true).wp P Q a w := by
  refine Code.wp_mono onlyN_imp (wp_region_any hm ?_)
  exact any_flow pre segs last hB (fun _ _ _ _ _ h => h) (S := S) (hS _ (Below.drewN' 1 (Below.refl _ _)) rfl) (h _ (Below.drewN' 1 (Below.refl _ _)) rfl)
theorem in_region_flowS (S : World → Prop) {id m : Nat} {r : Option Nat} {a : Act} {w : World} {l : List Oper} (pre : List Nat) (segs : List (List Nat × Nat × Bool)) (last : List Nat) (hm : P.follows .mixedOrders = true) (hB : flowB .any l.toArray pre segs last = true) (hd : noDefer l = true)
    (hS : ∀ w', Below w.heap.size w w' → w'.heap = w.heap → S w')
    (h : ∀ w', Below w.heap.size w w' → w'.heap = w.heap → flowP P l (onlyN (Q .normal)) S pre segs last a w') : (Code.region id l.toArray true).wpIn (WF r) m P Q a w :=
  Code.wpIn_mono onlyN_imp (wpIn_region_any hm (inAny_of_any (noDefer_spec hd) (by rintro ⟨_, _, h⟩; exact h) _ _ _ _ (any_flow pre segs last hB (fun _ _ _ _ _ h => h) (S := S) (hS _ (Below.drewN' 1 (Below.refl _ _)) rfl) (h _ (Below.drewN' 1 (Below.refl _ _)) rfl))))
/-- One walk serves every order; what the region reads is older than a world before it, and stays. -/
theorem wp_region_flow_at {id : Nat} {a : Act} {w : World} {l : List Oper} (w0 : World) (hw : Below w0.heap.size w0 w) (pre : List Nat) (segs : List (List Nat × Nat × Bool)) (last : List Nat) (hm : P.follows .mixedOrders = true) (hB : flowB .any l.toArray pre segs last = true)
    (h : ∀ w', Below w.heap.size w w' → w'.heap = w.heap → flowP P l (onlyN (Q .normal)) (fun w2 => ∃ x : Later w0, w2 = x.val) pre segs last a w') : (Code.region id l.toArray true).wp P Q a w :=
  wp_region_flowS _ pre segs last hm hB (fun _ hb _ => ⟨⟨_, btr hw hb⟩, rfl⟩) h
/-- Operations that look at no memory are taken first, whatever the others write. -/
structure AnyW (w : World) where
  val : World
instance (w : World) : Nonempty (AnyW w) := ⟨⟨w⟩⟩
theorem anyW (w0 w : World) : ∃ x : AnyW w0, w = x.val := ⟨⟨w⟩, rfl⟩
/-- Step by step; what is read first holds in each world of S. -/
theorem wp_region_US (S : World → Prop) {id : Nat} {a : Act} {w : World} {l : List Oper} (H W : List Nat) (hm : P.follows .mixedOrders = true) (hB : UB .any l.toArray H W = true)
    (h : ∀ w', Below w.heap.size w w' → w'.heap = w.heap → wpU P l (onlyN (Q .normal)) S H W l.length (Array.replicate l.length false) a w') : (Code.region id l.toArray true).wp P Q a w := by
  refine Code.wp_mono onlyN_imp (wp_region_any hm ?_)
  have := h (w.drewN 1) (Below.drewN' 1 (Below.refl _ _)) rfl hB
  have := wpAny_of_U _ _ _ _ this
  rw [show l.toArray.size = l.length from rfl]
  exact this
end
end Go.Proofs.Ytooddicegkiiiaa

namespace Go.Proofs.Ytooddicegkiiiaa
open Go.RowKit

theorem take_eq_step (xs ys : List Int) (k : Nat) (hx : k < xs.length) (hy : k < ys.length) (h : xs.take k = ys.take k) (he : xs[k]?.getD 0 = ys[k]?.getD 0) : xs.take (k+1) = ys.take (k+1) := by
  rw [List.take_succ_eq_append_getElem hx, List.take_succ_eq_append_getElem hy, h]
  simp [hx, hy] at he
  rw [he]
theorem ne_of_get (xs ys : List Int) (k : Nat) (he : xs[k]?.getD 0 ≠ ys[k]?.getD 0) : xs ≠ ys := by
  intro e; subst e; exact he rfl

set_option maxRecDepth 100000 in
set_option maxHeartbeats 400000 in
theorem longs_any (x y : Value) (xs ys : List Int) (w : World) (hx0 : RdI w .i64 x xs) (hy0 : RdI w .i64 y ys) (hl : xs.length ≤ 1000) (hl2 : ys.length ≤ 1000) :
    Calls Try.prog 43 #[x, y] w fun e w' => e = .returned (.bool (decide (xs = ys))) ∧ Below w.heap.size w w' := by
  obtain ⟨a, ca, rfl, _, _, hx⟩ := hx0.form
  obtain ⟨b, cb, rfl, _, _, hy⟩ := hy0.form
  clear hx0 hy0
  by_cases hll : xs.length = ys.length
  · have h1 : ((xs.length : Int) != (ys.length : Int)) = false := by simp [hll]
    have HL := Lib.hid hll; clear hll
    go_enter Try.func43, Try.ntmps43
    go_wp2
    go_loopw [5] (fun i wr => ∃ k : Nat, k ≤ xs.length ∧ i = .int .i64 k ∧ xs.take k = ys.take k ∧ Below w.heap.size w wr) (fun i _ => xs.length - (intOf i).toNat)
    case atStart => exact ⟨0, Nat.zero_le _, rfl, by simp, Below.refl _ _⟩
    case round =>
      obtain ⟨k, hk, rfl, ht, hB⟩ := hrel
      by_cases hlt : k < xs.length
      · obtain ⟨bx, ox, rfl, hbx, hcx⟩ := hx (by omega)
        obtain ⟨by', oy, rfl, hby, hcy⟩ := hy (by rw [← HL.out]; omega)
        have gx := (hB.cell (p := ⟨bx, ox + k, none⟩) hbx).trans (hcx k hlt)
        have hlt2 : k < ys.length := by rw [← HL.out]; exact hlt
        have gy := (hB.cell (p := ⟨by', oy + k, none⟩) hby).trans (hcy k hlt2)
        have HT := Lib.hid ht; clear ht
        clear hx hy hcx hcy
        by_cases he : xs[k]?.getD 0 = ys[k]?.getD 0
        · have hb1 : (xs[k]?.getD 0 != ys[k]?.getD 0) = false := by simp [he]
          have HE := Lib.hid he; clear he
          have HT2 := Lib.hid (take_eq_step xs ys k hlt hlt2 HT.out HE.out)
          generalize xs[k]?.getD 0 = p at *
          generalize ys[k]?.getD 0 = q at *
          go_wp2
          go_quiet (fail)
          go_wp2
          go_roundw
          case rel => exact ⟨k + 1, by omega, by go_num, HT2.out, Below.drewN' _ hB⟩
          case measure => simp [intOf]; omega
        · have hb1 : (xs[k]?.getD 0 != ys[k]?.getD 0) = true := by simpa using he
          have HE := Lib.hid (ne_of_get xs ys k he); clear he
          generalize xs[k]?.getD 0 = p at *
          generalize ys[k]?.getD 0 = q at *
          go_wp2
          go_quiet (fail)
          go_wp2
          go_ret
          exact ⟨ret_bool (by simp [HE.out]), Below.drewN' _ hB⟩
      · have HT := Lib.hid ht; clear ht
        go_wp2
        go_ret
        refine ⟨ret_bool ?_, hB⟩
        have h1 := HT.out
        rw [List.take_of_length_le (by omega), List.take_of_length_le (by rw [← HL.out]; omega)] at h1
        simp [h1]
  · have h1 : ((xs.length : Int) != (ys.length : Int)) = true := by rw [bne_iff_ne]; omega
    have HL := Lib.hid hll; clear hll
    go_enter Try.func43, Try.ntmps43
    go_wp2
    go_ret
    refine ⟨ret_bool ?_, Below.refl _ _⟩
    have := HL.out
    symm; simp only [decide_eq_false_iff_not]
    intro e; subst e; exact this rfl
set_option maxRecDepth 100000 in
set_option maxHeartbeats 400000 in
theorem ints_any (x y : Value) (xs ys : List Int) (w : World) (hx0 : RdI w .i64 x xs) (hy0 : RdI w .i64 y ys) (hl : xs.length ≤ 1000) (hl2 : ys.length ≤ 1000) :
    Calls Try.prog 24 #[x, y] w fun e w' => e = .returned (.bool (decide (xs = ys))) ∧ Below w.heap.size w w' := by
  obtain ⟨a, ca, rfl, _, _, hx⟩ := hx0.form
  obtain ⟨b, cb, rfl, _, _, hy⟩ := hy0.form
  clear hx0 hy0
  by_cases hll : xs.length = ys.length
  · have h1 : ((xs.length : Int) != (ys.length : Int)) = false := by simp [hll]
    have HL := Lib.hid hll; clear hll
    go_enter Try.func24, Try.ntmps24
    go_wp2
    go_loopw [5] (fun i wr => ∃ k : Nat, k ≤ xs.length ∧ i = .int .i64 k ∧ xs.take k = ys.take k ∧ Below w.heap.size w wr) (fun i _ => xs.length - (intOf i).toNat)
    case atStart => exact ⟨0, Nat.zero_le _, rfl, by simp, Below.refl _ _⟩
    case round =>
      obtain ⟨k, hk, rfl, ht, hB⟩ := hrel
      by_cases hlt : k < xs.length
      · obtain ⟨bx, ox, rfl, hbx, hcx⟩ := hx (by omega)
        obtain ⟨by', oy, rfl, hby, hcy⟩ := hy (by rw [← HL.out]; omega)
        have gx := (hB.cell (p := ⟨bx, ox + k, none⟩) hbx).trans (hcx k hlt)
        have hlt2 : k < ys.length := by rw [← HL.out]; exact hlt
        have gy := (hB.cell (p := ⟨by', oy + k, none⟩) hby).trans (hcy k hlt2)
        have HT := Lib.hid ht; clear ht
        clear hx hy hcx hcy
        by_cases he : xs[k]?.getD 0 = ys[k]?.getD 0
        · have hb1 : (xs[k]?.getD 0 != ys[k]?.getD 0) = false := by simp [he]
          have HE := Lib.hid he; clear he
          have HT2 := Lib.hid (take_eq_step xs ys k hlt hlt2 HT.out HE.out)
          generalize xs[k]?.getD 0 = p at *
          generalize ys[k]?.getD 0 = q at *
          go_wp2
          go_quiet (fail)
          go_wp2
          go_roundw
          case rel => exact ⟨k + 1, by omega, by go_num, HT2.out, Below.drewN' _ hB⟩
          case measure => simp [intOf]; omega
        · have hb1 : (xs[k]?.getD 0 != ys[k]?.getD 0) = true := by simpa using he
          have HE := Lib.hid (ne_of_get xs ys k he); clear he
          generalize xs[k]?.getD 0 = p at *
          generalize ys[k]?.getD 0 = q at *
          go_wp2
          go_quiet (fail)
          go_wp2
          go_ret
          exact ⟨ret_bool (by simp [HE.out]), Below.drewN' _ hB⟩
      · have HT := Lib.hid ht; clear ht
        go_wp2
        go_ret
        refine ⟨ret_bool ?_, hB⟩
        have h1 := HT.out
        rw [List.take_of_length_le (by omega), List.take_of_length_le (by rw [← HL.out]; omega)] at h1
        simp [h1]
  · have h1 : ((xs.length : Int) != (ys.length : Int)) = true := by rw [bne_iff_ne]; omega
    have HL := Lib.hid hll; clear hll
    go_enter Try.func24, Try.ntmps24
    go_wp2
    go_ret
    refine ⟨ret_bool ?_, Below.refl _ _⟩
    have := HL.out
    symm; simp only [decide_eq_false_iff_not]
    intro e; subst e; exact this rfl

def outB (lo hi x : Int) : Bool := decide (x < lo ∨ hi < x)
set_option maxRecDepth 100000 in
set_option maxHeartbeats 400000 in
theorem withinf_any (x lo hi : Int) (bl bh : Nat) (w : World) (h1 : w.cell? ⟨bl, 0, none⟩ = some (.int .i64 lo)) (h2 : w.cell? ⟨bh, 0, none⟩ = some (.int .i64 hi)) :
    Calls Try.prog 76 #[.int .i64 x, .pointer (some ⟨bl, 0, none⟩), .pointer (some ⟨bh, 0, none⟩)] w fun e w' => e = .returned (.bool (outB lo hi x)) ∧ Below w.heap.size w w' := by
  by_cases hlo : x < lo
  · go_enter Try.func76, Try.ntmps76
    go_wp2
    go_ret
    exact ⟨ret_bool (by simp [outB, hlo]), Below.refl _ _⟩
  · by_cases hhi : hi < x <;>
    · go_enter Try.func76, Try.ntmps76
      go_wp2
      go_ret
      exact ⟨ret_bool (by simp [outB, hlo, hhi]), Below.refl _ _⟩

def idxOf {α : Type} (p : α → Bool) (xs : List α) : Int := match xs.findIdx? p with | some i => i | none => -1
theorem find_none_step {α : Type} {d : α} {p : α → Bool} {xs : List α} {k : Nat} (h : ∀ i, i < k → p (xs[i]?.getD d) = false) (hk : k < xs.length) : p (xs[k]?.getD d) = true → idxOf p xs = k := by
  intro ht
  have : xs.findIdx? p = some k := by
    rw [List.findIdx?_eq_some_iff_getElem]
    refine ⟨hk, by simpa [hk] using ht, fun j hj => ?_⟩
    have := h j hj
    rw [List.getElem?_eq_getElem (by omega)] at this
    simpa using this
  simp [idxOf, this]
theorem find_none {α : Type} {d : α} {p : α → Bool} {xs : List α} (h : ∀ i, i < xs.length → p (xs[i]?.getD d) = false) : idxOf p xs = -1 := by
  have : xs.findIdx? p = none := by
    rw [List.findIdx?_eq_none_iff]
    intro x hx
    obtain ⟨i, hi, rfl⟩ := List.getElem_of_mem hx
    have := h i hi
    simpa [hi] using this
  simp [idxOf, this]

theorem idxOf_any {α : Type} (p : α → Bool) (xs : List α) : decide (0 ≤ idxOf p xs) = xs.any p := by
  cases h : xs.findIdx? p with
  | some i =>
    have : xs.any p = true := by
      rw [List.findIdx?_eq_some_iff_getElem] at h
      obtain ⟨h1, h2, _⟩ := h
      exact List.any_eq_true.2 ⟨_, List.getElem_mem h1, h2⟩
    rw [this]; simp [idxOf, h]
  | none =>
    have : xs.any p = false := by
      rw [List.findIdx?_eq_none_iff] at h
      rw [List.any_eq_false]
      intro x hx; simp [h x hx]
    rw [this]; simp [idxOf, h]

set_option maxRecDepth 100000 in
set_option maxHeartbeats 400000 in
theorem indexf_any (x : Value) (xs : List Int) (lo hi : Int) (bl bh : Nat) (w : World) (hx0 : RdI w .i64 x xs) (hl : xs.length ≤ 1000)
    (h1 : w.cell? ⟨bl, 0, none⟩ = some (.int .i64 lo)) (h2 : w.cell? ⟨bh, 0, none⟩ = some (.int .i64 hi)) (hb1 : bl < w.heap.size) (hb2 : bh < w.heap.size) :
    Calls Try.prog 82 #[x, .func (.func 76) #[] #[.pointer (some ⟨bl, 0, none⟩), .pointer (some ⟨bh, 0, none⟩)]] w fun e w' => e = .returned (.int .i64 (idxOf (outB lo hi) xs)) ∧ Below w.heap.size w w' := by
  obtain ⟨a, ca, rfl, _, _, hx⟩ := hx0.form
  clear hx0
  go_enter Try.func82, Try.ntmps82
  go_wp2
  go_loopw [5, 8] (fun j i wr => ∃ k : Nat, k ≤ xs.length ∧ i = .int .i64 k ∧ (∀ i, i < k → outB lo hi (xs[i]?.getD 0) = false) ∧ Below w.heap.size w wr) (fun _ i _ => xs.length - (intOf i).toNat)
  case atStart => exact ⟨0, Nat.zero_le _, rfl, by intro i h1; omega, Below.refl _ _⟩
  case round =>
    obtain ⟨k, hk, rfl, ht, hB⟩ := hrel
    have HT := Lib.hid ht; clear ht
    by_cases hlt : k < xs.length
    · obtain ⟨bx, ox, rfl, hbx, hcx⟩ := hx (by omega)
      have gx := (hB.cell (p := ⟨bx, ox + k, none⟩) hbx).trans (hcx k hlt)
      have g1 := (hB.cell (p := ⟨bl, 0, none⟩) hb1).trans h1
      have g2 := (hB.cell (p := ⟨bh, 0, none⟩) hb2).trans h2
      clear hx hcx
      generalize hp : xs[k]?.getD 0 = p at *
      have HP := Lib.hid hp; clear hp
      go_wp2_with (go_at_call 76; refine (withinf_any _ _ _ _ _ _ g1 g2).mono ?_)
      rintro e w2 ⟨rfl, hB2⟩
      have hB3 := hB.trans (hB2.mono hB.size)
      cases hb : outB lo hi p
      · go_wp2
        go_roundw
        case rel =>
          refine ⟨k + 1, by omega, by go_num, fun i h1 => ?_, hB3⟩
          by_cases e : i = k
          · subst e; rw [HP.out]; exact hb
          · exact HT.out i (by omega)
        case measure => simp [intOf]; omega
      · go_wp2
        go_ret
        exact ⟨ret_int (find_none_step HT.out hlt (by rw [HP.out]; exact hb)).symm, hB3⟩
    · go_wp2
      go_ret
      exact ⟨ret_int (find_none fun i hi => HT.out i (by omega)).symm, hB⟩

set_option maxRecDepth 100000 in
set_option maxHeartbeats 400000 in
theorem containsf_any (x : Value) (xs : List Int) (lo hi : Int) (bl bh : Nat) (w : World) (hx0 : RdI w .i64 x xs) (hl : xs.length ≤ 1000)
    (h1 : w.cell? ⟨bl, 0, none⟩ = some (.int .i64 lo)) (h2 : w.cell? ⟨bh, 0, none⟩ = some (.int .i64 hi)) (hb1 : bl < w.heap.size) (hb2 : bh < w.heap.size) :
    Calls Try.prog 75 #[x, .func (.func 76) #[] #[.pointer (some ⟨bl, 0, none⟩), .pointer (some ⟨bh, 0, none⟩)]] w fun e w' => e = .returned (.bool (xs.any (outB lo hi))) ∧ Below w.heap.size w w' := by
  go_enter Try.func75, Try.ntmps75
  go_wp2_with (go_at_call 82; refine (indexf_any _ _ _ _ _ _ _ hx0 hl h1 h2 hb1 hb2).mono ?_)
  rintro e w2 ⟨rfl, hB2⟩
  have H := Lib.hid (idxOf_any (outB lo hi) xs)
  go_wp2
  go_ret
  exact ⟨ret_bool H.out, hB2⟩

set_option maxRecDepth 100000 in
set_option maxHeartbeats 400000 in
theorem within_any (x : Value) (xs : List Int) (lo hi : Int) (w : World) (hx0 : RdI w .i64 x xs) (hl : xs.length ≤ 1000) :
    Calls Try.prog 60 #[.int .i64 lo, .int .i64 hi, x] w fun e w' => e = .returned (.bool (!xs.any (outB lo hi))) ∧ Below w.heap.size w w' := by
  go_enter Try.func60, Try.ntmps60
  go_wp2_with (go_at_call 75; refine (containsf_any _ xs lo hi w.heap.size (w.heap.size + 1) _ ?_ hl ?_ ?_ ?_ ?_).mono ?_)
  · exact hx0.mono (((Below.refl _ _).alloc (Nat.le_refl _) _).alloc (by simp) _)
  · simp
  · simp
  · simp; omega
  · simp
  rintro e w2 ⟨rfl, hB2⟩
  go_wp2
  go_ret
  exact ⟨rfl, btr (bal (bal (bz _) _) _) hB2⟩
end Go.Proofs.Ytooddicegkiiiaa

namespace Go.Proofs.Ytooddicegkiiiaa
open Go.RowKit

/-- A pin that is not valid. -/
def oddP (v : Int × Int) : Bool := outB 1 200 v.1 || outB 0 (v.1 - 1) v.2

theorem one_slice {w : World} {p : Int} {b : Nat} (h : w.cell? ⟨b, 0, none⟩ = some (.int .i64 p)) (hb : b < w.heap.size) : RdI w .i64 (.slice (some ⟨b, 0, none⟩) 1 1) [p] := by
  refine ⟨_, _, rfl, by simp, by unfold maxLen; omega, fun _ => ⟨_, _, rfl, hb, fun j u hj => ?_⟩⟩
  match j, hj with
  | 0, hj => simp at hj; subst hj; exact h

set_option maxRecDepth 100000 in
set_option maxHeartbeats 400000 in
theorem oddf_any (x y : Int) (w : World) :
    Calls Try.prog 59 #[.agg #[.int .i64 x, .int .i64 y]] w fun e w' => e = .returned (.bool (oddP (x, y))) ∧ Below w.heap.size w w' := by
  cases hw : [x].any (outB 1 200)
  · have hx : 1 ≤ x ∧ x ≤ 200 := by simp [outB] at hw; omega
    have e : oddP (x, y) = [y].any (outB 0 (x - 1)) := by simp at hw; simp [oddP, hw]
    rw [e]; clear e
    have HW := Lib.hid hw; clear hw
    have hx1 := hx.1; have hx2 := hx.2; clear hx
    go_enter Try.func59, Try.ntmps59
    go_wp2_with fail
    refine (within_any _ [x] _ _ _ (one_slice (by simp) (by simp)) (by simp)).mono ?_
    rintro e w2 ⟨rfl, hB2⟩
    rw [HW.out]
    obtain ⟨hc, hf⟩ := bcell hB2
    have hz := hB2.size
    simp only [World.size_alloc] at hz
    go_wp2_with fail
    refine (within_any _ [y] _ _ _ (one_slice (by simp) (by simp)) (by simp)).mono ?_
    rintro e w3 ⟨rfl, hB3⟩
    go_wp2
    go_ret
    exact ⟨ret_bool (by simp), btr (bal (btr (bal (bal (bz _) _) _) hB2) _) hB3⟩
  · have e : oddP (x, y) = true := by simp at hw; simp [oddP, hw]
    rw [e]; clear e
    have HW := Lib.hid hw; clear hw
    go_enter Try.func59, Try.ntmps59
    go_wp2_with fail
    refine (within_any _ [x] _ _ _ (one_slice (by simp) (by simp)) (by simp)).mono ?_
    rintro e w2 ⟨rfl, hB2⟩
    rw [HW.out]
    go_wp2
    go_ret
    exact ⟨rfl, btr (bal (bal (bz _) _) _) hB2⟩

set_option maxRecDepth 100000 in
set_option maxHeartbeats 400000 in
theorem indexp_any (x : Value) (V : List (Int × Int)) (w : World) (hx0 : RdP w x V) (hl : V.length ≤ 1000) :
    Calls Try.prog 77 #[x, .func (.func 59) #[] #[]] w fun e w' => e = .returned (.int .i64 (idxOf oddP V)) ∧ Below w.heap.size w w' := by
  obtain ⟨a, ca, rfl, _, _, hx⟩ := hx0.form
  clear hx0
  go_enter Try.func77, Try.ntmps77
  go_wp2
  go_loopw [5, 8] (fun j i wr => ∃ k : Nat, k ≤ V.length ∧ i = .int .i64 k ∧ (∀ i, i < k → oddP (V[i]?.getD (0, 0)) = false) ∧ Below w.heap.size w wr) (fun _ i _ => V.length - (intOf i).toNat)
  case atStart => exact ⟨0, Nat.zero_le _, rfl, by intro i h1; omega, bz _⟩
  case round =>
    obtain ⟨k, hk, rfl, ht, hB⟩ := hrel
    have HT := Lib.hid ht; clear ht
    by_cases hlt : k < V.length
    · obtain ⟨bx, ox, rfl, hbx, hcx⟩ := hx (by omega)
      have gx := (hB.cell (p := ⟨bx, ox + k * 2, none⟩) hbx).trans (hcx k hlt).1
      have gy := (hB.cell (p := ⟨bx, ox + k * 2 + 1, none⟩) hbx).trans (hcx k hlt).2
      clear hx hcx
      generalize hp : V[k]?.getD (0, 0) = q at *
      have HP := Lib.hid hp; clear hp
      obtain ⟨q1, q2⟩ := q
      go_wp2_with fail
      refine (oddf_any _ _ _).mono ?_
      rintro e w2 ⟨rfl, hB2⟩
      have hB3 := btr hB hB2
      cases hb : oddP (q1, q2)
      · go_wp2
        go_roundw
        case rel =>
          refine ⟨k + 1, by omega, by go_num, fun i h1 => ?_, hB3⟩
          by_cases e : i = k
          · subst e; rw [HP.out]; exact hb
          · exact HT.out i (by omega)
        case measure => simp [intOf]; omega
      · go_wp2
        go_ret
        exact ⟨ret_int (find_none_step HT.out hlt (by rw [HP.out]; exact hb)).symm, hB3⟩
    · go_wp2
      go_ret
      exact ⟨ret_int (find_none fun i hi => HT.out i (by omega)).symm, hB⟩

set_option maxRecDepth 100000 in
set_option maxHeartbeats 400000 in
theorem containsp_any (x : Value) (V : List (Int × Int)) (w : World) (hx0 : RdP w x V) (hl : V.length ≤ 1000) :
    Calls Try.prog 61 #[x, .func (.func 59) #[] #[]] w fun e w' => e = .returned (.bool (V.any oddP)) ∧ Below w.heap.size w w' := by
  go_enter Try.func61, Try.ntmps61
  go_wp2_with (go_at_call 77; refine (indexp_any _ _ _ hx0 hl).mono ?_)
  rintro e w2 ⟨rfl, hB2⟩
  have H := Lib.hid (idxOf_any oddP V)
  go_wp2
  go_ret
  exact ⟨ret_bool H.out, hB2⟩

/-- What CheckPins returns. -/
def checkP (V : List (Int × Int)) : Int := if V.length < 1 ∨ 5 < V.length then 6 else if V.any oddP then 3 else 0

set_option maxRecDepth 100000 in
set_option maxHeartbeats 400000 in
theorem checkpins_any (x : Value) (V : List (Int × Int)) (w : World) (hx0 : RdP w x V) (hl : V.length ≤ 1000) :
    Calls Try.prog 22 #[x] w fun e w' => e = .returned (.int .i64 (checkP V)) ∧ Below w.heap.size w w' := by
  obtain ⟨a, ca, rfl, _, _, hx⟩ := hx0.form
  by_cases hp : V.length < 1 ∨ 5 < V.length
  · have e : checkP V = 6 := by unfold checkP; rw [if_pos (by omega)]
    rw [e]; clear e
    have hw : [(V.length : Int)].any (outB 1 5) = true := by simp [outB]; omega
    have HW := Lib.hid hw; clear hw
    go_enter Try.func22, Try.ntmps22
    go_wp2_with fail
    refine (within_any _ [(V.length : Int)] _ _ _ (one_slice (by simp) (by simp)) (by simp)).mono ?_
    rintro e w2 ⟨rfl, hB2⟩
    rw [HW.out]
    go_wp2
    go_ret
    exact ⟨rfl, btr (bal (bz _) _) hB2⟩
  · have hw : [(V.length : Int)].any (outB 1 5) = false := by simp [outB]; omega
    have HW := Lib.hid hw; clear hw
    cases hb : V.any oddP
    all_goals
      have e : checkP V = if V.any oddP then 3 else 0 := by unfold checkP; rw [if_neg (by omega)]
      rw [e, hb]; clear e
      have HV := Lib.hid hb; clear hb
      go_enter Try.func22, Try.ntmps22
      go_wp2_with fail
      refine (within_any _ [(V.length : Int)] _ _ _ (one_slice (by simp) (by simp)) (by simp)).mono ?_
      rintro e w2 ⟨rfl, hB2⟩
      rw [HW.out]
      go_wp2_with fail
      refine (containsp_any _ V _ (hx0.mono (btr (bal (bz w) _) hB2)) (by omega)).mono ?_
      rintro e w3 ⟨rfl, hB3⟩
      rw [HV.out]
      go_wp2
      go_ret
      exact ⟨rfl, btr (btr (bal (bz w) _) hB2) hB3⟩

/-- Valid pins. -/
structure OkPins (V : List (Int × Int)) : Prop where
  l1 : 1 ≤ V.length
  l5 : V.length ≤ 5
  ok : ∀ v ∈ V, 1 ≤ v.1 ∧ v.1 ≤ 200 ∧ 0 ≤ v.2 ∧ v.2 < v.1
theorem okPins_of {V : List (Int × Int)} (h : checkP V = 0) : OkPins V := by
  unfold checkP at h
  split at h
  · omega
  · split at h
    · omega
    · rename_i h1 h2
      refine ⟨by omega, by omega, fun v hv => ?_⟩
      simp only [Bool.not_eq_true, List.any_eq_false] at h2
      have := h2 v hv
      simp [oddP, outB] at this
      omega
theorem check_of_ok {V : List (Int × Int)} (h : OkPins V) : checkP V = 0 := by
  have h1 := h.l1; have h2 := h.l5
  unfold checkP
  rw [if_neg (by omega), if_neg]
  simp only [Bool.not_eq_true, List.any_eq_false]
  intro v hv
  have := h.ok v hv
  simp [oddP, outB]
  omega
end Go.Proofs.Ytooddicegkiiiaa

namespace Go.Proofs.Ytooddicegkiiiaa
open Go.RowKit

theorem gcd_step (a b : Nat) : Nat.gcd b (a % b) = Nat.gcd a b := by rw [Nat.gcd_comm a b, Nat.gcd_rec b a, Nat.gcd_comm]
set_option maxRecDepth 100000 in
set_option maxHeartbeats 400000 in
theorem common_n (m : Nat) : ∀ (a b : Nat) (w : World), b ≤ m → a < 4611686018427387904 → b < 4611686018427387904 →
    Calls Try.prog 74 #[.int .i64 a, .int .i64 b] w fun e w' => e = .returned (.int .i64 (Nat.gcd a b : Nat)) ∧ w = w' := by
  induction m with
  | zero =>
    intro a b w hb ha hb2
    obtain rfl : b = 0 := by omega
    go_enter Try.func74, Try.ntmps74
    go_wp2_with fail
    go_ret
    exact ⟨by simp, rfl⟩
  | succ m ih =>
    intro a b w hb ha hb2
    by_cases h0 : b = 0
    · subst h0
      go_enter Try.func74, Try.ntmps74
      go_wp2_with fail
      go_ret
      exact ⟨by simp, rfl⟩
    · have hlt : a % b < b := Nat.mod_lt _ (by omega)
      have hI := ih b (a % b) w (by omega) hb2 (by omega)
      have hm : ((a % b : Nat) : Int) = (a : Int) % (b : Int) := by simp
      rw [gcd_step, hm] at hI
      have HI := Lib.hid hI; clear hI ih hm
      have hbi : ((b : Int) == 0) = false := by simp; omega
      have hb1 : (1 : Int) ≤ b := by omega
      have hw : IntKind.i64.wrap ((a : Int).tmod b) = (a : Int) % b := by
        rw [Int.tmod_eq_emod_of_nonneg (by omega)]
        have := Int.emod_nonneg (a : Int) (b := (b : Int)) (by omega)
        have := Int.emod_lt_of_pos (a : Int) (b := (b : Int)) (by omega)
        exact IntWalk.i64_in _ (by omega)
      have hb0 : b ≠ 0 := h0
      go_enter Try.func74, Try.ntmps74
      go_wp2_with fail
      refine HI.out.mono ?_
      rintro e w2 ⟨rfl, rfl⟩
      go_wp2_with fail
      go_ret
      exact ⟨rfl, rfl⟩
theorem common_any (a b : Nat) (w : World) (ha : a < 4611686018427387904) (hb : b < 4611686018427387904) :
    Calls Try.prog 74 #[.int .i64 a, .int .i64 b] w fun e w' => e = .returned (.int .i64 (Nat.gcd a b : Nat)) ∧ w = w' := common_n b a b w (Nat.le_refl _) ha hb

set_option maxRecDepth 100000 in
set_option maxHeartbeats 400000 in
theorem rcommon_any (a b : Nat) (w : World) (ha : a < 4611686018427387904) (hb : b < 4611686018427387904) :
    Calls Try.prog 48 #[.int .i64 a, .int .i64 b] w fun e w' => e = .returned (.int .i64 (Nat.gcd a b : Nat)) ∧ Below w.heap.size w w' := by
  go_enter Try.func48, Try.ntmps48
  go_wp2_with fail
  go_loopw [0, 1] (fun x y wr => ∃ m n : Nat, x = .int .i64 m ∧ y = .int .i64 n ∧ m < 4611686018427387904 ∧ n < 4611686018427387904 ∧ Nat.gcd m n = Nat.gcd a b ∧ Below w.heap.size w wr) (fun _ y _ => (intOf y).toNat)
  case atStart => exact ⟨a, b, rfl, rfl, ha, hb, rfl, bz _⟩
  case round =>
    obtain ⟨m, n, rfl, rfl, hm, hn, hg, hB⟩ := hrel
    have HG := Lib.hid hg; clear hg
    by_cases h0 : n = 0
    · subst h0
      go_wp2_with fail
      go_ret
      exact ⟨by rw [← HG.out]; simp, hB⟩
    · have hlt : m % n < n := Nat.mod_lt _ (by omega)
      have hb1 : (1 : Int) ≤ n := by omega
      have hw : IntKind.i64.wrap ((m : Int).tmod n) = ((m % n : Nat) : Int) := by
        rw [Int.tmod_eq_emod_of_nonneg (by omega), ← Int.natCast_emod]
        exact IntWalk.i64_in _ (by omega)
      have hbi : ((n : Int) != 0) = true := by simp; omega
      have hn0 := h0
      go_wp2_with fail
      go_quiet (fail)
      go_wp2_with fail
      go_roundw
      case rel => exact ⟨n, m % n, rfl, rfl, hn, by omega, by rw [gcd_step, HG.out], Below.drewN' _ hB⟩
      case measure => simp only [intOf]; omega
end Go.Proofs.Ytooddicegkiiiaa

namespace Go.Proofs.Ytooddicegkiiiaa
open Go.RowKit Go.Shelf Go.Instr

theorem Try.fields98 : (Try.prog.fieldsOf 98).toList.map (fun f => (f.name == "_", f.type, f.offset)) = [(false, 3, 0), (false, 3, 1)] := by kernel_rfl
theorem Try.struct98 : Try.prog.underlying 98 = some (.struct (Try.prog.fieldsOf 98)) := by kernel_rfl
theorem Try.held98 : Try.prog.stoodInHeld 98 = false := by kernel_rfl
/-- A pair as a value. -/
def kv (a : Int × Int) : Value := .agg #[.int .i64 a.1, .int .i64 a.2]

theorem field98 : ∃ f g, (Try.prog.fieldsOf 98).toList = [f, g] ∧ f.name ≠ "_" ∧ f.type = 3 ∧ f.offset = 0 ∧ g.name ≠ "_" ∧ g.type = 3 ∧ g.offset = 1 := by
  have h := Try.fields98
  match hl : (Try.prog.fieldsOf 98).toList, h with
  | [f, g], h =>
    simp at h
    exact ⟨f, g, rfl, h.1.1, h.1.2.1, h.1.2.2, h.2.1, h.2.2.1, h.2.2.2⟩
  | [], h => simp at h
  | [_], h => simp at h
  | _ :: _ :: _ :: _, h => simp at h

theorem part0 (w : World) (a b : Int) : (part 3 #[.int .i64 a, .int .i64 b] 0).run Try.prog w = .ok (.int .i64 a) w := by
  simp [part, isAgg, run_underlying Try.underlying3]
theorem part1 (w : World) (a b : Int) : (part 3 #[.int .i64 a, .int .i64 b] 1).run Try.prog w = .ok (.int .i64 b) w := by
  simp [part, isAgg, run_underlying Try.underlying3]

theorem eqKey (w : World) (a b : Int × Int) : (Op.equal 98 (kv a) (kv b)).run Try.prog w = .ok (decide (a = b)) w := by
  obtain ⟨f, g, h1, h2, h3, h4, h5, h6, h7⟩ := field98
  obtain ⟨a1, a2⟩ := a
  obtain ⟨b1, b2⟩ := b
  unfold Op.equal Op.maxDepth kv
  rw [run_equalIn_struct w 9999 98 _ _ Try.struct98 Try.held98, h1]
  simp only [Op.eqFields, Sem.run_bind, Sem.run_ite, h2, h3, h4, h5, h6, h7, ne_eq, not_false_eq_true, if_true, part0, part1, Result.andThen_ok, run_equalIn_int w _ 3 .i64 .i64 _ _ Try.underlying3]
  by_cases h : a1 = b1 <;> by_cases k : a2 = b2 <;> simp [h, k]

theorem checkStruct (w : World) (e : Bool) (a : Int × Int) : (checkKey e 10000 98 (kv a)).run Try.prog w = .ok () w := by
  obtain ⟨f, g, h1, h2, h3, h4, h5, h6, h7⟩ := field98
  have pc : ∀ x, (checkKey e 9999 3 (.int .i64 x)).run Try.prog w = .ok () w := by
    intro x; rw [checkKey]; simp [run_underlying Try.underlying3]
  unfold kv
  rw [checkKey]
  simp only [Sem.run_bind, run_underlying Try.struct98, Result.andThen_ok]
  rw [← Array.forIn_toList, h1]
  simp only [List.forIn_cons, List.forIn_nil, Sem.run_bind, h2, h3, h4, h5, h6, h7, ne_eq, not_false_eq_true, if_true, part0, part1, Result.andThen_ok, pc, Sem.run_pure]

/-- The entries of a map from lanes to ints: the key, the element, the stamp. -/
def entsOf (L : List ((Int × Int) × Int × Nat)) : Array MapEntry := (L.map fun e => { key := kv e.1, val := .int .i64 e.2.1, born := e.2.2 }).toArray
def findL (a : Int × Int) : List ((Int × Int) × Int × Nat) → Nat → Option (Nat × Value)
  | [], _ => none
  | e :: L, i => if a = e.1 then some (i, .int .i64 e.2.1) else findL a L (i + 1)

theorem run_findAsking (w : World) (a : Int × Int) : ∀ (L : List ((Int × Int) × Int × Nat)) (i : Nat), (findAsking 98 (kv a) (entsOf L).toList i).run Try.prog w = .ok (findL a L i) w
  | [], i => by simp [entsOf, findAsking, findL]
  | e :: L, i => by
    have ih := run_findAsking w a L (i + 1)
    have he := eqKey w a e.1
    simp only [entsOf, List.map_cons, findAsking, findL] at ih ⊢
    simp only [Sem.run_bind, Sem.run_ite, he, Result.andThen_ok]
    by_cases hq : a = e.1
    · simp [hq]
    · simp only [hq, decide_false, if_false, Bool.false_eq_true]
      simpa using ih

theorem run_findKey (w : World) (a : Int × Int) (L : List ((Int × Int) × Int × Nat)) : (findKey 98 (kv a) (entsOf L).toList).run Try.prog w = .ok (findL a L 0) w := by
  unfold findKey
  simp only [Sem.run_bind, run_underlying Try.struct98, Result.andThen_ok]
  cases L with
  | nil => simp [entsOf, findNow, findL]
  | cons e L =>
    have : findNow (.struct (Try.prog.fieldsOf 98)) (kv a) (entsOf (e :: L)).toList 0 = none := by
      simp [entsOf, findNow, sameNow, kv]
    rw [this]
    exact run_findAsking w a (e :: L) 0

theorem findL_none {a : Int × Int} : ∀ {L : List ((Int × Int) × Int × Nat)} {i : Nat}, findL a L i = none → a ∉ L.map (·.1)
  | [], _, _ => by simp
  | e :: L, i, h => by
    simp only [findL] at h
    split at h
    · cases h
    · rename_i hne
      have := findL_none h
      simp only [List.map_cons, List.mem_cons, not_or]
      exact ⟨hne, this⟩
theorem findL_some {a : Int × Int} : ∀ {L : List ((Int × Int) × Int × Nat)} {i j : Nat} {v : Value}, findL a L i = some (j, v) → ∃ k e, j = i + k ∧ L[k]? = some e ∧ e.1 = a ∧ v = .int .i64 e.2.1
  | [], _, _, _, h => by simp [findL] at h
  | e :: L, i, j, v, h => by
    simp only [findL] at h
    split at h
    · rename_i he
      simp only [Option.some.injEq, Prod.mk.injEq] at h
      exact ⟨0, e, by omega, by simp, he.symm, h.2.symm⟩
    · obtain ⟨k, e', h1, h2, h3, h4⟩ := findL_some h
      exact ⟨k + 1, e', by omega, by simpa using h2, h3, h4⟩

/-- What may be asked of the list of a map. -/
structure OkL (L : List ((Int × Int) × Int × Nat)) (clock : Nat) : Prop where
  keys : (L.map (·.1)).Nodup
  born : (L.map (·.2.2)).Nodup
  old : ∀ e ∈ L, e.2.2 < clock

theorem sameBits_kv (a : Int × Int) : sameBits 10000 (kv a) (kv a) = true := by
  simp [kv, sameBits]

theorem run_getMap {P : Program} {W : World} {b : Nat} {es : Array MapEntry} {c : Nat} (h : W.heap[b]? = some (.map es c)) : (getObj b).run P W = .ok (.map es c) W := by
  simp [getObj, Sem.run, h]
theorem run_setMap {P : Program} {W : World} {b : Nat} {o o' : Obj} (h : W.heap[b]? = some o) (ho : o.isCells = false := by rfl) : (setObj b o').run P W = .ok () (W.putObj b o') := by
  cases o <;> simp_all [setObj, Sem.run, World.putObj, Obj.isCells]
theorem map_set_same {α β : Type} (f : α → β) (L : List α) (k : Nat) (x : α) (h : ∀ hk : k < L.length, f L[k] = f x) : (L.set k x).map f = L.map f := by
  apply List.ext_getElem
  · simp
  · intro i h1 h2
    simp only [List.getElem_map, List.getElem_set]
    split
    · rename_i hki; subst hki; exact (h (by simpa using h2)).symm
    · rfl

theorem modify_put (L : List ((Int × Int) × Int × Nat)) (k : Nat) (e : (Int × Int) × Int × Nat) (h : L[k]? = some e) (a : Int × Int) (n : Int) :
    (entsOf L).modify k (fun x => { x with key := kv a, val := .int .i64 n }) = entsOf (L.set k (a, n, e.2.2)) := by
  apply Array.ext
  · simp [entsOf]
  · intro i h1 h2
    rw [Array.getElem_modify]
    simp only [entsOf, List.getElem_toArray, List.getElem_map, List.getElem_set]
    split
    · rename_i hk
      subst hk
      have he : L[k]'((List.getElem?_eq_some_iff.1 h).1) = e := (List.getElem?_eq_some_iff.1 h).2
      simp [he]
    · rfl

/-- 'm[a] = n'. -/
theorem run_putL {W : World} {b : Nat} {L : List ((Int × Int) × Int × Nat)} {c : Nat} (hb : W.heap[b]? = some (.map (entsOf L) c)) (hL : OkL L c) (a : Int × Int) (n : Int) :
    ∃ L1 c1, (mapUpdate 82 (.map (some b)) (kv a) (.int .i64 n)).run Try.prog W = .ok () (W.putObj b (.map (entsOf L1) c1)) ∧ OkL L1 c1 ∧ (∀ x m, (∃ t, (x, m, t) ∈ L1) ↔ (x = a ∧ m = n) ∨ (x ≠ a ∧ ∃ t, (x, m, t) ∈ L)) := by
  have hf := run_findKey W a L
  cases hr : findL a L 0 with
  | none =>
    rw [hr] at hf
    have hno := findL_none hr
    refine ⟨L ++ [(a, n, c)], c + 1, ?_, ⟨?_, ?_, ?_⟩, ?_⟩
    · have e : (entsOf L).push { key := kv a, val := .int .i64 n, born := c } = entsOf (L ++ [(a, n, c)]) := by simp [entsOf]
      simp only [mapUpdate, Sem.run_bind, run_underlying Try.underlying82, Result.andThen_ok, run_getMap hb, checkStruct W false a, hf, run_setMap hb, e]
    · rw [List.map_append, List.nodup_append]
      refine ⟨hL.keys, by simp, ?_⟩
      intro x hx y hy e; simp at hy; subst hy; subst e; exact hno hx
    · rw [List.map_append, List.nodup_append]
      refine ⟨hL.born, by simp, ?_⟩
      intro x hx y hy e; simp at hy; subst hy; subst e
      obtain ⟨q, hq, hq2⟩ := List.mem_map.1 hx
      have := hL.old q hq
      omega
    · intro e he; simp at he; rcases he with he | rfl
      · exact Nat.lt_succ_of_lt (hL.old e he)
      · exact Nat.lt_succ_self _
    · intro x m
      constructor
      · rintro ⟨t, ht⟩
        rw [List.mem_append, List.mem_singleton] at ht
        rcases ht with ht | ht
        · exact .inr ⟨fun e => hno (List.mem_map.2 ⟨_, ht, e⟩), t, ht⟩
        · simp only [Prod.mk.injEq] at ht; exact .inl ⟨ht.1, ht.2.1⟩
      · rintro (⟨rfl, rfl⟩ | ⟨_, t, ht⟩)
        · exact ⟨c, by simp⟩
        · exact ⟨t, by simp [ht]⟩
  | some q =>
    obtain ⟨j, v⟩ := q
    rw [hr] at hf
    obtain ⟨k, e, hk, he, hea, hv⟩ := findL_some hr
    obtain rfl : j = k := by omega
    have hj : j < L.length := (List.getElem?_eq_some_iff.1 he).1
    have hje : L[j] = e := (List.getElem?_eq_some_iff.1 he).2
    refine ⟨L.set j (a, n, e.2.2), c, ?_, ⟨?_, ?_, ?_⟩, ?_⟩
    · have hk1 : ((entsOf L)[j]?.map (·.key)).getD (kv a) = kv a := by simp [entsOf, he, hea]
      simp only [mapUpdate, Sem.run_bind, run_underlying Try.underlying82, Result.andThen_ok, run_getMap hb, checkStruct W false a, hf, keyThatStays, hk1, sameBits_kv, if_true, Sem.run_pure, run_setMap hb, modify_put L j e he a n]
    · rw [map_set_same (·.1) L j _ (fun _ => by simp [hje, hea])]; exact hL.keys
    · rw [map_set_same (·.2.2) L j _ (fun _ => by simp [hje])]; exact hL.born
    · intro x hx
      rcases List.mem_or_eq_of_mem_set hx with h | rfl
      · exact hL.old x h
      · exact hL.old e (List.mem_of_getElem? he)
    · intro x m
      constructor
      · rintro ⟨t, ht⟩
        obtain ⟨i, hi, hie⟩ := List.getElem_of_mem ht
        rw [List.getElem_set] at hie
        split at hie
        · simp only [Prod.mk.injEq] at hie; exact .inl ⟨hie.1.symm, hie.2.1.symm⟩
        · rename_i hne
          have hi' : i < L.length := by simpa using hi
          refine .inr ⟨fun hxa => ?_, t, by rw [← hie]; exact List.getElem_mem _⟩
          have hnd := hL.keys
          rw [List.nodup_iff_pairwise_ne, List.pairwise_iff_getElem] at hnd
          have e1 : L[i].1 = a := by rw [hie]; exact hxa
          rcases Nat.lt_or_gt_of_ne hne with h | h
          · have := hnd j i (by simpa using hj) (by simpa using hi') h
            simp only [List.getElem_map, hje, hea, e1] at this; exact this rfl
          · have := hnd i j (by simpa using hi') (by simpa using hj) h
            simp only [List.getElem_map, hje, hea, e1] at this; exact this rfl
      · rintro (⟨rfl, rfl⟩ | ⟨hxa, t, ht⟩)
        · exact ⟨e.2.2, by rw [List.mem_iff_getElem]; exact ⟨j, by simpa using hj, by simp⟩⟩
        · obtain ⟨i, hi, hie⟩ := List.getElem_of_mem ht
          refine ⟨t, List.mem_iff_getElem.2 ⟨i, by simpa using hi, ?_⟩⟩
          rw [List.getElem_set, if_neg, hie]
          rintro rfl
          rw [hje] at hie; rw [hie] at hea; exact hxa hea

/-- 'm[a]', and whether it is there. -/
theorem run_lookupL {W : World} {b : Nat} {L : List ((Int × Int) × Int × Nat)} {c : Nat} (hb : W.heap[b]? = some (.map (entsOf L) c)) (a : Int × Int) :
    (Instr.lookup 82 (.map (some b)) (kv a) true).run Try.prog W = .ok (.tuple #[((findL a L 0).map (·.2)).getD (.int .i64 0), .bool (findL a L 0).isSome]) W := by
  have hf := run_findKey W a L
  have hz : (zeroValue 2).run Try.prog W = .ok (.int .i64 0) W := by kernel_rfl
  cases hr : findL a L 0 with
  | none =>
    rw [hr] at hf
    simp [Instr.lookup, Sem.run_bind, run_underlying Try.underlying82, Result.andThen_ok, run_getMap hb, checkStruct W _ a, hf, hz]
  | some q =>
    rw [hr] at hf
    simp [Instr.lookup, Sem.run_bind, run_underlying Try.underlying82, Result.andThen_ok, run_getMap hb, checkStruct W _ a, hf]

theorem map_erase {α β : Type} (f : α → β) : ∀ (L : List α) (j : Nat), (L.map f).eraseIdx j = (L.eraseIdx j).map f
  | [], j => by simp
  | x :: L, 0 => by simp
  | x :: L, j + 1 => by simp [map_erase f L j]

/-- 'delete(m, a)'. -/
theorem run_deleteL {W : World} {b : Nat} {L : List ((Int × Int) × Int × Nat)} {c : Nat} (hb : W.heap[b]? = some (.map (entsOf L) c)) (hL : OkL L c) (a : Int × Int) :
    ∃ L2, (∀ t, (Builtin.delete_ #[82, 98] t #[.map (some b), kv a]).run Try.prog W = .ok (.tuple #[]) (W.putObj b (.map (entsOf L2) c))) ∧ OkL L2 c ∧ ∀ e, e ∈ L2 ↔ e ∈ L ∧ e.1 ≠ a := by
  have hf := run_findKey W a L
  cases hr : findL a L 0 with
  | none =>
    rw [hr] at hf
    refine ⟨L, fun t => ?_, hL, ?_⟩
    · simp [Builtin.delete_, Sem.run_bind, run_underlying Try.underlying82, Result.andThen_ok, run_getMap hb, checkStruct W _ a, hf, run_setMap hb]
    · intro e
      exact ⟨fun h => ⟨h, fun hea => findL_none hr (List.mem_map.2 ⟨e, h, hea⟩)⟩, fun h => h.1⟩
  | some q =>
    obtain ⟨j, v⟩ := q
    rw [hr] at hf
    obtain ⟨k, e0, hk, he, hea, hv⟩ := findL_some hr
    obtain rfl : j = k := by omega
    have hj : j < L.length := (List.getElem?_eq_some_iff.1 he).1
    have he0 : L[j] = e0 := (List.getElem?_eq_some_iff.1 he).2
    have hsub := List.eraseIdx_sublist L j
    refine ⟨L.eraseIdx j, fun t => ?_, ⟨(hsub.map _).nodup hL.keys, (hsub.map _).nodup hL.born, fun x hx => hL.old x (hsub.subset hx)⟩, ?_⟩
    · have hm : (entsOf L).eraseIdxIfInBounds j = entsOf (L.eraseIdx j) := by
        simp [entsOf, map_erase]
      simp [Builtin.delete_, Sem.run_bind, run_underlying Try.underlying82, Result.andThen_ok, run_getMap hb, checkStruct W _ a, hf, run_setMap hb, hm]
    · intro e
      rw [List.mem_eraseIdx_iff_getElem]
      constructor
      · rintro ⟨i, hi, hne, rfl⟩
        refine ⟨List.getElem_mem _, fun h => ?_⟩
        have hnd := hL.keys
        rw [List.nodup_iff_pairwise_ne, List.pairwise_iff_getElem] at hnd
        rcases Nat.lt_or_gt_of_ne hne with hlt | hlt
        · have := hnd i j (by simpa using hi) (by simpa using hj) hlt
          simp only [List.getElem_map, he0, hea, h] at this
          exact this rfl
        · have := hnd j i (by simpa using hj) (by simpa using hi) hlt
          simp only [List.getElem_map, he0, hea, h] at this
          exact this rfl
      · rintro ⟨h1, h2⟩
        obtain ⟨i, hi, rfl⟩ := List.getElem_of_mem h1
        refine ⟨i, hi, ?_, rfl⟩
        rintro rfl
        rw [he0] at h2
        exact h2 hea

theorem run_choose_map {P : Program} (W : World) (n : Nat) (hn : 0 < n) : ∃ i k, i < n ∧ (choose (.mapNext n)).run P W = .ok i (W.drewN k) := by
  by_cases h : n ≤ 1
  · exact ⟨0, 0, hn, by simp [choose, Sem.run, Question.forced, h, World.drewN]⟩
  · exact ⟨W.tape W.drawn (.mapNext n) % n, 1, Nat.mod_lt _ hn, by simp [choose, Sem.run, Question.forced, Question.cut, h, World.drewN]⟩

/-- A range over the map under way, its iterator in block r: what has been met are the stamps in 'seen'. -/
theorem run_nextL {W : World} {b r : Nat} {L : List ((Int × Int) × Int × Nat)} {c : Nat} {seen : Array Nat} (hb : W.heap[b]? = some (.map (entsOf L) c)) (hL : OkL L c) (hr : W.heap[r]? = some (.mapIter (some b) c seen c)) :
    ((∀ e ∈ L, e.2.2 ∈ seen) ∧ ∀ t, (Instr.next (.pointer (some ⟨r, 0, none⟩)) false t).run Try.prog W = .ok (.tuple #[.bool false]) W) ∨
    ∃ e ∈ L, e.2.2 ∉ seen ∧ ∃ n, ∀ t, (Instr.next (.pointer (some ⟨r, 0, none⟩)) false t).run Try.prog W = .ok (.tuple #[.bool true, kv e.1, .int .i64 e.2.1]) ((W.drewN n).putObj r (.mapIter (some b) c (seen.push e.2.2) c)) := by
  have hgr : (getObj r).run Try.prog W = .ok (.mapIter (some b) c seen c) W := by simp [getObj, Sem.run, hr]
  have hodd : (!seen.isEmpty && !(entsOf L).isEmpty && (entsOf L).all (fun x => decide (x.born ≥ c))) = false := by
    cases L with
    | nil => simp [entsOf]
    | cons e L =>
      have := hL.old e (by simp)
      simp [entsOf, show ¬ c ≤ e.2.2 by omega]
  have hleft : (entsOf L).filter (fun x => !seen.contains x.born) = entsOf (L.filter fun e => !seen.contains e.2.2) := by
    simp [entsOf, List.filter_map, Function.comp_def]
  have hold : (entsOf (L.filter fun e => !seen.contains e.2.2)).filter (fun x => decide (x.born < c)) = entsOf (L.filter fun e => !seen.contains e.2.2) := by
    rw [Array.filter_eq_self]
    intro x hx
    simp only [entsOf, List.mem_toArray, List.mem_map] at hx
    obtain ⟨e, he, rfl⟩ := hx
    simpa using hL.old e (List.mem_filter.1 he).1
  have hnew : (entsOf (L.filter fun e => !seen.contains e.2.2)).filter (fun x => decide (x.born ≥ c)) = #[] := by
    rw [Array.filter_eq_empty_iff]
    intro x hx
    simp only [entsOf, List.mem_toArray, List.mem_map] at hx
    obtain ⟨e, he, rfl⟩ := hx
    have := hL.old e (List.mem_filter.1 he).1
    simp; omega
  have hM : ∀ e, e ∈ L.filter (fun e => !seen.contains e.2.2) ↔ e ∈ L ∧ e.2.2 ∉ seen := by
    intro e; rw [List.mem_filter]; simp
  generalize L.filter (fun e => !seen.contains e.2.2) = M at *
  cases M with
  | nil =>
    refine .inl ⟨?_, fun t => ?_⟩
    · intro e he
      refine Classical.byContradiction fun h => ?_
      have := (hM e).2 ⟨he, h⟩
      cases this
    · have hd : ((entsOf []).filter fun x => decide (x.born < c)) = #[] ∧ ((entsOf []).filter fun x => decide (x.born ≥ c)) = #[] := by simp [entsOf]
      simp only [Instr.next, Sem.run_bind, hgr, Result.andThen_ok, run_getMap hb, hodd, hleft, hd.1, hd.2]
      simp [choose, Sem.run, Question.forced]
  | cons m M =>
    right
    obtain ⟨i, k, hi, hch⟩ := run_choose_map (P := Try.prog) W (m :: M).length (by simp)
    have hne : (entsOf (m :: M)).isEmpty = false := by simp [entsOf]
    obtain ⟨h1, h2⟩ := (hM _).1 (List.getElem_mem hi)
    refine ⟨_, h1, h2, k, fun t => ?_⟩
    have hsz : (#[] ++ (entsOf (m :: M) ++ #[]).map some).size = (m :: M).length := by simp [entsOf]
    have hcand : (#[] ++ (entsOf (m :: M) ++ #[]).map some)[i]? = some (some { key := kv (m :: M)[i].1, val := .int .i64 (m :: M)[i].2.1, born := (m :: M)[i].2.2 }) := by
      rw [Array.empty_append, Array.append_empty, Array.getElem?_map]
      unfold entsOf
      rw [List.getElem?_toArray, List.getElem?_map, List.getElem?_eq_getElem hi]
      rfl
    have hr' : (W.drewN k).heap[r]? = some (.mapIter (some b) c seen c) := hr
    simp only [Instr.next, Sem.run_bind, hgr, Result.andThen_ok, run_getMap hb, hodd, hleft, hold, hnew, hne, Bool.false_eq_true, if_false, hsz, hch, hcand, run_setMap hr', Sem.run_pure]
/-- The entry that was met last. -/
theorem run_entryL {W : World} {b r : Nat} {L : List ((Int × Int) × Int × Nat)} {c : Nat} {seen : Array Nat} {e : (Int × Int) × Int × Nat} (hb : W.heap[b]? = some (.map (entsOf L) c)) (hL : OkL L c) (he : e ∈ L) (hr : W.heap[r]? = some (.mapIter (some b) c (seen.push e.2.2) c)) :
    (Instr.entry (.pointer (some ⟨r, 0, none⟩))).run Try.prog W = .ok (.tuple #[kv e.1, .int .i64 e.2.1]) W := by
  have hgr : (getObj r).run Try.prog W = .ok (.mapIter (some b) c (seen.push e.2.2) c) W := by simp [getObj, Sem.run, hr]
  have hf : (entsOf L).find? (fun x => x.born == e.2.2) = some { key := kv e.1, val := .int .i64 e.2.1, born := e.2.2 } := by
    obtain ⟨k, hk, rfl⟩ := List.getElem_of_mem he
    have hnd := hL.born
    rw [List.nodup_iff_pairwise_ne, List.pairwise_iff_getElem] at hnd
    simp only [entsOf, List.find?_toArray]
    rw [List.find?_eq_some_iff_getElem]
    refine ⟨by simp, k, by simpa using hk, by simp, fun j hj => ?_⟩
    have := hnd j k (by simp; omega) (by simpa using hk) hj
    simpa using this
  simp [Instr.entry, Sem.run_bind, hgr, Result.andThen_ok, run_getMap hb, hf]
end Go.Proofs.Ytooddicegkiiiaa

namespace Go.Proofs.Ytooddicegkiiiaa
open Go.RowKit Go.Shelf

/-- The greatest common divisor, as an Int. -/
def gcdI (a b : Int) : Int := ((Int.gcd a b : Nat) : Int)
theorem gcdI_nat (a b : Nat) : gcdI a b = ((Nat.gcd a b : Nat) : Int) := rfl
theorem common_i (a b : Int) (w : World) (h1 : 0 ≤ a) (h2 : a < 4611686018427387904) (h3 : 0 ≤ b) (h4 : b < 4611686018427387904) :
    Calls Try.prog 74 #[.int .i64 a, .int .i64 b] w fun e w' => e = .returned (.int .i64 (gcdI a b)) ∧ w = w' := by
  obtain ⟨m, rfl⟩ := Int.eq_ofNat_of_zero_le h1
  obtain ⟨n, rfl⟩ := Int.eq_ofNat_of_zero_le h3
  exact common_any m n w (by omega) (by omega)
theorem rcommon_i (a b : Int) (w : World) (h1 : 0 ≤ a) (h2 : a < 4611686018427387904) (h3 : 0 ≤ b) (h4 : b < 4611686018427387904) :
    Calls Try.prog 48 #[.int .i64 a, .int .i64 b] w fun e w' => e = .returned (.int .i64 (gcdI a b)) ∧ Below w.heap.size w w' := by
  obtain ⟨m, rfl⟩ := Int.eq_ofNat_of_zero_le h1
  obtain ⟨n, rfl⟩ := Int.eq_ofNat_of_zero_le h3
  exact rcommon_any m n w (by omega) (by omega)
theorem gcdI_pos (a b : Int) (h : 1 ≤ a) : 1 ≤ gcdI a b := by
  have : 0 < Int.gcd a b := by rw [Int.gcd_pos_iff]; omega
  unfold gcdI; omega
theorem gcdI_le (a b : Int) (h : 1 ≤ a) : gcdI a b ≤ a := Int.le_of_dvd (by omega) (Int.gcd_dvd_left a b)

/-- Pin i of a list. -/
def pin (V : List (Int × Int)) (i : Nat) : Int × Int := V[i]?.getD (0, 0)
/-- Two pins clash. -/
def clB (a b : Int × Int) : Bool := decide ((a.2 - b.2) % gcdI a.1 b.1 ≠ 0)
/-- Valid periods and offsets. -/
def OkV (V : List (Int × Int)) : Prop := ∀ v ∈ V, 1 ≤ v.1 ∧ v.1 ≤ 200 ∧ 0 ≤ v.2 ∧ v.2 < v.1
theorem OkV.at {V : List (Int × Int)} (h : OkV V) {i : Nat} (hi : i < V.length) : 1 ≤ (pin V i).1 ∧ (pin V i).1 ≤ 200 ∧ 0 ≤ (pin V i).2 ∧ (pin V i).2 < (pin V i).1 := by
  have : pin V i = V[i] := by simp [pin, hi]
  rw [this]; exact h _ (List.getElem_mem hi)

abbrev Ents := List ((Int × Int) × Int × Nat)
/-- The map bears the pairs up to (i, k). -/
def FillM (V : List (Int × Int)) (L : Ents) (k i : Nat) : Prop :=
  ∀ x m, (∃ t, (x, m, t) ∈ L) ↔ ∃ a b : Nat, a < b ∧ b < V.length ∧ x = ((a : Int), (b : Int)) ∧ m = gcdI (pin V a).1 (pin V b).1 ∧ (b < k ∨ b = k ∧ a < i)
/-- The map bears the pairs that clash. -/
def ClM (V : List (Int × Int)) (L : Ents) : Prop :=
  ∀ x m, (∃ t, (x, m, t) ∈ L) ↔ ∃ a b : Nat, a < b ∧ b < V.length ∧ x = ((a : Int), (b : Int)) ∧ m = gcdI (pin V a).1 (pin V b).1 ∧ clB (pin V a) (pin V b) = true
theorem fill_nil (V : List (Int × Int)) : FillM V [] 0 0 := by
  intro x m
  constructor
  · rintro ⟨t, ht⟩; cases ht
  · rintro ⟨a, b, _, _, _, _, h | h⟩ <;> omega
theorem fill_next {V : List (Int × Int)} {L : Ents} {k : Nat} (h : FillM V L k k) : FillM V L (k + 1) 0 := by
  intro x m
  rw [h x m]
  constructor
  · rintro ⟨a, b, h1, h2, h3, h4, h5⟩; exact ⟨a, b, h1, h2, h3, h4, by omega⟩
  · rintro ⟨a, b, h1, h2, h3, h4, h5⟩; exact ⟨a, b, h1, h2, h3, h4, by omega⟩
theorem fill_put {V : List (Int × Int)} {L L1 : Ents} {k i : Nat} (h : FillM V L k i) (hi : i < k) (hk : k < V.length)
    (hp : ∀ x m, (∃ t, (x, m, t) ∈ L1) ↔ (x = ((i : Int), (k : Int)) ∧ m = gcdI (pin V i).1 (pin V k).1) ∨ (x ≠ ((i : Int), (k : Int)) ∧ ∃ t, (x, m, t) ∈ L)) : FillM V L1 k (i + 1) := by
  intro x m
  rw [hp x m, h x m]
  constructor
  · rintro (⟨rfl, rfl⟩ | ⟨_, a, b, h1, h2, h3, h4, h5⟩)
    · exact ⟨i, k, hi, hk, rfl, rfl, by omega⟩
    · exact ⟨a, b, h1, h2, h3, h4, by omega⟩
  · rintro ⟨a, b, h1, h2, rfl, rfl, h5⟩
    by_cases e : a = i ∧ b = k
    · obtain ⟨rfl, rfl⟩ := e; exact .inl ⟨rfl, rfl⟩
    · refine .inr ⟨fun e' => ?_, a, b, h1, h2, rfl, rfl, by omega⟩
      simp only [Prod.mk.injEq] at e'
      exact e ⟨by omega, by omega⟩
/-- An entry clashes. -/
def clE (V : List (Int × Int)) (e : (Int × Int) × Int × Nat) : Bool := decide (((pin V e.1.1.toNat).2 - (pin V e.1.2.toNat).2) % e.2.1 ≠ 0)
theorem clm_of {V : List (Int × Int)} {L L' : Ents} {seen : Array Nat} (h : FillM V L V.length 0) (h1 : ∀ e ∈ L', e ∈ L) (h2 : ∀ e ∈ L, clE V e = true → e ∈ L') (h3 : ∀ e ∈ L', e.2.2 ∈ seen → clE V e = true) (h4 : ∀ e ∈ L', e.2.2 ∈ seen) : ClM V L' := by
  intro x m
  constructor
  · rintro ⟨t, ht⟩
    obtain ⟨a, b, g1, g2, rfl, rfl, _⟩ := (h x m).1 ⟨t, h1 _ ht⟩
    refine ⟨a, b, g1, g2, rfl, rfl, ?_⟩
    have := h3 _ ht (h4 _ ht)
    simpa [clE, clB] using this
  · rintro ⟨a, b, g1, g2, rfl, rfl, g3⟩
    obtain ⟨t, ht⟩ := (h _ _).2 ⟨a, b, g1, g2, rfl, rfl, .inl g2⟩
    exact ⟨t, h2 _ ht (by simpa [clE, clB] using g3)⟩
theorem fill_at {V : List (Int × Int)} {L : Ents} (h : FillM V L V.length 0) {e : (Int × Int) × Int × Nat} (he : e ∈ L) : ∃ a b : Nat, a < b ∧ b < V.length ∧ e.1 = ((a : Int), (b : Int)) ∧ e.2.1 = gcdI (pin V a).1 (pin V b).1 := by
  obtain ⟨a, b, h1, h2, h3, h4, _⟩ := (h e.1 e.2.1).1 ⟨e.2.2, he⟩
  exact ⟨a, b, h1, h2, h3, h4⟩

/-- Each element of a list without repetition. -/
theorem nodup_le {α : Type} [DecidableEq α] : ∀ (l m : List α), l.Nodup → (∀ x ∈ l, x ∈ m) → l.length ≤ m.length := by
  intro l
  induction l with
  | nil => intro m _ _; simp
  | cons x r ih =>
    intro m hn hs
    rw [List.nodup_cons] at hn
    have hx := hs x (by simp)
    have := ih (m.erase x) hn.2 (fun y hy => by
      rw [List.mem_erase_of_ne]
      · exact hs y (by simp [hy])
      · rintro rfl; exact hn.1 hy)
    rw [List.length_erase_of_mem hx] at this
    have := List.length_pos_of_mem hx
    simp only [List.length_cons]
    omega
theorem nodup_len {α : Type} [DecidableEq α] (l m : List α) (hl : l.Nodup) (hm : m.Nodup) (h : ∀ x, x ∈ l ↔ x ∈ m) : l.length = m.length :=
  Nat.le_antisymm (nodup_le l m hl fun x => (h x).1) (nodup_le m l hm fun x => (h x).2)
/-- How many entries a range has not met yet. -/
def unmet : Option Obj → Option Obj → Nat
  | some (.map es _), some (.mapIter _ _ seen _) => (es.filter fun e => !seen.contains e.born).size
  | _, _ => 0
theorem unmet_eq (L : Ents) (c : Nat) (seen : Array Nat) (m : Option Nat) (s l : Nat) : unmet (some (.map (entsOf L) c)) (some (.mapIter m s seen l)) = (L.filter fun e => !seen.contains e.2.2).length := by
  simp [unmet, entsOf, List.filter_map, Function.comp_def]
theorem born_inj {L : Ents} {c : Nat} (hL : OkL L c) {e e' : (Int × Int) × Int × Nat} (h1 : e ∈ L) (h2 : e' ∈ L) (h : e.2.2 = e'.2.2) : e = e' := by
  obtain ⟨i, hi, rfl⟩ := List.getElem_of_mem h1
  obtain ⟨j, hj, rfl⟩ := List.getElem_of_mem h2
  have hb := hL.born
  rw [List.nodup_iff_pairwise_ne, List.pairwise_iff_getElem] at hb
  rcases Nat.lt_trichotomy i j with h' | rfl | h'
  · exact absurd (by rw [List.getElem_map, List.getElem_map]; exact h) (hb i j (by simpa) (by simpa) h')
  · rfl
  · exact absurd (by rw [List.getElem_map, List.getElem_map]; exact h.symm) (hb j i (by simpa) (by simpa) h')
theorem nodup_ents {L : Ents} {c : Nat} (hL : OkL L c) : L.Nodup := by
  have hb := hL.born
  unfold List.Nodup at hb ⊢
  rw [List.pairwise_map] at hb
  exact hb.imp fun h e => h (by rw [e])
theorem unmet_lt {L L2 : Ents} {c : Nat} {seen : Array Nat} {e : (Int × Int) × Int × Nat} (h2 : OkL L2 c) (hs : ∀ x ∈ L2, x ∈ L) (he : e ∈ L) (hes : e.2.2 ∉ seen) :
    (L2.filter fun x => !(seen.push e.2.2).contains x.2.2).length < (L.filter fun x => !seen.contains x.2.2).length := by
  have hm : e ∈ L.filter fun x => !seen.contains x.2.2 := by
    rw [List.mem_filter]; exact ⟨he, by simpa using hes⟩
  have h := nodup_le (L2.filter fun x => !(seen.push e.2.2).contains x.2.2) ((L.filter fun x => !seen.contains x.2.2).erase e) ((nodup_ents h2).filter _) (fun x hx => by
    rw [List.mem_filter] at hx
    obtain ⟨hx1, hx2⟩ := hx
    simp only [Array.contains_push, Bool.not_or, Bool.and_eq_true] at hx2
    have hne : x ≠ e := by rintro rfl; simp at hx2
    rw [List.mem_erase_of_ne hne, List.mem_filter]
    exact ⟨hs x hx1, by simp at hx2 ⊢; exact hx2.1⟩)
  rw [List.length_erase_of_mem hm] at h
  have := List.length_pos_of_mem hm
  omega

/-- Block b is the drum of the pins V. -/
def IsDrum (w : World) (b : Nat) (V : List (Int × Int)) : Prop :=
  ∃ x M L c, w.heap[b]? = some (.cells #[x, .map (some M)] 84 (0, 0)) ∧ w.heap[M]? = some (.map (entsOf L) c) ∧ OkL L c ∧ ClM V L ∧ RdP w x V
theorem IsDrum.mono {w w' : World} {b : Nat} {V : List (Int × Int)} (h : IsDrum w b V) (hb : Below w.heap.size w w') : IsDrum w' b V := by
  obtain ⟨x, M, L, c, h1, h2, h3, h4, h5⟩ := h
  exact ⟨x, M, L, c, (hb.block _ (Array.getElem?_eq_some_iff.1 h1).1).trans h1, (hb.block _ (Array.getElem?_eq_some_iff.1 h2).1).trans h2, h3, h4, h5.mono hb⟩
end Go.Proofs.Ytooddicegkiiiaa

namespace Go.Proofs.Ytooddicegkiiiaa
open Go.RowKit Go.Shelf

def DrumOk (V : List (Int × Int)) (w : World) (e : Ending) (w' : World) : Prop := ∃ b, e = .returned (.pointer (some ⟨b, 0, none⟩)) ∧ w.heap.size ≤ b ∧ IsDrum w' b V ∧ Below w.heap.size w w'
/-- newDrum under way. -/
structure Mid (w wr : World) (x : Value) (L : Ents) (c : Nat) : Prop where
  B : Below w.heap.size w wr
  D : wr.heap[w.heap.size + 1]? = some (.cells #[x, .map (some w.heap.size)] 84 (0, 0))
  M : wr.heap[w.heap.size]? = some (.map (entsOf L) c)
  ok : OkL L c
theorem Mid.up {w wr w' : World} {x : Value} {L : Ents} {c : Nat} (h : Mid w wr x L c) (hb : Below wr.heap.size wr w') : Mid w w' x L c :=
  ⟨btr h.B hb, (hb.block _ (Array.getElem?_eq_some_iff.1 h.D).1).trans h.D, (hb.block _ (Array.getElem?_eq_some_iff.1 h.M).1).trans h.M, h.ok⟩
theorem Mid.put {w wr : World} {x : Value} {L L1 : Ents} {c c1 : Nat} (h : Mid w wr x L c) (h1 : OkL L1 c1) : Mid w (wr.putObj w.heap.size (.map (entsOf L1) c1)) x L1 c1 :=
  ⟨below_put h.B _ (Nat.le_refl _), (World.putObj_heap_other (by omega)).trans h.D, World.putObj_heap_same (Array.getElem?_eq_some_iff.1 h.M).1, h1⟩
theorem Mid.cells {w wr : World} {x : Value} {L : Ents} {c : Nat} (h : Mid w wr x L c) : wr.cell? ⟨w.heap.size + 1, 0, none⟩ = some x ∧ wr.cell? ⟨w.heap.size + 1, 1, none⟩ = some (.map (some w.heap.size)) ∧ w.heap.size + 1 < wr.heap.size := by
  refine ⟨?_, ?_, (Array.getElem?_eq_some_iff.1 h.D).1⟩
  · rw [cell_of_row wr _ 0 _ _ _ h.D]; rfl
  · rw [cell_of_row wr _ 1 _ _ _ h.D]; rfl

theorem Mid.next {w wr : World} {x : Value} {L : Ents} {c bi n : Nat} {o : Obj} (h : Mid w wr x L c) (hb : w.heap.size + 1 < bi) : Mid w ((wr.drewN n).putObj bi o) x L c :=
  ⟨below_put (Below.drewN' n h.B) _ (by omega), (World.putObj_heap_other (by omega)).trans h.D, (World.putObj_heap_other (by omega)).trans h.M, h.ok⟩
theorem tmod_zero (a m : Int) (_hm : 1 ≤ m) : (a.tmod m == 0) = decide (a % m = 0) := by
  rw [Bool.eq_iff_iff]
  simp only [beq_iff_eq, decide_eq_true_eq]
  rw [← Int.dvd_iff_emod_eq_zero, ← Int.dvd_iff_tmod_eq_zero]
theorem tmod_bd (a m : Int) (hm : 1 ≤ m) : -m < a.tmod m ∧ a.tmod m < m := by
  have h1 := Int.natAbs_tmod a m
  have : a.natAbs % m.natAbs < m.natAbs := Nat.mod_lt _ (by omega)
  omega

set_option maxRecDepth 100000 in
set_option maxHeartbeats 4000000 in
theorem newdrum_any (x : Value) (V : List (Int × Int)) (w : World) (hx0 : RdP w x V) (hV : OkV V) (hl : V.length ≤ 5) :
    Calls Try.prog 71 #[x] w (DrumOk V w) := by
  obtain ⟨a, ca, rfl, hca, hca2, hx⟩ := hx0.form
  have hmm := @run_makeMap Try.prog
  clear hca2
  go_enter Try.func71, Try.ntmps71
  go_wp2_with fail
  clear hmm
  go_loopw [21] (fun i wr => ∃ (k : Nat) (L : Ents) (c : Nat), k ≤ V.length ∧ i = .int .i64 k ∧ Mid w wr (.slice a V.length ca) L c ∧ FillM V L k 0) (fun i _ => V.length - (intOf i).toNat)
  case atStart =>
    refine ⟨0, [], 0, Nat.zero_le _, rfl, ⟨bal (bal (bz _) _) _, ?_, ?_, by simp, by simp, by simp⟩, fill_nil V⟩
    · have := heap_alloc_new (w.alloc (.map #[] 0)) (.cells #[.slice a V.length ca, .map (some w.heap.size)] 84)
      rw [World.size_alloc] at this
      exact this
    · exact (Below.heap_alloc _ _ _ (by simp)).trans (heap_alloc_new _ _)
  case round =>
    obtain ⟨k, L, c, hk, rfl, hM, hF⟩ := hrel
    obtain ⟨d0, d1, dz⟩ := hM.cells
    have HM := Lib.hid hM; have HF := Lib.hid hF; clear hM hF
    by_cases hlt : k < V.length
    · obtain ⟨bx, ox, rfl, hbx, hcx⟩ := hx (by omega)
      have gx := (HM.out.B.cell (p := ⟨bx, ox + k * 2, none⟩) hbx).trans (hcx k hlt).1
      have gy := (HM.out.B.cell (p := ⟨bx, ox + k * 2 + 1, none⟩) hbx).trans (hcx k hlt).2
      have hcx' := Lib.hid hcx
      obtain ⟨p1, p2, p3, p4⟩ := hV.at hlt
      change 1 ≤ (V[k]?.getD (0, 0)).1 at p1
      change (V[k]?.getD (0, 0)).1 ≤ 200 at p2
      change 0 ≤ (V[k]?.getD (0, 0)).2 at p3
      change (V[k]?.getD (0, 0)).2 < (V[k]?.getD (0, 0)).1 at p4
      clear hx hcx
      generalize hp : V[k]?.getD (0, 0) = q at *
      have HP := Lib.hid hp; clear hp
      obtain ⟨q1, q2⟩ := q
      simp only at p1 p2 p3 p4 gx gy
      go_wp2_with fail
      have c5 : (wr.alloc (Obj.cells #[Value.int IntKind.i64 q1, Value.int IntKind.i64 q2] 55)).cell? ⟨wr.heap.size, 0, none⟩ = some (.int .i64 q1) := cnew rfl rfl
      have m5 := HM.out.up (bal (bz wr) (Obj.cells #[Value.int IntKind.i64 q1, Value.int IntKind.i64 q2] 55))
      have z5 : wr.heap.size < (wr.alloc (Obj.cells #[Value.int IntKind.i64 q1, Value.int IntKind.i64 q2] 55)).heap.size := by simp
      have hB5 := dz
      have HM5 := Lib.hid m5; have C5 := Lib.hid c5
      clear m5 c5 d0 d1 dz gx gy
      generalize (wr.alloc (Obj.cells #[Value.int IntKind.i64 q1, Value.int IntKind.i64 q2] 55)) = wv at *
      generalize hb5 : wr.heap.size = b5 at *
      clear hb5 HM
      go_loopw [34] (fun i ws => ∃ (i' : Nat) (L : Ents) (c : Nat), i' ≤ k ∧ i = .int .i64 i' ∧ Mid w ws (.slice (some ⟨bx, ox, none⟩) V.length ca) L c ∧ FillM V L k i' ∧ ws.cell? ⟨b5, 0, none⟩ = some (.int .i64 q1) ∧ b5 < ws.heap.size) (fun i _ => k - (intOf i).toNat)
      case atStart => exact ⟨0, L, c, Nat.zero_le _, rfl, HM5.out, HF.out, C5.out, z5⟩
      case round =>
        clear HM5 HF C5 z5 L c
        obtain ⟨i, L, c, hi, rfl, hM, hF, c5, z5⟩ := hrel
        by_cases hli : i < k
        · obtain ⟨d0, d1, dz⟩ := hM.cells
          have HF := Lib.hid hF; clear hF
          have hilt : i < V.length := by omega
          have gx := (hM.B.cell (p := ⟨bx, ox + i * 2, none⟩) hbx).trans (hcx'.out i hilt).1
          have gy := (hM.B.cell (p := ⟨bx, ox + i * 2 + 1, none⟩) hbx).trans (hcx'.out i hilt).2
          obtain ⟨p1', p2', p3', p4'⟩ := hV.at hilt
          change 1 ≤ (V[i]?.getD (0, 0)).1 at p1'
          change (V[i]?.getD (0, 0)).1 ≤ 200 at p2'
          generalize hp' : V[i]?.getD (0, 0) = q' at *
          have HP' := Lib.hid hp'; clear hp'
          obtain ⟨r1, r2⟩ := q'
          simp only at p1' p2' gx gy
          clear p3' p4'
          have HM := Lib.hid hM; clear hM
          go_wp2_with fail
          refine wp_region_flow [] [([0, 1, 2, 3, 4, 5, 6, 7, 8, 9, 10], 11, true), ([], 12, false)] [] (by kernel_rfl) (by kernel_rfl) ?_
          intro wc hBc hh
          clear hh
          have e5 := (hBc.cell (p := ⟨b5, 0, none⟩) (by simp; omega)).trans (cal _ c5)
          have e7 : wc.cell? ⟨wr.heap.size, 0, none⟩ = some (.int .i64 r1) := (hBc.cell (by simp)).trans (cnew rfl rfl)
          have hMc := HM.out.up (btr (bal (bz wr) _) hBc)
          obtain ⟨e0, e1, ez⟩ := hMc.cells
          have z7 : wr.heap.size < wc.heap.size := by have := hBc.size; simp at this; omega
          have z5' : b5 < wc.heap.size := by omega
          have hL := @Later.cell wc
          obtain ⟨L1, c1, hput, hok1, hkeys⟩ := run_putL hMc.M hMc.ok ((i : Int), (k : Int)) (gcdI r1 q1)
          have HMc := Lib.hid hMc; have HP1 := Lib.hid hput; have HK1 := Lib.hid hkeys
          clear hMc hput hkeys c5 d0 d1 dz gx gy
          simp only [flowP, flow, pickL, List.getElem?_cons_succ, List.getElem?_cons_zero]
          refine wpQuiet_nil ?_
          repeat (go_big_quiet_step (fail))
          refine wpQuiet_nil ?_
          go_wp2_with fail
          refine (common_i _ _ _ (by omega) (by omega) (by omega) (by omega)).mono ?_
          rintro e w2 ⟨rfl, rfl⟩
          go_wp2
          refine seg_grow ⟨⟨_, bz _⟩, rfl⟩ ?_
          refine wpQuiet_nil ?_
          have hput := HP1.out
          unfold kv at hput
          simp only at hput
          go_wp2
          refine seg_write ?_
          refine wpQuiet_nil ?_
          refine only_done ?_
          clear hput
          go_wp2
          go_roundw
          case rel =>
            refine ⟨i + 1, L1, c1, by omega, by go_num, HMc.out.put hok1, fill_put HF.out hli hlt ?_, ?_, ?_⟩
            · intro x m
              rw [HK1.out x m]
              simp only [pin, HP.out, HP'.out]
            · exact cell_put _ _ e5 (by simp; omega)
            · simp; omega
          case measure => simp [intOf]; omega
        · have hik : i = k := by omega
          subst hik
          have HM := Lib.hid hM; have HF := Lib.hid hF; clear hM hF
          go_wp2_with fail
          go_roundw
          case rel => exact ⟨i + 1, L, c, by omega, by go_num, HM.out, fill_next HF.out⟩
          case measure => simp [intOf]; omega
    · have hkl : k = V.length := by omega
      have HKL := Lib.hid hkl; clear hkl
      have hrg : (Instr.range 82 (.map (some w.heap.size))).run Try.prog wr = .ok (.pointer (some ⟨wr.heap.size, 0, none⟩)) (wr.alloc (.mapIter (some w.heap.size) c #[] c)) := by
        simp [Instr.range, Sem.run_bind, run_underlying Try.underlying82, Result.andThen_ok, run_getMap HM.out.M]
      go_wp2_with fail
      clear hrg
      have hW := HM.out.B.size
      have hMB := (Array.getElem?_eq_some_iff.1 HM.out.D).1
      have hMU := HM.out.up (bal (bz wr) (.mapIter (some w.heap.size) c #[] c))
      have hIT : (wr.alloc (.mapIter (some w.heap.size) c #[] c)).heap[wr.heap.size]? = some (.mapIter (some w.heap.size) c #[] c) := heap_alloc_new _ _
      have HMU := Lib.hid hMU; have HIT := Lib.hid hIT
      clear hMU hIT d0 d1 dz HM
      generalize (wr.alloc (.mapIter (some w.heap.size) c #[] c)) = wv at *
      generalize hbi : wr.heap.size = bi at *
      clear hbi
      go_loopw [8, 9] (fun _ _ ws => ∃ L' seen, Mid w ws (.slice a V.length ca) L' c ∧ ws.heap[bi]? = some (.mapIter (some w.heap.size) c seen c) ∧
          (∀ e ∈ L', e ∈ L) ∧ (∀ e ∈ L, clE V e = true → e ∈ L') ∧ (∀ e ∈ L', e.2.2 ∈ seen → clE V e = true)) (fun _ _ ws => unmet (ws.heap[w.heap.size]?) (ws.heap[bi]?))
      case atStart => exact ⟨L, #[], HMU.out, HIT.out, fun e h => h, fun e h _ => h, by simp⟩
      case round =>
        clear HMU HIT
        obtain ⟨L', seen, hM, hit, hs1, hs2, hs3⟩ := hrel
        rcases run_nextL hM.M hM.ok hit with ⟨hall, hnx⟩ | ⟨e, he, hes, n, hnx⟩
        · have HA := Lib.hid hall; have HM := Lib.hid hM; have HI := Lib.hid hit; have HS1 := Lib.hid hs1; have HS2 := Lib.hid hs2; have HS3 := Lib.hid hs3
          clear hall hM hit hs1 hs2 hs3
          go_wp2_with fail
          go_ret
          refine ⟨_, rfl, by omega, ⟨_, _, L', c, HM.out.D, HM.out.M, HM.out.ok, clm_of (by have := HF.out; rw [HKL.out] at this; exact this) HS1.out HS2.out HS3.out HA.out, hx0.mono HM.out.B⟩, HM.out.B⟩
        · have HSN := Lib.hid hes; have HE := Lib.hid he; have HM := Lib.hid hM; have HI := Lib.hid hit; have HS1 := Lib.hid hs1; have HS2 := Lib.hid hs2; have HS3 := Lib.hid hs3
          clear hes he hM hit hs1 hs2 hs3
          go_wp2_with fail
          clear hnx
          obtain ⟨⟨k1, k2⟩, m, t⟩ := e
          obtain ⟨a', b', hab, hbl, he1, he2⟩ := fill_at (by have := HF.out; rw [HKL.out] at this; exact this) (HS1.out _ HE.out)
          simp only [Prod.mk.injEq] at he1 he2
          obtain ⟨rfl, rfl⟩ := he1
          have hal : a' < V.length := by omega
          have hbr := HM.out.B.size
          have hrI := (Array.getElem?_eq_some_iff.1 HI.out).1
          have hMn := HM.out.next (n := n) (o := .mapIter (some w.heap.size) c (seen.push t) c) hMB
          have hnI : ((wr.drewN n).putObj bi (.mapIter (some w.heap.size) c (seen.push t) c)).heap[bi]? = some (.mapIter (some w.heap.size) c (seen.push t) c) := World.putObj_heap_same hrI
          have hen := run_entryL hMn.M hMn.ok HE.out hnI
          have hzn : ((wr.drewN n).putObj bi (.mapIter (some w.heap.size) c (seen.push t) c)).heap.size = wr.heap.size := by simp [World.drewN]
          have HMn := Lib.hid hMn; have HNI := Lib.hid hnI; clear hMn hnI
          simp only at hen HMn HNI hzn
          generalize (wr.drewN n).putObj bi (.mapIter (some w.heap.size) c (seen.push t) c) = wn at *
          have hbn : bi < wn.heap.size := by omega
          clear hzn
          obtain ⟨bx, ox, rfl, hbx, hcx⟩ := hx (by omega)
          have ga := (hcx a' hal).2
          have gb := (hcx b' hbl).2
          obtain ⟨p1, p2, p3, p4⟩ := hV.at hal
          obtain ⟨p1', p2', p3', p4'⟩ := hV.at hbl
          have g1 := gcdI_pos (pin V a').1 (pin V b').1 p1
          have g2 := gcdI_le (pin V a').1 (pin V b').1 p1
          rw [← he2] at g1 g2
          have hm2 : m ≤ 200 := by omega
          have hcl : clE V ((↑a', ↑b'), m, t) = !((((pin V a').2 - (pin V b').2).tmod m) == 0) := by
            rw [tmod_zero _ _ g1]; simp [clE]
          have HCL := Lib.hid hcl; have HE2 := Lib.hid he2
          clear hx hcx he2 g2 hcl
          change w.cell? ⟨bx, ox + a' * 2 + 1, none⟩ = some (.int .i64 (pin V a').2) at ga
          change w.cell? ⟨bx, ox + b' * 2 + 1, none⟩ = some (.int .i64 (pin V b').2) at gb
          have o1 : (pin V a').2 < 200 := by omega
          have o2 : (pin V b').2 < 200 := by omega
          clear p1 p2 p4 p1' p2' p4'
          generalize hq1 : (pin V a').2 = q1 at *
          generalize hq2 : (pin V b').2 = q2 at *
          clear hq1 hq2
          unfold kv at hen
          simp only at hen
          go_wp2_with fail
          clear hen
          have hMy := HMn.out.up (bal (bz wn) (Obj.cells #[Value.int IntKind.i64 ↑a', Value.int IntKind.i64 ↑b'] 98))
          have y0 : (wn.alloc (Obj.cells #[Value.int IntKind.i64 ↑a', Value.int IntKind.i64 ↑b'] 98)).cell? ⟨wn.heap.size, 0, none⟩ = some (.int .i64 a') := cnew rfl rfl
          have y1 : (wn.alloc (Obj.cells #[Value.int IntKind.i64 ↑a', Value.int IntKind.i64 ↑b'] 98)).cell? ⟨wn.heap.size, 1, none⟩ = some (.int .i64 b') := cnew rfl rfl
          have yz : wn.heap.size < (wn.alloc (Obj.cells #[Value.int IntKind.i64 ↑a', Value.int IntKind.i64 ↑b'] 98)).heap.size := by simp
          have yI := (Below.heap_alloc wn (.cells #[Value.int IntKind.i64 ↑a', Value.int IntKind.i64 ↑b'] 98) bi hbn).trans HNI.out
          have HMY := Lib.hid hMy; have HYI := Lib.hid yI
          clear hMy yI HMn HNI
          generalize (wn.alloc (Obj.cells #[Value.int IntKind.i64 ↑a', Value.int IntKind.i64 ↑b'] 98)) = wy at *
          generalize hyb : wn.heap.size = yb at *
          clear hyb
          have w1 : IntKind.i64.wrap (q1 - q2) = q1 - q2 := IntWalk.i64_in _ (by omega)
          obtain ⟨t1, t2⟩ := tmod_bd (q1 - q2) m g1
          have w2 : IntKind.i64.wrap ((q1 - q2).tmod m) = (q1 - q2).tmod m := IntWalk.i64_in _ (by omega)
          clear t1 t2
          generalize hcz : ((q1 - q2).tmod m == 0) = cz at *
          refine wp_region_flow [] [] [0, 1, 2, 3, 4, 5, 6, 7, 8, 9, 10, 11, 12, 13, 14, 15, 16, 17, 18, 19, 20, 21, 22, 23] (by kernel_rfl) (by kernel_rfl) ?_
          intro wc hBc hh
          clear hh
          have hMc := HMY.out.up hBc
          obtain ⟨e0, e1, ez⟩ := hMc.cells
          have hb1 := (hMc.B.cell (p := ⟨bx, ox + a' * 2 + 1, none⟩) hbx).trans ga
          have hb2 := (hMc.B.cell (p := ⟨bx, ox + b' * 2 + 1, none⟩) hbx).trans gb
          have hbx' : bx < wc.heap.size := Nat.lt_of_lt_of_le hbx hMc.B.size
          have u0 := (hBc.cell (p := ⟨yb, 0, none⟩) yz).trans y0
          have u1 := (hBc.cell (p := ⟨yb, 1, none⟩) yz).trans y1
          have uz : yb < wc.heap.size := Nat.lt_of_lt_of_le yz hBc.size
          have hL := @Later.cell wc
          have HMC := Lib.hid hMc; have HBc := Lib.hid hBc
          clear hMc hBc ga gb y0 y1
          simp only [flowP, flow, pickL, List.getElem?_cons_succ, List.getElem?_cons_zero]
          refine wpQuiet_nil ?_
          repeat (go_big_quiet_step (fail))
          refine wpQuiet_nil ?_
          refine only_done ?_
          clear w1 w2 hb1 hb2
          have hyc := (HBc.out.block _ (Array.getElem?_eq_some_iff.1 HYI.out).1).trans HYI.out
          have HYC := Lib.hid hyc; have HCZ := Lib.hid hcz
          clear hyc HYI hcz
          cases cz
          · go_wp2
            go_roundw
            case rel =>
              refine ⟨L', seen.push t, HMC.out, HYC.out, HS1.out, HS2.out, fun x hx hxs => ?_⟩
              rw [Array.mem_push] at hxs
              rcases hxs with h | h
              · exact HS3.out x hx h
              · rw [born_inj HMC.out.ok hx HE.out h]; exact HCL.out
            case measure =>
              rw [HM.out.M, HI.out, HMC.out.M, HYC.out, unmet_eq, unmet_eq]
              exact unmet_lt HMC.out.ok (fun x h => h) HE.out HSN.out
          · go_wp2_with fail
            refine wp_region_flow [] [([0, 1, 2, 3, 4], 5, false)] [] (by kernel_rfl) (by kernel_rfl) ?_
            intro wd hBd hh
            clear hh
            have hMd := HMC.out.up hBd
            have d0 := (hBd.cell (World.block_lt_of_cell? wc _ e0)).trans e0
            have d1 := (hBd.cell (World.block_lt_of_cell? wc _ e1)).trans e1
            have v0 := (hBd.cell (World.block_lt_of_cell? wc _ u0)).trans u0
            have v1 := (hBd.cell (World.block_lt_of_cell? wc _ u1)).trans u1
            have vz : yb < wd.heap.size := Nat.lt_of_lt_of_le uz hBd.size
            have dz' : w.heap.size + 1 < wd.heap.size := Nat.lt_of_lt_of_le ez hBd.size
            have hyd := (hBd.block _ (Array.getElem?_eq_some_iff.1 HYC.out).1).trans HYC.out
            have hLd := @Later.cell wd
            obtain ⟨L2, hdel, hL2, hk2⟩ := run_deleteL hMd.M hMd.ok ((a' : Int), (b' : Int))
            have HMD := Lib.hid hMd; have HYD := Lib.hid hyd; have HDEL := Lib.hid hdel; have HK2 := Lib.hid hk2
            clear hMd hyd hdel hk2 hBd e0 e1 u0 u1 hL
            simp only [flowP, flow, pickL, List.getElem?_cons_succ, List.getElem?_cons_zero]
            refine wpQuiet_nil ?_
            repeat (go_big_quiet_step (fail))
            refine wpQuiet_nil ?_
            have hdel := HDEL.out
            unfold kv at hdel
            simp only at hdel
            go_wp2
            refine seg_write ?_
            refine wpQuiet_nil ?_
            refine only_done ?_
            clear hdel
            go_wp2
            go_roundw
            case rel =>
              refine ⟨L2, seen.push t, HMD.out.put hL2, (World.putObj_heap_other (by omega)).trans HYD.out, fun x h => HS1.out x ((HK2.out x).1 h).1, fun x h1 h2 => (HK2.out x).2 ⟨HS2.out x h1 h2, fun h => ?_⟩, fun x hx hxs => ?_⟩
              · obtain ⟨x1, x2, x3⟩ := x
                simp only at h
                subst h
                have hE := HS1.out _ HE.out
                obtain ⟨f1, f2, f3, f4, f5, f6⟩ := fill_at (by have := HF.out; rw [HKL.out] at this; exact this) h1
                simp only [Prod.mk.injEq] at f5 f6
                have e1 : f1 = a' := by omega
                have e2 : f2 = b' := by omega
                subst e1; subst e2
                rw [HE2.out] at HCL
                have := HCL.out
                rw [f6] at h2
                simp only [clE] at this h2
                rw [h2] at this
                cases this
              · obtain ⟨hx1, hx2⟩ := (HK2.out x).1 hx
                rw [Array.mem_push] at hxs
                rcases hxs with h | h
                · exact HS3.out x hx1 h
                · exact absurd (by rw [born_inj HMD.out.ok hx1 HE.out h]) hx2
            case measure =>
              rw [HM.out.M, HI.out, World.putObj_heap_same (Array.getElem?_eq_some_iff.1 HMD.out.M).1, World.putObj_heap_other (by omega), HYD.out, unmet_eq, unmet_eq]
              exact unmet_lt hL2 (fun x h => ((HK2.out x).1 h).1) HE.out HSN.out
end Go.Proofs.Ytooddicegkiiiaa

namespace Go.Proofs.Ytooddicegkiiiaa

/-- The first time at which all of V sound, and the common period. -/
structure Joined (V : List (Int × Int)) (t p : Int) : Prop where
  t0 : 0 ≤ t
  tp : t < p
  per : ∀ d : Int, p ∣ d ↔ ∀ x ∈ V, x.1 ∣ d
  at_ : ∀ x ∈ V, x.1 ∣ t - x.2
/-- There is a time at which all sound. -/
def Together (V : List (Int × Int)) : Prop := ∃ T : Int, ∀ x ∈ V, x.1 ∣ T - x.2

theorem Joined.nil : Joined [] 0 1 := ⟨by omega, by omega, fun d => by simp [Int.one_dvd], by simp⟩
theorem Joined.together {V : List (Int × Int)} {t p : Int} (h : Joined V t p) : Together V := ⟨t, h.at_⟩
theorem dvd_small {p d : Int} (hp : 0 < p) (h : p ∣ d) (h1 : -p < d) (h2 : d < p) : d = 0 := by
  obtain ⟨k, rfl⟩ := h
  rcases Int.lt_trichotomy k 0 with hk | rfl | hk
  · have : p * k ≤ p * (-1) := Int.mul_le_mul_of_nonneg_left (by omega) (by omega)
    omega
  · simp
  · have : p * 1 ≤ p * k := Int.mul_le_mul_of_nonneg_left (by omega) (by omega)
    omega
theorem Joined.unique {V : List (Int × Int)} {t p t' p' : Int} (h : Joined V t p) (h' : Joined V t' p') : t = t' ∧ p = p' := by
  have hp : 0 < p := by have := h.t0; have := h.tp; omega
  have hp' : 0 < p' := by have := h'.t0; have := h'.tp; omega
  have e : p = p' := by
    have h1 : p ∣ p' := (h.per p').2 ((h'.per p').1 (Int.dvd_refl _))
    have h2 : p' ∣ p := (h'.per p).2 ((h.per p).1 (Int.dvd_refl _))
    have := Int.le_of_dvd hp' h1
    have := Int.le_of_dvd hp h2
    omega
  subst e
  refine ⟨?_, rfl⟩
  have hd : p ∣ t - t' := by
    rw [h.per]
    intro x hx
    have := Int.dvd_sub (h.at_ x hx) (h'.at_ x hx)
    rwa [show t - x.2 - (t' - x.2) = t - t' by omega] at this
  have := dvd_small hp hd (by have := h.t0; have := h'.tp; omega) (by have := h.tp; have := h'.t0; omega)
  omega
/-- Any common time is the first one, up to the common period. -/
theorem Joined.all {V : List (Int × Int)} {t p T : Int} (h : Joined V t p) : (∀ x ∈ V, x.1 ∣ T - x.2) ↔ p ∣ T - t := by
  rw [h.per]
  constructor
  · intro hT x hx
    have := Int.dvd_sub (hT x hx) (h.at_ x hx)
    rwa [show T - x.2 - (t - x.2) = T - t by omega] at this
  · intro hT x hx
    have := Int.dvd_add (hT x hx) (h.at_ x hx)
    rwa [show T - t + (t - x.2) = T - x.2 by omega] at this

theorem gcdI_dvd_left (a b : Int) : gcdI a b ∣ a := Int.gcd_dvd_left a b
theorem gcdI_dvd_right (a b : Int) : gcdI a b ∣ b := Int.gcd_dvd_right a b
theorem dvd_gcdI {a b d : Int} (h1 : d ∣ a) (h2 : d ∣ b) : d ∣ gcdI a b := Int.dvd_coe_gcd h1 h2
theorem gcdI_comm (a b : Int) : gcdI a b = gcdI b a := by unfold gcdI; rw [Int.gcd_comm]

/-- The common period of two. -/
theorem lcm_step {p P : Int} (hp : 1 ≤ p) (hP : 1 ≤ P) (d : Int) : p * (P / gcdI p P) ∣ d ↔ p ∣ d ∧ P ∣ d := by
  have hc := gcdI_pos p P hp
  obtain ⟨a, ha⟩ := gcdI_dvd_left p P
  obtain ⟨b, hb⟩ := gcdI_dvd_right p P
  have hs : P / gcdI p P = b := by rw [hb]; rw [← hb]; exact Int.ediv_eq_of_eq_mul_right (by omega) hb
  rw [hs]
  have hl : p * b = ((Int.lcm p P : Nat) : Int) := by
    have h1 : ((Int.gcd p P : Nat) : Int) * ((Int.lcm p P : Nat) : Int) = p * P := by
      rw [← Int.natCast_mul, Int.gcd_mul_lcm, Int.natCast_mul]
      rw [Int.natAbs_of_nonneg (by omega), Int.natAbs_of_nonneg (by omega)]
    have h2 : gcdI p P * (p * b) = gcdI p P * ((Int.lcm p P : Nat) : Int) := by
      rw [show gcdI p P * ((Int.lcm p P : Nat) : Int) = p * P from h1]
      conv => rhs; rw [hb]
      rw [← Int.mul_assoc, ← Int.mul_assoc, Int.mul_comm (gcdI p P) p]
    exact Int.eq_of_mul_eq_mul_left (by omega) h2
  rw [hl]
  exact Int.coe_lcm_dvd_iff
theorem steps_pos {p P : Int} (hp : 1 ≤ p) (hP : 1 ≤ P) : 1 ≤ P / gcdI p P ∧ P / gcdI p P ≤ P ∧ gcdI p P * (P / gcdI p P) = P := by
  have hc := gcdI_pos p P hp
  have h1 : gcdI p P * (P / gcdI p P) = P := Int.mul_ediv_cancel' (gcdI_dvd_right p P)
  refine ⟨?_, Int.ediv_le_self _ (by omega), h1⟩
  have : 0 < P / gcdI p P := Int.ediv_pos_of_pos_of_dvd (by omega) (by omega) (gcdI_dvd_right p P)
  omega
theorem Joined.snoc {V : List (Int × Int)} {t p n : Int} {x : Int × Int} (h : Joined V t p) (hP : 1 ≤ x.1) (hn : 0 ≤ n) (hs : n < x.1 / gcdI p x.1) (ha : x.1 ∣ t + n * p - x.2) : Joined (V ++ [x]) (t + n * p) (p * (x.1 / gcdI p x.1)) := by
  have hp : 1 ≤ p := by have := h.t0; have := h.tp; omega
  have hnp : 0 ≤ n * p := Int.mul_nonneg hn (by omega)
  refine ⟨by have := h.t0; omega, ?_, fun d => ?_, fun y hy => ?_⟩
  · have h1 : n * p ≤ (x.1 / gcdI p x.1 - 1) * p := Int.mul_le_mul_of_nonneg_right (by omega) (by omega)
    rw [Int.sub_mul, Int.one_mul, Int.mul_comm (x.1 / gcdI p x.1) p] at h1
    have := h.tp
    omega
  · rw [lcm_step hp hP, h.per]
    simp only [List.mem_append, List.mem_singleton]
    constructor
    · rintro ⟨h1, h2⟩ y (hy | rfl)
      · exact h1 y hy
      · exact h2
    · intro h1; exact ⟨fun y hy => h1 y (.inl hy), h1 x (.inr rfl)⟩
  · simp only [List.mem_append, List.mem_singleton] at hy
    rcases hy with hy | rfl
    · have h1 : y.1 ∣ p := (h.per p).1 (Int.dvd_refl _) y hy
      have := Int.dvd_add (h.at_ y hy) (Int.dvd_mul_of_dvd_right (b := n) h1)
      rwa [show t - y.2 + n * p = t + n * p - y.2 by omega] at this
    · exact ha
/-- If no step fits, there is no common time. -/
theorem Joined.none {V : List (Int × Int)} {t p : Int} {x : Int × Int} (h : Joined V t p) (hP : 1 ≤ x.1) (hno : ∀ n : Int, 0 ≤ n → n < x.1 / gcdI p x.1 → ¬ x.1 ∣ t + n * p - x.2) : ¬ Together (V ++ [x]) := by
  have hp : 1 ≤ p := by have := h.t0; have := h.tp; omega
  rintro ⟨T, hT⟩
  have h1 := h.all.1 fun y hy => hT y (by simp [hy])
  have h2 := hT x (by simp)
  obtain ⟨q, hq⟩ := h1
  obtain ⟨s1, _, _⟩ := steps_pos hp hP
  refine hno (q % (x.1 / gcdI p x.1)) (Int.emod_nonneg _ (by omega)) (Int.emod_lt_of_pos _ (by omega)) ?_
  have hx : x.1 ∣ p * (x.1 / gcdI p x.1) := ((lcm_step hp hP _).1 (Int.dvd_refl _)).2
  have h3 := Int.dvd_sub h2 (Int.dvd_mul_of_dvd_left (c := q / (x.1 / gcdI p x.1)) hx)
  have e := Int.mul_ediv_add_emod q (x.1 / gcdI p x.1)
  generalize x.1 / gcdI p x.1 = s at *
  have e2 : p * (s * (q / s)) + p * (q % s) = p * q := by rw [← Int.mul_add, e]
  rw [show t + q % s * p - x.2 = T - x.2 - p * s * (q / s) by rw [Int.mul_comm (q % s) p, Int.mul_assoc]; omega]
  exact h3
end Go.Proofs.Ytooddicegkiiiaa

namespace Go.Proofs.Ytooddicegkiiiaa

theorem gcd_lcm_dvd {a b P D : Nat} (ha : 0 < a) (h1 : Nat.gcd a P ∣ D) (h2 : Nat.gcd b P ∣ D) : Nat.gcd (Nat.lcm a b) P ∣ D := by
  have hd : 0 < Nat.gcd a b := Nat.gcd_pos_of_pos_left _ ha
  obtain ⟨a', ea⟩ := Nat.gcd_dvd_left a b
  obtain ⟨b', eb⟩ := Nat.gcd_dvd_right a b
  have hco : Nat.gcd a' b' = 1 := by
    have h : Nat.gcd a b * Nat.gcd a' b' = Nat.gcd a b * 1 := by
      rw [← Nat.gcd_mul_left, ← ea, ← eb, Nat.mul_one]
    exact Nat.eq_of_mul_eq_mul_left hd h
  have L1 : Nat.lcm a b = a * b' := by
    have h : Nat.gcd a b * Nat.lcm a b = Nat.gcd a b * (a * b') := by
      rw [Nat.gcd_mul_lcm]; conv => lhs; rw [eb]
      rw [← Nat.mul_assoc, ← Nat.mul_assoc, Nat.mul_comm a]
    exact Nat.eq_of_mul_eq_mul_left hd h
  have L2 : Nat.lcm a b = b * a' := by
    have h : Nat.gcd a b * Nat.lcm a b = Nat.gcd a b * (b * a') := by
      rw [Nat.gcd_mul_lcm]; conv => lhs; rw [ea]
      rw [← Nat.mul_assoc, Nat.mul_right_comm, Nat.mul_assoc]
    exact Nat.eq_of_mul_eq_mul_left hd h
  have k1 : Nat.gcd (Nat.lcm a b) P ∣ b' * D := by
    refine Nat.dvd_trans ?_ (Nat.mul_dvd_mul_left b' h1)
    rw [← Nat.gcd_mul_left, L1, Nat.mul_comm a b']
    exact Nat.dvd_gcd (Nat.gcd_dvd_left _ _) (Nat.dvd_trans (Nat.gcd_dvd_right _ _) (Nat.dvd_mul_left _ _))
  have k2 : Nat.gcd (Nat.lcm a b) P ∣ a' * D := by
    refine Nat.dvd_trans ?_ (Nat.mul_dvd_mul_left a' h2)
    rw [← Nat.gcd_mul_left, L2, Nat.mul_comm b a']
    exact Nat.dvd_gcd (Nat.gcd_dvd_left _ _) (Nat.dvd_trans (Nat.gcd_dvd_right _ _) (Nat.dvd_mul_left _ _))
  have := Nat.dvd_gcd k2 k1
  rwa [Nat.gcd_mul_right, hco, Nat.one_mul] at this
theorem gcdI_lcm_dvd {a b P D : Int} (ha : 1 ≤ a) (hb : 1 ≤ b) (h1 : gcdI a P ∣ D) (h2 : gcdI b P ∣ D) : gcdI (a * (b / gcdI a b)) P ∣ D := by
  have hL : a * (b / gcdI a b) = ((Int.lcm a b : Nat) : Int) := by
    have h1 : ((Int.gcd a b : Nat) : Int) * ((Int.lcm a b : Nat) : Int) = a * b := by
      rw [← Int.natCast_mul, Int.gcd_mul_lcm, Int.natCast_mul, Int.natAbs_of_nonneg (by omega), Int.natAbs_of_nonneg (by omega)]
    have h2 : gcdI a b * (b / gcdI a b) = b := Int.mul_ediv_cancel' (gcdI_dvd_right a b)
    have h3 : gcdI a b * (a * (b / gcdI a b)) = gcdI a b * ((Int.lcm a b : Nat) : Int) := by
      rw [show gcdI a b * ((Int.lcm a b : Nat) : Int) = a * b from h1, ← Int.mul_assoc, Int.mul_comm (gcdI a b) a, Int.mul_assoc, h2]
    exact Int.eq_of_mul_eq_mul_left (by have := gcdI_pos a b ha; omega) h3
  rw [hL]
  have := gcd_lcm_dvd (a := a.natAbs) (b := b.natAbs) (P := P.natAbs) (D := D.natAbs) (by omega) (Int.natAbs_dvd_natAbs.2 h1) (Int.natAbs_dvd_natAbs.2 h2)
  rw [← Int.natAbs_dvd_natAbs]
  exact this
theorem gcd_per {P D : Int} : ∀ (V : List (Int × Int)), (∀ x ∈ V, 1 ≤ x.1) → (∀ x ∈ V, gcdI x.1 P ∣ D) → ∃ p : Int, 1 ≤ p ∧ (∀ d : Int, p ∣ d ↔ ∀ x ∈ V, x.1 ∣ d) ∧ gcdI p P ∣ D
  | [], _, _ => ⟨1, by omega, fun d => by simp [Int.one_dvd], by simp [gcdI]⟩
  | x :: V, h, hg => by
    obtain ⟨p, hp, h1, h2⟩ := gcd_per V (fun y hy => h y (by simp [hy])) (fun y hy => hg y (by simp [hy]))
    have hx := h x (by simp)
    refine ⟨p * (x.1 / gcdI p x.1), ?_, fun d => ?_, gcdI_lcm_dvd hp hx h2 (hg x (by simp))⟩
    · have := (steps_pos hp hx).1
      have := Int.mul_le_mul_of_nonneg_left this (show 0 ≤ p by omega)
      omega
    · rw [lcm_step hp hx, h1]
      simp only [List.mem_cons]
      constructor
      · rintro ⟨h3, h4⟩ y (rfl | hy)
        · exact h4
        · exact h3 y hy
      · intro h3; exact ⟨fun y hy => h3 y (.inr hy), h3 x (.inl rfl)⟩
/-- The first time of joined pins fits one more if this clashes with none of them. -/
theorem Joined.fits {V : List (Int × Int)} {t p : Int} {x : Int × Int} (h : Joined V t p) (hV : ∀ y ∈ V, 1 ≤ y.1) (hn : ∀ y ∈ V, gcdI y.1 x.1 ∣ x.2 - y.2) : gcdI p x.1 ∣ x.2 - t := by
  obtain ⟨p', hp', h1, h2⟩ := gcd_per (P := x.1) (D := x.2 - t) V hV fun y hy => by
    have := Int.dvd_sub (hn y hy) (Int.dvd_trans (gcdI_dvd_left y.1 x.1) (h.at_ y hy))
    rwa [show x.2 - y.2 - (t - y.2) = x.2 - t by omega] at this
  have hp : 0 < p := by have := h.t0; have := h.tp; omega
  have k1 : p ∣ p' := (h.per p').2 ((h1 p').1 (Int.dvd_refl _))
  have k2 : p' ∣ p := (h1 p).2 ((h.per p).1 (Int.dvd_refl _))
  have := Int.le_of_dvd (by omega) k1
  have := Int.le_of_dvd hp k2
  obtain rfl : p = p' := by omega
  exact h2
/-- The step by a number that, times p / c, leaves 1. -/
theorem step_fits {p t c s v n P O : Int} (hc : 1 ≤ c) (hP : c * s = P) (hd : c ∣ O - t) (hcp : c ∣ p) (hv : s ∣ p / c * v - 1) (hn : s ∣ n - (O - t) / c * v) : P ∣ t + n * p - O := by
  obtain ⟨e, he⟩ := hd
  obtain ⟨q, hq⟩ := hcp
  have e1 : (O - t) / c = e := by rw [he]; exact Int.mul_ediv_cancel_left _ (by omega)
  have e2 : p / c = q := by rw [hq]; exact Int.mul_ediv_cancel_left _ (by omega)
  rw [e1] at hn
  rw [e2] at hv
  have k : s ∣ n * q - e := by
    have h1 := Int.dvd_mul_of_dvd_left (c := q) hn
    have h2 := Int.dvd_mul_of_dvd_left (c := e) hv
    have := Int.dvd_add h1 h2
    have e3 : (n - e * v) * q + (q * v - 1) * e = n * q - e := by
      rw [Int.sub_mul, Int.sub_mul, Int.one_mul, show e * v * q = q * v * e by rw [Int.mul_comm e v, Int.mul_comm (v * e) q, ← Int.mul_assoc]]
      omega
    rwa [e3] at this
  have := Int.mul_dvd_mul_left c k
  rw [hP, Int.mul_sub] at this
  have e4 : c * (n * q) = n * p := by rw [hq, ← Int.mul_assoc, ← Int.mul_assoc, Int.mul_comm c n]
  rwa [e4, ← he, show n * p - (O - t) = t + n * p - O by omega] at this

/-- No two of V clash. -/
def Free (V : List (Int × Int)) : Prop := ∀ i k : Nat, i < k → k < V.length → clB (pin V i) (pin V k) = false
theorem clB_false {a b : Int × Int} : clB a b = false ↔ gcdI a.1 b.1 ∣ a.2 - b.2 := by
  simp [clB, Int.dvd_iff_emod_eq_zero]
theorem clB_comm (a b : Int × Int) : clB a b = clB b a := by
  have : clB a b = false ↔ clB b a = false := by
    rw [clB_false, clB_false, gcdI_comm]
    rw [← Int.dvd_neg, show -(a.2 - b.2) = b.2 - a.2 by omega]
  cases h : clB a b <;> cases k : clB b a <;> simp_all
theorem clB_of_time {a b : Int × Int} {T : Int} (h1 : a.1 ∣ T - a.2) (h2 : b.1 ∣ T - b.2) : clB a b = false := by
  rw [clB_false]
  have := Int.dvd_sub (Int.dvd_trans (gcdI_dvd_right a.1 b.1) h2) (Int.dvd_trans (gcdI_dvd_left a.1 b.1) h1)
  rwa [show T - b.2 - (T - a.2) = a.2 - b.2 by omega] at this
theorem pin_mem {V : List (Int × Int)} {i : Nat} (h : i < V.length) : pin V i ∈ V := by
  have : pin V i = V[i] := by simp [pin, h]
  rw [this]; exact List.getElem_mem h
theorem Together.free {V : List (Int × Int)} (h : Together V) : Free V := by
  obtain ⟨T, hT⟩ := h
  exact fun i k hi hk => clB_of_time (hT _ (pin_mem (by omega))) (hT _ (pin_mem hk))

/-! The document's search. -/
def findN (t p : Int) (x : Int × Int) : Option Nat := (List.range (x.1 / gcdI p x.1).toNat).find? fun n => decide ((t + (n : Int) * p) % x.1 = x.2)
def joinS (o : Option (Int × Int)) (x : Int × Int) : Option (Int × Int) := o.bind fun q => (findN q.1 q.2 x).map fun n => (q.1 + (n : Int) * q.2, q.2 * (x.1 / gcdI q.2 x.1))
def joinO (V : List (Int × Int)) : Option (Int × Int) := V.foldl joinS (some (0, 1))
theorem joinO_snoc (V : List (Int × Int)) (x : Int × Int) : joinO (V ++ [x]) = joinS (joinO V) x := by simp [joinO, List.foldl_append]
theorem mod_iff {P O a : Int} (h0 : 0 ≤ O) (h1 : O < P) : a % P = O ↔ P ∣ a - O := by
  constructor
  · intro h
    have := Int.mul_ediv_add_emod a P
    exact ⟨a / P, by omega⟩
  · rintro ⟨k, hk⟩
    have : a = O + P * k := by omega
    rw [this, Int.add_mul_emod_self_left, Int.emod_eq_of_lt h0 h1]
theorem joinO_spec : ∀ (V : List (Int × Int)), (∀ x ∈ V, 1 ≤ x.1 ∧ 0 ≤ x.2 ∧ x.2 < x.1) → (∀ q, joinO V = some q → Joined V q.1 q.2) ∧ (joinO V = none → ¬ Together V) := by
  intro V
  suffices ∀ n (V : List (Int × Int)), V.length = n → (∀ x ∈ V, 1 ≤ x.1 ∧ 0 ≤ x.2 ∧ x.2 < x.1) → (∀ q, joinO V = some q → Joined V q.1 q.2) ∧ (joinO V = none → ¬ Together V) from this _ V rfl
  intro n
  induction n with
  | zero =>
    intro V hl _
    rw [List.length_eq_zero_iff] at hl
    subst hl
    exact ⟨fun q hq => by simp [joinO] at hq; subst hq; exact Joined.nil, fun h => by simp [joinO] at h⟩
  | succ n ih =>
    intro V hl hV
    obtain ⟨V, x, rfl⟩ : ∃ r x, V = r ++ [x] := by
      cases hr : V.reverse with
      | nil => have : V = [] := by simpa using hr
               subst this; simp at hl
      | cons x r => exact ⟨r.reverse, x, by rw [← List.reverse_reverse V, hr]; simp⟩
    have hx := hV x (by simp)
    obtain ⟨i1, i2⟩ := ih V (by simpa using hl) (fun y hy => hV y (by simp [hy]))
    rw [joinO_snoc]
    cases hj : joinO V with
    | none =>
      refine ⟨fun q hq => by simp [joinS] at hq, fun _ => ?_⟩
      rintro ⟨T, hT⟩
      exact i2 hj ⟨T, fun y hy => hT y (by simp [hy])⟩
    | some q =>
      have hJ := i1 q hj
      have hp : 1 ≤ q.2 := by have := hJ.t0; have := hJ.tp; omega
      obtain ⟨s1, _, _⟩ := steps_pos hp hx.1
      cases hf : findN q.1 q.2 x with
      | some m =>
        refine ⟨fun q' hq => ?_, fun h => by simp [joinS, hf] at h⟩
        simp [joinS, hf] at hq
        subst hq
        have h1 := List.find?_some hf
        have h2 := List.mem_of_find?_eq_some hf
        simp only [decide_eq_true_eq] at h1
        rw [List.mem_range] at h2
        exact hJ.snoc hx.1 (by omega) (by omega) ((mod_iff hx.2.1 hx.2.2).1 h1)
      | none =>
        refine ⟨fun q' hq => by simp [joinS, hf] at hq, fun _ => hJ.none hx.1 fun m h0 h1 hd => ?_⟩
        unfold findN at hf
        rw [List.find?_eq_none] at hf
        refine hf m.toNat (List.mem_range.2 (by omega)) ?_
        rw [decide_eq_true_eq, show ((m.toNat : Nat) : Int) = m by omega]
        exact (mod_iff hx.2.1 hx.2.2).2 hd
theorem joinO_of {V : List (Int × Int)} (hV : ∀ x ∈ V, 1 ≤ x.1 ∧ 0 ≤ x.2 ∧ x.2 < x.1) {t p : Int} (h : Joined V t p) : joinO V = some (t, p) := by
  obtain ⟨i1, i2⟩ := joinO_spec V hV
  cases hj : joinO V with
  | none => exact absurd h.together (i2 hj)
  | some q =>
    obtain ⟨rfl, rfl⟩ := (i1 q hj).unique h
    rfl
theorem joinO_none {V : List (Int × Int)} (hV : ∀ x ∈ V, 1 ≤ x.1 ∧ 0 ≤ x.2 ∧ x.2 < x.1) (h : ¬ Together V) : joinO V = none := by
  cases hj : joinO V with
  | none => rfl
  | some q => exact absurd ((joinO_spec V hV).1 q hj).together h
theorem joinO_some {V : List (Int × Int)} (hV : ∀ x ∈ V, 1 ≤ x.1 ∧ 0 ≤ x.2 ∧ x.2 < x.1) (h : Together V) : ∃ t p, joinO V = some (t, p) ∧ Joined V t p := by
  cases hj : joinO V with
  | none => exact absurd h ((joinO_spec V hV).2 hj)
  | some q => exact ⟨q.1, q.2, rfl, (joinO_spec V hV).1 q hj⟩
end Go.Proofs.Ytooddicegkiiiaa

namespace Go.Proofs.Ytooddicegkiiiaa
open Go.RowKit Go.Shelf

theorem gcd_mod (X Y : Int) : Int.gcd Y (X % Y) = Int.gcd X Y := by
  have e := Int.mul_ediv_add_emod X Y
  apply Nat.dvd_antisymm
  · refine Int.natCast_dvd_natCast.1 (Int.dvd_coe_gcd ?_ (Int.gcd_dvd_left _ _))
    have := Int.dvd_add (Int.dvd_mul_of_dvd_left (c := X / Y) (Int.gcd_dvd_left Y (X % Y))) (Int.gcd_dvd_right Y (X % Y))
    rwa [e] at this
  · refine Int.natCast_dvd_natCast.1 (Int.dvd_coe_gcd (Int.gcd_dvd_right _ _) ?_)
    have := Int.dvd_sub (Int.gcd_dvd_left X Y) (Int.dvd_mul_of_dvd_left (c := X / Y) (Int.gcd_dvd_right X Y))
    rwa [show X - Y * (X / Y) = X % Y by omega] at this
/-- Euclid's steps under way. -/
structure EI (n s X Y a b : Int) : Prop where
  x0 : 0 ≤ X
  xs : X ≤ s
  y0 : 0 ≤ Y
  ys : Y ≤ s
  pos : 1 ≤ X + Y
  dx : s ∣ X - a * n
  dy : s ∣ Y - b * n
  g : Int.gcd X Y = Int.gcd n s
  sg : ∃ A B σ : Int, (σ = 1 ∨ σ = -1) ∧ a = σ * A ∧ b = -(σ * B) ∧ 0 ≤ A ∧ A ≤ s ∧ 0 ≤ B ∧ B ≤ s ∧ X * B + Y * A = s
theorem EI.bd {n s X Y a b : Int} (h : EI n s X Y a b) : -s ≤ a ∧ a ≤ s ∧ -s ≤ b ∧ b ≤ s := by
  obtain ⟨A, B, σ, hs | hs, h1, h2, h3, h4, h5, h6, _⟩ := h.sg <;> subst hs <;> omega
theorem EI.start {n s : Int} (hs : 1 ≤ s) : EI n s (n % s) s 1 0 := by
  have h1 := Int.emod_nonneg n (b := s) (by omega)
  have h2 := Int.emod_lt_of_pos n (b := s) (by omega)
  refine ⟨h1, by omega, by omega, by omega, by omega, ?_, by simp, ?_, 1, 0, 1, .inl rfl, by omega, by omega, by omega, by omega, by omega, by omega, by omega⟩
  · have := Int.mul_ediv_add_emod n s
    exact ⟨-(n / s), by rw [Int.mul_neg]; omega⟩
  · rw [Int.gcd_comm (n % s) s, gcd_mod]
theorem EI.step {n s X Y a b : Int} (h : EI n s X Y a b) (hy : Y ≠ 0) : EI n s Y (X - X / Y * Y) b (a - X / Y * b) := by
  have y1 : 1 ≤ Y := by have := h.y0; omega
  have e := Int.mul_ediv_add_emod X Y
  have m1 := Int.emod_nonneg X (b := Y) hy
  have m2 := Int.emod_lt_of_pos X (b := Y) (by omega)
  have q0 : 0 ≤ X / Y := Int.ediv_nonneg h.x0 h.y0
  have hYX : X - X / Y * Y = X % Y := by rw [Int.mul_comm]; omega
  have hys := h.ys
  rw [hYX]
  refine ⟨h.y0, h.ys, m1, by omega, by omega, h.dy, ?_, ?_, ?_⟩
  · have := Int.dvd_sub h.dx (Int.dvd_mul_of_dvd_right (b := X / Y) h.dy)
    rwa [show X - a * n - X / Y * (Y - b * n) = X % Y - (a - X / Y * b) * n by
      rw [Int.mul_sub, Int.sub_mul, ← Int.mul_assoc]
      have : X / Y * Y = Y * (X / Y) := Int.mul_comm _ _
      omega] at this
  · rw [← h.g, gcd_mod]
  · obtain ⟨A, B, σ, hs, h1, h2, h3, h4, h5, h6, h7⟩ := h.sg
    have hqB : 0 ≤ X / Y * B := Int.mul_nonneg q0 h5
    have k : Y * (A + X / Y * B) + X % Y * B = s := by
      rw [← hYX, Int.mul_add, Int.sub_mul, ← Int.mul_assoc, Int.mul_comm Y (X / Y)]
      omega
    have hB' : A + X / Y * B ≤ s := by
      have h8 : 0 ≤ X % Y * B := Int.mul_nonneg m1 h5
      have h9 : 1 * (A + X / Y * B) ≤ Y * (A + X / Y * B) := Int.mul_le_mul_of_nonneg_right y1 (by omega)
      omega
    refine ⟨B, A + X / Y * B, -σ, by omega, ?_, ?_, h5, h6, by omega, hB', k⟩
    · rw [h2, Int.neg_mul]
    · rw [h1, h2, Int.mul_neg, Int.neg_mul, Int.neg_neg, Int.mul_add, Int.sub_neg, ← Int.mul_assoc, ← Int.mul_assoc, Int.mul_comm σ (X / Y)]
theorem EI.done {n s X a b : Int} (h : EI n s X 0 a b) (hg : Int.gcd n s = 1) : s ∣ n * ((a % s + s) % s) - 1 := by
  have hX : X = 1 := by
    have h1 := h.g
    rw [hg, Int.gcd_zero_right] at h1
    have := h.x0
    omega
  subst hX
  have h1 := h.dx
  rw [Int.add_emod_right, Int.emod_emod]
  have e := Int.mul_ediv_add_emod a s
  have e2 : n * (a % s) = n * a - s * (n * (a / s)) := by
    rw [← Int.mul_assoc, Int.mul_comm s n, Int.mul_assoc, ← Int.mul_sub]; congr 1; omega
  obtain ⟨k, hk⟩ := h1
  refine ⟨-k - n * (a / s), ?_⟩
  rw [e2, Int.mul_sub, Int.mul_neg, Int.mul_comm n a]
  omega

def InvOk (n s : Int) (w : World) (e : Ending) (w' : World) : Prop := ∃ v, e = .returned (.int .i64 v) ∧ 0 ≤ v ∧ v < s ∧ (Int.gcd n s = 1 → s ∣ n * v - 1) ∧ w = w'
theorem tmod_add (a s : Int) (hs : 1 ≤ s) : (a.tmod s + s).tmod s = (a % s + s) % s := by
  rw [Int.tmod_eq_emod_of_nonneg (by have := tmod_bd a s hs; omega)]
  rw [Int.add_emod_right, Int.add_emod_right, Int.emod_emod]
  rw [Int.tmod_def, Int.sub_mul_emod_self_left]
set_option maxRecDepth 100000 in
set_option maxHeartbeats 1000000 in
theorem inverse_any (n s : Int) (w : World) (hn : 0 ≤ n) (hn2 : n < 4611686018427387904) (hs : 1 ≤ s) (hs2 : s ≤ 200) :
    Calls Try.prog 78 #[.int .i64 n, .int .i64 s] w (InvOk n s w) := by
  have hm1 := Int.emod_nonneg n (b := s) (by omega)
  have hm2 := Int.emod_lt_of_pos n (b := s) (by omega)
  have hw : IntKind.i64.wrap (n.tmod s) = n % s := by
    rw [Int.tmod_eq_emod_of_nonneg hn]; exact IntWalk.i64_in _ (by omega)
  have HS := Lib.hid (EI.start (n := n) hs)
  clear hm1 hm2
  go_enter Try.func78, Try.ntmps78
  go_wp2_with fail
  clear hw
  go_loopw [5, 6, 7, 8] (fun a b x y wr => ∃ A B X Y : Int, EI n s X Y A B ∧ a = .int .i64 A ∧ b = .int .i64 B ∧ x = .int .i64 X ∧ y = .int .i64 Y ∧ w = wr) (fun _ _ _ y _ => (intOf y).toNat)
  case atStart => exact ⟨1, 0, n % s, s, HS.out, rfl, rfl, rfl, rfl, rfl⟩
  case round =>
    obtain ⟨A, B, X, Y, hE, rfl, rfl, rfl, rfl, rfl⟩ := hrel
    have hx0 := hE.x0; have hxs := hE.xs; have hy0 := hE.y0; have hys := hE.ys
    obtain ⟨b1, b2, b3, b4⟩ := hE.bd
    by_cases h0 : Y = 0
    · subst h0
      have hD := Lib.hid (hE.done)
      have hw1 : IntKind.i64.wrap (A.tmod s) = A.tmod s := by have := tmod_bd A s hs; exact IntWalk.i64_in _ (by omega)
      have hw2 : IntKind.i64.wrap (A.tmod s + s) = A.tmod s + s := by have := tmod_bd A s hs; exact IntWalk.i64_in _ (by omega)
      have HT := Lib.hid (tmod_add A s hs)
      have HE := Lib.hid hE; clear hE
      go_wp2_with fail
      go_ret
      have h1 := Int.emod_nonneg (A % s + s) (b := s) (by omega)
      have h2 := Int.emod_lt_of_pos (A % s + s) (b := s) (by omega)
      refine ⟨(A.tmod s + s).tmod s, rfl, ?_⟩
      rw [HT.out]
      exact ⟨h1, h2, hD.out, rfl⟩
    · have y1 : 1 ≤ Y := by omega
      have hN := hE.step h0
      have q0 : 0 ≤ X / Y := Int.ediv_nonneg hx0 hy0
      have q1 : X / Y ≤ X := Int.ediv_le_self _ hx0
      have hyb : (Y != 0) = true := by simpa using h0
      have n1 := hN.x0; have n2 := hN.xs; have n3 := hN.y0; have n4 := hN.ys
      obtain ⟨c1, c2, c3, c4⟩ := hN.bd
      have hw1 : IntKind.i64.wrap (X.tdiv Y) = X / Y := by rw [Int.tdiv_eq_ediv_of_nonneg hx0]; exact IntWalk.i64_in _ (by omega)
      generalize hq : X / Y = q at *
      have hw2 : IntKind.i64.wrap (q * Y) = q * Y := IntWalk.i64_in _ (by omega)
      have hw3 : IntKind.i64.wrap (q * B) = q * B := IntWalk.i64_in _ (by omega)
      have hw4 : IntKind.i64.wrap (X - q * Y) = X - q * Y := IntWalk.i64_in _ (by omega)
      have hw5 : IntKind.i64.wrap (A - q * B) = A - q * B := IntWalk.i64_in _ (by omega)
      have HN := Lib.hid hN; have HE := Lib.hid hE; have HQ := Lib.hid hq
      clear hN hE hq
      go_wp2_with fail
      go_roundw
      case rel => exact ⟨B, A - q * B, Y, X - q * Y, HN.out, rfl, rfl, rfl, rfl, trivial⟩
      case measure =>
        have := Int.emod_lt_of_pos X (b := Y) (by omega)
        have e := Int.mul_ediv_add_emod X Y
        rw [HQ.out, Int.mul_comm] at e
        simp only [intOf]; omega
end Go.Proofs.Ytooddicegkiiiaa

namespace Go.Proofs.Ytooddicegkiiiaa

theorem coprime_div {p P : Int} (hp : 1 ≤ p) : Int.gcd (p / gcdI p P) (P / gcdI p P) = 1 := by
  have hc := gcdI_pos p P hp
  have h1 : gcdI p P * (p / gcdI p P) = p := Int.mul_ediv_cancel' (gcdI_dvd_left p P)
  have h2 : gcdI p P * (P / gcdI p P) = P := Int.mul_ediv_cancel' (gcdI_dvd_right p P)
  have h3 : Int.gcd (gcdI p P * (p / gcdI p P)) (gcdI p P * (P / gcdI p P)) = (gcdI p P).natAbs * Int.gcd (p / gcdI p P) (P / gcdI p P) := Int.gcd_mul_left ..
  rw [h1, h2] at h3
  have h4 : (gcdI p P).natAbs = Int.gcd p P := by unfold gcdI; simp
  rw [h4] at h3
  have h5 : 0 < Int.gcd p P := by rw [Int.gcd_pos_iff]; omega
  have : Int.gcd p P * Int.gcd (p / gcdI p P) (P / gcdI p P) = Int.gcd p P * 1 := by omega
  exact Nat.eq_of_mul_eq_mul_left h5 this
/-- The number of common periods that the program adds. -/
def addN (f O c s v : Int) : Int := ((((O - f).tdiv c).tmod s * v).tmod s + s).tmod s
theorem addN_bd (f O c s v : Int) (hs : 1 ≤ s) : 0 ≤ addN f O c s v ∧ addN f O c s v < s := by
  unfold addN
  have h := tmod_bd (((O - f).tdiv c).tmod s * v) s hs
  rw [Int.tmod_eq_emod_of_nonneg (by omega)]
  exact ⟨Int.emod_nonneg _ (by omega), Int.emod_lt_of_pos _ (by omega)⟩
theorem addN_cong (f O c s v : Int) (hd : c ∣ O - f) : s ∣ addN f O c s v - (O - f) / c * v := by
  have hm : ∀ a : Int, s ∣ a.tmod s - a := fun a => by rw [Int.tmod_def]; exact ⟨-(a.tdiv s), by rw [Int.mul_neg]; omega⟩
  unfold addN
  rw [Int.tdiv_eq_ediv_of_dvd hd]
  generalize (O - f) / c = q
  have h1 := hm ((q.tmod s * v).tmod s + s)
  have h2 := hm (q.tmod s * v)
  have h3 := Int.dvd_mul_of_dvd_left (c := v) (hm q)
  rw [Int.sub_mul] at h3
  have := Int.dvd_add (Int.dvd_add (Int.dvd_add h1 h2) h3) (Int.dvd_refl s)
  rwa [show ((q.tmod s * v).tmod s + s).tmod s - ((q.tmod s * v).tmod s + s) + ((q.tmod s * v).tmod s - q.tmod s * v) + (q.tmod s * v - q * v) + s = ((q.tmod s * v).tmod s + s).tmod s - q * v by omega] at this
theorem Joined.prog {V : List (Int × Int)} {f p v : Int} {x : Int × Int} (h : Joined V f p) (hV : ∀ y ∈ V, 1 ≤ y.1) (hx : 1 ≤ x.1) (hn : ∀ y ∈ V, gcdI y.1 x.1 ∣ x.2 - y.2)
    (hv : Int.gcd (p / gcdI p x.1) (x.1 / gcdI p x.1) = 1 → x.1 / gcdI p x.1 ∣ p / gcdI p x.1 * v - 1) :
    Joined (V ++ [x]) (f + addN f x.2 (gcdI p x.1) (x.1 / gcdI p x.1) v * p) (p * (x.1 / gcdI p x.1)) := by
  have hp : 1 ≤ p := by have := h.t0; have := h.tp; omega
  obtain ⟨s1, s2, s3⟩ := steps_pos hp hx
  have hd := h.fits hV hn
  obtain ⟨n0, n1⟩ := addN_bd f x.2 (gcdI p x.1) (x.1 / gcdI p x.1) v s1
  exact h.snoc hx n0 n1 (step_fits (gcdI_pos _ _ hp) s3 hd (gcdI_dvd_left _ _) (hv (coprime_div hp)) (addN_cong _ _ _ _ _ hd))
/-- What join returns. -/
def jA (V : List (Int × Int)) : Int := match joinO V with | some q => q.1 | none => 0
def jB (V : List (Int × Int)) : Int := match joinO V with | some q => q.2 | none => 0
def jO (V : List (Int × Int)) : Bool := (joinO V).isSome
theorem OkV.of {V : List (Int × Int)} (h : OkV V) : ∀ x ∈ V, 1 ≤ x.1 ∧ 0 ≤ x.2 ∧ x.2 < x.1 := fun x hx => by have := h x hx; omega
theorem j_of {V : List (Int × Int)} (hV : OkV V) {t p : Int} (h : Joined V t p) : jA V = t ∧ jB V = p ∧ jO V = true := by
  have := joinO_of hV.of h
  simp [jA, jB, jO, this]
theorem j_none {V : List (Int × Int)} (hV : OkV V) (h : ¬ Together V) : jA V = 0 ∧ jB V = 0 ∧ jO V = false := by
  have := joinO_none hV.of h
  simp [jA, jB, jO, this]
theorem j_true {V : List (Int × Int)} (hV : OkV V) (h : jO V = true) : Joined V (jA V) (jB V) := by
  unfold jO at h
  cases hj : joinO V with
  | none => rw [hj] at h; cases h
  | some q =>
    have := (joinO_spec V hV.of).1 q hj
    simpa [jA, jB, hj] using this
theorem j_false {V : List (Int × Int)} (hV : OkV V) (h : jO V = false) : ¬ Together V ∧ jA V = 0 ∧ jB V = 0 := by
  unfold jO at h
  cases hj : joinO V with
  | some q => rw [hj] at h; cases h
  | none => exact ⟨(joinO_spec V hV.of).2 hj, by simp [jA, hj], by simp [jB, hj]⟩
end Go.Proofs.Ytooddicegkiiiaa

namespace Go.Proofs.Ytooddicegkiiiaa
open Go.RowKit Go.Shelf

theorem run_lenL {W : World} {b : Nat} {L : Ents} {c : Nat} (hb : W.heap[b]? = some (.map (entsOf L) c)) (t : TypeId) : (Builtin.len_ #[82] t #[.map (some b)]).run Try.prog W = .ok (.int .i64 (L.length : Int)) W := by
  simp [Builtin.len_, Sem.run_bind, run_underlying Try.underlying82, Result.andThen_ok, run_getMap hb, entsOf, goInt]
theorem free_of_nil {V : List (Int × Int)} (h : ClM V []) : Free V := by
  intro i k hi hk
  cases hc : clB (pin V i) (pin V k) with
  | false => rfl
  | true =>
    obtain ⟨t, ht⟩ := (h _ _).2 ⟨i, k, hi, hk, rfl, rfl, hc⟩
    cases ht
theorem not_free {V : List (Int × Int)} {L : Ents} (h : ClM V L) (hL : L ≠ []) : ¬ Free V := by
  intro hF
  match L, hL with
  | (x, m, t) :: L, _ =>
    obtain ⟨a, b, h1, h2, _, _, h5⟩ := (h x m).1 ⟨t, by simp⟩
    rw [hF a b h1 h2] at h5
    cases h5
theorem take_pin (V : List (Int × Int)) (k : Nat) (hk : k < V.length) : V.take (k + 1) = V.take k ++ [pin V k] := by
  rw [List.take_succ_eq_append_getElem hk]; simp [pin, hk]
theorem free_at {V : List (Int × Int)} (h : Free V) (k : Nat) (hk : k < V.length) : ∀ y ∈ V.take k, gcdI y.1 (pin V k).1 ∣ (pin V k).2 - y.2 := by
  intro y hy
  obtain ⟨i, hi, rfl⟩ := List.getElem_of_mem hy
  have hik : i < k := by simp at hi; omega
  have := h i k hik hk
  rw [clB_comm, clB_false, gcdI_comm] at this
  have e : (V.take k)[i] = pin V i := by simp [pin, show i < V.length by omega]
  rw [e]; exact this
theorem pow200 (k : Nat) (h : k ≤ 5) : (200 : Int) ^ k ≤ 320000000000 := by
  match k, h with
  | 0, _ => decide
  | 1, _ => decide
  | 2, _ => decide
  | 3, _ => decide
  | 4, _ => decide
  | 5, _ => decide

theorem tdiv_bd (a c : Int) (b : Int) (h1 : -b ≤ a) (h2 : a ≤ b) : -b ≤ a.tdiv c ∧ a.tdiv c ≤ b := by
  have := Int.natAbs_tdiv_le_natAbs a c
  omega
theorem mul_bd (a c A C : Int) (h1 : -A ≤ a) (h2 : a ≤ A) (h3 : -C ≤ c) (h4 : c ≤ C) : -(A * C) ≤ a * c ∧ a * c ≤ A * C := by
  have h := Int.natAbs_mul a c
  have h5 : a.natAbs * c.natAbs ≤ A.toNat * C.toNat := Nat.mul_le_mul (by omega) (by omega)
  have h6 : ((A.toNat * C.toNat : Nat) : Int) = A * C := by rw [Int.natCast_mul, Int.toNat_of_nonneg (by omega), Int.toNat_of_nonneg (by omega)]
  omega
set_option maxRecDepth 100000 in
set_option maxHeartbeats 4000000 in
theorem join_any (b : Nat) (V : List (Int × Int)) (w : World) (hD : IsDrum w b V) (hV : OkV V) (hl : V.length ≤ 5) :
    Calls Try.prog 62 #[.pointer (some ⟨b, 0, none⟩)] w fun e w' => e = .returned (.tuple #[.int .i64 (jA V), .int .i64 (jB V), .bool (jO V)]) ∧ Below w.heap.size w w' := by
  obtain ⟨x, M, L, c, hb, hM, hok, hcl, hx0⟩ := hD
  have d0 : w.cell? ⟨b, 0, none⟩ = some x := by rw [cell_of_row w _ 0 _ _ _ hb]; rfl
  have d1 : w.cell? ⟨b, 1, none⟩ = some (.map (some M)) := by rw [cell_of_row w _ 1 _ _ _ hb]; rfl
  have dz := (Array.getElem?_eq_some_iff.1 hb).1
  have hln := run_lenL (W := w) hM
  by_cases hL : L = []
  · subst hL
    have hfr := free_of_nil hcl
    obtain ⟨a, ca, rfl, hca, hca2, hx⟩ := hx0.form
    clear hca2
    have HFR := Lib.hid hfr
    clear hb hM hok hcl hfr hx0
    simp only [List.length_nil] at hln
    go_enter Try.func62, Try.ntmps62
    go_wp2_with fail
    clear hln
    go_loopw [5, 6, 24] (fun f p i wr => ∃ (k : Nat) (F P : Int), k ≤ V.length ∧ i = .int .i64 k ∧ f = .int .i64 F ∧ p = .int .i64 P ∧ Joined (V.take k) F P ∧ P ≤ 200 ^ k ∧ Below w.heap.size w wr) (fun _ _ i _ => V.length - (intOf i).toNat)
    case atStart => exact ⟨0, 0, 1, Nat.zero_le _, rfl, rfl, rfl, Joined.nil, by decide, bz _⟩
    case round =>
      obtain ⟨k, F, P, hk, rfl, rfl, rfl, hJ, hP, hB⟩ := hrel
      by_cases hlt : k < V.length
      · obtain ⟨bx, ox, rfl, hbx, hcx⟩ := hx (by omega)
        have gx := (hB.cell (p := ⟨bx, ox + k * 2, none⟩) hbx).trans (hcx k hlt).1
        have gy := (hB.cell (p := ⟨bx, ox + k * 2 + 1, none⟩) hbx).trans (hcx k hlt).2
        obtain ⟨p1, p2, p3, p4⟩ := hV.at hlt
        have hp0 := hJ.t0; have hp1 := hJ.tp
        have hp2 := Int.le_trans hP (pow200 k (by omega))
        have HN := Lib.hid (fun v hv => hJ.prog (x := pin V k) (v := v) (fun y hy => (hV y (List.mem_of_mem_take hy)).1) p1 (free_at HFR.out k hlt) hv)
        have HP := Lib.hid hP; have HJ := Lib.hid hJ; have HB := Lib.hid hB
        clear hx hcx hP hJ hB
        change wr.cell? _ = some (Value.int .i64 (pin V k).1) at gx
        change wr.cell? _ = some (Value.int .i64 (pin V k).2) at gy
        generalize hq : pin V k = q at *
        obtain ⟨q1, q2⟩ := q
        simp only at *
        go_wp2_with fail
        refine (common_i _ _ _ (by omega) (by omega) (by omega) (by omega)).mono ?_
        rintro e w2 ⟨rfl, rfl⟩
        have g1 := gcdI_pos P q1 (by omega)
        have g2 := Int.le_of_dvd (by omega) (gcdI_dvd_right P q1)
        obtain ⟨s1, s2, s3⟩ := steps_pos (p := P) (P := q1) (by omega) (by omega)
        have k0 : 0 ≤ P / gcdI P q1 := Int.ediv_nonneg (by omega) (by omega)
        have k1 : P / gcdI P q1 ≤ P := Int.ediv_le_self _ (by omega)
        clear s3
        generalize gcdI P q1 = c at *
        go_wp2_with fail
        have s4 : q1 / c ≤ 200 := by omega
        have w1 : IntKind.i64.wrap (q2 - F) = q2 - F := IntWalk.i64_in _ (by omega)
        obtain ⟨t1, t2⟩ := tdiv_bd (q2 - F) c 320000000200 (by omega) (by omega)
        have w2 : IntKind.i64.wrap ((q2 - F).tdiv c) = (q2 - F).tdiv c := IntWalk.i64_in _ (by omega)
        have w4 : IntKind.i64.wrap (P.tdiv c) = P / c := by rw [Int.tdiv_eq_ediv_of_nonneg (by omega)]; exact IntWalk.i64_in _ (by omega)
        obtain ⟨t3, t4⟩ := tmod_bd ((q2 - F).tdiv c) (q1 / c) s1
        have w3 : IntKind.i64.wrap (((q2 - F).tdiv c).tmod (q1 / c)) = ((q2 - F).tdiv c).tmod (q1 / c) := IntWalk.i64_in _ (by omega)
        have hINV := fun w' => inverse_any (P / c) (q1 / c) w' k0 (by omega) s1 s4
        have HINV := Lib.hid hINV
        clear hINV t1 t2
        generalize hs : q1 / c = s at *
        generalize hk' : P / c = pc at *
        clear hs hk'
        have HT3 := Lib.hid t3; have HT4 := Lib.hid t4
        refine wp_region_flow [] [([0, 1, 2, 3, 4, 5, 6, 7, 8, 9, 10, 11, 14], 12, true)] [13, 15, 16] (by kernel_rfl) (by kernel_rfl) ?_
        intro wc hBc hh
        clear hh
        have c1 : wc.cell? ⟨wr.heap.size, 1, none⟩ = some (.int .i64 q2) := (hBc.cell (by simp)).trans (cnew rfl rfl)
        have cz : wr.heap.size < wc.heap.size := by have := hBc.size; simp at this; omega
        have hL := @Later.cell wc
        have HBc := Lib.hid hBc
        clear hBc gx gy
        simp only [flowP, flow, pickL, List.getElem?_cons_succ, List.getElem?_cons_zero]
        refine wpQuiet_nil ?_
        repeat (go_big_quiet_step (fail))
        refine wpQuiet_nil ?_
        go_wp2_with fail
        refine (HINV.out _).mono ?_
        rintro e w2 ⟨v, rfl, v0, v1, hv, rfl⟩
        go_wp2
        refine seg_grow ⟨⟨_, bz _⟩, rfl⟩ ?_
        obtain ⟨t5, t6⟩ := mul_bd (((q2 - F).tdiv c).tmod s) v 200 200 (by omega) (by omega) (by omega) (by omega)
        have w5 : IntKind.i64.wrap (((q2 - F).tdiv c).tmod s * v) = ((q2 - F).tdiv c).tmod s * v := IntWalk.i64_in _ (by omega)
        obtain ⟨t7, t8⟩ := tmod_bd (((q2 - F).tdiv c).tmod s * v) s s1
        have w6 : IntKind.i64.wrap ((((q2 - F).tdiv c).tmod s * v).tmod s) = (((q2 - F).tdiv c).tmod s * v).tmod s := IntWalk.i64_in _ (by omega)
        clear t5 t6
        have HNN := Lib.hid (HN.out v hv)
        obtain ⟨a1, a2⟩ := addN_bd F q2 c s v s1
        have HA1 := Lib.hid a1; have HA2 := Lib.hid a2
        clear a1 a2
        repeat (go_big_quiet_step (fail))
        refine wpQuiet_nil ?_
        refine only_done ?_
        clear w1 w2 w3 w4 w5 w6 HN hv
        have hN : addN F q2 c s v = ((((q2 - F).tdiv c).tmod s * v).tmod s + s) % s := by
          unfold addN; rw [Int.tmod_eq_emod_of_nonneg (by omega)]
        rw [Int.add_emod_right] at hN
        have HN := Lib.hid hN; clear hN
        generalize (((q2 - F).tdiv c).tmod s * v).tmod s = m at *
        have n0 : 0 ≤ m % s := by rw [← HN.out]; exact HA1.out
        have n1 : m % s < s := by rw [← HN.out]; exact HA2.out
        rw [HN.out] at HNN
        obtain ⟨t5, t6⟩ := mul_bd (m % s) P 200 320000000000 (by omega) (by omega) (by omega) (by omega)
        obtain ⟨t9, t10⟩ := mul_bd P s 320000000000 200 (by omega) (by omega) (by omega) (by omega)
        have w7 : IntKind.i64.wrap (m % s * P) = m % s * P := IntWalk.i64_in _ (by omega)
        have w8 : IntKind.i64.wrap (F + m % s * P) = F + m % s * P := IntWalk.i64_in _ (by omega)
        have w9 : IntKind.i64.wrap (P * s) = P * s := IntWalk.i64_in _ (by omega)
        clear HA1 HA2
        go_wp2
        go_roundw
        case rel =>
          refine ⟨k + 1, F + m % s * P, P * s, by omega, by go_num, rfl, rfl, ?_, ?_, btr HB.out (btr (bal (bz _) _) HBc.out)⟩
          · rw [take_pin V k hlt, hq]; exact HNN.out
          · have h1 : P * s ≤ P * 200 := Int.mul_le_mul_of_nonneg_left s4 (by omega)
            have h2 := HP.out
            rw [Int.pow_succ]; omega
        case measure => simp [intOf]; omega
      · have hkl : k = V.length := by omega
        rw [hkl, List.take_length] at hJ
        clear hkl
        obtain ⟨j1, j2, j3⟩ := j_of hV hJ
        have H1 := Lib.hid j1; have H2 := Lib.hid j2; have H3 := Lib.hid j3
        clear j1 j2 j3 hJ hP
        go_wp2_with fail
        go_ret3
        exact ⟨by rw [H1.out, H2.out, H3.out]; rfl, hB⟩
  · have hnf := not_free hcl hL
    have hn : 0 < L.length := List.length_pos_iff.2 hL
    obtain ⟨j1, j2, j3⟩ := j_none hV (fun h => hnf h.free)
    have H1 := Lib.hid j1; have H2 := Lib.hid j2; have H3 := Lib.hid j3
    clear hb hM hok hcl hx0 j1 j2 j3 hnf hL
    go_enter Try.func62, Try.ntmps62
    go_wp2_with fail
    go_ret3
    exact ⟨by rw [H1.out, H2.out, H3.out]; rfl, bz _⟩
end Go.Proofs.Ytooddicegkiiiaa

namespace Go.Proofs.Ytooddicegkiiiaa
open Go.RowKit Go.Shelf

def openE (V : List (Int × Int)) (T : List Int) : Int := if checkP V ≠ 0 then checkP V else if T.any (outB 0 1000000000000) then 3 else 0
theorem checkP_cases (V : List (Int × Int)) : checkP V = 0 ∨ checkP V = 3 ∨ checkP V = 6 := by
  unfold checkP; split
  · exact .inr (.inr rfl)
  · split
    · exact .inr (.inl rfl)
    · exact .inl rfl
theorem OkPins.v {V : List (Int × Int)} (h : OkPins V) : OkV V := h.ok

def OpenOk (V : List (Int × Int)) (w : World) (e : Ending) (w' : World) : Prop := ∃ b, e = .returned (.tuple #[.pointer (some ⟨b, 0, none⟩), .int .i64 0]) ∧ w.heap.size ≤ b ∧ IsDrum w' b V ∧ Below w.heap.size w w'

set_option maxRecDepth 100000 in
set_option maxHeartbeats 400000 in
theorem open_no (x y : Value) (V : List (Int × Int)) (T : List Int) (w : World) (hx0 : RdP w x V) (hy : RdI w .i64 y T) (hl : V.length ≤ 1000) (hT : T.length ≤ 1000) (h : openE V T ≠ 0) :
    Calls Try.prog 56 #[x, y] w fun e w' => e = .returned (.tuple #[.pointer none, .int .i64 (openE V T)]) ∧ Below w.heap.size w w' := by
  obtain ⟨a, ca, rfl, _, _, _⟩ := hx0.form
  by_cases hc : checkP V = 0
  · have ho : T.any (outB 0 1000000000000) = true := by
      unfold openE at h; rw [if_neg (by simpa using hc)] at h
      cases hh : T.any (outB 0 1000000000000)
      · rw [hh] at h; simp at h
      · rfl
    have e : openE V T = 3 := by unfold openE; rw [if_neg (by simpa using hc), ho]; rfl
    rw [e]; clear e h
    have HC := Lib.hid hc; have HO := Lib.hid ho; clear hc ho
    go_enter Try.func56, Try.ntmps56
    go_wp2_with fail
    refine (checkpins_any _ V _ hx0 hl).mono ?_
    rintro e w2 ⟨rfl, hB2⟩
    rw [HC.out]
    go_wp2_with fail
    refine (within_any _ T _ _ _ (hy.mono hB2) hT).mono ?_
    rintro e w3 ⟨rfl, hB3⟩
    rw [HO.out]
    go_wp2_with fail
    go_ret2
    exact ⟨rfl, btr hB2 hB3⟩
  · have e : openE V T = checkP V := by unfold openE; rw [if_pos (by simpa using hc)]
    rw [e]; clear e h
    generalize hq : checkP V = q at *
    have HC := Lib.hid hq; clear hq
    have hcb : (q != 0) = true := by simpa using hc
    have hce : (q == 0) = false := by simpa using hc
    clear hc
    go_enter Try.func56, Try.ntmps56
    go_wp2_with fail
    refine (checkpins_any _ V _ hx0 hl).mono ?_
    rintro e w2 ⟨rfl, hB2⟩
    rw [HC.out]
    go_wp2_with fail
    go_ret2
    exact ⟨rfl, hB2⟩
theorem openE_zero {V : List (Int × Int)} {T : List Int} (h : openE V T = 0) : checkP V = 0 ∧ T.any (outB 0 1000000000000) = false := by
  unfold openE at h
  by_cases hc : checkP V = 0
  · rw [if_neg (by simpa using hc)] at h
    refine ⟨hc, ?_⟩
    cases hh : T.any (outB 0 1000000000000)
    · rfl
    · rw [hh] at h; simp at h
  · rw [if_pos (by simpa using hc)] at h; exact absurd h hc
set_option maxRecDepth 100000 in
set_option maxHeartbeats 400000 in
theorem open_ok (x y : Value) (V : List (Int × Int)) (T : List Int) (w : World) (hx0 : RdP w x V) (hy : RdI w .i64 y T) (hT : T.length ≤ 1000) (h : openE V T = 0) :
    Calls Try.prog 56 #[x, y] w (OpenOk V w) := by
  obtain ⟨hc, ho⟩ := openE_zero h
  have hV := okPins_of hc
  have hl := hV.l5
  obtain ⟨a, ca, rfl, _, _, _⟩ := hx0.form
  have HC := Lib.hid hc; have HO := Lib.hid ho; clear hc ho h
  go_enter Try.func56, Try.ntmps56
  go_wp2_with fail
  refine (checkpins_any _ V _ hx0 (by omega)).mono ?_
  rintro e w2 ⟨rfl, hB2⟩
  rw [HC.out]
  go_wp2_with fail
  refine (within_any _ T _ _ _ (hy.mono hB2) hT).mono ?_
  rintro e w3 ⟨rfl, hB3⟩
  rw [HO.out]
  go_wp2_with fail
  refine (newdrum_any _ V _ (hx0.mono (btr hB2 hB3)) hV.v hl).mono ?_
  rintro e w4 ⟨b, rfl, hb, hD, hB4⟩
  go_wp2_with fail
  go_ret2
  exact ⟨b, rfl, by have := hB2.size; have := hB3.size; omega, hD, btr (btr hB2 hB3) hB4⟩

theorem rdI_nil (w : World) (k : IntKind) : RdI w k (.slice none 0 0) [] := ⟨none, 0, rfl, Nat.le_refl _, by unfold maxLen; omega, fun h => absurd rfl h⟩
theorem openE_nil (V : List (Int × Int)) : openE V [] = checkP V := by
  unfold openE
  split
  · rfl
  · rename_i h; simp at h; simp [h]
/-- What First returns. -/
def firstE (V : List (Int × Int)) : Int := if checkP V ≠ 0 then checkP V else if jO V then 0 else 21
def firstA (V : List (Int × Int)) : Int := if checkP V ≠ 0 then 0 else jA V
def firstB (V : List (Int × Int)) : Int := if checkP V ≠ 0 then 0 else jB V

set_option maxRecDepth 100000 in
set_option maxHeartbeats 1000000 in
theorem first_any (x : Value) (V : List (Int × Int)) (w : World) (hx0 : RdP w x V) (hl : V.length ≤ 1000) :
    Calls Try.prog 25 #[x] w fun e w' => e = .returned (.tuple #[.int .i64 (firstA V), .int .i64 (firstB V), .int .i64 (firstE V)]) ∧ Below w.heap.size w w' := by
  obtain ⟨a, ca, rfl, _, _, _⟩ := hx0.form
  by_cases hc : checkP V = 0
  · have hV := okPins_of hc
    have HO := Lib.hid (open_ok _ _ V [] w hx0 (rdI_nil _ _) (by simp) (by rw [openE_nil]; exact hc))
    have e1 : firstA V = jA V := by unfold firstA; rw [if_neg (by simpa using hc)]
    have e2 : firstB V = jB V := by unfold firstB; rw [if_neg (by simpa using hc)]
    have e3 : firstE V = if jO V then 0 else 21 := by unfold firstE; rw [if_neg (by simpa using hc)]
    rw [e1, e2, e3]; clear e1 e2 e3
    have HJ := Lib.hid (fun b w' hD => join_any b V w' hD hV.v hV.l5)
    have HN := Lib.hid (fun h => j_false (V := V) hV.v h)
    clear hc
    generalize jO V = o at *
    generalize jA V = A at *
    generalize jB V = B at *
    go_enter Try.func25, Try.ntmps25
    go_wp2_with fail
    refine HO.out.mono ?_
    rintro e w2 ⟨b, rfl, hb, hD, hB2⟩
    go_wp2_with fail
    refine (HJ.out b _ hD).mono ?_
    rintro e w3 ⟨rfl, hB3⟩
    cases o
    · obtain ⟨_, h1, h2⟩ := HN.out rfl
      subst h1; subst h2
      go_wp2_with fail
      go_ret3
      exact ⟨rfl, btr hB2 hB3⟩
    · go_wp2_with fail
      go_ret3
      exact ⟨rfl, btr hB2 hB3⟩
  · have HO := Lib.hid (open_no _ _ V [] w hx0 (rdI_nil _ _) hl (by simp) (by rw [openE_nil]; exact hc))
    have e1 : firstA V = 0 := by unfold firstA; rw [if_pos (by simpa using hc)]
    have e2 : firstB V = 0 := by unfold firstB; rw [if_pos (by simpa using hc)]
    have e3 : firstE V = checkP V := by unfold firstE; rw [if_pos (by simpa using hc)]
    rw [e1, e2, e3]; clear e1 e2 e3
    rw [openE_nil] at HO
    have hcb : (checkP V != 0) = true := by simpa using hc
    have hce : (checkP V == 0) = false := by simpa using hc
    clear hc
    generalize checkP V = q at *
    go_enter Try.func25, Try.ntmps25
    go_wp2_with fail
    refine HO.out.mono ?_
    rintro e w2 ⟨rfl, hB2⟩
    go_wp2_with fail
    go_ret3
    exact ⟨rfl, hB2⟩
end Go.Proofs.Ytooddicegkiiiaa

namespace Go.Proofs.Ytooddicegkiiiaa
open Go.RowKit Go.Shelf

theorem slice_two (w : World) (a b : Int) (t : TypeId) : RdI (w.alloc (.cells #[.int .i64 a, .int .i64 b] t)) .i64 (.slice (some ⟨w.heap.size, 0, none⟩) 2 2) [a, b] := by
  refine ⟨_, _, rfl, by simp, by unfold maxLen; omega, fun _ => ⟨_, _, rfl, by simp, fun j u hj => ?_⟩⟩
  match j, hj with
  | 0, hj => simp at hj; simp [← hj]
  | 1, hj => simp at hj; simp [← hj]
theorem slice_one (w : World) (a : Int) (t : TypeId) : RdI (w.alloc (.cells #[.int .i64 a] t)) .i64 (.slice (some ⟨w.heap.size, 0, none⟩) 1 1) [a] := by
  refine ⟨_, _, rfl, by simp, by unfold maxLen; omega, fun _ => ⟨_, _, rfl, by simp, fun j u hj => ?_⟩⟩
  match j, hj with
  | 0, hj => simp at hj; simp [← hj]

/-- What Count returns. -/
def cntN (A B : Int) (o : Bool) (f t : Int) : Int := if o = false ∨ t < A then 0 else if A < f then (t - A) / B + 1 - ((f - 1 - A) / B + 1) else (t - A) / B + 1
def countE (V : List (Int × Int)) (f t : Int) : Int := if openE V [f, t] ≠ 0 then openE V [f, t] else if t < f then 2 else 0
def countN (V : List (Int × Int)) (f t : Int) : Int := if openE V [f, t] ≠ 0 then 0 else if t < f then 0 else cntN (jA V) (jB V) (jO V) f t

set_option maxRecDepth 100000 in
set_option maxHeartbeats 1000000 in
theorem count_any (x : Value) (V : List (Int × Int)) (f t : Int) (w : World) (hx0 : RdP w x V) (hl : V.length ≤ 1000) :
    Calls Try.prog 29 #[x, .int .i64 f, .int .i64 t] w fun e w' => e = .returned (.tuple #[.int .i64 (countN V f t), .int .i64 (countE V f t)]) ∧ Below w.heap.size w w' := by
  obtain ⟨a, ca, rfl, _, _, _⟩ := hx0.form
  by_cases hc : openE V [f, t] = 0
  · obtain ⟨hc1, hc2⟩ := openE_zero hc
    have hV := okPins_of hc1
    have hft : 0 ≤ f ∧ f ≤ 1000000000000 ∧ 0 ≤ t ∧ t ≤ 1000000000000 := by simp [outB] at hc2; omega
    obtain ⟨f0, f1, t0, t1⟩ := hft
    have HO := Lib.hid (fun w' (hx : RdP w' (.slice a V.length ca) V) y hy => open_ok _ y V [f, t] w' hx hy (by simp) hc)
    by_cases hgt : t < f
    · have e1 : countN V f t = 0 := by unfold countN; rw [if_neg (by simpa using hc), if_pos hgt]
      have e2 : countE V f t = 2 := by unfold countE; rw [if_neg (by simpa using hc), if_pos hgt]
      rw [e1, e2]; clear e1 e2 hc hc1 hc2
      go_enter Try.func29, Try.ntmps29
      go_wp2_with fail
      refine (HO.out _ (hx0.mono (bal (bz _) _)) _ (slice_two w f t 2)).mono ?_
      rintro e w2 ⟨b, rfl, hb, hD, hB2⟩
      go_wp2_with fail
      go_ret2
      exact ⟨rfl, btr (bal (bz _) _) hB2⟩
    · have e1 : countN V f t = cntN (jA V) (jB V) (jO V) f t := by unfold countN; rw [if_neg (by simpa using hc), if_neg hgt]
      have e2 : countE V f t = 0 := by unfold countE; rw [if_neg (by simpa using hc), if_neg hgt]
      rw [e1, e2]; clear e1 e2 hc hc1 hc2
      have HJ := Lib.hid (fun b w' hD => join_any b V w' hD hV.v hV.l5)
      have HT := Lib.hid (fun h => j_true (V := V) hV.v h)
      generalize jO V = o at *
      generalize jA V = A at *
      generalize jB V = B at *
      cases o
      · have e : cntN A B false f t = 0 := by simp [cntN]
        rw [e]; clear e
        go_enter Try.func29, Try.ntmps29
        go_wp2_with fail
        refine (HO.out _ (hx0.mono (bal (bz _) _)) _ (slice_two w f t 2)).mono ?_
        rintro e w2 ⟨b, rfl, hb, hD, hB2⟩
        go_wp2_with fail
        refine (HJ.out b _ hD).mono ?_
        rintro e w3 ⟨rfl, hB3⟩
        go_wp2_with fail
        go_ret2
        exact ⟨rfl, btr (bal (bz _) _) (btr hB2 hB3)⟩
      · have hJ := HT.out rfl
        have a0 := hJ.t0; have a1 := hJ.tp
        clear hJ
        by_cases ht : t < A
        · have e : cntN A B true f t = 0 := by simp [cntN, ht]
          rw [e]; clear e
          go_enter Try.func29, Try.ntmps29
          go_wp2_with fail
          refine (HO.out _ (hx0.mono (bal (bz _) _)) _ (slice_two w f t 2)).mono ?_
          rintro e w2 ⟨b, rfl, hb, hD, hB2⟩
          go_wp2_with fail
          refine (HJ.out b _ hD).mono ?_
          rintro e w3 ⟨rfl, hB3⟩
          go_wp2_with fail
          go_ret2
          exact ⟨rfl, btr (bal (bz _) _) (btr hB2 hB3)⟩
        · have q0 : 0 ≤ (t - A) / B := Int.ediv_nonneg (by omega) (by omega)
          have q1 : (t - A) / B ≤ t - A := Int.ediv_le_self _ (by omega)
          by_cases hf : A < f
          · have e : cntN A B true f t = (t - A) / B + 1 - ((f - 1 - A) / B + 1) := by simp [cntN, ht, hf]
            have E := Lib.hid e; clear e
            have q2 : 0 ≤ (f - 1 - A) / B := Int.ediv_nonneg (by omega) (by omega)
            have q3 : (f - 1 - A) / B ≤ f - 1 - A := Int.ediv_le_self _ (by omega)
            go_enter Try.func29, Try.ntmps29
            go_wp2_with fail
            refine (HO.out _ (hx0.mono (bal (bz _) _)) _ (slice_two w f t 2)).mono ?_
            rintro e w2 ⟨b, rfl, hb, hD, hB2⟩
            go_wp2_with fail
            refine (HJ.out b _ hD).mono ?_
            rintro e w3 ⟨rfl, hB3⟩
            go_wp2_with fail
            go_ret2
            exact ⟨by rw [E.out]; rfl, btr (bal (bz _) _) (btr hB2 hB3)⟩
          · have e : cntN A B true f t = (t - A) / B + 1 := by simp [cntN, ht, hf]
            have E := Lib.hid e; clear e
            go_enter Try.func29, Try.ntmps29
            go_wp2_with fail
            refine (HO.out _ (hx0.mono (bal (bz _) _)) _ (slice_two w f t 2)).mono ?_
            rintro e w2 ⟨b, rfl, hb, hD, hB2⟩
            go_wp2_with fail
            refine (HJ.out b _ hD).mono ?_
            rintro e w3 ⟨rfl, hB3⟩
            go_wp2_with fail
            go_ret2
            exact ⟨by rw [E.out]; rfl, btr (bal (bz _) _) (btr hB2 hB3)⟩
  · have e1 : countN V f t = 0 := by unfold countN; rw [if_pos (by simpa using hc)]
    have e2 : countE V f t = openE V [f, t] := by unfold countE; rw [if_pos (by simpa using hc)]
    rw [e1, e2]; clear e1 e2
    have HO := Lib.hid (fun w' (hx : RdP w' (.slice a V.length ca) V) y hy => open_no _ y V [f, t] w' hx hy hl (by simp) hc)
    have hcb : (openE V [f, t] != 0) = true := by simpa using hc
    have hce : (openE V [f, t] == 0) = false := by simpa using hc
    clear hc
    generalize openE V [f, t] = q at *
    go_enter Try.func29, Try.ntmps29
    go_wp2_with fail
    refine (HO.out _ (hx0.mono (bal (bz _) _)) _ (slice_two w f t 2)).mono ?_
    rintro e w2 ⟨rfl, hB2⟩
    go_wp2_with fail
    go_ret2
    exact ⟨rfl, btr (bal (bz _) _) hB2⟩

/-! Looking up pairs. -/
theorem look_cl {V : List (Int × Int)} {L : Ents} (h : ClM V L) (i k : Nat) (hi : i < k) (hk : k < V.length) :
    (findL ((i : Int), (k : Int)) L 0).isSome = clB (pin V i) (pin V k) ∧ (clB (pin V i) (pin V k) = true → ((findL ((i : Int), (k : Int)) L 0).map (·.2)).getD (.int .i64 0) = .int .i64 (gcdI (pin V i).1 (pin V k).1)) ∧
    ∃ n, ((findL ((i : Int), (k : Int)) L 0).map (·.2)).getD (.int .i64 0) = .int .i64 n := by
  cases hf : findL ((i : Int), (k : Int)) L 0 with
  | none =>
    have hno := findL_none hf
    have hc : clB (pin V i) (pin V k) = false := by
      cases hc : clB (pin V i) (pin V k) with
      | false => rfl
      | true =>
        obtain ⟨t, ht⟩ := (h _ _).2 ⟨i, k, hi, hk, rfl, rfl, hc⟩
        exact absurd (List.mem_map.2 ⟨_, ht, rfl⟩) hno
    rw [hc]
    exact ⟨rfl, (fun h => by cases h), 0, rfl⟩
  | some q =>
    obtain ⟨j, v⟩ := q
    obtain ⟨k', e, _, he, hea, hv⟩ := findL_some hf
    have hm : e ∈ L := List.mem_of_getElem? he
    obtain ⟨a, b, _, _, h3, h4, h5⟩ := (h e.1 e.2.1).1 ⟨e.2.2, hm⟩
    rw [hea] at h3
    simp only [Prod.mk.injEq] at h3
    obtain rfl : a = i := by omega
    obtain rfl : b = k := by omega
    rw [h5]
    refine ⟨rfl, fun _ => ?_, e.2.1, ?_⟩
    · simp [hv, h4]
    · simp [hv]

/-- Numbers as ints. -/
def natL (g : List Nat) : List Int := g.map fun (n : Nat) => (n : Int)
theorem natL_len (g : List Nat) : (natL g).length = g.length := by simp [natL]
theorem natL_get (g : List Nat) (k : Nat) (h : k < g.length) : (natL g)[k]?.getD 0 = ((g[k]?.getD 0 : Nat) : Int) := by simp [natL, h]
/-- A strictly increasing list of pins. -/
def Inc (V : List (Int × Int)) (g : List Nat) : Prop := g.Pairwise (· < ·) ∧ ∀ i ∈ g, i < V.length
/-- No two of them clash. -/
def Grp (V : List (Int × Int)) (g : List Nat) : Prop := g.Pairwise fun a b => clB (pin V a) (pin V b) = false
instance (V : List (Int × Int)) (g : List Nat) : Decidable (Grp V g) := by unfold Grp; infer_instance
theorem Inc.lt {V : List (Int × Int)} {g : List Nat} (h : Inc V g) {i k : Nat} (hi : i < k) (hk : k < g.length) : g[i]?.getD 0 < g[k]?.getD 0 ∧ g[k]?.getD 0 < V.length := by
  have h1 := h.1
  rw [List.pairwise_iff_getElem] at h1
  have := h1 i k (by omega) hk hi
  simp only [show i < g.length by omega, hk, List.getElem?_eq_getElem, Option.getD_some]
  exact ⟨this, h.2 _ (List.getElem_mem hk)⟩
theorem Inc.lt1 {V : List (Int × Int)} {g : List Nat} (h : Inc V g) {k : Nat} (hk : k < g.length) : g[k]?.getD 0 < V.length := by
  simp only [hk, List.getElem?_eq_getElem, Option.getD_some]
  exact h.2 _ (List.getElem_mem hk)
theorem grp_iff {V : List (Int × Int)} {g : List Nat} : Grp V g ↔ ∀ i k, i < k → k < g.length → clB (pin V (g[i]?.getD 0)) (pin V (g[k]?.getD 0)) = false := by
  unfold Grp
  rw [List.pairwise_iff_getElem]
  constructor
  · intro h i k hi hk
    have := h i k (by omega) hk hi
    simpa only [show i < g.length by omega, hk, List.getElem?_eq_getElem, Option.getD_some] using this
  · intro h i k hi hk hik
    have := h i k hik hk
    simpa only [hi, hk, List.getElem?_eq_getElem, Option.getD_some] using this

set_option maxRecDepth 100000 in
set_option maxHeartbeats 1000000 in
theorem isgroup_any (b : Nat) (V : List (Int × Int)) (y : Value) (g : List Nat) (w : World) (hD : IsDrum w b V) (hy0 : RdI w .i64 y (natL g)) (hg : Inc V g) (hl : g.length ≤ 1000) :
    Calls Try.prog 70 #[.pointer (some ⟨b, 0, none⟩), y] w fun e w' => e = .returned (.bool (decide (Grp V g))) ∧ w = w' := by
  obtain ⟨x, M, L, c, hb, hM, hok, hcl, hx0⟩ := hD
  have d0 : w.cell? ⟨b, 0, none⟩ = some x := by rw [cell_of_row w _ 0 _ _ _ hb]; rfl
  have d1 : w.cell? ⟨b, 1, none⟩ = some (.map (some M)) := by rw [cell_of_row w _ 1 _ _ _ hb]; rfl
  have dz := (Array.getElem?_eq_some_iff.1 hb).1
  have hlk := fun a => run_lookupL (W := w) hM a
  have HLK := Lib.hid hlk; have HCL := Lib.hid hcl
  obtain ⟨a, ca, rfl, hca, hca2, hy⟩ := hy0.form
  rw [natL_len] at *
  clear hb hM hok hcl hx0 hlk hy0 hca2
  go_enter Try.func70, Try.ntmps70
  go_wp2_with fail
  go_loopw [13] (fun i wr => ∃ k : Nat, k ≤ g.length ∧ i = .int .i64 k ∧ (∀ i j, i < j → j < k → clB (pin V (g[i]?.getD 0)) (pin V (g[j]?.getD 0)) = false) ∧ w = wr) (fun i _ => g.length - (intOf i).toNat)
  case atStart => exact ⟨0, Nat.zero_le _, rfl, fun i j _ h => by omega, rfl⟩
  case round =>
    obtain ⟨k, hk, rfl, hP, rfl⟩ := hrel
    have HP := Lib.hid hP; clear hP
    by_cases hlt : k < g.length
    · obtain ⟨by', oy, rfl, hby, hcy⟩ := hy (by omega)
      have gk := hcy k hlt
      rw [natL_get g k hlt] at gk
      have HCY := Lib.hid hcy
      have hkV := hg.lt1 hlt
      clear hy hcy
      generalize hgk : g[k]?.getD 0 = gk' at *
      have HGK := Lib.hid hgk; clear hgk
      go_wp2_with fail
      go_loopw [22] (fun i wr => ∃ j : Nat, j ≤ k ∧ i = .int .i64 j ∧ (∀ i, i < j → clB (pin V (g[i]?.getD 0)) (pin V gk') = false) ∧ w = wr) (fun i _ => k - (intOf i).toNat)
      case atStart => exact ⟨0, Nat.zero_le _, rfl, fun i h => by omega, rfl⟩
      case round =>
        obtain ⟨j, hj, rfl, hQ, rfl⟩ := hrel
        have HQ := Lib.hid hQ; clear hQ
        by_cases hlj : j < k
        · have gj := HCY.out j (by omega)
          rw [natL_get g j (by omega)] at gj
          have hij := (hg.lt hlj hlt).1
          rw [HGK.out] at hij
          generalize hgj : g[j]?.getD 0 = gj' at *
          have HGJ := Lib.hid hgj; clear hgj
          obtain ⟨l1, _, n, l3⟩ := look_cl HCL.out gj' gk' hij hkV
          have hlk := HLK.out ((gj' : Int), (gk' : Int))
          rw [l1, l3] at hlk
          unfold kv at hlk
          simp only at hlk
          clear l1 l3
          cases hc : clB (pin V gj') (pin V gk')
          · rw [hc] at hlk
            have HC := Lib.hid hc; clear hc
            go_wp2_with fail
            go_roundw
            case rel =>
              refine ⟨j + 1, by omega, by go_num, fun i h => ?_, trivial⟩
              by_cases e : i = j
              · subst e; rw [HGJ.out]; exact HC.out
              · exact HQ.out i (by omega)
            case measure => simp [intOf]; omega
          · rw [hc] at hlk
            have HC := Lib.hid hc; clear hc
            go_wp2_with fail
            go_ret
            refine ⟨ret_bool ?_, rfl⟩
            symm
            rw [decide_eq_false_iff_not, grp_iff]
            intro h
            have := h j k hlj hlt
            rw [HGJ.out, HGK.out, HC.out] at this
            cases this
        · have hjk : j = k := by omega
          have HJK := Lib.hid hjk; clear hjk
          go_wp2_with fail
          go_roundw
          case rel =>
            refine ⟨k + 1, by omega, by go_num, fun i j' h1 h2 => ?_, trivial⟩
            by_cases e : j' = k
            · subst e; rw [HGK.out]; exact HQ.out i (by have := HJK.out; omega)
            · exact HP.out i j' h1 (by omega)
          case measure => simp [intOf]; omega
    · go_wp2_with fail
      go_ret
      refine ⟨ret_bool ?_, rfl⟩
      symm
      rw [decide_eq_true_eq, grp_iff]
      exact fun i j h1 h2 => HP.out i j h1 (by omega)
end Go.Proofs.Ytooddicegkiiiaa
