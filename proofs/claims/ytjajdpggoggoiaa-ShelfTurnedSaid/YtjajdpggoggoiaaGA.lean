/- Merged texts: slices that are read, maps keyed by pairs, CheckDay, the bench, newBench, open. -/
import Derived.Test.YtjajdpggoggoiaaRows
import Derived.WalkKit
import Derived.WalkSpells
import Derived.WalkLawsBesides
import Derived.BigRegion
import Derived.BigQuiet
import Derived.Lib.Hide
import Derived.Deep.QuietTactic
import Derived.RangeFuncBox
import Derived.Deep.Cut
import Derived.Deep.DeepCutAuto
import Derived.Deep.RegionWith
import Derived.RangeFuncNested
import Derived.RangeFuncBound
import Derived.RangeFuncCalls
import Derived.RangeFuncLeaves
import Derived.Shelf.Abstract
import Derived.Shelf.RegionOpen
import Derived.OwnWalkIn
import Derived.ChangeKeysEq
import Derived.TacticsInMore
import Derived.LoopNIn
import Derived.LoopIn
import Derived.StillTailTactics
import Derived.OrdersHeld
import Derived.Deep.OwnRows
import Derived.Deep.RegionLaw
import Derived.Laws.OwnMore
import Derived.Maps.AppendAt
namespace Go.Proofs.Ytjajdpggoggoiaa
open Go.RowKit

/-- The slice value v, of n elements, reads the cells cs. -/
def RdC (w : World) (v : Value) (n : Nat) (cs : List Value) : Prop :=
  ∃ a cap, v = .slice a n cap ∧ n ≤ cap ∧ cap ≤ maxLen ∧ (cs ≠ [] → ∃ b off, a = some ⟨b, off, none⟩ ∧ b < w.heap.size ∧ ∀ j u, cs[j]? = some u → w.cell? ⟨b, off + j, none⟩ = some u)

/-- A slice of integers of one kind. -/
def RdI (w : World) (k : IntKind) (v : Value) (xs : List Int) : Prop := RdC w v xs.length (xs.map (Value.int k))

/-- A slice of pairs of ints. -/
def prs (V : List (Int × Int)) : List Value := V.flatMap fun p => [.int .i64 p.1, .int .i64 p.2]
def RdP (w : World) (v : Value) (V : List (Int × Int)) : Prop := RdC w v V.length (prs V)

theorem RdC.mono {w w' : World} {v : Value} {n : Nat} {cs : List Value} (h : RdC w v n cs) (hb : Below w.heap.size w w') : RdC w' v n cs := by
  obtain ⟨a, cap, rfl, hc1, hc2, h⟩ := h
  refine ⟨a, cap, rfl, hc1, hc2, fun hne => ?_⟩
  obtain ⟨b, off, rfl, h1, h2⟩ := h hne
  exact ⟨b, off, rfl, Nat.lt_of_lt_of_le h1 hb.size, fun j u hu => (hb.cell (p := ⟨b, off + j, none⟩) h1).trans (h2 j u hu)⟩
theorem RdI.mono {w w' : World} {k : IntKind} {v : Value} {xs : List Int} (h : RdI w k v xs) (hb : Below w.heap.size w w') : RdI w' k v xs := RdC.mono h hb
theorem RdP.mono {w w' : World} {v : Value} {V : List (Int × Int)} (h : RdP w v V) (hb : Below w.heap.size w w') : RdP w' v V := RdC.mono h hb

theorem RdI.form {w : World} {k : IntKind} {v : Value} {xs : List Int} (h : RdI w k v xs) :
    ∃ a cap, v = .slice a xs.length cap ∧ xs.length ≤ cap ∧ cap ≤ maxLen ∧ (0 < xs.length → ∃ b off, a = some ⟨b, off, none⟩ ∧ b < w.heap.size ∧ ∀ j, j < xs.length → w.cell? ⟨b, off + j, none⟩ = some (.int k (xs[j]?.getD 0))) := by
  obtain ⟨a, cap, rfl, hc1, hc2, h⟩ := h
  refine ⟨a, cap, rfl, hc1, hc2, fun hne => ?_⟩
  obtain ⟨b, off, rfl, h1, h2⟩ := h (by intro e; simp at e; subst e; simp at hne)
  exact ⟨b, off, rfl, h1, fun j hj => h2 j _ (by simp [hj])⟩

theorem prs_get (V : List (Int × Int)) : ∀ j, j < V.length → (prs V)[j * 2]? = some (.int .i64 ((V[j]?.getD (0, 0)).1)) ∧ (prs V)[j * 2 + 1]? = some (.int .i64 ((V[j]?.getD (0, 0)).2)) := by
  induction V with
  | nil => intro j hj; simp at hj
  | cons p V ih =>
    intro j hj
    cases j with
    | zero => simp [prs]
    | succ j =>
      have := ih j (by simpa using hj)
      have e1 : (j + 1) * 2 = j * 2 + 1 + 1 := by omega
      simp only [prs, List.flatMap_cons, List.cons_append, List.nil_append] at this ⊢
      rw [e1]
      simpa using this
theorem prs_length (V : List (Int × Int)) : (prs V).length = V.length * 2 := by
  induction V with
  | nil => rfl
  | cons p V ih => simp only [prs, List.flatMap_cons, List.length_append, List.length_cons, List.length_nil] at ih ⊢; omega

theorem RdP.form {w : World} {v : Value} {V : List (Int × Int)} (h : RdP w v V) :
    ∃ a cap, v = .slice a V.length cap ∧ V.length ≤ cap ∧ cap ≤ maxLen ∧ (0 < V.length → ∃ b off, a = some ⟨b, off, none⟩ ∧ b < w.heap.size ∧
      ∀ j, j < V.length → w.cell? ⟨b, off + j * 2, none⟩ = some (.int .i64 ((V[j]?.getD (0, 0)).1)) ∧ w.cell? ⟨b, off + j * 2 + 1, none⟩ = some (.int .i64 ((V[j]?.getD (0, 0)).2))) := by
  obtain ⟨a, cap, rfl, hc1, hc2, h⟩ := h
  refine ⟨a, cap, rfl, hc1, hc2, fun hne => ?_⟩
  obtain ⟨b, off, rfl, h1, h2⟩ := h (by intro e; have := prs_length V; rw [e] at this; simp at this; omega)
  refine ⟨b, off, rfl, h1, fun j hj => ?_⟩
  obtain ⟨g1, g2⟩ := prs_get V j hj
  exact ⟨h2 _ _ g1, by have := h2 _ _ g2; rwa [← Nat.add_assoc] at this⟩

/-- What the call owns reads. -/
theorem RdC.of_owns {w : World} {base : Nat} {e : TypeId} {size : Nat} {v : Value} {n : Nat} {cs : List Value} (h : w.ownsRow base e size v n cs) : RdC w v n cs := by
  have hl := h.1
  have h' := h
  rcases h.2 with ⟨rfl, rfl⟩ | ⟨g, cap, cur, rfl, hb, hg, hc1, hc2, _, htake⟩
  · exact ⟨none, 0, rfl, Nat.le_refl _, by unfold maxLen; omega, fun hne => by simp at hl; exact absurd hl hne⟩
  · refine ⟨_, _, rfl, hc1, hc2, fun hne => ⟨g, 0, rfl, (Array.getElem?_eq_some_iff.1 hg).1, fun j u hu => ?_⟩⟩
    rw [Nat.zero_add, h'.cellAt j (by rw [← hl]; exact (List.getElem?_eq_some_iff.1 hu).1)]
    exact hu
theorem RdI.of_owns {w : World} {base : Nat} {e : TypeId} {k : IntKind} {v : Value} {n : Nat} {xs : List Int} (h : w.ownsRow base e 1 v n (xs.map (Value.int k))) : RdI w k v xs := by
  have hl := h.1
  simp at hl
  subst hl
  exact RdC.of_owns h
theorem RdP.of_owns {w : World} {base : Nat} {e : TypeId} {v : Value} {n : Nat} {V : List (Int × Int)} (h : w.ownsRow base e 2 v n (prs V)) : RdP w v V := by
  have hl := h.1
  rw [prs_length] at hl
  obtain rfl : V.length = n := by omega
  exact RdC.of_owns h

theorem bcell {W w1 : World} (hb : Below W.heap.size W w1) : (∀ b o, b < W.heap.size → w1.cell? ⟨b, o, none⟩ = W.cell? ⟨b, o, none⟩) ∧ (∀ b o, b < W.heap.size → w1.frozen? ⟨b, o, none⟩ = W.frozen? ⟨b, o, none⟩) :=
  ⟨fun b o h => hb.cell (p := ⟨b, o, none⟩) h, fun b o h => hb.frozen (p := ⟨b, o, none⟩) h⟩

theorem bz (w : World) : Below w.heap.size w w := Below.refl _ _
theorem bal {a w : World} (h : Below a.heap.size a w) (o : Obj) : Below a.heap.size a (w.alloc o) := h.alloc h.size o
theorem btr {a w w' : World} (h : Below a.heap.size a w) (h2 : Below w.heap.size w w') : Below a.heap.size a w' := h.trans (h2.mono h.size)
theorem bset {a w : World} (h : Below a.heap.size a w) {p : Addr} (hp : a.heap.size ≤ p.block) (u : Value) : Below a.heap.size a (w.setCell p u) := h.setCell hp u
theorem bgr {a w w' : World} {row : Option Nat} (h : Below a.heap.size a w) (hg : w.grownBy w' row) (hr : ∀ k, row = some k → a.heap.size ≤ k) : Below a.heap.size a w' := h.grown hg h.size hr
theorem Below.drewN' {B : Nat} {a w : World} (n : Nat) (h : Below B a w) : Below B a (w.drewN n) := ⟨h.os, h.tape, h.output, h.size, h.block⟩
theorem ret_int {k : IntKind} {a b : Int} (h : a = b) : Ending.returned (.int k a) = .returned (.int k b) := by rw [h]
theorem ret_bool {a b : Bool} (h : a = b) : Ending.returned (.bool a) = .returned (.bool b) := by rw [h]

/-- A world in which all that was there when w was reads as it did. -/
structure Later (w : World) where
  val : World
  le : Below w.heap.size w val
instance (w : World) : Nonempty (Later w) := ⟨⟨w, Below.refl _ _⟩⟩
theorem Later.cell {w : World} (l : Later w) (b o : Nat) (h : b < w.heap.size) : l.val.cell? ⟨b, o, none⟩ = w.cell? ⟨b, o, none⟩ := l.le.cell (p := ⟨b, o, none⟩) h
theorem wp_region_later {P : Program} {id : Nat} {Q : Exit → Act → World → Prop} {a : Act} {w : World} {l : List Oper} (hm : P.follows .mixedOrders = true) (hB : Region.lexB .any l.toArray = true)
    (h : wpQuiet P l.toArray (fun w' => ∃ x : Later w, w' = x.val) (fun a' => ∀ w', (∃ x : Later w, w' = x.val) → Q .normal a' w') l a) : (Code.region id l.toArray true).wp P Q a w :=
  wp_region_quiet (C := fun w' => ∃ x : Later w, w' = x.val) hm hB ⟨⟨_, Below.drew (Below.refl _ _)⟩, rfl⟩ (by simpa using h)
theorem Calls.later {P : Program} {f : FuncId} {args : Array Value} {w : World} {l : Later w} {v : Value}
    (h : Calls P f args l.val fun e w' => e = .returned v ∧ Below l.val.heap.size l.val w') : Calls P f args l.val fun e w'' => e = .returned v ∧ ∃ x : Later w, w'' = x.val :=
  h.mono fun _ w' ⟨he, hb⟩ => ⟨he, ⟨w', btr l.le hb⟩, rfl⟩

end Go.Proofs.Ytjajdpggoggoiaa

namespace Go.Proofs.Ytjajdpggoggoiaa
open Go.RowKit Go.Shelf

/-- From block lo on, what was there in W is there in W'. -/
structure KF (lo : Nat) (W W' : World) : Prop where
  size : W.heap.size ≤ W'.heap.size
  same : ∀ r, lo ≤ r → r < W.heap.size → W'.heap[r]? = W.heap[r]?
theorem KF.refl (lo : Nat) (W : World) : KF lo W W := ⟨Nat.le_refl _, fun _ _ _ => rfl⟩
theorem KF.trans {lo : Nat} {A B C : World} (h : KF lo A B) (k : KF lo B C) : KF lo A C :=
  ⟨Nat.le_trans h.size k.size, fun r h1 h2 => (k.same r h1 (Nat.lt_of_lt_of_le h2 h.size)).trans (h.same r h1 h2)⟩
theorem KF.of_below {lo : Nat} {W W' : World} (h : Below W.heap.size W W') : KF lo W W' := ⟨h.size, fun r _ h2 => h.block r h2⟩
theorem KF.alloc {lo : Nat} {A W : World} (h : KF lo A W) (o : Obj) : KF lo A (W.alloc o) := h.trans (KF.of_below (bal (bz _) _))
theorem KF.set {lo : Nat} {A W : World} (h : KF lo A W) {p : Addr} (hp : p.block < lo) (u : Value) : KF lo A (W.setCell p u) :=
  h.trans ⟨by simp, fun r h1 _ => Below.heap_setCell _ _ _ _ (by omega)⟩

/-- An assertion that abides new blocks, draws, and the turn of a block between lo and hi. -/
def Abides1 (lo hi : Nat) (I : World → Prop) : Prop := ∀ W W' row, I W → W.grownBy W' row → (∀ r, row = some r → lo ≤ r ∧ r < hi) → I W'

/-- The iterator's contract: it yields the values xs one after another as long as it is told to go on; it keeps k blocks of its own, the first ones that it makes. -/
def Yields {α : Type} (n : Nat) (P : Program) (g : Nat) (lb : Array Value) (encs : α → Array Value) (k : Nat) (Rd : World → Prop) (xs : List α) : Prop :=
  ∀ (l : Nat) (J Jx : List α → World → Prop) (W : World),
    (∀ s, Abides1 W.heap.size (W.heap.size + k) (J s)) → (∀ s, Abides1 W.heap.size (W.heap.size + k) (Jx s)) → (∀ s W1, J s W1 → Rd W1) →
    (∀ pre x W1, J pre W1 → pre ++ [x] <+: xs → W.heap.size + k ≤ W1.heap.size → YieldAt Fence.wide (n - 1) P l (encs x) W1 fun e W' =>
      (e = .returned (.bool true) ∧ J (pre ++ [x]) W' ∧ W1.heap.size ≤ W'.heap.size ∧ ∀ r, W.heap.size ≤ r → r < W.heap.size + k → W'.heap[r]? = W1.heap[r]?) ∨ (e = .returned (.bool false) ∧ Jx (pre ++ [x]) W')) →
    J [] W →
    CallsIn Fence.wide n P g (#[.func (.yield l) #[] #[]] ++ lb) W fun e W' => (∃ v, e = .returned v) ∧ (J xs W' ∨ ∃ pre, pre <+: xs ∧ Jx pre W')

/-- How a round may end. -/
def roundEnd {α : Type} (lo : Nat) (I : List α → World → Prop) (Ix : Code → List α → World → Prop) (s : List α) (W : World) : Exit → Act → World → Prop
  | .normal, _, W' => KF lo W W' ∧ I s W'
  | .ret, _, W' => KF lo W W' ∧ Ix .ret s W'
  | .exit id, _, W' => KF lo W W' ∧ Ix (.exit id) s W'
  | .goto t, _, W' => KF lo W W' ∧ Ix (.goto t) s W'
  | .panic _, _, _ => False
  | .outgrown, _, _ => False

/-- The statement 'for x := range g'. -/
theorem range_law {P : Program} {n : Nat} {α : Type} {g : Operand} {ps : Array Tmp} {assign body : Code} {Q : Exit → Act → World → Prop} {a : Act} {w : World}
    {gf : Nat} {lb : Array Value} (hg : a.eval g = .func (.func gf) #[] lb) (eg : ∀ args w, (callFunc gf args).run P w = .ok (.enter gf args) w)
    {encs : α → Array Value} {k : Nat} {Rd : World → Prop} {xs : List α} (hseq : Yields (n - 1) P gf lb encs k Rd xs) (hps : ∀ x, (encs x).size = ps.size)
    (I : List α → World → Prop) (Ix : Code → List α → World → Prop)
    (hI : ∀ s, Abides1 w.heap.size (w.heap.size + 2 + k) (I s)) (hIx : ∀ c s, Abides1 w.heap.size (w.heap.size + 2 + k) (Ix c s)) (hR : ∀ s W1, I s W1 → Rd W1) (h0 : I [] w)
    (hround : ∀ (l : Nat) (pre : List α) (x : α) (W : World), I pre W → pre ++ [x] <+: xs → w.heap.size + 2 + k ≤ W.heap.size →
      assign.wpIn (Fence.wide.inRound l) (n - 1 - 1) P (Exit.then (fun a₁ W₁ => KF w.heap.size W W₁ ∧ ∀ W₂, W₁.grownBy W₂ (some (w.heap.size + 1)) → W₂.heap.size = W₁.heap.size →
          body.wpIn (Fence.wide.inRound l) (n - 1 - 1) P (roundEnd w.heap.size I Ix (pre ++ [x]) W₂) a₁ W₂) (fun _ _ _ => False))
        { tmps := (ps.zip (encs x)).foldl (fun t (p, v) => t.setIfInBounds p v) a.tmps, defers := [] } W)
    (hdone : ∀ (W : World), I xs W → W.heap[w.heap.size]? = some (.deferred (some [])) → Q .normal { a with defers := { target := .collected w.heap.size, args := #[] } :: a.defers } W)
    (hstop : ∀ (c : Code) (pre : List α) (W : World), pre <+: xs → Ix c pre W → W.heap[w.heap.size]? = some (.deferred (some [])) → c.wpIn Fence.wide n P Q { a with defers := { target := .collected w.heap.size, args := #[] } :: a.defers } W) :
    (Code.rangeFunc g ps assign body).wpIn Fence.wide n P Q a w := by
  refine wpIn_rangeFunc ?_
  intro fn hfn
  let rec0 : LoopState → Option Code → Loop := fun st pe => { state := st, pending := pe, fn, tmps := a.tmps, params := ps, assign, body, defers := w.heap.size }
  obtain ⟨V, hV⟩ : ∃ V, (w.alloc (.deferred (some []))).alloc (.loop (rec0 .ready none)) = V := ⟨_, rfl⟩
  have hVs : V.heap.size = w.heap.size + 2 := by rw [← hV]; simp
  have hVl : V.heap[w.heap.size + 1]? = some (.loop (rec0 .ready none)) := by rw [← hV]; exact heap_alloc2_new _ _ _
  have hVd : V.heap[w.heap.size]? = some (.deferred (some [])) := by rw [← hV]; exact heap_alloc2_old _ _ _
  have hVI : I [] V := by
    rw [← hV]
    exact hI [] _ _ none (hI [] _ _ none h0 (World.grownBy_alloc _ _ none) (fun r e => by cases e)) (World.grownBy_alloc _ _ none) (fun r e => by cases e)
  -- what stays of the two blocks of the loop's own
  have keep : ∀ {X Y : World} {row : Option Nat} {j : Nat} {o : Obj}, X.heap[j]? = some o → j < V.heap.size → X.grownBy Y row → (∀ r, row = some r → V.heap.size ≤ r ∧ r < V.heap.size + k) → Y.heap[j]? = some o := by
    intro X Y row j o hx hj hgr hr
    rw [hgr.block j (Array.getElem?_eq_some_iff.1 hx).1 (fun e => by have := hr j e.symm; omega)]
    exact hx
  have wider : ∀ {row : Option Nat}, (∀ r, row = some r → V.heap.size ≤ r ∧ r < V.heap.size + k) → ∀ r, row = some r → w.heap.size ≤ r ∧ r < w.heap.size + 2 + k := by
    intro row h r e
    have := h r e
    omega
  have turn : ∀ {X : World} {o : Obj} {J : World → Prop}, Abides1 w.heap.size (w.heap.size + 2 + k) J → J X → J (X.putObj (w.heap.size + 1) o) :=
    fun h hx => h _ _ (some (w.heap.size + 1)) hx (grownBy_putObj' _ _ _) (fun r e => by cases e; omega)
  refine ⟨w.heap.size + 1, [{ target := .collected w.heap.size, args := #[] }], V, { target := .fn (.func gf) lb, args := #[.func (.yield (w.heap.size + 1)) #[] #[]] }, V, gf,
    #[.func (.yield (w.heap.size + 1)) #[] #[]] ++ lb, V, ?_, ?_, fun _ _ => trivial, ?_, fun h => by simp [Fence.wide] at h, ?_⟩
  · rw [← hV]; exact run_enterLoop_outer _ _ _ _ _
  · simp only [resolve, hg]
    simp [go_sem]
  · simp [invoke, go_sem, eg]
  refine (hseq (w.heap.size + 1)
    (fun s X => I s X ∧ X.heap[w.heap.size + 1]? = some (.loop (rec0 .ready none)) ∧ X.heap[w.heap.size]? = some (.deferred (some [])))
    (fun s X => ∃ c, Ix c s X ∧ X.heap[w.heap.size + 1]? = some (.loop (rec0 .done (some c))) ∧ X.heap[w.heap.size]? = some (.deferred (some []))) V
    (fun s X Y row h hgr hr => ⟨hI s X Y row h.1 hgr (wider hr), keep h.2.1 (by omega) hgr hr, keep h.2.2 (by omega) hgr hr⟩)
    (fun s X Y row h hgr hr => by
      obtain ⟨c, h1, h2, h3⟩ := h
      exact ⟨c, hIx c s X Y row h1 hgr (wider hr), keep h2 (by omega) hgr hr, keep h3 (by omega) hgr hr⟩)
    (fun s X h => hR s X h.1) ?_ ⟨hVI, hVl, hVd⟩).mono ?_
  · rintro pre x X ⟨hi, hl, hd⟩ hpre hsz
    have hlt : w.heap.size + 1 < X.heap.size := (Array.getElem?_eq_some_iff.1 hl).1
    refine ⟨fn, _, assign, body, run_yield (args := encs x) hl (hps x), roundIn_of_wpIn trivial (wpIn_mono (hround (w.heap.size + 1) pre x X hi hpre (by omega)) ?_)⟩
    rintro e a1 X1 hp
    cases e with
    | normal =>
      obtain ⟨hk1, hbody⟩ := hp
      have hl1 := (hk1.same _ (by omega) hlt).trans hl
      have hd1 := (hk1.same _ (by omega) (by omega)).trans hd
      refine ⟨_, run_beginRound hl1 rfl, wpIn_mono (hbody _ (grownBy_putObj' _ _ _) (by simp)) ?_⟩
      have hlt1 : w.heap.size + 1 < X1.heap.size := (Array.getElem?_eq_some_iff.1 hl1).1
      have fin : ∀ (jump : Option Code) (X3 : World), KF w.heap.size (X1.putObj (w.heap.size + 1) (.loop { rec0 .ready none with state := .busy })) X3 →
          (Instr.endRound (w.heap.size + 1) jump).run P X3 = .ok (.bool jump.isNone) (X3.putObj (w.heap.size + 1) (.loop (rec0 (if jump.isNone then .ready else .done) jump))) ∧
          (X3.putObj (w.heap.size + 1) (.loop (rec0 (if jump.isNone then .ready else .done) jump))).heap[w.heap.size + 1]? = some (.loop (rec0 (if jump.isNone then .ready else .done) jump)) ∧
          (X3.putObj (w.heap.size + 1) (.loop (rec0 (if jump.isNone then .ready else .done) jump))).heap[w.heap.size]? = some (.deferred (some [])) ∧
          X.heap.size ≤ X3.heap.size ∧
          ∀ r, V.heap.size ≤ r → r < V.heap.size + k → (X3.putObj (w.heap.size + 1) (.loop (rec0 (if jump.isNone then .ready else .done) jump))).heap[r]? = X.heap[r]? := by
        intro jump X3 hk3
        have hl3 : X3.heap[w.heap.size + 1]? = some (.loop { rec0 .ready none with state := .busy }) := (hk3.same _ (by omega) (by simp; omega)).trans (World.putObj_heap_same hlt1)
        have hd3 : X3.heap[w.heap.size]? = some (.deferred (some [])) := (hk3.same _ (by omega) (by simp; omega)).trans ((World.putObj_heap_other (by omega)).trans hd1)
        refine ⟨run_endRound jump hl3, World.putObj_heap_same (Array.getElem?_eq_some_iff.1 hl3).1, (World.putObj_heap_other (by omega)).trans hd3, ?_, fun r h1 h2 => ?_⟩
        · have h1 := hk3.size; have h2 := hk1.size; simp at h1; omega
        · have h4 := hk1.size
          rw [World.putObj_heap_other (by omega), hk3.same r (by omega) (by simp; omega), World.putObj_heap_other (by omega), hk1.same r (by omega) (by omega)]
      rintro e2 a3 X3 hp2
      cases e2 with
      | normal =>
        obtain ⟨hk3, hi3⟩ := hp2
        obtain ⟨f1, f2, f3, f4, f5⟩ := fin none X3 hk3
        exact ⟨_, _, f1, .inl ⟨rfl, ⟨turn (hI _) hi3, f2, f3⟩, by simp; exact f4, f5⟩⟩
      | ret =>
        obtain ⟨hk3, hi3⟩ := hp2
        obtain ⟨f1, f2, f3, f4, f5⟩ := fin (some .ret) X3 hk3
        exact ⟨_, _, f1, .inr ⟨rfl, _, turn (hIx _ _) hi3, f2, f3⟩⟩
      | exit id =>
        obtain ⟨hk3, hi3⟩ := hp2
        obtain ⟨f1, f2, f3, f4, f5⟩ := fin (some (.exit id)) X3 hk3
        exact ⟨_, _, f1, .inr ⟨rfl, _, turn (hIx _ _) hi3, f2, f3⟩⟩
      | goto t =>
        obtain ⟨hk3, hi3⟩ := hp2
        obtain ⟨f1, f2, f3, f4, f5⟩ := fin (some (.goto t)) X3 hk3
        exact ⟨_, _, f1, .inr ⟨rfl, _, turn (hIx _ _) hi3, f2, f3⟩⟩
      | panic ch => exact hp2.elim
      | outgrown => exact hp2.elim
    | ret => exact hp.elim
    | exit id => exact hp.elim
    | goto t => exact hp.elim
    | panic ch => exact hp.elim
    | outgrown => exact hp.elim
  · rintro e X ⟨⟨v, rfl⟩, ⟨hi, hl, hd⟩ | ⟨pre, hpre, c, hi, hl, hd⟩⟩
    · exact ⟨none, _, run_endLoop hl (by simp [rec0]), hdone _ (turn (hI _) hi) ((World.putObj_heap_other (by omega)).trans hd)⟩
    · exact ⟨some c, _, run_endLoop hl (by simp [rec0]), hstop c pre _ hpre (turn (hIx _ _) hi) ((World.putObj_heap_other (by omega)).trans hd)⟩

/-- Cells behind new blocks. -/
theorem cal {w : World} {a : Addr} {v : Value} (o : Obj) (h : w.cell? a = some v) : (w.alloc o).cell? a = some v :=
  (World.cell?_of_block (w := w) (Below.heap_alloc w o a.block (World.block_lt_of_cell? w a h))).trans h
theorem cnew {w : World} {cs : Array Value} {t : TypeId} {n j : Nat} {v : Value} (hn : n = w.heap.size) (h : cs[j]? = some v) : (w.alloc (.cells cs t)).cell? ⟨n, j, none⟩ = some v := by
  subst hn; rw [cell_of_row _ _ _ _ _ _ (heap_alloc_new w _)]; exact h
theorem fal {w : World} {a : Addr} (o : Obj) (h : w.frozen? a = false) (hb : a.block < w.heap.size) : (w.alloc o).frozen? a = false :=
  (World.frozen?_of_block (w := w) (Below.heap_alloc w o a.block hb)).trans h
theorem fnew {w : World} {cs : Array Value} {t : TypeId} {n j : Nat} (hn : n = w.heap.size) : (w.alloc (.cells cs t)).frozen? ⟨n, j, none⟩ = false := by
  subst hn; exact frozen_of_row _ _ _ _ _ (heap_alloc_new w _)

theorem abides_below {lo hi B : Nat} {w0 : World} (h1 : B ≤ lo) (h2 : B ≤ w0.heap.size) : Abides1 lo hi (fun W => Below B w0 W) :=
  fun _ _ _ h hg hr => h.grown hg (Nat.le_trans h2 h.size) (fun k e => Nat.le_trans h1 (hr k e).1)
theorem abides_cell {lo hi : Nat} {a : Addr} {v : Value} (h1 : a.block < lo) : Abides1 lo hi (fun W => W.cell? a = some v) :=
  fun W _ _ h hg hr => (World.cell?_of_block (hg.block a.block (World.block_lt_of_cell? W a h) (fun e => by have := hr _ e.symm; omega))).trans h
theorem Abides1.and {lo hi : Nat} {I J : World → Prop} (h : Abides1 lo hi I) (k : Abides1 lo hi J) : Abides1 lo hi (fun W => I W ∧ J W) :=
  fun W W' row hs hg hr => ⟨h W W' row hs.1 hg hr, k W W' row hs.2 hg hr⟩
theorem abides_pure {lo hi : Nat} {q : Prop} : Abides1 lo hi (fun _ => q) := fun _ _ _ h _ _ => h

section
variable {n : Nat} {F : Fence} {P : Program} {ops : Array Oper} {rest : List Oper} {o : Oper} {a : Act} {w : World} {Q : Exit → Act → World → Prop}
/-- In a fence: a whole array or struct is read. -/
theorem inLoadRow (hF : ∀ f, F.fn f) (hgd : o.guard = none) (ty : TypeId) (x : Operand) (ho : o.op = .load ty x) (g : Nat) (hx : a.eval x = .pointer (some ⟨g, 0, none⟩)) (t : TypeId) (cs : Array Value) (fr : Nat × Nat) (d : TypeDesc)
    (hg : w.heap[g]? = some (.cells cs t fr)) (hu : P.underlying ty = some d) (hd : (match d with | .struct _ | .array _ _ => true | _ => false) = true) (hi : (P.info? ty).map (·.size) = some cs.size)
    (h : wpListIn F n P ops Q rest (a.put o.dst (.agg cs)) w) : wpListIn F n P ops Q (o :: rest) a w := by
  refine wpListIn_plain hgd fun K hK => ⟨fun _ _ => hF _, ?_⟩
  have e : o.semAt F.round a.eval = execOp a.eval o := by unfold Oper.semAt; cases F.round <;> simp [ho]
  rw [e]; unfold execOp
  simp only [ho, hx, Instr.loadAt, Instr.sureAddr, Sem.run_bind, Sem.run_pure, Result.andThen_ok, run_loadVar_row w g t ty cs fr d hg hu hd hi]
  exact hK _ _ h
/-- .. is written. -/
theorem inStoreRow (hF : ∀ f, F.fn f) (hgd : o.guard = none) (ty : TypeId) (x y : Operand) (ho : o.op = .store ty x y) (g : Nat) (cells : Array Value) (hx : a.eval x = .pointer (some ⟨g, 0, none⟩)) (hy : a.eval y = .agg cells)
    (t : TypeId) (old : Array Value) (hg : w.heap[g]? = some (.cells old t (0, 0))) (hi : (P.info? ty).map (·.size) = some cells.size) (hold : old.size = cells.size) (h1 : cells.all (·.oneCell') = true)
    (h : wpListIn F n P ops Q rest (a.put o.dst undef) (w.setRow g cells)) : wpListIn F n P ops Q (o :: rest) a w := by
  refine wpListIn_plain hgd fun K hK => ⟨fun _ _ => hF _, ?_⟩
  have e : o.semAt F.round a.eval = execOp a.eval o := by unfold Oper.semAt; cases F.round <;> simp [ho]
  rw [e]; unfold execOp
  simp only [ho, hx, hy, Instr.storeAt, Instr.sureAddr, Sem.run_bind, Sem.run_pure, Result.andThen_ok, run_storeVar_row w g t ty old cells hg hi hold h1]
  exact hK _ _ h
end
/-- The fence of everything, in a round or in none. -/
abbrev WF (r : Option Nat) : Fence := { Fence.wide with round := r }

section
variable {P : Program} {ops : Array Oper} {md : Region.Mode} {C : World → Prop} {n : Nat} {r : Option Nat}
theorem inOp_of_quiet {i : Nat} {a : Act} {K : Act → Prop} {K' : Act → World → Prop} {Q' : Exit → Act → World → Prop} {w : World} (hd : ∀ (i : Nat) (o : Oper), ops[i]? = some o → ∀ c, o.op ≠ .defer c)
    (hC : C w) (h : ∀ a w', C w' → K a → K' a w') (hh : qOp P ops C i K a) : wpOpIn (WF r) n P ops Q' i K' a w := by
  unfold qOp at hh
  unfold wpOpIn
  cases ho : ops[i]? with
  | none => simp only [ho] at hh; exact h _ _ hC hh
  | some o =>
    simp only [ho] at hh ⊢
    by_cases hw : Region.wanted o (yielded ops a.tmps) = true
    · simp only [hw, if_true] at hh ⊢
      obtain ⟨v, h1, h2⟩ := hh
      have h3 := h1 w hC
      unfold Oper.quietAt at h3
      refine ⟨fun _ _ => trivial, ?_⟩
      have e : o.semAt (WF r).round a.eval = execOp a.eval o := Oper.semAt_eq _ _ _ (hd i o ho)
      rw [e]
      generalize (execOp a.eval o).run P w = res at *
      cases res with
      | ok x w' =>
        cases x <;> simp only [Oper.quietUpon] at h3 <;> simp only [Oper.uponIn]
        case value u =>
          obtain ⟨e1, e2⟩ := h3
          rw [e1, e2]; exact h _ _ hC h2
        case skip =>
          obtain ⟨e1, e2⟩ := h3
          rw [e1, ← e2]; exact h _ _ hC h2
        case enter f args =>
          obtain ⟨e1, hc⟩ := h3
          rw [e1]
          refine ⟨fun hh => by simp [Fence.wide] at hh, ?_⟩
          exact (show CallsIn Fence.wide (n - 1) P f args w _ from callsIn_wide.2 (hc.mono fun e w'' ⟨he, hw''⟩ => by subst he; exact h _ _ hw'' h2))
      | halt x w' => simp only [Oper.quietUpon] at h3
    · simp only [hw] at hh ⊢
      exact ⟨fun _ _ => trivial, h _ _ hC hh⟩
theorem inAny_of_quiet {Q : Act → Prop} {Q' : Exit → Act → World → Prop} (hd : ∀ (i : Nat) (o : Oper), ops[i]? = some o → ∀ c, o.op ≠ .defer c) (hQ : ∀ a w, C w → Q a → Q' .normal a w) :
    ∀ (fuel : Nat) (listed : Array Bool) (a : Act) (w : World), C w → wpAnyQ P md ops C Q fuel listed a → wpAnyIn (WF r) n P md ops Q' fuel listed a w
  | 0, _, _, _, hw, h => ⟨h.1, hQ _ _ hw h.2⟩
  | fuel + 1, _, _, _, hw, h => ⟨fun h0 => hQ _ _ hw (h.1 h0), fun i hi => inOp_of_quiet hd hw (fun a' w' hw' => inAny_of_quiet hd hQ fuel _ a' w' hw') (h.2 i hi)⟩
def noDefer (l : List Oper) : Bool := l.all fun o => match o.op with | .defer _ => false | _ => true
/-- A region that draws its order, in a fence, whose operations only read and whose calls return one value and leave old memory alone: one walk. -/
theorem in_region_later {id : Nat} {Q : Exit → Act → World → Prop} {a : Act} {w : World} {l : List Oper} (hm : P.follows .mixedOrders = true) (hB : Region.lexB .any l.toArray = true) (hd : noDefer l = true)
    (h : wpQuiet P l.toArray (fun w' => ∃ x : Later w, w' = x.val) (fun a' => ∀ w', (∃ x : Later w, w' = x.val) → Q .normal a' w') l a) : (Code.region id l.toArray true).wpIn (WF r) n P Q a w := by
  have hd' : ∀ (i : Nat) (o : Oper), l.toArray[i]? = some o → ∀ c, o.op ≠ .defer c := by
    intro i o ho c e
    have hm : o ∈ l := by rw [List.getElem?_toArray] at ho; exact List.mem_of_getElem? ho
    have := List.all_eq_true.1 hd o hm
    rw [e] at this
    simp at this
  simp only [Region.lexB, Bool.and_eq_true] at hB
  refine wpIn_region_any hm (inAny_of_quiet (C := fun w' => ∃ x : Later w, w' = x.val) (Q := fun a' => ∀ w', (∃ x : Later w, w' = x.val) → Q .normal a' w') hd' (fun _ w' hw' h => h w' hw') _ _ _ _ ⟨⟨_, Below.drew (Below.refl _ _)⟩, rfl⟩ ?_)
  have := wpAnyQ_lex (P := P) (C := fun w' => ∃ x : Later w, w' = x.val) (md := .any) hB.1 l.toArray.toList 0 (Array.replicate l.toArray.size false) a (by simp) (by simpa using hB.2) (by simpa using h)
  simpa using this
end
/-- Arrays of ints, compared. -/
theorem eqItems_ints {P : Program} {w : World} (d : Nat) (e : TypeId) (k : IntKind) (he : P.underlying e = some (.int k)) (xs ys : List Int) : ∀ is : List Nat, (∀ i ∈ is, i < xs.length ∧ i < ys.length) →
    (Op.eqItems (d + 1) e 1 (xs.map (Value.int k)).toArray (ys.map (Value.int k)).toArray is).run P w = .ok (is.all fun i => xs[i]?.getD 0 == ys[i]?.getD 0) w
  | [], _ => by simp [Op.eqItems]
  | i :: is, h => by
    have ih := eqItems_ints (w := w) d e k he xs ys is (fun j hj => h j (List.mem_cons_of_mem _ hj))
    obtain ⟨h1, h2⟩ := h i (by simp)
    have px : (part e (xs.map (Value.int k)).toArray (i * 1)).run P w = .ok (.int k (xs[i]?.getD 0)) w := by
      simp [part, isAgg, run_underlying he, h1]
    have py : (part e (ys.map (Value.int k)).toArray (i * 1)).run P w = .ok (.int k (ys[i]?.getD 0)) w := by
      simp [part, isAgg, run_underlying he, h2]
    simp only [Op.eqItems, Sem.run_bind, px, py, Result.andThen_ok, run_equalIn_int w d e k k _ _ he, List.all_cons]
    cases hb : (xs[i]?.getD 0 == ys[i]?.getD 0)
    · simp
    · simpa using ih
theorem all_get_eq (xs ys : List Int) (h : xs.length = ys.length) : ((List.range xs.length).all fun i => xs[i]?.getD 0 == ys[i]?.getD 0) = decide (xs = ys) := by
  rw [Bool.eq_iff_iff, List.all_eq_true, decide_eq_true_eq]
  constructor
  · intro h1
    apply List.ext_getElem h
    intro i h2 h3
    have := h1 i (List.mem_range.2 h2)
    simpa [h2, h3] using this
  · rintro rfl i _; simp
theorem run_eq_arr {P : Program} (w : World) (d : Nat) (t e : TypeId) (n : Nat) (k : IntKind) (i : TypeInfo) (hu : P.underlying t = some (.array n e)) (hi : P.info? e = some i) (hc : P.cellsOf e = 1) (he : P.underlying e = some (.int k)) (xs ys : List Int) (hx : xs.length = n) (hy : ys.length = n) :
    (Op.equalIn (d + 2) t (.agg (xs.map (Value.int k)).toArray) (.agg (ys.map (Value.int k)).toArray)).run P w = .ok (decide (xs = ys)) w := by
  rw [run_equalIn_array w (d + 1) _ _ hu hi, hc, eqItems_ints d e k he xs ys _ (fun j hj => by rw [List.mem_range] at hj; omega), ← hx, all_get_eq xs ys (by omega)]
theorem run_neq_arr {P : Program} (w : World) (t e : TypeId) (n : Nat) (k : IntKind) (i : TypeInfo) (hu : P.underlying t = some (.array n e)) (hi : P.info? e = some i) (hc : P.cellsOf e = 1) (he : P.underlying e = some (.int k)) (xs ys : List Int) (hx : xs.length = n) (hy : ys.length = n) :
    (binOp .neq t (.agg (xs.map (Value.int k)).toArray) (.agg (ys.map (Value.int k)).toArray)).run P w = .ok (.bool (!decide (xs = ys))) w := by
  rw [run_neq_struct, run_eq_arr w 9998 t e n k i hu hi hc he xs ys hx hy]; rfl
/-- A whole array is read, in a region that draws. -/
theorem wpQuiet_load_row {P : Program} {ops : Array Oper} {Q : Act → Prop} {a : Act} {w : World} {rest : List Oper} {o : Oper} (hgd : o.guard = none) (ty : TypeId) (x : Operand) (ho : o.op = .load ty x) (g : Nat) (hx : a.eval x = .pointer (some ⟨g, 0, none⟩)) (t : TypeId) (cs : Array Value) (fr : Nat × Nat) (d : TypeDesc)
    (hg : w.heap[g]? = some (.cells cs t fr)) (hu : P.underlying ty = some d) (hd : (match d with | .struct _ | .array _ _ => true | _ => false) = true) (hi : (P.info? ty).map (·.size) = some cs.size)
    (h : wpQuiet P ops (fun w' => ∃ x : Later w, w' = x.val) Q rest (a.put o.dst (.agg cs))) : wpQuiet P ops (fun w' => ∃ x : Later w, w' = x.val) Q (o :: rest) a := by
  unfold wpQuiet
  rw [if_pos (by simp [Region.wanted, hgd])]
  refine ⟨.agg cs, ?_, h⟩
  rintro w' ⟨l, rfl⟩
  have hg' : l.val.heap[g]? = some (.cells cs t fr) := (l.le.block g (Array.getElem?_eq_some_iff.1 hg).1).trans hg
  unfold Oper.quietAt execOp
  simp only [ho, hx, Instr.loadAt, Instr.sureAddr, Sem.run_bind, Sem.run_pure, Result.andThen_ok, run_loadVar_row l.val g t ty cs fr d hg' hu hd hi, Oper.quietUpon, and_self]
/-- A struct or an array is built, in a region that draws. -/
theorem wpQuiet_build {P : Program} {ops : Array Oper} {Q : Act → Prop} {a : Act} {C : World → Prop} {rest : List Oper} {o : Oper} (hgd : o.guard = none) (t : TypeId) (x : Operand) (ho : o.op = .build t #[(0, x)]) (v : Value) (hx : a.eval x = v) (cells : Array Value)
    (hb : P.built t [(0, v)] = some cells)
    (h : wpQuiet P ops C Q rest (a.put o.dst (.agg cells))) : wpQuiet P ops C Q (o :: rest) a := by
  unfold wpQuiet
  rw [if_pos (by simp [Region.wanted, hgd])]
  refine ⟨.agg cells, fun w _ => ?_, h⟩
  unfold Oper.quietAt execOp
  have hp : (#[(0, x)].map fun (p : Nat × Operand) => (p.1, a.eval p.2)).toList = [(0, v)] := by simp [hx]
  simp only [ho, Sem.run_bind, run_build w t _ cells (by rw [hp]; exact hb), Result.andThen_ok, Sem.run_pure, Oper.quietUpon, and_self]
/-- What lies there when a round's body begins: the loop variable in its box, and all that was there but for the loop's record. -/
theorem round_start {W W2 : World} {z cs : Array Value} {t : TypeId} {r : Nat} (hr : r < W.heap.size) (hg : ((W.alloc (.cells z t)).setRow W.heap.size cs).grownBy W2 (some r)) (hs : W2.heap.size = ((W.alloc (.cells z t)).setRow W.heap.size cs).heap.size) :
    W2.heap[W.heap.size]? = some (.cells cs t (0, 0)) ∧ W2.heap.size = W.heap.size + 1 ∧ Below r W W2 ∧ KF r W ((W.alloc (.cells z t)).setRow W.heap.size cs) := by
  have h0 : ((W.alloc (.cells z t)).setRow W.heap.size cs).heap.size = W.heap.size + 1 := by simp
  have hk : ∀ j, j < W.heap.size → ((W.alloc (.cells z t)).setRow W.heap.size cs).heap[j]? = W.heap[j]? := fun j hj => by
    rw [setRow_other _ _ _ _ (by omega)]; exact Below.heap_alloc _ _ _ hj
  refine ⟨?_, by rw [hs, h0], ⟨hg.os, hg.tape, hg.output, by rw [hs, h0]; omega, fun j hj => ?_⟩, ⟨by rw [h0]; omega, fun j _ hj => hk j hj⟩⟩
  · rw [hg.block _ (by rw [h0]; omega) (by intro e; cases e; omega)]
    exact setRow_heap _ _ _ _ _ _ (heap_alloc_new _ _)
  · rw [hg.block _ (by rw [h0]; omega) (by intro e; cases e; omega)]
    exact hk j (by omega)
theorem kf_box (lo : Nat) (W : World) (z cs : Array Value) (t : TypeId) : KF lo W ((W.alloc (.cells z t)).setRow W.heap.size cs) :=
  ⟨by simp, fun j _ hj => by rw [setRow_other _ _ _ _ (by omega)]; exact Below.heap_alloc _ _ _ hj⟩
theorem below_box (W : World) (z cs : Array Value) (t : TypeId) : Below W.heap.size W ((W.alloc (.cells z t)).setRow W.heap.size cs) :=
  ⟨rfl, rfl, rfl, by simp, fun j hj => by rw [setRow_other _ _ _ _ (by omega)]; exact Below.heap_alloc _ _ _ hj⟩
theorem heap_box (W : World) (z cs : Array Value) (t : TypeId) : ((W.alloc (.cells z t)).setRow W.heap.size cs).heap[W.heap.size]? = some (.cells cs t (0, 0)) :=
  setRow_heap _ _ _ _ _ _ (heap_alloc_new _ _)
theorem results_cell {P : Program} {fn : Func} {p : Tmp} {ty : TypeId} {tmps : Array Value} {w : World} {g : Nat} {v : Value} (h : fn.results = #[.cell p ty]) (hp : tmps.getD p undef = .pointer (some ⟨g, 0, none⟩))
    (hl : (loadVar ty ⟨g, 0, none⟩).run P w = .ok v w) : (results fn tmps).run P w = .ok v w := by
  have hp' : tmps[p]?.getD undef = .pointer (some ⟨g, 0, none⟩) := by simpa using hp
  simp [results, h, hp', asAddr, hl]
theorem results_cell2 {P : Program} {fn : Func} {p p' : Tmp} {ty ty' : TypeId} {tmps : Array Value} {w : World} {g g' : Nat} {v v' : Value} (h : fn.results = #[.cell p ty, .cell p' ty']) (hp : tmps.getD p undef = .pointer (some ⟨g, 0, none⟩)) (hp2 : tmps.getD p' undef = .pointer (some ⟨g', 0, none⟩))
    (hl : (loadVar ty ⟨g, 0, none⟩).run P w = .ok v w) (hl' : (loadVar ty' ⟨g', 0, none⟩).run P w = .ok v' w) : (results fn tmps).run P w = .ok (.tuple #[v, v']) w := by
  have hp' : tmps[p]?.getD undef = .pointer (some ⟨g, 0, none⟩) := by simpa using hp
  have hp2' : tmps[p']?.getD undef = .pointer (some ⟨g', 0, none⟩) := by simpa using hp2
  simp [results, h, hp', hp2', asAddr, hl, hl']
theorem cell_put {W : World} {a : Addr} {v : Value} (r : Nat) (o : Obj) (h : W.cell? a = some v) (hr : a.block ≠ r) : (W.putObj r o).cell? a = some v :=
  (World.cell?_of_block (w := W) (World.putObj_heap_other hr)).trans h
theorem below_put {a W : World} (h : Below a.heap.size a W) {r : Nat} (o : Obj) (hr : a.heap.size ≤ r) : Below a.heap.size a (W.putObj r o) :=
  bgr h (grownBy_putObj' W r o) (fun k e => by cases e; exact hr)
end Go.Proofs.Ytjajdpggoggoiaa

namespace Go.Proofs.Ytjajdpggoggoiaa
open Go.RowKit Go.Shelf

section
variable {P : Program} {ops : Array Oper} {md : Region.Mode} {C : World → Prop}
/-- Some order of the first f operations that come up, all of the head; then L. -/
def headThen (P : Program) (md : Region.Mode) (ops : Array Oper) (C : World → Prop) (n : Nat) (L : Array Bool → Act → Prop) : Nat → Array Bool → Act → Prop
  | 0, listed, a => L listed a
  | f + 1, listed, a => Region.ready md ops listed ≠ [] ∧ ∀ i ∈ Region.ready md ops listed, i < n ∧ qOp P ops C i (headThen P md ops C n L f (listed.setIfInBounds i true)) a
theorem any_of_headThen {n g : Nat} {L : Array Bool → Act → Prop} {Q' : Exit → Act → World → Prop} (hL : ∀ listed a w, C w → L listed a → wpAny P md ops Q' g listed a w) :
    ∀ (f : Nat) (listed : Array Bool) (a : Act) (w : World), C w → headThen P md ops C n L f listed a → wpAny P md ops Q' (f + g) listed a w
  | 0, listed, a, w, hw, h => by rw [Nat.zero_add]; exact hL _ _ _ hw h
  | f + 1, listed, a, w, hw, h => by
    rw [show f + 1 + g = (f + g) + 1 by omega]
    exact ⟨fun h0 => absurd h0 h.1, fun i hi => wpOp_of_qOp hw (fun a' w' hw' h' => any_of_headThen hL f _ a' w' hw' h') (h.2 i hi).2⟩
/-- An operation of the head that may come up now may be taken first. -/
theorem headThen_first {n i : Nat} {oi : Oper} {v : Value} {L : Array Bool → Act → Prop} (hi : ops[i]? = some oi) (hsel : ∀ (j : Nat) (o : Oper) cs b, ops[j]? = some o → o.op ≠ .select cs b)
    (hwait : ∀ listed, HeadInv md ops n listed → ∀ i, i < n → listed.getD i true = false → ∀ t, n ≤ t → t ∉ Region.ready md ops listed) (hin : i < n) (hdone : ∀ listed a, L listed a → ∀ j ∈ Region.ready md ops listed, n ≤ j) :
    ∀ (f : Nat) (listed : Array Bool) (a : Act), HeadInv md ops n listed →
      (∀ j oj, ops[j]? = some oj → j ≠ i → listed.getD j true = false → (∀ e ∈ oj.after, Region.binds md e = true → e.on ≠ i) → oi.apart ops oj = true) →
      i ∈ Region.ready md ops listed → YieldsIn P ops C oi v a →
      headThen P md ops C n L f (listed.setIfInBounds i true) (a.put oi.dst v) → headThen P md ops C n L (f + 1) listed a := by
  intro f
  induction f with
  | zero =>
    intro listed a inv _ hr hy H
    refine ⟨fun h => (by rw [h] at hr; cases hr), fun j hj => ?_⟩
    have hjn : j < n := Nat.lt_of_not_le fun h => absurd hj (hwait _ inv i hin (mem_ready.1 hr).1 j h)
    refine ⟨hjn, ?_⟩
    by_cases hji : j = i
    · subst hji; exact hy.qOp hi H
    · have := hdone _ _ H j (ready_mono hj hji)
      omega
  | succ f ih =>
    intro listed a inv hfree hr hy H
    refine ⟨fun h => (by rw [h] at hr; cases hr), fun j hj => ?_⟩
    have hjn : j < n := Nat.lt_of_not_le fun h => absurd hj (hwait _ inv i hin (mem_ready.1 hr).1 j h)
    refine ⟨hjn, ?_⟩
    by_cases hji : j = i
    · subst hji; exact hy.qOp hi H
    obtain ⟨hjun, oj, hoj, hall⟩ := mem_ready.1 hj
    have hnot : ∀ e ∈ oj.after, Region.binds md e = true → e.on ≠ i := by
      intro e he hb heq
      have h1 := hall e he hb
      rw [heq, getD_both (mem_ready.1 hr).1] at h1
      cases h1
    refine qOp_mono (fun a' h3 => ih (listed.setIfInBounds j true) a' (inv.set hj hjn) ?_ (ready_mono hr (Ne.symm hji)) h3.1 ?_)
      (qOp_put hoj (hfree j oj hoj hji hjun hnot) (fun cs b => hsel i oi cs b hi) (fun cs b => hsel j oj cs b hoj) hy (H.2 j (ready_mono hj hji)).2)
    · intro k ok hk hki hun hno
      refine hfree k ok hk hki ?_ hno
      by_cases hjk : j = k
      · subst hjk; exact hjun
      · rw [getD_set_ne true hjk] at hun; exact hun
    · rw [Array.setIfInBounds_comm _ _ hji]
      exact h3.2
theorem headThen_lex {n g : Nat} {Lq : Act → Prop} (hsel : Region.noSelect ops = true) (hs : Region.sinkB md ops n = true) (hc : Region.chainB md ops n = true) (hn : n < ops.size) :
    ∀ (l : List Oper) (k : Nat) (listed : Array Bool) (a : Act), (∀ j, j < l.length → l[j]? = ops[k + j]?) → k + l.length = n → HeadInv md ops n listed →
    Region.lexHead md ops g l.length k listed = true → wpQuiet P ops C Lq l a →
    headThen P md ops C n (fun listed' a' => Region.seqB md ops g n listed' = true ∧ Lq a') l.length listed a
  | [], k, listed, a, _, hk, _, hB, h => by
    obtain rfl : k = n := by simpa using hk
    exact ⟨by simpa [Region.lexHead] using hB, h⟩
  | o :: l, k, listed, a, hl, hk, inv, hB, h => by
    have h0 : ops[k]? = some o := by simpa using (hl 0 (by simp)).symm
    simp only [List.length_cons, Region.lexHead, Bool.and_eq_true] at hB hk
    obtain ⟨⟨hr, hf⟩, hB'⟩ := hB
    have hr' : k ∈ Region.ready md ops listed := by simpa using hr
    have hst : qOp P ops C k (wpQuiet P ops C Lq l) a := by unfold qOp; simp only [h0]; exact h
    obtain ⟨v, hy, hK⟩ := yieldsIn_of_qOp h0 hst
    exact headThen_first h0 (Region.noSelect_spec hsel) (fun listed inv i hi hu => tail_waits hs hc hn inv _ i rfl hi hu) (by omega) (fun listed' a' hL => seqB_ready hL.1) l.length listed a inv (Region.free_spec h0 hf) hr' hy
      (headThen_lex hsel hs hc hn l (k + 1) _ _ (fun j hj => by have := hl (j + 1) (by simp; omega); simpa [Nat.add_assoc, Nat.add_comm 1 j] using this) (by omega) (inv.set hr' (by omega)) hB' hK)

theorem any_head_tail {Q : Exit → Act → World → Prop} {a : Act} {w : World} {l : List Oper} (n : Nat) (hB : Region.lexTailB .any l.toArray n = true) (hC : C w)
    (h : wpQuiet P l.toArray C (fun a' => ∀ w', C w' → wpList P l.toArray Q (l.drop n) a' w') (l.take n) a) : wpAny P .any l.toArray Q l.toArray.size (Array.replicate l.toArray.size false) a w := by
  simp only [Region.lexTailB, Bool.and_eq_true, decide_eq_true_eq] at hB
  obtain ⟨⟨⟨⟨hsel, hn⟩, hs⟩, hc⟩, hlex⟩ := hB
  have hn' : n < l.length := by simpa using hn
  have htl : (l.take n).length = n := by simp; omega
  have hdl : (l.drop n).length = l.toArray.size - n := by simp
  have inv0 : HeadInv .any l.toArray n (Array.replicate l.toArray.size false) :=
    ⟨by simp, fun j oj _ hl => (by rw [getD_replicate_false] at hl; cases hl), fun t _ ht => getD_in (by simpa using ht) (getD_replicate_false _ _)⟩
  have H := headThen_lex (md := .any) (g := l.toArray.size - n) hsel hs hc hn (l.take n) 0 _ a (fun j hj => by
    have hj' : j < n := by rw [htl] at hj; exact hj
    simp [hj']) (by simpa using htl) inv0 (by rw [htl]; exact hlex) h
  have := any_of_headThen (Q' := Q) (g := l.toArray.size - n) (fun listed a' w' hw' hL => by
    have := wpAny_of_seq (md := .any) (Q' := Q) (l.drop n) n listed a' w' (fun j => by simp [List.getElem?_drop]) (by rw [hdl]; exact hL.1) (hL.2 w' hw')
    rwa [hdl] at this) _ _ _ _ hC H
  rw [htl, show n + (l.toArray.size - n) = l.toArray.size by omega] at this
  exact this

/-- Every operation of the tail waits, itself or by an earlier one of the tail, for all of the head. -/
def tailB (md : Region.Mode) (ops : Array Oper) (n : Nat) : Bool :=
  (List.range ops.size).all fun t => decide (t < n) || (List.range t).any (fun t' => decide (n ≤ t') && Region.waitsFor md ops t t') ||
    (List.range n).all fun i => (List.range n).any (fun j => decide (i < j) && Region.waitsFor md ops j i) || Region.waitsFor md ops t i
theorem not_ready_of_waits {listed : Array Bool} {t i : Nat} (h : Region.waitsFor md ops t i = true) (hu : listed.getD i false = false) : t ∉ Region.ready md ops listed := by
  intro hr
  obtain ⟨_, ot, hot, hall⟩ := mem_ready.1 hr
  obtain ⟨o', ho', e, he, hb, hon⟩ := Region.waitsFor_spec h
  obtain rfl : o' = ot := Option.some.inj (ho'.symm.trans hot)
  have := hall e he hb
  rw [hon, hu] at this
  cases this
theorem tailB_waits {n : Nat} (h : tailB md ops n = true) : ∀ listed, HeadInv md ops n listed → ∀ i, i < n → listed.getD i true = false → ∀ t, n ≤ t → t ∉ Region.ready md ops listed := by
  intro listed inv i hi hu t ht
  by_cases hts : t < ops.size
  · have h1 := List.all_eq_true.1 h t (List.mem_range.2 hts)
    simp only [Bool.or_eq_true, decide_eq_true_eq] at h1
    rcases h1 with (h1 | h1) | h1
    · omega
    · obtain ⟨t', ht', h2⟩ := List.any_eq_true.1 h1
      simp only [Bool.and_eq_true, decide_eq_true_eq] at h2
      exact not_ready_of_waits h2.2 (getD_both (inv.tail t' h2.1 (by have := List.mem_range.1 ht'; omega)))
    · have key : ∀ d i, n - i = d → i < n → listed.getD i true = false → t ∉ Region.ready md ops listed := by
        intro d
        induction d using Nat.strongRecOn with
        | _ d ih =>
          intro i hd hi hu
          have h2 := List.all_eq_true.1 h1 i (List.mem_range.2 hi)
          simp only [Bool.or_eq_true] at h2
          rcases h2 with h2 | h2
          · obtain ⟨j, hj, h3⟩ := List.any_eq_true.1 h2
            simp only [Bool.and_eq_true, decide_eq_true_eq] at h3
            have hjn := List.mem_range.1 hj
            obtain ⟨oj, hoj, e, he, hb, hon⟩ := Region.waitsFor_spec h3.2
            cases hl : listed.getD j false with
            | true =>
              have h4 := inv.closed j oj hoj hl e he hb
              rw [hon, getD_both hu] at h4
              cases h4
            | false =>
              have hjs : j < listed.size := by rw [inv.size]; exact (Array.getElem?_eq_some_iff.1 hoj).1
              exact ih (n - j) (by omega) j rfl hjn (getD_in hjs hl)
          · exact not_ready_of_waits h2 (getD_both hu)
      exact key _ i rfl hi hu
  · intro hr
    obtain ⟨_, ot, hot, _⟩ := mem_ready.1 hr
    exact hts (Array.getElem?_eq_some_iff.1 hot).1
/-- The head in the text's order; what is listed behind it. -/
def lexHd (md : Region.Mode) (ops : Array Oper) : Nat → Nat → Array Bool → Bool
  | 0, _, _ => true
  | f + 1, k, listed => (Region.ready md ops listed).contains k && Region.free md ops listed k && lexHd md ops f (k + 1) (listed.setIfInBounds k true)
def marked : Nat → Nat → Array Bool → Array Bool
  | 0, _, listed => listed
  | f + 1, k, listed => marked f (k + 1) (listed.setIfInBounds k true)
theorem headThen_lex2 {n : Nat} {Lq : Act → Prop} (hsel : Region.noSelect ops = true) (hw : tailB md ops n = true) (hlist : Array Bool) (hdone : ∀ j ∈ Region.ready md ops hlist, n ≤ j) :
    ∀ (l : List Oper) (k : Nat) (listed : Array Bool) (a : Act), (∀ j, j < l.length → l[j]? = ops[k + j]?) → k + l.length = n → HeadInv md ops n listed → marked l.length k listed = hlist →
    lexHd md ops l.length k listed = true → wpQuiet P ops C Lq l a →
    headThen P md ops C n (fun listed' a' => listed' = hlist ∧ Lq a') l.length listed a
  | [], k, listed, a, _, hk, _, hm, hB, h => ⟨hm, h⟩
  | o :: l, k, listed, a, hl, hk, inv, hm, hB, h => by
    have h0 : ops[k]? = some o := by simpa using (hl 0 (by simp)).symm
    simp only [List.length_cons, lexHd, Bool.and_eq_true] at hB hk
    obtain ⟨⟨hr, hf⟩, hB'⟩ := hB
    have hr' : k ∈ Region.ready md ops listed := by simpa using hr
    have hst : qOp P ops C k (wpQuiet P ops C Lq l) a := by unfold qOp; simp only [h0]; exact h
    obtain ⟨v, hy, hK⟩ := yieldsIn_of_qOp h0 hst
    exact headThen_first h0 (Region.noSelect_spec hsel) (tailB_waits hw) (by omega) (fun listed' a' hL => by rw [hL.1]; exact hdone) l.length listed a inv (Region.free_spec h0 hf) hr' hy
      (headThen_lex2 hsel hw hlist hdone l (k + 1) _ _ (fun j hj => by have := hl (j + 1) (by simp; omega); simpa [Nat.add_assoc, Nat.add_comm 1 j] using this) (by omega) (inv.set hr' (by omega)) hm hB' hK)
def headB (md : Region.Mode) (ops : Array Oper) (n : Nat) : Bool :=
  Region.noSelect ops && decide (n < ops.size) && tailB md ops n && lexHd md ops n 0 (Array.replicate ops.size false) && (Region.ready md ops (marked n 0 (Array.replicate ops.size false))).all (fun j => decide (n ≤ j))
/-- Quiet operations first; what comes behind them in whatever order. -/
theorem any_head_any {Q : Exit → Act → World → Prop} {a : Act} {w : World} {l : List Oper} (n : Nat) (hB : headB .any l.toArray n = true) (hC : C w)
    (h : wpQuiet P l.toArray C (fun a' => ∀ w', C w' → wpAny P .any l.toArray Q (l.length - n) (marked n 0 (Array.replicate l.toArray.size false)) a' w') (l.take n) a) : wpAny P .any l.toArray Q l.toArray.size (Array.replicate l.toArray.size false) a w := by
  simp only [headB, Bool.and_eq_true, decide_eq_true_eq] at hB
  obtain ⟨⟨⟨⟨hsel, hn⟩, hw⟩, hlex⟩, hd⟩ := hB
  have hn' : n < l.length := by simpa using hn
  have htl : (l.take n).length = n := by simp; omega
  have inv0 : HeadInv .any l.toArray n (Array.replicate l.toArray.size false) :=
    ⟨by simp, fun j oj _ hl => (by rw [getD_replicate_false] at hl; cases hl), fun t _ ht => getD_in (by simpa using ht) (getD_replicate_false _ _)⟩
  have H := headThen_lex2 (md := .any) hsel hw _ (fun j hj => by simpa using List.all_eq_true.1 hd j hj) (l.take n) 0 _ a (fun j hj => by
    have hj' : j < n := by rw [htl] at hj; exact hj
    simp [hj']) (by simpa using htl) inv0 (by rw [htl]) (by rw [htl]; exact hlex) h
  have := any_of_headThen (Q' := Q) (g := l.length - n) (fun listed a' w' hw' hL => by
    obtain ⟨rfl, h2⟩ := hL
    exact h2 w' hw') _ _ _ _ hC H
  rw [htl, show n + (l.length - n) = l.toArray.size by simp; omega] at this
  exact this

/-- From an operation outside a fence to one inside the fence of everything. -/
theorem inOp_of_op {m : Nat} {r : Option Nat} {Q : Exit → Act → World → Prop} (hd : ∀ (i : Nat) (o : Oper), ops[i]? = some o → ∀ c, o.op ≠ .defer c) (hout : ¬ LetsOut Q) {i : Nat} {K K' : Act → World → Prop} {a : Act} {w : World} (hK : ∀ a w, K a w → K' a w)
    (h : wpOp P ops Q i K a w) : wpOpIn (WF r) m P ops Q i K' a w := by
  unfold wpOp at h
  unfold wpOpIn
  cases ho : ops[i]? with
  | none => simp only [ho] at h; exact hK _ _ h
  | some o =>
    simp only [ho] at h ⊢
    by_cases hw : Region.wanted o (yielded ops a.tmps) = true
    · simp only [hw, if_true] at h ⊢
      rcases h with h | ⟨_, h⟩
      · unfold Oper.wp at h
        refine ⟨fun _ _ => trivial, ?_⟩
        have e : o.semAt (WF r).round a.eval = execOp a.eval o := Oper.semAt_eq _ _ _ (hd i o ho)
        rw [e]
        generalize (execOp a.eval o).run P w = res at *
        cases res with
        | ok x w' =>
          cases x <;> simp only [Oper.upon] at h <;> simp only [Oper.uponIn]
          case value u => exact hK _ _ h
          case skip => exact hK _ _ h
          case defer d => exact hK _ _ h
          case enter f args =>
            refine ⟨fun hh => by simp [Fence.wide] at hh, ?_⟩
            refine (show CallsIn Fence.wide (m - 1) P f args w' _ from callsIn_wide.2 (h.mono fun e w'' he => ?_))
            cases e with
            | returned v => exact hK _ _ he
            | panicked c => exact he
            | outgrown => exact he
          case row row args =>
            refine ⟨fun hh => by simp [Fence.wide] at hh, fun c cs _ => ?_⟩
            obtain ⟨v, w2, h1, h2⟩ := h c cs
            exact ⟨v, w2, hK _ _ h1, stepsIn_wide.2 h2⟩
        | halt x w' => cases x <;> simp only [Oper.upon] at h <;> simp only [Oper.uponIn] <;> exact h
      · exact absurd h hout
    · simp only [hw] at h ⊢
      exact ⟨fun _ _ => trivial, hK _ _ h⟩
theorem inAny_of_any {m : Nat} {r : Option Nat} {Q : Exit → Act → World → Prop} (hd : ∀ (i : Nat) (o : Oper), ops[i]? = some o → ∀ c, o.op ≠ .defer c) (hout : ¬ LetsOut Q) :
    ∀ (fuel : Nat) (listed : Array Bool) (a : Act) (w : World), wpAny P md ops Q fuel listed a w → wpAnyIn (WF r) m P md ops Q fuel listed a w
  | 0, _, _, _, h => h
  | fuel + 1, _, _, _, h => ⟨h.1, fun i hi => inOp_of_op hd hout (fun a' w' => inAny_of_any hd hout fuel _ a' w') (h.2 i hi)⟩
theorem noDefer_spec {l : List Oper} (hd : noDefer l = true) : ∀ (i : Nat) (o : Oper), l.toArray[i]? = some o → ∀ c, o.op ≠ .defer c := by
  intro i o ho c e
  have hm : o ∈ l := by rw [List.getElem?_toArray] at ho; exact List.mem_of_getElem? ho
  have := List.all_eq_true.1 hd o hm
  rw [e] at this
  simp at this

/-- Quiet operations, then a tail: outside a fence. -/
theorem wp_region_tail {id : Nat} {Q : Exit → Act → World → Prop} {a : Act} {w : World} {l : List Oper} (n : Nat) (hm : P.follows .mixedOrders = true) (hB : Region.lexTailB .any l.toArray n = true)
    (h : wpQuiet P l.toArray (fun w' => ∃ x : Later w, w' = x.val) (fun a' => ∀ w', (∃ x : Later w, w' = x.val) → wpList P l.toArray Q (l.drop n) a' w') (l.take n) a) : (Code.region id l.toArray true).wp P Q a w :=
  wp_region_any hm (any_head_tail n hB ⟨⟨_, Below.drew (Below.refl _ _)⟩, rfl⟩ h)
/-- .. in the fence of everything. -/
theorem in_region_tail {id m : Nat} {r : Option Nat} {Q : Exit → Act → World → Prop} {a : Act} {w : World} {l : List Oper} (n : Nat) (hm : P.follows .mixedOrders = true) (hB : Region.lexTailB .any l.toArray n = true) (hd : noDefer l = true) (hout : ¬ LetsOut Q)
    (h : wpQuiet P l.toArray (fun w' => ∃ x : Later w, w' = x.val) (fun a' => ∀ w', (∃ x : Later w, w' = x.val) → wpList P l.toArray Q (l.drop n) a' w') (l.take n) a) : (Code.region id l.toArray true).wpIn (WF r) m P Q a w :=
  wpIn_region_any hm (inAny_of_any (noDefer_spec hd) hout _ _ _ _ (any_head_tail n hB ⟨⟨_, Below.drew (Below.refl _ _)⟩, rfl⟩ h))
/-- .. with a tail in whatever order: outside a fence, and in the fence of everything. -/
theorem wp_region_head {id : Nat} {Q : Exit → Act → World → Prop} {a : Act} {w : World} {l : List Oper} (n : Nat) (hm : P.follows .mixedOrders = true) (hB : headB .any l.toArray n = true)
    (h : wpQuiet P l.toArray (fun w' => ∃ x : Later w, w' = x.val) (fun a' => ∀ w', (∃ x : Later w, w' = x.val) → wpAny P .any l.toArray Q (l.length - n) (marked n 0 (Array.replicate l.toArray.size false)) a' w') (l.take n) a) : (Code.region id l.toArray true).wp P Q a w :=
  wp_region_any hm (any_head_any n hB ⟨⟨_, Below.drew (Below.refl _ _)⟩, rfl⟩ h)
theorem in_region_head {id m : Nat} {r : Option Nat} {Q : Exit → Act → World → Prop} {a : Act} {w : World} {l : List Oper} (n : Nat) (hm : P.follows .mixedOrders = true) (hB : headB .any l.toArray n = true) (hd : noDefer l = true) (hout : ¬ LetsOut Q)
    (h : wpQuiet P l.toArray (fun w' => ∃ x : Later w, w' = x.val) (fun a' => ∀ w', (∃ x : Later w, w' = x.val) → wpAny P .any l.toArray Q (l.length - n) (marked n 0 (Array.replicate l.toArray.size false)) a' w') (l.take n) a) : (Code.region id l.toArray true).wpIn (WF r) m P Q a w :=
  wpIn_region_any hm (inAny_of_any (noDefer_spec hd) hout _ _ _ _ (any_head_any n hB ⟨⟨_, Below.drew (Below.refl _ _)⟩, rfl⟩ h))
end
end Go.Proofs.Ytjajdpggoggoiaa

namespace Go.Proofs.Ytjajdpggoggoiaa
open Go.RowKit Go.Shelf

section
variable {P : Program} {ops : Array Oper} {md : Region.Mode} {S : World → Prop} {Q : Exit → Act → World → Prop}

def wpAnyU (P : Program) (md : Region.Mode) (ops : Array Oper) (Q : Exit → Act → World → Prop) (S : World → Prop) (need : Nat → Bool) : Nat → Array Bool → Act → World → Prop
  | 0, listed, a, w => Region.ready md ops listed = [] ∧ Q .normal a w
  | fuel + 1, listed, a, w =>
    (Region.ready md ops listed = [] → Q .normal a w) ∧
    ∀ i ∈ Region.ready md ops listed, wpOp P ops Q i (fun a' w' => (need i = true → S w') ∧ wpAnyU P md ops Q S need fuel (listed.setIfInBounds i true) a' w') a w
theorem wpAny_of_U {need : Nat → Bool} : ∀ (fuel : Nat) (listed : Array Bool) (a : Act) (w : World), wpAnyU P md ops Q S need fuel listed a w → wpAny P md ops Q fuel listed a w
  | 0, _, _, _, h => h
  | fuel + 1, _, _, _, h => ⟨h.1, fun i hi => wpOp_mono (fun a' w' h' => wpAny_of_U fuel _ a' w' h'.2) (h.2 i hi)⟩

def ClosedL (md : Region.Mode) (ops : Array Oper) (listed : Array Bool) : Prop :=
  ∀ j oj, ops[j]? = some oj → listed.getD j false = true → ∀ e ∈ oj.after, Region.binds md e = true → listed.getD e.on false = true
theorem ClosedL.set {i : Nat} {listed : Array Bool} (h : ClosedL md ops listed) (hi : i ∈ Region.ready md ops listed) : ClosedL md ops (listed.setIfInBounds i true) := by
  obtain ⟨_, oi, hoi, hall⟩ := mem_ready.1 hi
  intro j oj hj hl e he hb
  by_cases hij : i = j
  · subst hij
    obtain rfl : oj = oi := Option.some.inj (hj.symm.trans hoi)
    exact getD_set_true (hall e he hb)
  · rw [getD_set_ne false hij] at hl
    exact getD_set_true (h j oj hj hl e he hb)

theorem wpAnyU_first {need : Nat → Bool} {i : Nat} {oi : Oper} {v : Value} (hi : ops[i]? = some oi) (hsel : ∀ (j : Nat) (o : Oper) cs b, ops[j]? = some o → o.op ≠ .select cs b)
    (hQ : ∀ c a w, Q (.panic c) (a.put oi.dst v) w → Q (.panic c) a w)
    (hwait : ∀ listed, ClosedL md ops listed → listed.getD i true = false → ∀ j ∈ Region.ready md ops listed, j ≠ i → need j = true) :
    ∀ (fuel : Nat) (listed : Array Bool) (a : Act) (w : World), ClosedL md ops listed →
      (∀ j oj, ops[j]? = some oj → j ≠ i → listed.getD j true = false → (∀ e ∈ oj.after, Region.binds md e = true → e.on ≠ i) → oi.apart ops oj = true) →
      i ∈ Region.ready md ops listed → YieldsIf P ops S oi v a → S w →
      wpAnyU P md ops Q S need fuel (listed.setIfInBounds i true) (a.put oi.dst v) w → wpAnyU P md ops Q S need (fuel + 1) listed a w := by
  intro fuel
  induction fuel with
  | zero =>
    intro listed a w _ _ hr hy hS H
    refine ⟨fun h => (by rw [h] at hr; cases hr), fun j hj => ?_⟩
    by_cases hji : j = i
    · subst hji; exact hy.wpOp hi hS ⟨fun _ => hS, H⟩
    · have := ready_mono hj hji
      rw [H.1] at this
      cases this
  | succ fuel ih =>
    intro listed a w hcl hfree hr hy hS H
    refine ⟨fun h => (by rw [h] at hr; cases hr), fun j hj => ?_⟩
    by_cases hji : j = i
    · subst hji; exact hy.wpOp hi hS ⟨fun _ => hS, H⟩
    · have h1 := H.2 j (ready_mono hj hji)
      have hneed := hwait listed hcl (mem_ready.1 hr).1 j hj hji
      obtain ⟨hjun, oj, hoj, hall⟩ := mem_ready.1 hj
      have hnot : ∀ e ∈ oj.after, Region.binds md e = true → e.on ≠ i := fun e he hb heq => by
        have h1 := hall e he hb
        rw [heq, getD_both (mem_ready.1 hr).1] at h1
        cases h1
      have h2 := wpOp_putIf hoj (hfree j oj hoj hji hjun hnot) (fun cs b => hsel i oi cs b hi) (fun cs b => hsel j oj cs b hoj) hQ hy h1
      refine wpOp_mono (fun a' w' h3 => ⟨h3.2.1, ih (listed.setIfInBounds j true) a' w' (hcl.set hj) ?_ (ready_mono hr (Ne.symm hji)) h3.1 (h3.2.1 hneed) ?_⟩) h2
      · intro k ok hk hki hun hno
        refine hfree k ok hk hki ?_ hno
        by_cases hjk : j = k
        · subst hjk; exact hjun
        · rw [getD_set_ne true hjk] at hun; exact hun
      · rw [Array.setIfInBounds_comm _ _ hji]
        exact h3.2.2

/-! Who waits for whom. -/
inductive Anc (md : Region.Mode) (ops : Array Oper) : Nat → Nat → Prop
  | one {t : Nat} {o : Oper} {e : _} : ops[t]? = some o → e ∈ o.after → Region.binds md e = true → Anc md ops e.on t
  | more {h t : Nat} {o : Oper} {e : _} : Anc md ops h e.on → ops[t]? = some o → e ∈ o.after → Region.binds md e = true → Anc md ops h t
theorem Anc.closed {h t : Nat} {listed : Array Bool} (hc : ClosedL md ops listed) (H : Anc md ops h t) : listed.getD t false = true → listed.getD h false = true := by
  induction H with
  | one ht he hb => exact fun hl => hc _ _ ht hl _ he hb
  | more _ ht he hb ih => exact fun hl => ih (hc _ _ ht hl _ he hb)
theorem Anc.listed {h t : Nat} {listed : Array Bool} (hc : ClosedL md ops listed) (H : Anc md ops h t) (hr : t ∈ Region.ready md ops listed) : listed.getD h false = true := by
  obtain ⟨_, o', ho', hall⟩ := mem_ready.1 hr
  cases H with
  | one ht he hb =>
    obtain rfl := Option.some.inj (ho'.symm.trans ht)
    exact hall _ he hb
  | more H ht he hb =>
    obtain rfl := Option.some.inj (ho'.symm.trans ht)
    exact H.closed hc (hall _ he hb)
def depsL (md : Region.Mode) (ops : Array Oper) (t : Nat) : List Nat :=
  match ops[t]? with
  | none => []
  | some o => (o.after.toList.filter fun e => Region.binds md e).map fun e => e.on
def growL (md : Region.Mode) (ops : Array Oper) : Nat → List Nat → List Nat → List Nat
  | 0, seen, _ => seen
  | f + 1, seen, front => growL md ops f (seen ++ ((front.flatMap (depsL md ops)).filter fun x => !seen.contains x).eraseDups) ((front.flatMap (depsL md ops)).filter fun x => !seen.contains x).eraseDups
theorem deps_anc {t x : Nat} (h : x ∈ depsL md ops t) : Anc md ops x t := by
  unfold depsL at h
  split at h
  · cases h
  · rename_i o ho
    obtain ⟨e, he, rfl⟩ := List.mem_map.1 h
    obtain ⟨he, hb⟩ := List.mem_filter.1 he
    exact .one ho (by simpa using he) hb
theorem anc_trans {a b t : Nat} (h1 : Anc md ops a b) (h2 : Anc md ops b t) : Anc md ops a t := by
  revert h1
  induction h2 with
  | one ht he hb => exact fun h1 => .more h1 ht he hb
  | more _ ht he hb ih => exact fun h1 => .more (ih h1) ht he hb
theorem grow_anc {t : Nat} : ∀ (f : Nat) (seen front : List Nat), (∀ x ∈ seen, Anc md ops x t) → (∀ x ∈ front, Anc md ops x t) → ∀ x ∈ growL md ops f seen front, Anc md ops x t
  | 0, _, _, h1, _, x, hx => h1 x hx
  | f + 1, seen, front, h1, h2, x, hx => by
    have hn : ∀ y ∈ ((front.flatMap (depsL md ops)).filter fun x => !seen.contains x).eraseDups, Anc md ops y t := by
      intro y hy
      have hy := List.mem_eraseDups.1 hy
      obtain ⟨hy, _⟩ := List.mem_filter.1 hy
      obtain ⟨z, hz, hyz⟩ := List.mem_flatMap.1 hy
      exact anc_trans (deps_anc hyz) (h2 z hz)
    exact grow_anc f _ _ (fun y hy => (List.mem_append.1 hy).elim (h1 y) (hn y)) hn x hx
def ancsL (md : Region.Mode) (ops : Array Oper) (t : Nat) : List Nat := growL md ops ops.size (depsL md ops t) (depsL md ops t)
theorem ancs_anc {t x : Nat} (h : x ∈ ancsL md ops t) : Anc md ops x t := grow_anc _ _ _ (fun _ => deps_anc) (fun _ => deps_anc) x h

/-! Operations that yield a value and do nothing else, if they come through. -/
def valOp : Op → Bool
  | .move _ | .assign _ | .pick .. | .build .. | .load .. | .fieldAddr .. | .field .. | .indexAddr .. | .index .. | .binOp .. | .unOp .. | .convert .. | .slice .. | .extract .. | .nilCheck _ => true
  | .call c => match c.callee with | .builtin .len | .builtin .min | .builtin .max => true | _ => false
  | _ => false
theorem vrun (s : Sem Value) (w : World) : ((do pure (Next.value (← s))) : Sem Next).run P w = (s.run P w).andThen fun v w' => .ok (.value v) w' := by
  rw [Sem.run_bind]; rfl
theorem val_run {o : Oper} {ρ : Operand → Value} (h : valOp o.op = true) (w : World) : (∃ v w', (execOp ρ o).run P w = .ok (.value v) w') ∨ ∃ x w', (execOp ρ o).run P w = .halt x w' := by
  have key : ∀ s : Sem Value, (∃ v w', ((do pure (Next.value (← s))) : Sem Next).run P w = .ok (.value v) w') ∨ ∃ x w', ((do pure (Next.value (← s))) : Sem Next).run P w = .halt x w' := by
    intro s
    rw [vrun]
    cases s.run P w with
    | ok v w' => exact .inl ⟨v, w', rfl⟩
    | halt x w' => exact .inr ⟨x, w', rfl⟩
  unfold execOp
  cases ho : o.op <;> simp only [ho, valOp] at h ⊢ <;> first | exact key _ | exact Bool.noConfusion h | skip
  case move x => exact .inl ⟨_, _, rfl⟩
  case assign x => exact .inl ⟨_, _, rfl⟩
  case pick c x y =>
    rw [Sem.run_bind]
    cases (asBool (ρ c)).run P w with
    | ok v w' => exact .inl ⟨_, w', rfl⟩
    | halt x w' => exact .inr ⟨x, w', rfl⟩
  case nilCheck x =>
    have rp : ∀ w, ∃ x w', ((runtimePanic .nilDeref : Sem Next).run P w) = .halt x w' := fun w => by simp [runtimePanic, goPanic]
    split
    · exact .inr (rp _)
    · exact .inr (rp _)
    · exact .inr (rp _)
    · split
      · exact .inr (rp _)
      · rw [Sem.run_bind]
        cases (program).run P w with
        | halt x w' => exact .inr ⟨x, w', rfl⟩
        | ok p w1 =>
          simp only [Result.andThen_ok, Sem.run_bind]
          generalize (nilAhead _ _ _ _).run P w1 = r
          cases r with
          | halt x w' => exact .inr ⟨x, w', rfl⟩
          | ok b w2 =>
            simp only [Result.andThen_ok]
            split
            · exact .inr (by simp [Result.andThen])
            · exact .inl ⟨_, _, rfl⟩
      · exact .inl ⟨_, _, rfl⟩
    · exact .inl ⟨_, _, rfl⟩
  case call c =>
    obtain ⟨cal, args, tys⟩ := c
    cases cal with
    | value f => simp at h
    | invoke r m => simp at h
    | builtin b =>
      cases b <;> simp at h
      · simp only [resolve, Sem.run_bind, Sem.run_pure, Result.andThen_ok, invoke, builtin]
        cases (Builtin.len_ tys o.type (Array.map ρ args)).run P w with
        | ok v w' => exact .inl ⟨v, w', rfl⟩
        | halt x w' => exact .inr ⟨x, w', rfl⟩
      · simp only [resolve, Sem.run_bind, Sem.run_pure, Result.andThen_ok, invoke, builtin]
        cases (Builtin.max_ tys o.type (Array.map ρ args)).run P w with
        | ok v w' => exact .inl ⟨v, w', rfl⟩
        | halt x w' => exact .inr ⟨x, w', rfl⟩
      · simp only [resolve, Sem.run_bind, Sem.run_pure, Result.andThen_ok, invoke, builtin]
        cases (Builtin.min_ tys o.type (Array.map ρ args)).run P w with
        | ok v w' => exact .inl ⟨v, w', rfl⟩
        | halt x w' => exact .inr ⟨x, w', rfl⟩
theorem yieldsIf_of_quiet {o : Oper} {rest : List Oper} {Lq : Act → Prop} {a : Act} (hv : valOp o.op = true) (h : wpQuiet P ops S Lq (o :: rest) a) :
    ∃ v, YieldsIf P ops S o v a ∧ wpQuiet P ops S Lq rest (a.put o.dst v) := by
  unfold wpQuiet at h
  by_cases hw : Region.wanted o (yielded ops a.tmps) = true
  · rw [if_pos hw] at h
    obtain ⟨v, h1, h2⟩ := h
    refine ⟨v, .inl ⟨hw, fun w' hw' => ?_⟩, h2⟩
    have h3 := h1 w' hw'
    unfold Oper.quietAt at h3
    rcases val_run (P := P) (ρ := a.eval) hv w' with ⟨u, w2, e⟩ | ⟨x, w2, e⟩
    · rw [e] at h3 ⊢
      obtain ⟨rfl, rfl⟩ := h3
      rfl
    · rw [e] at h3; exact h3.elim
  · rw [if_neg hw] at h
    exact ⟨undef, .inr ⟨by simpa using hw, rfl⟩, h⟩

/-! The walk. -/
def pickL (l : List Oper) : List Nat → List Oper
  | [] => []
  | k :: ks => match l[k]? with | some o => o :: pickL l ks | none => []
def segQ (Q : Exit → Act → World → Prop) (K : Act → World → Prop) : Exit → Act → World → Prop
  | .normal, a, w => K a w
  | e, a, w => Q e a w
def segK (nd : Bool) (S : World → Prop) (_ : Act) (w : World) (p : Prop) : Prop := (nd = true → S w) ∧ p
def flow (P : Program) (l : List Oper) (Q : Exit → Act → World → Prop) (S : World → Prop) : List (List Nat × Nat × Bool) → List Nat → Act → World → Prop
  | [], last, a, w => wpQuiet P l.toArray S (fun a' => Q .normal a' w) (pickL l last) a
  | (hs, c, nd) :: r, last, a, w => wpQuiet P l.toArray S (fun a' => wpList P l.toArray (segQ Q (fun a'' w'' => segK nd S a'' w'' (flow P l Q S r last a'' w''))) (pickL l [c]) a' w) (pickL l hs) a

def headsB (md : Region.Mode) (ops : Array Oper) : List Nat → Array Bool → Bool
  | [], _ => true
  | k :: ks, listed => (Region.ready md ops listed).contains k && Region.free md ops listed k && ((ops[k]?).map fun o => valOp o.op).getD false && headsB md ops ks (listed.setIfInBounds k true)
def markL : List Nat → Array Bool → Array Bool
  | [], listed => listed
  | k :: ks, listed => markL ks (listed.setIfInBounds k true)
def segsB (md : Region.Mode) (ops : Array Oper) (H : List Nat) : List (List Nat × Nat × Bool) → List Nat → Array Bool → Bool
  | [], last, listed => headsB md ops last listed && (Region.ready md ops (markL last listed)).isEmpty && last.all (fun k => H.contains k)
  | (hs, c, nd) :: r, last, listed => headsB md ops hs listed && decide (Region.ready md ops (markL hs listed) = [c]) && hs.all (fun k => H.contains k) &&
      (nd || (H.all (fun h => (ancsL md ops c).contains h) && r.all (fun s => s.1.isEmpty) && last.isEmpty)) && segsB md ops H r last ((markL hs listed).setIfInBounds c true)
def needB (segs : List (List Nat × Nat × Bool)) (j : Nat) : Bool := segs.all fun s => !(s.2.1 == j) || s.2.2
def fuelS (last : List Nat) : List (List Nat × Nat × Bool) → Nat
  | [] => last.length
  | (hs, _, _) :: r => hs.length + (fuelS last r + 1)
def flowB (md : Region.Mode) (ops : Array Oper) (pre : List Nat) (segs : List (List Nat × Nat × Bool)) (last : List Nat) : Bool :=
  Region.noSelect ops && segs.all (fun s => s.2.2 || (segs.flatMap (·.1) ++ last).all (fun h => (ancsL md ops s.2.1).contains h)) && decide (pre.length + fuelS last segs = ops.size) && headsB md ops pre (Array.replicate ops.size false) && segsB md ops (segs.flatMap (·.1) ++ last) segs last (markL pre (Array.replicate ops.size false))

theorem heads_U {need : Nat → Bool} (l : List Oper) (hsel : Region.noSelect l.toArray = true) (hQ : ∀ c a d v w, Q (.panic c) (Act.put a d v) w → Q (.panic c) a w) (H : List Nat)
    (hwait : ∀ i ∈ H, ∀ listed, ClosedL md l.toArray listed → listed.getD i true = false → ∀ j ∈ Region.ready md l.toArray listed, j ≠ i → need j = true) {w : World} {Lq : Act → Prop} (fuel : Nat) :
    ∀ (hs : List Nat) (listed : Array Bool) (a : Act), hs.all (fun k => H.contains k) = true → headsB md l.toArray hs listed = true → ClosedL md l.toArray listed → (hs ≠ [] → S w) →
      (∀ a', ClosedL md l.toArray (markL hs listed) → Lq a' → wpAnyU P md l.toArray Q S need fuel (markL hs listed) a' w) →
      wpQuiet P l.toArray S Lq (pickL l hs) a → wpAnyU P md l.toArray Q S need (hs.length + fuel) listed a w
  | [], listed, a, _, _, hc, _, hk, h => by rw [show ([] : List Nat).length + fuel = fuel by simp]; exact hk a hc h
  | k :: ks, listed, a, hH, hB, hc, hS, hk, h => by
    simp only [headsB, Bool.and_eq_true] at hB
    obtain ⟨⟨⟨hr, hf⟩, hv⟩, hB⟩ := hB
    simp only [List.all_cons, Bool.and_eq_true] at hH
    have hr' : k ∈ Region.ready md l.toArray listed := by simpa using hr
    obtain ⟨_, o, ho, _⟩ := mem_ready.1 hr'
    have hol : l[k]? = some o := by simpa using ho
    have hv' : valOp o.op = true := by rw [ho] at hv; exact hv
    simp only [pickL, hol] at h
    obtain ⟨v, hy, h2⟩ := yieldsIf_of_quiet hv' h
    rw [show (k :: ks).length + fuel = (ks.length + fuel) + 1 by simp; omega]
    refine wpAnyU_first ho (Region.noSelect_spec hsel) (fun c a w => hQ c a _ _ w) (hwait k (by simpa using hH.1)) _ _ _ _ hc (Region.free_spec ho hf) hr' hy (hS (by simp)) ?_
    exact heads_U l hsel hQ H hwait fuel ks _ _ hH.2 hB (hc.set hr') (fun _ => hS (by simp)) hk h2

theorem letsOut_seg {K : Act → World → Prop} : LetsOut (segQ Q K) = LetsOut Q := rfl
theorem wp_seg {o : Oper} {K : Act → World → Prop} {a : Act} {w : World} {K' : Act → World → Prop} (h : o.wp P a w K' (segQ Q K)) : o.wp P a w K' Q := by
  unfold Oper.wp at *
  generalize (execOp a.eval o).run P w = r at *
  cases r with
  | ok n w' =>
    cases n <;> simp only [Oper.upon] at h ⊢ <;> first
      | exact h
      | exact h.mono fun e w'' he => by cases e <;> exact he
  | halt x w' => cases x <;> simp only [Oper.upon] at h ⊢ <;> exact h

theorem segs_U {need : Nat → Bool} (l : List Oper) (hsel : Region.noSelect l.toArray = true) (hQ : ∀ c a d v w, Q (.panic c) (Act.put a d v) w → Q (.panic c) a w) (H : List Nat)
    (hwait : ∀ i ∈ H, ∀ listed, ClosedL md l.toArray listed → listed.getD i true = false → ∀ j ∈ Region.ready md l.toArray listed, j ≠ i → need j = true) (last : List Nat) :
    ∀ (segs : List (List Nat × Nat × Bool)) (listed : Array Bool) (a : Act) (w : World), (∀ s ∈ segs, need s.2.1 = true → s.2.2 = true) → segsB md l.toArray H segs last listed = true → ClosedL md l.toArray listed →
      (S w ∨ (segs.all (fun s => s.1.isEmpty) = true ∧ last = [])) → flow P l Q S segs last a w → wpAnyU P md l.toArray Q S need (fuelS last segs) listed a w
  | [], listed, a, w, _, hB, hc, hS, h => by
    simp only [segsB, Bool.and_eq_true] at hB
    obtain ⟨⟨hB, he⟩, hH⟩ := hB
    exact heads_U (need := need) l hsel hQ H hwait 0 last listed a hH hB hc (fun hne => hS.elim id fun h => absurd h.2 hne) (fun a' _ h' => ⟨by simpa using he, h'⟩) h
  | (hs, c, nd) :: r, listed, a, w, hnd, hB, hc, hS, h => by
    simp only [segsB, Bool.and_eq_true, decide_eq_true_eq] at hB
    obtain ⟨⟨⟨⟨hB, hone⟩, hH⟩, hnn⟩, hB'⟩ := hB
    have hr' : ∀ L, Region.ready md l.toArray L = [c] → c ∈ Region.ready md l.toArray L := fun L e => by rw [e]; simp
    refine heads_U (need := need) l hsel hQ H hwait (fuelS last r + 1) hs listed a hH hB hc (fun hne => hS.elim id fun h => absurd h.1 (by simp [hne])) (fun a' hc' h' => ?_) h
    refine ⟨fun h0 => (by rw [hone] at h0; cases h0), fun i hi => ?_⟩
    rw [hone] at hi
    obtain rfl : i = c := by simpa using hi
    have hrd := hr' _ hone
    obtain ⟨_, o, ho, _⟩ := mem_ready.1 hrd
    have hol : l[i]? = some o := by simpa using ho
    simp only [pickL, hol] at h'
    have hgo : ∀ a'' w'', (nd = true → S w'') ∧ flow P l Q S r last a'' w'' → (need i = true → S w'') ∧ wpAnyU P md l.toArray Q S need (fuelS last r) ((markL hs listed).setIfInBounds i true) a'' w'' := by
      intro a'' w'' ⟨h1, h2⟩
      refine ⟨fun hn => h1 (hnd (hs, i, nd) (by simp) hn), segs_U l hsel hQ H hwait last r _ _ _ (fun s hs => hnd s (by simp [hs])) hB' (hc'.set hrd) ?_ h2⟩
      simp only [Bool.or_eq_true, Bool.and_eq_true] at hnn
      rcases hnn with hnn | ⟨⟨_, hnn⟩, hl⟩
      · exact .inl (h1 hnn)
      · exact .inr ⟨hnn, by simpa using hl⟩
    unfold wpList at h'
    unfold wpOp
    simp only [ho]
    split
    · rename_i hw
      rw [if_pos hw] at h'
      rcases h' with h' | ⟨h1, h2⟩
      · exact .inl (Oper.wp_mono (fun a'' w'' h3 => hgo _ _ h3) (wp_seg h'))
      · exact .inr ⟨h1, h2⟩
    · rename_i hw
      rw [if_neg hw] at h'
      exact hgo _ _ h'

theorem pre_any (l : List Oper) (hsel : Region.noSelect l.toArray = true) (hQ : ∀ c a d v w, Q (.panic c) (Act.put a d v) w → Q (.panic c) a w) {w : World} {Lq : Act → Prop} (fuel : Nat) :
    ∀ (hs : List Nat) (listed : Array Bool) (a : Act), headsB md l.toArray hs listed = true → ClosedL md l.toArray listed →
      (∀ a', ClosedL md l.toArray (markL hs listed) → Lq a' → wpAny P md l.toArray Q fuel (markL hs listed) a' w) →
      wpQuiet P l.toArray (fun _ => True) Lq (pickL l hs) a → wpAny P md l.toArray Q (hs.length + fuel) listed a w
  | [], listed, a, _, hc, hk, h => by rw [show ([] : List Nat).length + fuel = fuel by simp]; exact hk a hc h
  | k :: ks, listed, a, hB, hc, hk, h => by
    simp only [headsB, Bool.and_eq_true] at hB
    obtain ⟨⟨⟨hr, hf⟩, hv⟩, hB⟩ := hB
    have hr' : k ∈ Region.ready md l.toArray listed := by simpa using hr
    obtain ⟨_, o, ho, _⟩ := mem_ready.1 hr'
    have hol : l[k]? = some o := by simpa using ho
    have hv' : valOp o.op = true := by rw [ho] at hv; exact hv
    simp only [pickL, hol] at h
    obtain ⟨v, hy, h2⟩ := yieldsIf_of_quiet hv' h
    rw [show (k :: ks).length + fuel = (ks.length + fuel) + 1 by simp; omega]
    refine wpAny_first ho (Region.noSelect_spec hsel) (fun c a w => hQ c a _ _ w) _ _ _ _ (Region.free_spec ho hf) hr' (hy.imp (fun ⟨hw, hv⟩ => ⟨hw, fun w => hv w trivial⟩) id) ?_
    exact pre_any l hsel hQ fuel ks _ _ hB (hc.set hr') hk h2

def flowP (P : Program) (l : List Oper) (Q : Exit → Act → World → Prop) (S : World → Prop) (pre : List Nat) (segs : List (List Nat × Nat × Bool)) (last : List Nat) (a : Act) (w : World) : Prop :=
  wpQuiet P l.toArray (fun _ => True) (fun a' => flow P l Q S segs last a' w) (pickL l pre) a
theorem any_flow {a : Act} {w : World} {l : List Oper} (pre : List Nat) (segs : List (List Nat × Nat × Bool)) (last : List Nat) (hB : flowB .any l.toArray pre segs last = true)
    (hQ : ∀ c a d v w, Q (.panic c) (Act.put a d v) w → Q (.panic c) a w) (hS : S w) (h : flowP P l Q S pre segs last a w) : wpAny P .any l.toArray Q l.toArray.size (Array.replicate l.toArray.size false) a w := by
  simp only [flowB, Bool.and_eq_true, decide_eq_true_eq] at hB
  obtain ⟨⟨⟨⟨hsel, hnd⟩, hfu⟩, hpre⟩, hB⟩ := hB
  refine (show wpAny P .any l.toArray Q (pre.length + fuelS last segs) (Array.replicate l.toArray.size false) a w → _ from fun H => by rwa [hfu] at H) ?_
  refine pre_any l hsel hQ (fuelS last segs) pre _ a hpre ?_ ?_ h
  · intro j oj _ hl
    rw [getD_replicate_false] at hl
    cases hl
  intro a' hc0 h
  have H := segs_U (S := S) (need := needB segs) l hsel hQ (segs.flatMap (·.1) ++ last) ?_ last segs _ a' w ?_ hB hc0 (.inl hS) h
  · exact wpAny_of_U _ _ _ _ H
  · intro i hi listed hc hu j hj hji
    unfold needB
    rw [List.all_eq_true]
    intro s hs
    have h1 := List.all_eq_true.1 hnd s hs
    simp only [Bool.or_eq_true] at h1 ⊢
    rcases h1 with h1 | h1
    · exact .inr h1
    · refine .inl ?_
      rw [Bool.not_eq_true', beq_eq_false_iff_ne]
      rintro rfl
      have h2 := List.all_eq_true.1 h1 i hi
      have := (ancs_anc (by simpa using h2)).listed hc hj
      rw [getD_both hu] at this
      cases this
  · intro s hs hn
    have := List.all_eq_true.1 hn s hs
    simpa using this

def onlyN (K : Act → World → Prop) : Exit → Act → World → Prop
  | .normal, a, w => K a w
  | _, _, _ => False
theorem onlyN_imp {Q : Exit → Act → World → Prop} : ∀ (e : Exit) (a : Act) (w : World), onlyN (Q .normal) e a w → Q e a w := fun e a w h => by
  cases e <;> first | exact h | exact (h : False).elim
theorem seg_grow {F : Act → World → Prop} {a : Act} {w : World} (hS : S w) (h : F a w) : segQ Q (fun a'' w'' => segK true S a'' w'' (F a'' w'')) .normal a w := ⟨fun _ => hS, h⟩
theorem seg_write {F : Act → World → Prop} {a : Act} {w : World} (h : F a w) : segQ Q (fun a'' w'' => segK false S a'' w'' (F a'' w'')) .normal a w := ⟨fun h => Bool.noConfusion h, h⟩
theorem only_done {K : Act → World → Prop} {a : Act} {w : World} (h : K a w) : onlyN K .normal a w := h
/-- One walk serves every order: outside a fence, and in the fence of everything. -/
theorem wp_region_flow {id : Nat} {a : Act} {w : World} {l : List Oper} (pre : List Nat) (segs : List (List Nat × Nat × Bool)) (last : List Nat) (hm : P.follows .mixedOrders = true) (hB : flowB .any l.toArray pre segs last = true)
    (h : ∀ w', Below w.heap.size w w' → w'.heap = w.heap → flowP P l (onlyN (Q .normal)) (fun w2 => ∃ x : Later w', w2 = x.val) pre segs last a w') : (Code.region id l.toArray true).wp P Q a w :=
  Code.wp_mono onlyN_imp (wp_region_any hm (any_flow pre segs last hB (fun _ _ _ _ _ h => h) (S := fun w2 => ∃ x : Later (w.drewN 1), w2 = x.val) ⟨⟨_, Below.refl _ _⟩, rfl⟩ (h _ (Below.drewN' 1 (Below.refl _ _)) rfl)))
theorem in_region_flow {id m : Nat} {r : Option Nat} {a : Act} {w : World} {l : List Oper} (pre : List Nat) (segs : List (List Nat × Nat × Bool)) (last : List Nat) (hm : P.follows .mixedOrders = true) (hB : flowB .any l.toArray pre segs last = true) (hd : noDefer l = true)
    (h : ∀ w', Below w.heap.size w w' → w'.heap = w.heap → flowP P l (onlyN (Q .normal)) (fun w2 => ∃ x : Later w', w2 = x.val) pre segs last a w') : (Code.region id l.toArray true).wpIn (WF r) m P Q a w :=
  Code.wpIn_mono onlyN_imp (wpIn_region_any hm (inAny_of_any (noDefer_spec hd) (by rintro ⟨_, _, h⟩; exact h) _ _ _ _ (any_flow pre segs last hB (fun _ _ _ _ _ h => h) (S := fun w2 => ∃ x : Later (w.drewN 1), w2 = x.val) ⟨⟨_, Below.refl _ _⟩, rfl⟩ (h _ (Below.drewN' 1 (Below.refl _ _)) rfl))))

/-! The same, step by step: where several operations may come next. -/
def closedB (md : Region.Mode) (ops : Array Oper) (listed : Array Bool) : Bool :=
  (List.range ops.size).all fun j => !listed.getD j false || (depsL md ops j).all fun i => listed.getD i false
theorem closedB_spec {listed : Array Bool} (h : closedB md ops listed = true) : ClosedL md ops listed := by
  intro j oj hj hl e he hb
  have h1 := List.all_eq_true.1 h j (List.mem_range.2 (Array.getElem?_eq_some_iff.1 hj).1)
  rw [hl] at h1
  simp only [Bool.not_true, Bool.false_or] at h1
  refine List.all_eq_true.1 h1 e.on ?_
  unfold depsL
  rw [hj]
  exact List.mem_map.2 ⟨e, List.mem_filter.2 ⟨by simpa using he, hb⟩, rfl⟩
def UB (md : Region.Mode) (ops : Array Oper) (H W : List Nat) : Bool := Region.noSelect ops && W.all fun c => H.all fun h => (ancsL md ops c).contains h
/-- What may come from here on, in a region whose operations are l. -/
def wpU (P : Program) (l : List Oper) (Q : Exit → Act → World → Prop) (S : World → Prop) (H W : List Nat) (fuel : Nat) (listed : Array Bool) (a : Act) (w : World) : Prop :=
  UB .any l.toArray H W = true → wpAnyU P .any l.toArray Q S (fun j => !W.contains j) fuel listed a w
theorem wp_region_U {id : Nat} {a : Act} {w : World} {l : List Oper} (H W : List Nat) (hm : P.follows .mixedOrders = true) (hB : UB .any l.toArray H W = true)
    (h : ∀ w', Below w.heap.size w w' → w'.heap = w.heap → wpU P l (onlyN (Q .normal)) (fun w2 => ∃ x : Later w', w2 = x.val) H W l.length (Array.replicate l.length false) a w') : (Code.region id l.toArray true).wp P Q a w := by
  refine Code.wp_mono onlyN_imp (wp_region_any hm ?_)
  have := h (w.drewN 1) (Below.drewN' 1 (Below.refl _ _)) rfl hB
  have := wpAny_of_U _ _ _ _ this
  rw [show l.toArray.size = l.length from rfl]
  exact this
theorem U_heads {K : Act → World → Prop} {a : Act} {w : World} {l : List Oper} {H W : List Nat} {fuel : Nat} {listed : Array Bool} (hs : List Nat)
    (hB : (hs.all (fun k => H.contains k) && headsB .any l.toArray hs listed && closedB .any l.toArray listed && decide (hs.length ≤ fuel)) = true) (hS : S w)
    (h : wpQuiet P l.toArray S (fun a' => wpU P l (onlyN K) S H W (fuel - hs.length) (markL hs listed) a' w) (pickL l hs) a) : wpU P l (onlyN K) S H W fuel listed a w := by
  intro hU
  simp only [Bool.and_eq_true, decide_eq_true_eq] at hB
  obtain ⟨⟨⟨h1, h2⟩, h3⟩, h4⟩ := hB
  have hU' := hU
  simp only [UB, Bool.and_eq_true] at hU'
  have := heads_U (need := fun j => !W.contains j) (Q := onlyN K) l hU'.1 (fun _ _ _ _ _ h => h) H ?_ (fuel - hs.length) hs listed a h1 h2 (closedB_spec h3) (fun _ => hS) (fun a' _ h' => h' hU) h
  · rwa [show hs.length + (fuel - hs.length) = fuel by omega] at this
  · intro i hi listed hc hu j hj hji
    cases hw : W.contains j with
    | false => rfl
    | true =>
      have h5 := List.all_eq_true.1 (List.all_eq_true.1 hU'.2 j (by simpa using hw)) i hi
      have := (ancs_anc (by simpa using h5)).listed hc hj
      rw [getD_both hu] at this
      cases this
theorem U_all {K : Act → World → Prop} {a : Act} {w : World} {l : List Oper} {H W : List Nat} {fuel : Nat} {listed : Array Bool} (cs : List Nat)
    (hB : (decide (Region.ready .any l.toArray listed = cs) && decide (0 < fuel) && !cs.isEmpty) = true)
    (h : ∀ c ∈ cs, wpList P l.toArray (segQ (onlyN K) (fun a'' w'' => segK (!W.contains c) S a'' w'' (wpU P l (onlyN K) S H W (fuel - 1) (listed.setIfInBounds c true) a'' w''))) (pickL l [c]) a w) : wpU P l (onlyN K) S H W fuel listed a w := by
  intro hU
  simp only [Bool.and_eq_true, decide_eq_true_eq] at hB
  obtain ⟨⟨h1, h2⟩, h3⟩ := hB
  obtain ⟨f, rfl⟩ : ∃ f, fuel = f + 1 := ⟨fuel - 1, by omega⟩
  refine ⟨fun h0 => (by rw [h1] at h0; subst h0; simp at h3), fun i hi => ?_⟩
  obtain ⟨_, o, ho, _⟩ := mem_ready.1 hi
  have hol : l[i]? = some o := by simpa using ho
  rw [h1] at hi
  have h' := h i hi
  simp only [pickL, hol] at h'
  unfold wpList at h'
  unfold wpOp
  simp only [ho]
  split
  · rename_i hw
    rw [if_pos hw] at h'
    rcases h' with h' | ⟨h1, h2⟩
    · exact .inl (Oper.wp_mono (fun a'' w'' h3 => ⟨h3.1, h3.2 hU⟩) (wp_seg h'))
    · exact .inr ⟨h1, h2⟩
  · rename_i hw
    rw [if_neg hw] at h'
    exact ⟨h'.1, h'.2 hU⟩
theorem U_one {K : Act → World → Prop} {a : Act} {w : World} {l : List Oper} {H W : List Nat} {fuel : Nat} {listed : Array Bool} (c : Nat)
    (hB : (decide (Region.ready .any l.toArray listed = [c]) && decide (0 < fuel)) = true)
    (h : wpList P l.toArray (segQ (onlyN K) (fun a'' w'' => segK (!W.contains c) S a'' w'' (wpU P l (onlyN K) S H W (fuel - 1) (listed.setIfInBounds c true) a'' w''))) (pickL l [c]) a w) : wpU P l (onlyN K) S H W fuel listed a w :=
  U_all [c] (by simpa using hB) (fun c' hc => by simp at hc; subst hc; exact h)
theorem U_two {K : Act → World → Prop} {a : Act} {w : World} {l : List Oper} {H W : List Nat} {fuel : Nat} {listed : Array Bool} (c d : Nat)
    (hB : (decide (Region.ready .any l.toArray listed = [c, d]) && decide (0 < fuel)) = true)
    (h1 : wpList P l.toArray (segQ (onlyN K) (fun a'' w'' => segK (!W.contains c) S a'' w'' (wpU P l (onlyN K) S H W (fuel - 1) (listed.setIfInBounds c true) a'' w''))) (pickL l [c]) a w)
    (h2 : wpList P l.toArray (segQ (onlyN K) (fun a'' w'' => segK (!W.contains d) S a'' w'' (wpU P l (onlyN K) S H W (fuel - 1) (listed.setIfInBounds d true) a'' w''))) (pickL l [d]) a w) : wpU P l (onlyN K) S H W fuel listed a w :=
  U_all [c, d] (by simpa using hB) (fun c' hc => by simp at hc; rcases hc with rfl | rfl <;> assumption)
theorem U_done {K : Act → World → Prop} {a : Act} {w : World} {l : List Oper} {H W : List Nat} {fuel : Nat} {listed : Array Bool} (hB : (Region.ready .any l.toArray listed).isEmpty = true) (h : K a w) : wpU P l (onlyN K) S H W fuel listed a w := by
  intro _
  have he : Region.ready .any l.toArray listed = [] := by simpa using hB
  cases fuel with
  | zero => exact ⟨he, h⟩
  | succ f => exact ⟨fun _ => h, fun i hi => by rw [he] at hi; cases hi⟩
/-- The same; what is read first holds in each world of S. -/
theorem wp_region_flowS (S : World → Prop) {id : Nat} {a : Act} {w : World} {l : List Oper} (pre : List Nat) (segs : List (List Nat × Nat × Bool)) (last : List Nat) (hm : P.follows .mixedOrders = true) (hB : flowB .any l.toArray pre segs last = true)
    (hS : ∀ w', Below w.heap.size w w' → w'.heap = w.heap → S w')
    (h : ∀ w', Below w.heap.size w w' → w'.heap = w.heap → flowP P l (onlyN (Q .normal)) S pre segs last a w') : (Code.region id l.toArray true).wp P Q a w := by
  refine Code.wp_mono onlyN_imp (wp_region_any hm ?_)
  exact any_flow pre segs last hB (fun _ _ _ _ _ h => h) (S := S) (hS _ (Below.drewN' 1 (Below.refl _ _)) rfl) (h _ (Below.drewN' 1 (Below.refl _ _)) rfl)
theorem in_region_flowS (S : World → Prop) {id m : Nat} {r : Option Nat} {a : Act} {w : World} {l : List Oper} (pre : List Nat) (segs : List (List Nat × Nat × Bool)) (last : List Nat) (hm : P.follows .mixedOrders = true) (hB : flowB .any l.toArray pre segs last = true) (hd : noDefer l = true)
    (hS : ∀ w', Below w.heap.size w w' → w'.heap = w.heap → S w')
    (h : ∀ w', Below w.heap.size w w' → w'.heap = w.heap → flowP P l (onlyN (Q .normal)) S pre segs last a w') : (Code.region id l.toArray true).wpIn (WF r) m P Q a w :=
  Code.wpIn_mono onlyN_imp (wpIn_region_any hm (inAny_of_any (noDefer_spec hd) (by rintro ⟨_, _, h⟩; exact h) _ _ _ _ (any_flow pre segs last hB (fun _ _ _ _ _ h => h) (S := S) (hS _ (Below.drewN' 1 (Below.refl _ _)) rfl) (h _ (Below.drewN' 1 (Below.refl _ _)) rfl))))
/-- One walk serves every order; what the region reads is older than a world before it, and stays. -/
theorem wp_region_flow_at {id : Nat} {a : Act} {w : World} {l : List Oper} (w0 : World) (hw : Below w0.heap.size w0 w) (pre : List Nat) (segs : List (List Nat × Nat × Bool)) (last : List Nat) (hm : P.follows .mixedOrders = true) (hB : flowB .any l.toArray pre segs last = true)
    (h : ∀ w', Below w.heap.size w w' → w'.heap = w.heap → flowP P l (onlyN (Q .normal)) (fun w2 => ∃ x : Later w0, w2 = x.val) pre segs last a w') : (Code.region id l.toArray true).wp P Q a w :=
  wp_region_flowS _ pre segs last hm hB (fun _ hb _ => ⟨⟨_, btr hw hb⟩, rfl⟩) h
/-- Operations that look at no memory are taken first, whatever the others write. -/
structure AnyW (w : World) where
  val : World
instance (w : World) : Nonempty (AnyW w) := ⟨⟨w⟩⟩
theorem anyW (w0 w : World) : ∃ x : AnyW w0, w = x.val := ⟨⟨w⟩, rfl⟩
/-- Step by step; what is read first holds in each world of S. -/
theorem wp_region_US (S : World → Prop) {id : Nat} {a : Act} {w : World} {l : List Oper} (H W : List Nat) (hm : P.follows .mixedOrders = true) (hB : UB .any l.toArray H W = true)
    (h : ∀ w', Below w.heap.size w w' → w'.heap = w.heap → wpU P l (onlyN (Q .normal)) S H W l.length (Array.replicate l.length false) a w') : (Code.region id l.toArray true).wp P Q a w := by
  refine Code.wp_mono onlyN_imp (wp_region_any hm ?_)
  have := h (w.drewN 1) (Below.drewN' 1 (Below.refl _ _)) rfl hB
  have := wpAny_of_U _ _ _ _ this
  rw [show l.toArray.size = l.length from rfl]
  exact this
end
end Go.Proofs.Ytjajdpggoggoiaa

namespace Go.Proofs.Ytjajdpggoggoiaa
open Go.RowKit Go.Shelf

section
variable {P : Program} {ops : Array Oper} {md : Region.Mode} {C : World → Prop} {m : Nat} {r : Option Nat}
theorem inAny_of_headThen {n g : Nat} {L : Array Bool → Act → Prop} {Q' : Exit → Act → World → Prop} (hd : ∀ (i : Nat) (o : Oper), ops[i]? = some o → ∀ c, o.op ≠ .defer c) (hL : ∀ listed a w, C w → L listed a → wpAnyIn (WF r) m P md ops Q' g listed a w) :
    ∀ (f : Nat) (listed : Array Bool) (a : Act) (w : World), C w → headThen P md ops C n L f listed a → wpAnyIn (WF r) m P md ops Q' (f + g) listed a w
  | 0, listed, a, w, hw, h => by rw [Nat.zero_add]; exact hL _ _ _ hw h
  | f + 1, listed, a, w, hw, h => by
    rw [show f + 1 + g = (f + g) + 1 by omega]
    exact ⟨fun h0 => absurd h0 h.1, fun i hi => inOp_of_quiet hd hw (fun a' w' hw' h' => inAny_of_headThen hd hL f _ a' w' hw' h') (h.2 i hi).2⟩
theorem inAny_of_seq {Q' : Exit → Act → World → Prop} : ∀ (l : List Oper) (k : Nat) (listed : Array Bool) (a : Act) (w : World), (∀ j, l[j]? = ops[k + j]?) →
    Region.seqB md ops l.length k listed = true → wpListIn (WF r) m P ops Q' l a w → wpAnyIn (WF r) m P md ops Q' l.length listed a w
  | [], _, _, _, _, _, hB, h => ⟨by simpa [Region.seqB] using hB, h⟩
  | o :: l, k, listed, a, w, hl, hB, h => by
    have h0 : ops[k]? = some o := by simpa using (hl 0).symm
    simp only [List.length_cons, Region.seqB, Bool.and_eq_true, decide_eq_true_eq] at hB
    refine ⟨fun h1 => (by rw [hB.1] at h1; cases h1), fun i hi => ?_⟩
    rw [hB.1] at hi
    have hik : i = k := by simpa using hi
    subst hik
    have hw : wpOpIn (WF r) m P ops Q' i (wpListIn (WF r) m P ops Q' l) a w := by unfold wpOpIn; simp only [h0]; exact h
    exact wpOpIn_mono (fun a' w' h' => inAny_of_seq l (i + 1) _ a' w' (fun j => by have := hl (j + 1); simpa [Nat.add_assoc, Nat.add_comm 1 j] using this) hB.2 h') hw
theorem inAny_head_tail {Q : Exit → Act → World → Prop} {a : Act} {w : World} {l : List Oper} (n : Nat) (hd : noDefer l = true) (hB : Region.lexTailB .any l.toArray n = true) (hC : C w)
    (h : wpQuiet P l.toArray C (fun a' => ∀ w', C w' → wpListIn (WF r) m P l.toArray Q (l.drop n) a' w') (l.take n) a) : wpAnyIn (WF r) m P .any l.toArray Q l.toArray.size (Array.replicate l.toArray.size false) a w := by
  simp only [Region.lexTailB, Bool.and_eq_true, decide_eq_true_eq] at hB
  obtain ⟨⟨⟨⟨hsel, hn⟩, hs⟩, hc⟩, hlex⟩ := hB
  have hn' : n < l.length := by simpa using hn
  have htl : (l.take n).length = n := by simp; omega
  have hdl : (l.drop n).length = l.toArray.size - n := by simp
  have inv0 : HeadInv .any l.toArray n (Array.replicate l.toArray.size false) :=
    ⟨by simp, fun j oj _ hl => (by rw [getD_replicate_false] at hl; cases hl), fun t _ ht => getD_in (by simpa using ht) (getD_replicate_false _ _)⟩
  have H := headThen_lex (md := .any) (g := l.toArray.size - n) hsel hs hc hn (l.take n) 0 _ a (fun j hj => by
    have hj' : j < n := by rw [htl] at hj; exact hj
    simp [hj']) (by simpa using htl) inv0 (by rw [htl]; exact hlex) h
  have := inAny_of_headThen (m := m) (r := r) (Q' := Q) (g := l.toArray.size - n) (noDefer_spec hd) (fun listed a' w' hw' hL => by
    have := inAny_of_seq (m := m) (r := r) (md := .any) (Q' := Q) (l.drop n) n listed a' w' (fun j => by simp [List.getElem?_drop]) (by rw [hdl]; exact hL.1) (hL.2 w' hw')
    rwa [hdl] at this) _ _ _ _ hC H
  rw [htl, show n + (l.toArray.size - n) = l.toArray.size by omega] at this
  exact this
/-- Quiet operations, then a tail that is walked in the fence: it may yield. -/
theorem in_region_tailF {id : Nat} {Q : Exit → Act → World → Prop} {a : Act} {w : World} {l : List Oper} (n : Nat) (hm : P.follows .mixedOrders = true) (hB : Region.lexTailB .any l.toArray n = true) (hd : noDefer l = true)
    (h : wpQuiet P l.toArray (fun w' => ∃ x : Later w, w' = x.val) (fun a' => ∀ w', (∃ x : Later w, w' = x.val) → wpListIn (WF r) m P l.toArray Q (l.drop n) a' w') (l.take n) a) : (Code.region id l.toArray true).wpIn (WF r) m P Q a w :=
  wpIn_region_any hm (inAny_head_tail n hd hB ⟨⟨_, Below.drew (Below.refl _ _)⟩, rfl⟩ h)
/-- A whole struct is read in a region that draws, by a guarded operation. -/
theorem wpQuiet_load_rowG {Q : Act → Prop} {a : Act} {w : World} {rest : List Oper} {o : Oper} (hgd : Region.wanted o (yielded ops a.tmps) = true) (ty : TypeId) (x : Operand) (ho : o.op = .load ty x) (g : Nat) (hx : a.eval x = .pointer (some ⟨g, 0, none⟩)) (t : TypeId) (cs : Array Value) (fr : Nat × Nat) (d : TypeDesc)
    (hg : w.heap[g]? = some (.cells cs t fr)) (hu : P.underlying ty = some d) (hd : (match d with | .struct _ | .array _ _ => true | _ => false) = true) (hi : (P.info? ty).map (·.size) = some cs.size)
    (h : wpQuiet P ops (fun w' => ∃ x : Later w, w' = x.val) Q rest (a.put o.dst (.agg cs))) : wpQuiet P ops (fun w' => ∃ x : Later w, w' = x.val) Q (o :: rest) a := by
  unfold wpQuiet
  rw [if_pos hgd]
  refine ⟨.agg cs, ?_, h⟩
  rintro w' ⟨l, rfl⟩
  have hg' : l.val.heap[g]? = some (.cells cs t fr) := (l.le.block g (Array.getElem?_eq_some_iff.1 hg).1).trans hg
  unfold Oper.quietAt execOp
  simp only [ho, hx, Instr.loadAt, Instr.sureAddr, Sem.run_bind, Sem.run_pure, Result.andThen_ok, run_loadVar_row l.val g t ty cs fr d hg' hu hd hi, Oper.quietUpon, and_self]
/-- wp_region_US in the fence of everything. -/
theorem in_region_US (S : World → Prop) {id : Nat} {Q : Exit → Act → World → Prop} {a : Act} {w : World} {l : List Oper} (H W : List Nat) (hm : P.follows .mixedOrders = true) (hB : UB .any l.toArray H W = true) (hd : noDefer l = true)
    (h : ∀ w', Below w.heap.size w w' → w'.heap = w.heap → wpU P l (onlyN (Q .normal)) S H W l.length (Array.replicate l.length false) a w') : (Code.region id l.toArray true).wpIn (WF r) m P Q a w := by
  refine Code.wpIn_mono onlyN_imp (wpIn_region_any hm (inAny_of_any (noDefer_spec hd) (by rintro ⟨_, _, h⟩; exact h) _ _ _ _ ?_))
  have := h (w.drewN 1) (Below.drewN' 1 (Below.refl _ _)) rfl hB
  have := wpAny_of_U _ _ _ _ this
  rw [show l.toArray.size = l.length from rfl]
  exact this
end
end Go.Proofs.Ytjajdpggoggoiaa

namespace Go.Proofs.Ytjajdpggoggoiaa
open Go.RowKit

theorem take_eq_step (xs ys : List Int) (k : Nat) (hx : k < xs.length) (hy : k < ys.length) (h : xs.take k = ys.take k) (he : xs[k]?.getD 0 = ys[k]?.getD 0) : xs.take (k+1) = ys.take (k+1) := by
  rw [List.take_succ_eq_append_getElem hx, List.take_succ_eq_append_getElem hy, h]
  simp [hx, hy] at he
  rw [he]
theorem ne_of_get (xs ys : List Int) (k : Nat) (he : xs[k]?.getD 0 ≠ ys[k]?.getD 0) : xs ≠ ys := by
  intro e; subst e; exact he rfl

set_option maxRecDepth 100000 in
set_option maxHeartbeats 400000 in
theorem ints_any (x y : Value) (xs ys : List Int) (w : World) (hx0 : RdI w .i64 x xs) (hy0 : RdI w .i64 y ys) (hl : xs.length ≤ 1000) (hl2 : ys.length ≤ 1000) :
    Calls Try.prog 25 #[x, y] w fun e w' => e = .returned (.bool (decide (xs = ys))) ∧ Below w.heap.size w w' := by
  obtain ⟨a, ca, rfl, _, _, hx⟩ := hx0.form
  obtain ⟨b, cb, rfl, _, _, hy⟩ := hy0.form
  clear hx0 hy0
  by_cases hll : xs.length = ys.length
  · have h1 : ((xs.length : Int) != (ys.length : Int)) = false := by simp [hll]
    have HL := Lib.hid hll; clear hll
    go_enter Try.func25, Try.ntmps25
    go_wp2
    go_loopw [5] (fun i wr => ∃ k : Nat, k ≤ xs.length ∧ i = .int .i64 k ∧ xs.take k = ys.take k ∧ Below w.heap.size w wr) (fun i _ => xs.length - (intOf i).toNat)
    case atStart => exact ⟨0, Nat.zero_le _, rfl, by simp, Below.refl _ _⟩
    case round =>
      obtain ⟨k, hk, rfl, ht, hB⟩ := hrel
      by_cases hlt : k < xs.length
      · obtain ⟨bx, ox, rfl, hbx, hcx⟩ := hx (by omega)
        obtain ⟨by', oy, rfl, hby, hcy⟩ := hy (by rw [← HL.out]; omega)
        have gx := (hB.cell (p := ⟨bx, ox + k, none⟩) hbx).trans (hcx k hlt)
        have hlt2 : k < ys.length := by rw [← HL.out]; exact hlt
        have gy := (hB.cell (p := ⟨by', oy + k, none⟩) hby).trans (hcy k hlt2)
        have HT := Lib.hid ht; clear ht
        clear hx hy hcx hcy
        by_cases he : xs[k]?.getD 0 = ys[k]?.getD 0
        · have hb1 : (xs[k]?.getD 0 != ys[k]?.getD 0) = false := by simp [he]
          have HE := Lib.hid he; clear he
          have HT2 := Lib.hid (take_eq_step xs ys k hlt hlt2 HT.out HE.out)
          generalize xs[k]?.getD 0 = p at *
          generalize ys[k]?.getD 0 = q at *
          go_wp2
          go_quiet (fail)
          go_wp2
          go_roundw
          case rel => exact ⟨k + 1, by omega, by go_num, HT2.out, Below.drewN' _ hB⟩
          case measure => simp [intOf]; omega
        · have hb1 : (xs[k]?.getD 0 != ys[k]?.getD 0) = true := by simpa using he
          have HE := Lib.hid (ne_of_get xs ys k he); clear he
          generalize xs[k]?.getD 0 = p at *
          generalize ys[k]?.getD 0 = q at *
          go_wp2
          go_quiet (fail)
          go_wp2
          go_ret
          exact ⟨ret_bool (by simp [HE.out]), Below.drewN' _ hB⟩
      · have HT := Lib.hid ht; clear ht
        go_wp2
        go_ret
        refine ⟨ret_bool ?_, hB⟩
        have h1 := HT.out
        rw [List.take_of_length_le (by omega), List.take_of_length_le (by rw [← HL.out]; omega)] at h1
        simp [h1]
  · have h1 : ((xs.length : Int) != (ys.length : Int)) = true := by rw [bne_iff_ne]; omega
    have HL := Lib.hid hll; clear hll
    go_enter Try.func25, Try.ntmps25
    go_wp2
    go_ret
    refine ⟨ret_bool ?_, Below.refl _ _⟩
    have := HL.out
    symm; simp only [decide_eq_false_iff_not]
    intro e; subst e; exact this rfl

def outB (lo hi x : Int) : Bool := decide (x < lo ∨ hi < x)
set_option maxRecDepth 100000 in
set_option maxHeartbeats 400000 in
theorem withinf_any (x lo hi : Int) (bl bh : Nat) (w : World) (h1 : w.cell? ⟨bl, 0, none⟩ = some (.int .i64 lo)) (h2 : w.cell? ⟨bh, 0, none⟩ = some (.int .i64 hi)) :
    Calls Try.prog 64 #[.int .i64 x, .pointer (some ⟨bl, 0, none⟩), .pointer (some ⟨bh, 0, none⟩)] w fun e w' => e = .returned (.bool (outB lo hi x)) ∧ Below w.heap.size w w' := by
  by_cases hlo : x < lo
  · go_enter Try.func64, Try.ntmps64
    go_wp2
    go_ret
    exact ⟨ret_bool (by simp [outB, hlo]), Below.refl _ _⟩
  · by_cases hhi : hi < x <;>
    · go_enter Try.func64, Try.ntmps64
      go_wp2
      go_ret
      exact ⟨ret_bool (by simp [outB, hlo, hhi]), Below.refl _ _⟩

def idxOf {α : Type} (p : α → Bool) (xs : List α) : Int := match xs.findIdx? p with | some i => i | none => -1
theorem find_none_step {α : Type} {d : α} {p : α → Bool} {xs : List α} {k : Nat} (h : ∀ i, i < k → p (xs[i]?.getD d) = false) (hk : k < xs.length) : p (xs[k]?.getD d) = true → idxOf p xs = k := by
  intro ht
  have : xs.findIdx? p = some k := by
    rw [List.findIdx?_eq_some_iff_getElem]
    refine ⟨hk, by simpa [hk] using ht, fun j hj => ?_⟩
    have := h j hj
    rw [List.getElem?_eq_getElem (by omega)] at this
    simpa using this
  simp [idxOf, this]
theorem find_none {α : Type} {d : α} {p : α → Bool} {xs : List α} (h : ∀ i, i < xs.length → p (xs[i]?.getD d) = false) : idxOf p xs = -1 := by
  have : xs.findIdx? p = none := by
    rw [List.findIdx?_eq_none_iff]
    intro x hx
    obtain ⟨i, hi, rfl⟩ := List.getElem_of_mem hx
    have := h i hi
    simpa [hi] using this
  simp [idxOf, this]

theorem idxOf_any {α : Type} (p : α → Bool) (xs : List α) : decide (0 ≤ idxOf p xs) = xs.any p := by
  cases h : xs.findIdx? p with
  | some i =>
    have : xs.any p = true := by
      rw [List.findIdx?_eq_some_iff_getElem] at h
      obtain ⟨h1, h2, _⟩ := h
      exact List.any_eq_true.2 ⟨_, List.getElem_mem h1, h2⟩
    rw [this]; simp [idxOf, h]
  | none =>
    have : xs.any p = false := by
      rw [List.findIdx?_eq_none_iff] at h
      rw [List.any_eq_false]
      intro x hx; simp [h x hx]
    rw [this]; simp [idxOf, h]

set_option maxRecDepth 100000 in
set_option maxHeartbeats 400000 in
theorem indexf_any (x : Value) (xs : List Int) (lo hi : Int) (bl bh : Nat) (w : World) (hx0 : RdI w .i64 x xs) (hl : xs.length ≤ 1000)
    (h1 : w.cell? ⟨bl, 0, none⟩ = some (.int .i64 lo)) (h2 : w.cell? ⟨bh, 0, none⟩ = some (.int .i64 hi)) (hb1 : bl < w.heap.size) (hb2 : bh < w.heap.size) :
    Calls Try.prog 80 #[x, .func (.func 64) #[] #[.pointer (some ⟨bl, 0, none⟩), .pointer (some ⟨bh, 0, none⟩)]] w fun e w' => e = .returned (.int .i64 (idxOf (outB lo hi) xs)) ∧ Below w.heap.size w w' := by
  obtain ⟨a, ca, rfl, _, _, hx⟩ := hx0.form
  clear hx0
  go_enter Try.func80, Try.ntmps80
  go_wp2
  go_loopw [5, 8] (fun j i wr => ∃ k : Nat, k ≤ xs.length ∧ i = .int .i64 k ∧ (∀ i, i < k → outB lo hi (xs[i]?.getD 0) = false) ∧ Below w.heap.size w wr) (fun _ i _ => xs.length - (intOf i).toNat)
  case atStart => exact ⟨0, Nat.zero_le _, rfl, by intro i h1; omega, Below.refl _ _⟩
  case round =>
    obtain ⟨k, hk, rfl, ht, hB⟩ := hrel
    have HT := Lib.hid ht; clear ht
    by_cases hlt : k < xs.length
    · obtain ⟨bx, ox, rfl, hbx, hcx⟩ := hx (by omega)
      have gx := (hB.cell (p := ⟨bx, ox + k, none⟩) hbx).trans (hcx k hlt)
      have g1 := (hB.cell (p := ⟨bl, 0, none⟩) hb1).trans h1
      have g2 := (hB.cell (p := ⟨bh, 0, none⟩) hb2).trans h2
      clear hx hcx
      generalize hp : xs[k]?.getD 0 = p at *
      have HP := Lib.hid hp; clear hp
      go_wp2_with (go_at_call 64; refine (withinf_any _ _ _ _ _ _ g1 g2).mono ?_)
      rintro e w2 ⟨rfl, hB2⟩
      have hB3 := hB.trans (hB2.mono hB.size)
      cases hb : outB lo hi p
      · go_wp2
        go_roundw
        case rel =>
          refine ⟨k + 1, by omega, by go_num, fun i h1 => ?_, hB3⟩
          by_cases e : i = k
          · subst e; rw [HP.out]; exact hb
          · exact HT.out i (by omega)
        case measure => simp [intOf]; omega
      · go_wp2
        go_ret
        exact ⟨ret_int (find_none_step HT.out hlt (by rw [HP.out]; exact hb)).symm, hB3⟩
    · go_wp2
      go_ret
      exact ⟨ret_int (find_none fun i hi => HT.out i (by omega)).symm, hB⟩

set_option maxRecDepth 100000 in
set_option maxHeartbeats 400000 in
theorem containsf_any (x : Value) (xs : List Int) (lo hi : Int) (bl bh : Nat) (w : World) (hx0 : RdI w .i64 x xs) (hl : xs.length ≤ 1000)
    (h1 : w.cell? ⟨bl, 0, none⟩ = some (.int .i64 lo)) (h2 : w.cell? ⟨bh, 0, none⟩ = some (.int .i64 hi)) (hb1 : bl < w.heap.size) (hb2 : bh < w.heap.size) :
    Calls Try.prog 63 #[x, .func (.func 64) #[] #[.pointer (some ⟨bl, 0, none⟩), .pointer (some ⟨bh, 0, none⟩)]] w fun e w' => e = .returned (.bool (xs.any (outB lo hi))) ∧ Below w.heap.size w w' := by
  go_enter Try.func63, Try.ntmps63
  go_wp2_with (go_at_call 80; refine (indexf_any _ _ _ _ _ _ _ hx0 hl h1 h2 hb1 hb2).mono ?_)
  rintro e w2 ⟨rfl, hB2⟩
  have H := Lib.hid (idxOf_any (outB lo hi) xs)
  go_wp2
  go_ret
  exact ⟨ret_bool H.out, hB2⟩

set_option maxRecDepth 100000 in
set_option maxHeartbeats 400000 in
theorem within_any (x : Value) (xs : List Int) (lo hi : Int) (w : World) (hx0 : RdI w .i64 x xs) (hl : xs.length ≤ 1000) :
    Calls Try.prog 43 #[.int .i64 lo, .int .i64 hi, x] w fun e w' => e = .returned (.bool (!xs.any (outB lo hi))) ∧ Below w.heap.size w w' := by
  go_enter Try.func43, Try.ntmps43
  go_wp2_with (go_at_call 63; refine (containsf_any _ xs lo hi w.heap.size (w.heap.size + 1) _ ?_ hl ?_ ?_ ?_ ?_).mono ?_)
  · exact hx0.mono (((Below.refl _ _).alloc (Nat.le_refl _) _).alloc (by simp) _)
  · simp
  · simp
  · simp; omega
  · simp
  rintro e w2 ⟨rfl, hB2⟩
  go_wp2
  go_ret
  exact ⟨rfl, btr (bal (bal (bz _) _) _) hB2⟩
end Go.Proofs.Ytjajdpggoggoiaa

namespace Go.Proofs.Ytjajdpggoggoiaa
open Go.RowKit Go.Shelf Go.Instr

theorem Try.fields96 : (Try.prog.fieldsOf 96).toList.map (fun f => (f.name == "_", f.type, f.offset)) = [(false, 3, 0), (false, 3, 1)] := by kernel_rfl
theorem Try.struct96 : Try.prog.underlying 96 = some (.struct (Try.prog.fieldsOf 96)) := by kernel_rfl
theorem Try.held96 : Try.prog.stoodInHeld 96 = false := by kernel_rfl
/-- A pair as a value. -/
def kv (a : Int × Int) : Value := .agg #[.int .i64 a.1, .int .i64 a.2]

theorem field96 : ∃ f g, (Try.prog.fieldsOf 96).toList = [f, g] ∧ f.name ≠ "_" ∧ f.type = 3 ∧ f.offset = 0 ∧ g.name ≠ "_" ∧ g.type = 3 ∧ g.offset = 1 := by
  have h := Try.fields96
  match hl : (Try.prog.fieldsOf 96).toList, h with
  | [f, g], h =>
    simp at h
    exact ⟨f, g, rfl, h.1.1, h.1.2.1, h.1.2.2, h.2.1, h.2.2.1, h.2.2.2⟩
  | [], h => simp at h
  | [_], h => simp at h
  | _ :: _ :: _ :: _, h => simp at h

theorem part0 (w : World) (a b : Int) : (part 3 #[.int .i64 a, .int .i64 b] 0).run Try.prog w = .ok (.int .i64 a) w := by
  simp [part, isAgg, run_underlying Try.underlying3]
theorem part1 (w : World) (a b : Int) : (part 3 #[.int .i64 a, .int .i64 b] 1).run Try.prog w = .ok (.int .i64 b) w := by
  simp [part, isAgg, run_underlying Try.underlying3]

theorem eqKey (w : World) (a b : Int × Int) : (Op.equal 96 (kv a) (kv b)).run Try.prog w = .ok (decide (a = b)) w := by
  obtain ⟨f, g, h1, h2, h3, h4, h5, h6, h7⟩ := field96
  obtain ⟨a1, a2⟩ := a
  obtain ⟨b1, b2⟩ := b
  unfold Op.equal Op.maxDepth kv
  rw [run_equalIn_struct w 9999 96 _ _ Try.struct96 Try.held96, h1]
  simp only [Op.eqFields, Sem.run_bind, Sem.run_ite, h2, h3, h4, h5, h6, h7, ne_eq, not_false_eq_true, if_true, part0, part1, Result.andThen_ok, run_equalIn_int w _ 3 .i64 .i64 _ _ Try.underlying3]
  by_cases h : a1 = b1 <;> by_cases k : a2 = b2 <;> simp [h, k]

theorem checkStruct (w : World) (e : Bool) (a : Int × Int) : (checkKey e 10000 96 (kv a)).run Try.prog w = .ok () w := by
  obtain ⟨f, g, h1, h2, h3, h4, h5, h6, h7⟩ := field96
  have pc : ∀ x, (checkKey e 9999 3 (.int .i64 x)).run Try.prog w = .ok () w := by
    intro x; rw [checkKey]; simp [run_underlying Try.underlying3]
  unfold kv
  rw [checkKey]
  simp only [Sem.run_bind, run_underlying Try.struct96, Result.andThen_ok]
  rw [← Array.forIn_toList, h1]
  simp only [List.forIn_cons, List.forIn_nil, Sem.run_bind, h2, h3, h4, h5, h6, h7, ne_eq, not_false_eq_true, if_true, part0, part1, Result.andThen_ok, pc, Sem.run_pure]

/-- The entries of a map from lanes to ints: the key, the element, the stamp. -/
def entsOf (L : List ((Int × Int) × Int × Nat)) : Array MapEntry := (L.map fun e => { key := kv e.1, val := .int .i64 e.2.1, born := e.2.2 }).toArray
def findL (a : Int × Int) : List ((Int × Int) × Int × Nat) → Nat → Option (Nat × Value)
  | [], _ => none
  | e :: L, i => if a = e.1 then some (i, .int .i64 e.2.1) else findL a L (i + 1)

theorem run_findAsking (w : World) (a : Int × Int) : ∀ (L : List ((Int × Int) × Int × Nat)) (i : Nat), (findAsking 96 (kv a) (entsOf L).toList i).run Try.prog w = .ok (findL a L i) w
  | [], i => by simp [entsOf, findAsking, findL]
  | e :: L, i => by
    have ih := run_findAsking w a L (i + 1)
    have he := eqKey w a e.1
    simp only [entsOf, List.map_cons, findAsking, findL] at ih ⊢
    simp only [Sem.run_bind, Sem.run_ite, he, Result.andThen_ok]
    by_cases hq : a = e.1
    · simp [hq]
    · simp only [hq, decide_false, if_false, Bool.false_eq_true]
      simpa using ih

theorem run_findKey (w : World) (a : Int × Int) (L : List ((Int × Int) × Int × Nat)) : (findKey 96 (kv a) (entsOf L).toList).run Try.prog w = .ok (findL a L 0) w := by
  unfold findKey
  simp only [Sem.run_bind, run_underlying Try.struct96, Result.andThen_ok]
  cases L with
  | nil => simp [entsOf, findNow, findL]
  | cons e L =>
    have : findNow (.struct (Try.prog.fieldsOf 96)) (kv a) (entsOf (e :: L)).toList 0 = none := by
      simp [entsOf, findNow, sameNow, kv]
    rw [this]
    exact run_findAsking w a (e :: L) 0

theorem findL_none {a : Int × Int} : ∀ {L : List ((Int × Int) × Int × Nat)} {i : Nat}, findL a L i = none → a ∉ L.map (·.1)
  | [], _, _ => by simp
  | e :: L, i, h => by
    simp only [findL] at h
    split at h
    · cases h
    · rename_i hne
      have := findL_none h
      simp only [List.map_cons, List.mem_cons, not_or]
      exact ⟨hne, this⟩
theorem findL_some {a : Int × Int} : ∀ {L : List ((Int × Int) × Int × Nat)} {i j : Nat} {v : Value}, findL a L i = some (j, v) → ∃ k e, j = i + k ∧ L[k]? = some e ∧ e.1 = a ∧ v = .int .i64 e.2.1
  | [], _, _, _, h => by simp [findL] at h
  | e :: L, i, j, v, h => by
    simp only [findL] at h
    split at h
    · rename_i he
      simp only [Option.some.injEq, Prod.mk.injEq] at h
      exact ⟨0, e, by omega, by simp, he.symm, h.2.symm⟩
    · obtain ⟨k, e', h1, h2, h3, h4⟩ := findL_some h
      exact ⟨k + 1, e', by omega, by simpa using h2, h3, h4⟩

/-- What may be asked of the list of a map. -/
structure OkL (L : List ((Int × Int) × Int × Nat)) (clock : Nat) : Prop where
  keys : (L.map (·.1)).Nodup
  born : (L.map (·.2.2)).Nodup
  old : ∀ e ∈ L, e.2.2 < clock

theorem sameBits_kv (a : Int × Int) : sameBits 10000 (kv a) (kv a) = true := by
  simp [kv, sameBits]

theorem run_getMap {P : Program} {W : World} {b : Nat} {es : Array MapEntry} {c : Nat} (h : W.heap[b]? = some (.map es c)) : (getObj b).run P W = .ok (.map es c) W := by
  simp [getObj, Sem.run, h]
theorem run_setMap {P : Program} {W : World} {b : Nat} {o o' : Obj} (h : W.heap[b]? = some o) (ho : o.isCells = false := by rfl) : (setObj b o').run P W = .ok () (W.putObj b o') := by
  cases o <;> simp_all [setObj, Sem.run, World.putObj, Obj.isCells]
theorem map_set_same {α β : Type} (f : α → β) (L : List α) (k : Nat) (x : α) (h : ∀ hk : k < L.length, f L[k] = f x) : (L.set k x).map f = L.map f := by
  apply List.ext_getElem
  · simp
  · intro i h1 h2
    simp only [List.getElem_map, List.getElem_set]
    split
    · rename_i hki; subst hki; exact (h (by simpa using h2)).symm
    · rfl

theorem modify_put (L : List ((Int × Int) × Int × Nat)) (k : Nat) (e : (Int × Int) × Int × Nat) (h : L[k]? = some e) (a : Int × Int) (n : Int) :
    (entsOf L).modify k (fun x => { x with key := kv a, val := .int .i64 n }) = entsOf (L.set k (a, n, e.2.2)) := by
  apply Array.ext
  · simp [entsOf]
  · intro i h1 h2
    rw [Array.getElem_modify]
    simp only [entsOf, List.getElem_toArray, List.getElem_map, List.getElem_set]
    split
    · rename_i hk
      subst hk
      have he : L[k]'((List.getElem?_eq_some_iff.1 h).1) = e := (List.getElem?_eq_some_iff.1 h).2
      simp [he]
    · rfl

/-- 'm[a] = n'. -/
theorem run_putL {W : World} {b : Nat} {L : List ((Int × Int) × Int × Nat)} {c : Nat} (hb : W.heap[b]? = some (.map (entsOf L) c)) (hL : OkL L c) (a : Int × Int) (n : Int) :
    ∃ L1 c1, (mapUpdate 61 (.map (some b)) (kv a) (.int .i64 n)).run Try.prog W = .ok () (W.putObj b (.map (entsOf L1) c1)) ∧ OkL L1 c1 ∧ (∀ x m, (∃ t, (x, m, t) ∈ L1) ↔ (x = a ∧ m = n) ∨ (x ≠ a ∧ ∃ t, (x, m, t) ∈ L)) := by
  have hf := run_findKey W a L
  cases hr : findL a L 0 with
  | none =>
    rw [hr] at hf
    have hno := findL_none hr
    refine ⟨L ++ [(a, n, c)], c + 1, ?_, ⟨?_, ?_, ?_⟩, ?_⟩
    · have e : (entsOf L).push { key := kv a, val := .int .i64 n, born := c } = entsOf (L ++ [(a, n, c)]) := by simp [entsOf]
      simp only [mapUpdate, Sem.run_bind, run_underlying Try.underlying61, Result.andThen_ok, run_getMap hb, checkStruct W false a, hf, run_setMap hb, e]
    · rw [List.map_append, List.nodup_append]
      refine ⟨hL.keys, by simp, ?_⟩
      intro x hx y hy e; simp at hy; subst hy; subst e; exact hno hx
    · rw [List.map_append, List.nodup_append]
      refine ⟨hL.born, by simp, ?_⟩
      intro x hx y hy e; simp at hy; subst hy; subst e
      obtain ⟨q, hq, hq2⟩ := List.mem_map.1 hx
      have := hL.old q hq
      omega
    · intro e he; simp at he; rcases he with he | rfl
      · exact Nat.lt_succ_of_lt (hL.old e he)
      · exact Nat.lt_succ_self _
    · intro x m
      constructor
      · rintro ⟨t, ht⟩
        rw [List.mem_append, List.mem_singleton] at ht
        rcases ht with ht | ht
        · exact .inr ⟨fun e => hno (List.mem_map.2 ⟨_, ht, e⟩), t, ht⟩
        · simp only [Prod.mk.injEq] at ht; exact .inl ⟨ht.1, ht.2.1⟩
      · rintro (⟨rfl, rfl⟩ | ⟨_, t, ht⟩)
        · exact ⟨c, by simp⟩
        · exact ⟨t, by simp [ht]⟩
  | some q =>
    obtain ⟨j, v⟩ := q
    rw [hr] at hf
    obtain ⟨k, e, hk, he, hea, hv⟩ := findL_some hr
    obtain rfl : j = k := by omega
    have hj : j < L.length := (List.getElem?_eq_some_iff.1 he).1
    have hje : L[j] = e := (List.getElem?_eq_some_iff.1 he).2
    refine ⟨L.set j (a, n, e.2.2), c, ?_, ⟨?_, ?_, ?_⟩, ?_⟩
    · have hk1 : ((entsOf L)[j]?.map (·.key)).getD (kv a) = kv a := by simp [entsOf, he, hea]
      simp only [mapUpdate, Sem.run_bind, run_underlying Try.underlying61, Result.andThen_ok, run_getMap hb, checkStruct W false a, hf, keyThatStays, hk1, sameBits_kv, if_true, Sem.run_pure, run_setMap hb, modify_put L j e he a n]
    · rw [map_set_same (·.1) L j _ (fun _ => by simp [hje, hea])]; exact hL.keys
    · rw [map_set_same (·.2.2) L j _ (fun _ => by simp [hje])]; exact hL.born
    · intro x hx
      rcases List.mem_or_eq_of_mem_set hx with h | rfl
      · exact hL.old x h
      · exact hL.old e (List.mem_of_getElem? he)
    · intro x m
      constructor
      · rintro ⟨t, ht⟩
        obtain ⟨i, hi, hie⟩ := List.getElem_of_mem ht
        rw [List.getElem_set] at hie
        split at hie
        · simp only [Prod.mk.injEq] at hie; exact .inl ⟨hie.1.symm, hie.2.1.symm⟩
        · rename_i hne
          have hi' : i < L.length := by simpa using hi
          refine .inr ⟨fun hxa => ?_, t, by rw [← hie]; exact List.getElem_mem _⟩
          have hnd := hL.keys
          rw [List.nodup_iff_pairwise_ne, List.pairwise_iff_getElem] at hnd
          have e1 : L[i].1 = a := by rw [hie]; exact hxa
          rcases Nat.lt_or_gt_of_ne hne with h | h
          · have := hnd j i (by simpa using hj) (by simpa using hi') h
            simp only [List.getElem_map, hje, hea, e1] at this; exact this rfl
          · have := hnd i j (by simpa using hi') (by simpa using hj) h
            simp only [List.getElem_map, hje, hea, e1] at this; exact this rfl
      · rintro (⟨rfl, rfl⟩ | ⟨hxa, t, ht⟩)
        · exact ⟨e.2.2, by rw [List.mem_iff_getElem]; exact ⟨j, by simpa using hj, by simp⟩⟩
        · obtain ⟨i, hi, hie⟩ := List.getElem_of_mem ht
          refine ⟨t, List.mem_iff_getElem.2 ⟨i, by simpa using hi, ?_⟩⟩
          rw [List.getElem_set, if_neg, hie]
          rintro rfl
          rw [hje] at hie; rw [hie] at hea; exact hxa hea

/-- 'm[a]', and whether it is there. -/
theorem run_lookupL {W : World} {b : Nat} {L : List ((Int × Int) × Int × Nat)} {c : Nat} (hb : W.heap[b]? = some (.map (entsOf L) c)) (a : Int × Int) :
    (Instr.lookup 61 (.map (some b)) (kv a) true).run Try.prog W = .ok (.tuple #[((findL a L 0).map (·.2)).getD (.int .i64 0), .bool (findL a L 0).isSome]) W := by
  have hf := run_findKey W a L
  have hz : (zeroValue 2).run Try.prog W = .ok (.int .i64 0) W := by kernel_rfl
  cases hr : findL a L 0 with
  | none =>
    rw [hr] at hf
    simp [Instr.lookup, Sem.run_bind, run_underlying Try.underlying61, Result.andThen_ok, run_getMap hb, checkStruct W _ a, hf]
  | some q =>
    rw [hr] at hf
    simp [Instr.lookup, Sem.run_bind, run_underlying Try.underlying61, Result.andThen_ok, run_getMap hb, checkStruct W _ a, hf]

theorem map_erase {α β : Type} (f : α → β) : ∀ (L : List α) (j : Nat), (L.map f).eraseIdx j = (L.eraseIdx j).map f
  | [], j => by simp
  | x :: L, 0 => by simp
  | x :: L, j + 1 => by simp [map_erase f L j]

/-- 'delete(m, a)'. -/
theorem run_deleteL {W : World} {b : Nat} {L : List ((Int × Int) × Int × Nat)} {c : Nat} (hb : W.heap[b]? = some (.map (entsOf L) c)) (hL : OkL L c) (a : Int × Int) :
    ∃ L2, (∀ t, (Builtin.delete_ #[61, 96] t #[.map (some b), kv a]).run Try.prog W = .ok (.tuple #[]) (W.putObj b (.map (entsOf L2) c))) ∧ OkL L2 c ∧ ∀ e, e ∈ L2 ↔ e ∈ L ∧ e.1 ≠ a := by
  have hf := run_findKey W a L
  cases hr : findL a L 0 with
  | none =>
    rw [hr] at hf
    refine ⟨L, fun t => ?_, hL, ?_⟩
    · simp [Builtin.delete_, Sem.run_bind, run_underlying Try.underlying61, Result.andThen_ok, run_getMap hb, checkStruct W _ a, hf, run_setMap hb]
    · intro e
      exact ⟨fun h => ⟨h, fun hea => findL_none hr (List.mem_map.2 ⟨e, h, hea⟩)⟩, fun h => h.1⟩
  | some q =>
    obtain ⟨j, v⟩ := q
    rw [hr] at hf
    obtain ⟨k, e0, hk, he, hea, hv⟩ := findL_some hr
    obtain rfl : j = k := by omega
    have hj : j < L.length := (List.getElem?_eq_some_iff.1 he).1
    have he0 : L[j] = e0 := (List.getElem?_eq_some_iff.1 he).2
    have hsub := List.eraseIdx_sublist L j
    refine ⟨L.eraseIdx j, fun t => ?_, ⟨(hsub.map _).nodup hL.keys, (hsub.map _).nodup hL.born, fun x hx => hL.old x (hsub.subset hx)⟩, ?_⟩
    · have hm : (entsOf L).eraseIdxIfInBounds j = entsOf (L.eraseIdx j) := by
        simp [entsOf, map_erase]
      simp [Builtin.delete_, Sem.run_bind, run_underlying Try.underlying61, Result.andThen_ok, run_getMap hb, checkStruct W _ a, hf, run_setMap hb, hm]
    · intro e
      rw [List.mem_eraseIdx_iff_getElem]
      constructor
      · rintro ⟨i, hi, hne, rfl⟩
        refine ⟨List.getElem_mem _, fun h => ?_⟩
        have hnd := hL.keys
        rw [List.nodup_iff_pairwise_ne, List.pairwise_iff_getElem] at hnd
        rcases Nat.lt_or_gt_of_ne hne with hlt | hlt
        · have := hnd i j (by simpa using hi) (by simpa using hj) hlt
          simp only [List.getElem_map, he0, hea, h] at this
          exact this rfl
        · have := hnd j i (by simpa using hj) (by simpa using hi) hlt
          simp only [List.getElem_map, he0, hea, h] at this
          exact this rfl
      · rintro ⟨h1, h2⟩
        obtain ⟨i, hi, rfl⟩ := List.getElem_of_mem h1
        refine ⟨i, hi, ?_, rfl⟩
        rintro rfl
        rw [he0] at h2
        exact h2 hea

theorem run_choose_map {P : Program} (W : World) (n : Nat) (hn : 0 < n) : ∃ i k, i < n ∧ (choose (.mapNext n)).run P W = .ok i (W.drewN k) := by
  by_cases h : n ≤ 1
  · exact ⟨0, 0, hn, by simp [choose, Sem.run, Question.forced, h, World.drewN]⟩
  · exact ⟨W.tape W.drawn (.mapNext n) % n, 1, Nat.mod_lt _ hn, by simp [choose, Sem.run, Question.forced, Question.cut, h, World.drewN]⟩

/-- A range over the map under way, its iterator in block r: what has been met are the stamps in 'seen'. -/
theorem run_nextL {W : World} {b r : Nat} {L : List ((Int × Int) × Int × Nat)} {c : Nat} {seen : Array Nat} (hb : W.heap[b]? = some (.map (entsOf L) c)) (hL : OkL L c) (hr : W.heap[r]? = some (.mapIter (some b) c seen c)) :
    ((∀ e ∈ L, e.2.2 ∈ seen) ∧ ∀ t, (Instr.next (.pointer (some ⟨r, 0, none⟩)) false t).run Try.prog W = .ok (.tuple #[.bool false]) W) ∨
    ∃ e ∈ L, e.2.2 ∉ seen ∧ ∃ n, ∀ t, (Instr.next (.pointer (some ⟨r, 0, none⟩)) false t).run Try.prog W = .ok (.tuple #[.bool true, kv e.1, .int .i64 e.2.1]) ((W.drewN n).putObj r (.mapIter (some b) c (seen.push e.2.2) c)) := by
  have hgr : (getObj r).run Try.prog W = .ok (.mapIter (some b) c seen c) W := by simp [getObj, Sem.run, hr]
  have hodd : (!seen.isEmpty && !(entsOf L).isEmpty && (entsOf L).all (fun x => decide (x.born ≥ c))) = false := by
    cases L with
    | nil => simp [entsOf]
    | cons e L =>
      have := hL.old e (by simp)
      simp [entsOf, show ¬ c ≤ e.2.2 by omega]
  have hleft : (entsOf L).filter (fun x => !seen.contains x.born) = entsOf (L.filter fun e => !seen.contains e.2.2) := by
    simp [entsOf, List.filter_map, Function.comp_def]
  have hold : (entsOf (L.filter fun e => !seen.contains e.2.2)).filter (fun x => decide (x.born < c)) = entsOf (L.filter fun e => !seen.contains e.2.2) := by
    rw [Array.filter_eq_self]
    intro x hx
    simp only [entsOf, List.mem_toArray, List.mem_map] at hx
    obtain ⟨e, he, rfl⟩ := hx
    simpa using hL.old e (List.mem_filter.1 he).1
  have hnew : (entsOf (L.filter fun e => !seen.contains e.2.2)).filter (fun x => decide (x.born ≥ c)) = #[] := by
    rw [Array.filter_eq_empty_iff]
    intro x hx
    simp only [entsOf, List.mem_toArray, List.mem_map] at hx
    obtain ⟨e, he, rfl⟩ := hx
    have := hL.old e (List.mem_filter.1 he).1
    simp; omega
  have hM : ∀ e, e ∈ L.filter (fun e => !seen.contains e.2.2) ↔ e ∈ L ∧ e.2.2 ∉ seen := by
    intro e; rw [List.mem_filter]; simp
  generalize L.filter (fun e => !seen.contains e.2.2) = M at *
  cases M with
  | nil =>
    refine .inl ⟨?_, fun t => ?_⟩
    · intro e he
      refine Classical.byContradiction fun h => ?_
      have := (hM e).2 ⟨he, h⟩
      cases this
    · have hd : ((entsOf []).filter fun x => decide (x.born < c)) = #[] ∧ ((entsOf []).filter fun x => decide (x.born ≥ c)) = #[] := by simp [entsOf]
      simp only [Instr.next, Sem.run_bind, hgr, Result.andThen_ok, run_getMap hb, hodd, hleft, hd.1, hd.2]
      simp [choose, Sem.run, Question.forced]
  | cons m M =>
    right
    obtain ⟨i, k, hi, hch⟩ := run_choose_map (P := Try.prog) W (m :: M).length (by simp)
    have hne : (entsOf (m :: M)).isEmpty = false := by simp [entsOf]
    obtain ⟨h1, h2⟩ := (hM _).1 (List.getElem_mem hi)
    refine ⟨_, h1, h2, k, fun t => ?_⟩
    have hsz : (#[] ++ (entsOf (m :: M) ++ #[]).map some).size = (m :: M).length := by simp [entsOf]
    have hcand : (#[] ++ (entsOf (m :: M) ++ #[]).map some)[i]? = some (some { key := kv (m :: M)[i].1, val := .int .i64 (m :: M)[i].2.1, born := (m :: M)[i].2.2 }) := by
      rw [Array.empty_append, Array.append_empty, Array.getElem?_map]
      unfold entsOf
      rw [List.getElem?_toArray, List.getElem?_map, List.getElem?_eq_getElem hi]
      rfl
    have hr' : (W.drewN k).heap[r]? = some (.mapIter (some b) c seen c) := hr
    simp only [Instr.next, Sem.run_bind, hgr, Result.andThen_ok, run_getMap hb, hodd, hleft, hold, hnew, hne, Bool.false_eq_true, if_false, hsz, hch, hcand, run_setMap hr', Sem.run_pure]
/-- The entry that was met last. -/
theorem run_entryL {W : World} {b r : Nat} {L : List ((Int × Int) × Int × Nat)} {c : Nat} {seen : Array Nat} {e : (Int × Int) × Int × Nat} (hb : W.heap[b]? = some (.map (entsOf L) c)) (hL : OkL L c) (he : e ∈ L) (hr : W.heap[r]? = some (.mapIter (some b) c (seen.push e.2.2) c)) :
    (Instr.entry (.pointer (some ⟨r, 0, none⟩))).run Try.prog W = .ok (.tuple #[kv e.1, .int .i64 e.2.1]) W := by
  have hgr : (getObj r).run Try.prog W = .ok (.mapIter (some b) c (seen.push e.2.2) c) W := by simp [getObj, Sem.run, hr]
  have hf : (entsOf L).find? (fun x => x.born == e.2.2) = some { key := kv e.1, val := .int .i64 e.2.1, born := e.2.2 } := by
    obtain ⟨k, hk, rfl⟩ := List.getElem_of_mem he
    have hnd := hL.born
    rw [List.nodup_iff_pairwise_ne, List.pairwise_iff_getElem] at hnd
    simp only [entsOf, List.find?_toArray]
    rw [List.find?_eq_some_iff_getElem]
    refine ⟨by simp, k, by simpa using hk, by simp, fun j hj => ?_⟩
    have := hnd j k (by simp; omega) (by simpa using hk) hj
    simpa using this
  simp [Instr.entry, Sem.run_bind, hgr, Result.andThen_ok, run_getMap hb, hf]
end Go.Proofs.Ytjajdpggoggoiaa

namespace Go.Proofs.Ytjajdpggoggoiaa
open Go.RowKit Go.Shelf

theorem num3 : (Try.prog.info? 3).map (fun i => (i.zero, i.size, i.bytes)) = some (some (.int .i64 0), 1, 8) := by kernel_rfl
theorem num2 : (Try.prog.info? 2).map (fun i => (i.zero, i.size, i.bytes)) = some (some (.int .i64 0), 1, 8) := by kernel_rfl
theorem info75 : (Try.prog.info? 75).map (fun i => (i.zero, i.size, i.bytes)) = some (some (.agg #[.int .i64 0, .int .i64 0]), 2, 16) := by kernel_rfl
theorem info96 : (Try.prog.info? 96).map (fun i => (i.zero, i.size, i.bytes)) = some (some (.agg #[.int .i64 0, .int .i64 0]), 2, 16) := by kernel_rfl
theorem info22 : (Try.prog.info? 22).map (fun i => (i.zero, i.size, i.bytes)) = some (some (.slice none 0 0), 1, 24) := by kernel_rfl
theorem run_clip (a : Option Addr) (n cap : Nat) (h : n ≤ cap) (ha : ∀ ad, a = some ad → ad.off = 0 ∧ ad.spot = none) (w : World) :
    (Instr.slice 22 (.slice a n cap) none (some (.int .i64 (n : Int))) (some (.int .i64 (n : Int)))).run Try.prog w = .ok (.slice a n n) w := by
  have h1 : ¬ ((n : Int) < 0) := by omega
  have h2 : ¬ ((cap : Int) < (n : Int)) := by omega
  obtain ⟨i0, hi, hz0, hz1, hz2⟩ := info_parts num3
  cases a with
  | none => simp [Instr.slice, run_underlying Try.underlying22, Sem.run_bind, Instr.sliceBounds, Instr.sliceBound, asIntOf, h, sizeOf, typeInfo, hi, Addr.add]
  | some ad =>
    obtain ⟨e1, e2⟩ := ha ad rfl
    obtain ⟨b, o, sp⟩ := ad
    simp only at e1 e2
    subst e1; subst e2
    simp [Instr.slice, run_underlying Try.underlying22, Sem.run_bind, Instr.sliceBounds, Instr.sliceBound, asIntOf, h, sizeOf, typeInfo, hi, Addr.add]

/-- One more element behind a slice that is clipped to its length. -/
theorem append_clip (w : World) (a : Option Addr) (n cap : Nat) (xs : List Int) (hrd : RdI w .i64 (.slice a n cap) xs) (ha : ∀ ad, a = some ad → ad.off = 0 ∧ ad.spot = none) (hn : n ≤ 1000) (ad : Addr) (x : Int) (hx : w.cell? (ad.add 0) = some (.int .i64 x)) :
    ∀ ty, ∃ v' w', (Builtin.append_ #[22, 22] ty #[.slice a n n, .slice (some ad) 1 1]).run Try.prog w = .ok v' w' ∧ w'.ownsRow w.heap.size 3 1 v' (n + 1) ((xs ++ [x]).map (Value.int .i64)) ∧ w.grownBy w' none := by
  intro ty
  obtain ⟨i0, hi, hz0, hz1, hz2⟩ := info_parts num3
  obtain ⟨a', c', he, hcap, hcm, hcell⟩ := hrd.form
  simp only [Value.slice.injEq] at he
  obtain ⟨rfl, rfl, rfl⟩ := he
  have hnews : ∀ j u, ([Value.int .i64 x] : List Value)[j]? = some u → w.cell? (ad.add j) = some u := by
    intro j u hu
    cases j with
    | zero => simp at hu; rw [hx, hu]
    | succ j => simp at hu
  have grown : ∀ (old : Nat), (w.drew.alloc (.cells ((xs.map (Value.int .i64)).toArray ++ [Value.int .i64 x].toArray ++ Builtin.zeroCells (Value.int .i64 0).cells (grownCap w (xs.length + 1) old 3 - (xs.length + 1))) 3)).ownsRow w.heap.size 3 1
        (.slice (some ⟨w.heap.size, 0, none⟩) (xs.length + 1) (grownCap w (xs.length + 1) old 3)) (xs.length + 1) ((xs ++ [x]).map (Value.int .i64)) ∧
      w.grownBy (w.drew.alloc (.cells ((xs.map (Value.int .i64)).toArray ++ [Value.int .i64 x].toArray ++ Builtin.zeroCells (Value.int .i64 0).cells (grownCap w (xs.length + 1) old 3 - (xs.length + 1))) 3)) none := by
    intro old
    have hge := grownCap_ge w (xs.length + 1) old 3
    have hcm : grownCap w (xs.length + 1) old 3 ≤ maxLen := grownCap_le_maxLen w (xs.length + 1) old 3 (by unfold maxLen; omega)
    refine ⟨⟨by simp, .inr ⟨w.heap.size, _, _, rfl, Nat.le_refl _, heap_alloc_new w.drew _, hge, hcm, ?_, ?_⟩⟩, ⟨rfl, rfl, rfl, by simp, fun k hk _ => Below.heap_alloc w.drew _ k hk⟩⟩
    · simp only [Array.size_append, List.size_toArray, size_zeroCells, List.length_map, List.length_cons, List.length_nil]
      simp [Value.cells]
      omega
    · simp only [Array.toList_append, List.append_assoc, List.map_append, List.map_cons, List.map_nil]
      rw [← List.append_assoc, List.take_append_of_le_length (by simp), List.take_of_length_le (by simp)]
  cases a with
  | none =>
    have h0 : xs.length = 0 := by
      rcases Nat.eq_zero_or_pos xs.length with h | h
      · exact h
      · obtain ⟨b, off, e, _⟩ := hcell h; cases e
    obtain rfl : xs = [] := List.eq_nil_of_length_eq_zero h0
    have hr := run_append_nil (P := Try.prog) w 22 ty 3 i0 (.int .i64 0) Try.underlying22 hi hz0 ad 1 1 [.int .i64 x] (by rw [hz1]; rfl) hnews (by omega) (by omega) (by rw [hz2]; omega)
    have hgr := grown 0
    simp only [List.length_nil, Nat.zero_add, List.map_nil, List.nil_append, Array.empty_append] at hgr ⊢
    exact ⟨_, _, hr, hgr.1, hgr.2⟩
  | some g =>
    have holds : ∀ j u, (xs.map (Value.int .i64))[j]? = some u → w.cell? (g.add j) = some u := by
      intro j u hu
      have hj : j < xs.length := by have := (List.getElem?_eq_some_iff.1 hu).1; simpa using this
      obtain ⟨b, off, e, hb, hc⟩ := hcell (by omega)
      simp only [Option.some.injEq] at e
      subst e
      rw [Go.WideShapes.add_plain, hc j hj]
      simp [hj] at hu
      simp [hj, hu]
    have hr := run_append_grow (P := Try.prog) w 22 ty 3 i0 (.int .i64 0) Try.underlying22 hi hz0 g xs.length xs.length (xs.map (Value.int .i64)) (by rw [hz1]; simp) holds ad 1 1 [.int .i64 x] (by rw [hz1]; rfl) hnews (by omega) (by omega) (growslice_fits (by omega) (by rw [hz2]; omega))
    have hgr := grown xs.length
    exact ⟨_, _, hr, hgr.1, hgr.2⟩

/-- The operation 'append', where its run is known. -/
theorem wpList_append_eq {P : Program} (w : World) {ops : Array Oper} {rest : List Oper} {o : Oper} {a : Act} {Q : Exit → Act → World → Prop} (hgd : o.guard = none) (s x : Operand) (t : TypeId)
    (ho : o.op = .call { callee := .builtin .append, args := #[s, x], argTypes := #[t, t] }) (v u : Value) (hs : a.eval s = v) (hx : a.eval x = u) {v' : Value} {w' : World}
    (hr : (Builtin.append_ #[t, t] o.type #[v, u]).run P w = .ok v' w') (h : wpList P ops Q rest (a.put o.dst v') w') : wpList P ops Q (o :: rest) a w := by
  refine wpList_plain hgd fun K hK => ?_
  unfold Oper.wp execOp
  simp only [ho, resolve, invoke, builtin, Sem.run_bind, Sem.run_pure, Result.andThen_ok, List.map_toArray, List.map_cons, List.map_nil, hs, hx, hr]
  exact hK _ _ h

theorem rdP_nil (w : World) : RdP w (.slice none 0 0) [] := ⟨none, 0, rfl, Nat.le_refl _, by unfold maxLen; omega, fun h => absurd rfl h⟩
theorem prs_append (a b : List (Int × Int)) : prs (a ++ b) = prs a ++ prs b := by simp [prs]
theorem cell_two_new (w : World) (x y : Value) (t : TypeId) : ∀ j u, ([x, y] : List Value)[j]? = some u → (w.alloc (.cells #[x, y] t)).cell? ((⟨w.heap.size, 0, none⟩ : Addr).add j) = some u := by
  intro j u h
  match j, h with
  | 0, h => simp at h; subst h; exact cnew rfl rfl
  | 1, h => simp at h; subst h; exact cnew rfl rfl
  | j + 2, h => simp at h
theorem two_int (a b : Int) : ∀ u ∈ [Value.int .i64 a, Value.int .i64 b], u.oneCell' = true := by simp [Value.oneCell']
theorem owns_form {w : World} {base e size n : Nat} {v : Value} {xs : List Value} (h : w.ownsRow base e size v n xs) : ∃ a c, v = .slice a n c := by
  rcases h.2 with ⟨rfl, rfl⟩ | ⟨g, cap, cur, rfl, _⟩
  · exact ⟨_, _, rfl⟩
  · exact ⟨_, _, rfl⟩
theorem append_keep {w w' : World} {base e size n j : Nat} {v : Value} {xs : List Value} (h : w.ownsRow base e size v n xs) (hg : w.grownBy w' v.ownBlock) (hj : j < base) (hjw : j < w.heap.size) : w'.heap[j]? = w.heap[j]? :=
  hg.block j hjw fun e => by have := (h.lt j e.symm).1; omega
theorem append_below {a w w' : World} {base e size n : Nat} {v : Value} {xs : List Value} (hb : Below a.heap.size a w) (h : w.ownsRow base e size v n xs) (hg : w.grownBy w' v.ownBlock) (hj : a.heap.size ≤ base) : Below a.heap.size a w' :=
  bgr hb hg fun k e => Nat.le_trans hj (h.lt k e).1

theorem owns_lt {w : World} {base e g n cap : Nat} {cs : List Value} (h : w.ownsRow base e 1 (.slice (some ⟨g, 0, none⟩) n cap) n cs) (hn : 0 < n) : g < w.heap.size := by
  have h1 := h.cellAt 0 (by omega)
  have h2 : 0 < cs.length := by rw [h.1]; omega
  rw [List.getElem?_eq_getElem h2] at h1
  exact World.block_lt_of_cell? _ _ h1
theorem grown_of {a w : World} (h : Below a.heap.size a w) : a.grownBy w none := ⟨h.os, h.tape, h.output, h.size, fun r h1 _ => h.block r h1⟩
theorem owns_kept {w w' : World} {base e size n : Nat} {v : Value} {xs : List Value} (h : w.ownsRow base e size v n xs) (hb : Below w.heap.size w w') : w'.ownsRow base e size v n xs := by
  refine h.kept (grown_of hb) ?_
  cases hv : v.ownBlock with
  | none => exact .inl rfl
  | some k => exact .inr (by simp)
/-- 'append' of one number to a list of the call's own. -/
theorem wpList_append_num {w : World} {base : Nat} {t e : TypeId} {v : Value} {xs : List Int} {ops : Array Oper} {rest : List Oper} {o : Oper} {a : Act} {Q : Exit → Act → World → Prop} (hgd : o.guard = none) (s x : Operand)
    (ho : o.op = .call { callee := .builtin .append, args := #[s, x], argTypes := #[t, t] }) (ht : Try.prog.underlying t = some (.slice e)) (hie : (Try.prog.info? e).map (fun i => (i.zero, i.size, i.bytes)) = some (some (.int .i64 0), 1, 8))
    (h : w.ownsRow base e 1 v xs.length (xs.map (Value.int .i64))) (q : Int) (hs : a.eval s = v) {nb : Nat} (hx : a.eval x = .slice (some ⟨nb, 0, none⟩) 1 1) (hnb : nb = w.heap.size) (hl : xs.length ≤ 1000) (hb : base ≤ w.heap.size)
    (H : ∀ v' w', w'.ownsRow base e 1 v' (xs ++ [q]).length ((xs ++ [q]).map (Value.int .i64)) → (w.alloc (.cells #[.int .i64 q] e)).grownBy w' v.ownBlock → wpList Try.prog ops Q rest (a.put o.dst v') w') :
    wpList Try.prog ops Q (o :: rest) a (w.alloc (.cells #[.int .i64 q] e)) := by
  subst hnb
  obtain ⟨i0, hi, hz0, hz1, hz2⟩ := info_parts hie
  refine wpList_append_own _ hgd s x t ho base e i0 (.int .i64 0) 1 8 ht hi hz0 hz1 hz2 rfl (by decide) _ _ _ hs (h.alloc _) ⟨w.heap.size, 0, none⟩ 1 1 [.int .i64 q] hx rfl (fun j u hj => ?_) (fun u hu => by simp at hu; subst hu; rfl)
    (by simp only [maxLen]; omega) (by omega) (by simp; omega) ?_
  · match j, hj with
    | 0, hj => simp at hj; subst hj; rw [Go.WideShapes.add_plain]; simp
  · intro v' w' h1 h2 _
    refine H v' w' ?_ h2
    rw [List.map_append, List.length_append]
    exact h1
theorem grownBy_set (W : World) (a : Addr) (u : Value) : W.grownBy (W.setCell a u) (some a.block) :=
  ⟨rfl, rfl, rfl, by simp, fun k _ hk => Below.heap_setCell W a u k (fun e => hk (by rw [e]))⟩
theorem own_ne {w : World} {b1 b2 : Nat} {e1 e2 : TypeId} {s1 s2 : Nat} {v1 v2 : Value} {n1 n2 : Nat} {x1 x2 : List Value} (h1 : w.ownsRow b1 e1 s1 v1 n1 x1) (h2 : w.ownsRow b2 e2 s2 v2 n2 x2) (he : e1 ≠ e2) : v1.ownBlock = none ∨ v1.ownBlock ≠ v2.ownBlock := by
  rcases h1.2 with ⟨rfl, _⟩ | ⟨g, cap, cur, rfl, _, hg, _⟩
  · exact .inl rfl
  · refine .inr ?_
    rcases h2.2 with ⟨rfl, _⟩ | ⟨g', cap', cur', rfl, _, hg', _⟩
    · simp [Value.ownBlock]
    · simp only [Value.ownBlock, ne_eq, Option.some.injEq]
      rintro rfl
      rw [hg] at hg'
      simp at hg'
      exact he hg'.2

theorem run_append_none {P : Program} {w : World} {base size n : Nat} {e : TypeId} {v : Value} {xs : List Value} (t ty : TypeId) (i : TypeInfo) (ht : P.underlying t = some (.slice e)) (hi : P.info? e = some i) (h : w.ownsRow base e size v n xs) (c : Nat) :
    (Builtin.append_ #[t, t] ty #[v, .slice none 0 c]).run P w = .ok v w := by
  rcases h.2 with ⟨rfl, rfl⟩ | ⟨g, cap, cur, rfl, _, hg, hc, _⟩
  · simp [Builtin.append_, run_underlying ht, sizeOf, typeInfo, hi, Builtin.lenOf, Builtin.firstCells]
  · simp [Builtin.append_, run_underlying ht, sizeOf, typeInfo, hi, Builtin.lenOf, Builtin.firstCells, hc, storeCells]
theorem prs_num (V : List (Int × Int)) : ∀ u ∈ prs V, u.oneCell' = true := by
  intro u hu
  simp only [prs, List.mem_flatMap] at hu
  obtain ⟨p, _, hu⟩ := hu
  simp at hu
  rcases hu with rfl | rfl <;> rfl
/-- 'append' of one pair to a list of the call's own; the pair has just been laid into a block of its own. -/
theorem wpList_append_pair {w : World} {base : Nat} {t e : TypeId} {v : Value} {V : List (Int × Int)} {ops : Array Oper} {rest : List Oper} {o : Oper} {a : Act} {Q : Exit → Act → World → Prop} (hgd : o.guard = none) (s x : Operand)
    (ho : o.op = .call { callee := .builtin .append, args := #[s, x], argTypes := #[t, t] }) (ht : Try.prog.underlying t = some (.slice e)) (hie : (Try.prog.info? e).map (fun i => (i.zero, i.size, i.bytes)) = some (some (.agg #[.int .i64 0, .int .i64 0]), 2, 16))
    (h : w.ownsRow base e 2 v V.length (prs V)) (hb : base ≤ w.heap.size) (q1 q2 : Int) (hs : a.eval s = v) {nb : Nat} (hx : a.eval x = .slice (some ⟨nb, 0, none⟩) 1 1) (hnb : nb = w.heap.size) (hl : V.length ≤ 1000)
    (H : ∀ v' w', w'.ownsRow base e 2 v' (V ++ [(q1, q2)]).length (prs (V ++ [(q1, q2)])) → (w.alloc (.cells #[.int .i64 q1, .int .i64 q2] e)).grownBy w' v.ownBlock → wpList Try.prog ops Q rest (a.put o.dst v') w') :
    wpList Try.prog ops Q (o :: rest) a (w.alloc (.cells #[.int .i64 q1, .int .i64 q2] e)) := by
  subst hnb
  obtain ⟨i0, hi, hz0, hz1, hz2⟩ := info_parts hie
  refine wpList_append_own _ hgd s x t ho base e i0 (.agg #[.int .i64 0, .int .i64 0]) 2 16 ht hi hz0 hz1 hz2 rfl (by decide) _ _ _ hs (h.alloc _) ⟨w.heap.size, 0, none⟩ 1 1 [.int .i64 q1, .int .i64 q2] hx rfl (cell_two_new _ _ _ _) (two_int _ _)
    (by simp only [maxLen]; omega) (by omega) (by simp; omega) ?_
  intro v' w' h1 h2 _
  refine H v' w' ?_ h2
  rw [List.length_append, prs_append]
  exact h1
theorem owns_set {w : World} {base e size n : Nat} {v : Value} {xs : List Value} (h : w.ownsRow base e size v n xs) {r : Nat} (hr : r < base) (i : Nat) (u : Value) : (w.setCell ⟨r, i, none⟩ u).ownsRow base e size v n xs :=
  h.kept (grownBy_set w _ _) (by
    cases hvv : v.ownBlock with
    | none => exact .inl rfl
    | some q => exact .inr (by intro e; cases e; have := (h.lt _ hvv).1; simp only at this; omega))
theorem owns_base {w : World} {b1 b2 e size n : Nat} {v : Value} {xs : List Value} (h : w.ownsRow b1 e size v n xs) (hb : b2 ≤ b1) : w.ownsRow b2 e size v n xs := by
  refine ⟨h.1, ?_⟩
  rcases h.2 with h | ⟨g, cap, cur, h1, h2, h3⟩
  · exact .inl h
  · exact .inr ⟨g, cap, cur, h1, by omega, h3⟩
theorem owns_clip {w : World} {base e size n : Nat} {v : Value} {xs : List Value} (h : w.ownsRow base e size v n xs) : ∃ a c, v = .slice a n c ∧ n ≤ c ∧ ∀ ad, a = some ad → ad.off = 0 ∧ ad.spot = none := by
  rcases h.2 with ⟨rfl, rfl⟩ | ⟨g, cap, cur, rfl, _, _, hc, _⟩
  · exact ⟨none, 0, rfl, Nat.le_refl _, by simp⟩
  · exact ⟨_, _, rfl, hc, by rintro ad e; cases e; exact ⟨rfl, rfl⟩⟩
end Go.Proofs.Ytjajdpggoggoiaa

namespace Go.Proofs.Ytjajdpggoggoiaa
open Go.RowKit Go.Shelf

def checkD (R : Int) (W : List Int) : Int := if outB 1 6 R then 3 else if 16 < W.length then 6 else if W.any (outB 1 8) then 2 else 0
theorem one_slice {w : World} {p : Int} {b : Nat} (h : w.cell? ⟨b, 0, none⟩ = some (.int .i64 p)) (hb : b < w.heap.size) : RdI w .i64 (.slice (some ⟨b, 0, none⟩) 1 1) [p] := by
  refine ⟨_, _, rfl, by simp, by unfold maxLen; omega, fun _ => ⟨_, _, rfl, hb, fun j u hj => ?_⟩⟩
  match j, hj with
  | 0, hj => simp at hj; subst hj; exact h
theorem RdI.ex {w : World} {k : IntKind} {v : Value} {V : List Int} (h : RdI w k v V) (n : Nat) (hn : V.length = n) : ∃ a c, v = .slice a n c := by
  obtain ⟨a, c, h, _⟩ := h; exact ⟨a, c, by rw [h, hn]⟩

set_option maxRecDepth 100000 in
set_option maxHeartbeats 1000000 in
theorem checkday_any (R : Int) (x : Value) (W : List Int) (w : World) (hx0 : RdI w .i64 x W) (hl : W.length ≤ 1000) :
    Calls Try.prog 19 #[.agg #[.int .i64 R, x]] w fun e w' => e = .returned (.int .i64 (checkD R W)) ∧ Below w.heap.size w w' := by
  obtain ⟨a, c, rfl⟩ := hx0.ex _ rfl
  have HX := Lib.hid hx0; clear hx0
  unfold checkD
  cases hr : outB 1 6 R
  · have HR : Hid ([R].any (outB 1 6) = false) := Lib.hid (by simp [hr])
    clear hr
    by_cases h16 : 16 < W.length
    · rw [if_neg (by decide), if_pos h16]
      have d2 : decide ((16 : Int) < (W.length : Int)) = true := decide_eq_true (by omega)
      go_enter Try.func19, Try.ntmps19
      go_wp2_with fail
      refine (within_any _ [R] _ _ _ (one_slice (by simp) (by simp)) (by simp)).mono ?_
      rintro e w2 ⟨rfl, hB2⟩
      rw [HR.out]
      obtain ⟨hc, hf⟩ := bcell hB2
      have hz := hB2.size
      simp only [World.size_alloc] at hz
      go_wp2_with fail
      go_ret
      exact ⟨rfl, btr (bal (bal (bz _) _) _) hB2⟩
    · rw [if_neg (by decide), if_neg h16]
      have d2 : decide ((16 : Int) < (W.length : Int)) = false := decide_eq_false (by omega)
      have HWI := Lib.hid (fun wz hx => within_any (.slice a W.length c) W 1 8 wz hx hl)
      obtain ⟨q, hq⟩ : ∃ q, W.any (outB 1 8) = q := ⟨_, rfl⟩
      rw [hq] at HWI ⊢
      clear hq
      go_enter Try.func19, Try.ntmps19
      go_wp2_with fail
      refine (within_any _ [R] _ _ _ (one_slice (by simp) (by simp)) (by simp)).mono ?_
      rintro e w2 ⟨rfl, hB2⟩
      rw [HR.out]
      obtain ⟨hc, hf⟩ := bcell hB2
      have hz := hB2.size
      simp only [World.size_alloc] at hz
      have HB2 := Lib.hid hB2
      clear hB2
      go_wp2_with fail
      refine (HWI.out _ (HX.out.mono (btr (bal (bal (bz _) _) _) HB2.out))).mono ?_
      rintro e w3 ⟨rfl, hB3⟩
      cases q
      · go_wp2_with fail
        go_ret
        exact ⟨rfl, btr (btr (bal (bal (bz _) _) _) HB2.out) hB3⟩
      · go_wp2_with fail
        go_ret
        exact ⟨rfl, btr (btr (bal (bal (bz _) _) _) HB2.out) hB3⟩
  · have HR : Hid ([R].any (outB 1 6) = true) := Lib.hid (by simp [hr])
    clear hr
    rw [if_pos rfl]
    go_enter Try.func19, Try.ntmps19
    go_wp2_with fail
    refine (within_any _ [R] _ _ _ (one_slice (by simp) (by simp)) (by simp)).mono ?_
    rintro e w2 ⟨rfl, hB2⟩
    rw [HR.out]
    go_wp2_with fail
    go_ret
    exact ⟨rfl, btr (bal (bal (bz _) _) _) hB2⟩

set_option maxRecDepth 100000 in
set_option maxHeartbeats 1000000 in
theorem rcheckday_any (R : Int) (x : Value) (W : List Int) (w : World) (hx0 : RdI w .i64 x W) (hl : W.length ≤ 1000) :
    Calls Try.prog 20 #[.agg #[.int .i64 R, x]] w fun e w' => e = .returned (.int .i64 (checkD R W)) ∧ Below w.heap.size w w' := by
  obtain ⟨a, c, rfl, hca, hcm, hx⟩ := hx0.form
  clear hcm hx0
  unfold checkD
  by_cases h1 : R < 1
  · rw [if_pos (by simp [outB]; omega)]
    have d1 : decide (R < 1) = true := decide_eq_true h1
    go_enter Try.func20, Try.ntmps20
    go_wp2_with fail
    go_ret
    exact ⟨rfl, bal (bz _) _⟩
  · have d1 : decide (R < 1) = false := decide_eq_false h1
    by_cases h6 : 6 < R
    · rw [if_pos (by simp [outB]; omega)]
      have d6 : decide (6 < R) = true := decide_eq_true h6
      go_enter Try.func20, Try.ntmps20
      go_wp2_with fail
      go_ret
      exact ⟨rfl, bal (bz _) _⟩
    · have d6 : decide (6 < R) = false := decide_eq_false h6
      rw [if_neg (by simp [outB]; omega)]
      by_cases h16 : 16 < W.length
      · rw [if_pos h16]
        have d2 : decide ((16 : Int) < (W.length : Int)) = true := decide_eq_true (by omega)
        go_enter Try.func20, Try.ntmps20
        go_wp2_with fail
        go_ret
        exact ⟨rfl, bal (bz _) _⟩
      · rw [if_neg h16]
        obtain ⟨q, hq⟩ : ∃ q, W.any (outB 1 8) = q := ⟨_, rfl⟩
        rw [hq]
        have HQ := Lib.hid hq; clear hq
        have d2 : decide ((16 : Int) < (W.length : Int)) = false := decide_eq_false (by omega)
        go_enter Try.func20, Try.ntmps20
        go_wp2_with fail
        have c0 : (w.alloc (.cells #[.int .i64 R, .slice a W.length c] 24)).cell? ⟨w.heap.size, 1, none⟩ = some (.slice a W.length c) := cnew rfl rfl
        have HC0 := Lib.hid c0; clear c0
        go_loopw [3] (fun i wr => ∃ k : Nat, k ≤ W.length ∧ i = .int .i64 k ∧ Hid (∀ j, j < k → outB 1 8 (W[j]?.getD 0) = false) ∧ Below (w.alloc (.cells #[.int .i64 R, .slice a W.length c] 24)).heap.size (w.alloc (.cells #[.int .i64 R, .slice a W.length c] 24)) wr) (fun i _ => W.length - (intOf i).toNat)
        case atStart => exact ⟨0, Nat.zero_le _, rfl, Lib.hid (fun j h => by omega), bz _⟩
        case round =>
          obtain ⟨k, hk, rfl, HO, hB⟩ := hrel
          have e0 := (hB.cell (p := ⟨w.heap.size, 1, none⟩) (by simp)).trans HC0.out
          have hz := hB.size
          simp only [World.size_alloc] at hz
          by_cases hlt : k < W.length
          · obtain ⟨bx, ox, rfl, hbx, hcx⟩ := hx (by omega)
            have g0 := ((btr (bal (bz w) _) hB).cell (p := ⟨bx, ox + k, none⟩) hbx).trans (hcx k hlt)
            have zb : bx < wr.heap.size := by omega
            have HB := Lib.hid hB
            clear hB hx hcx
            generalize hp : W[k]?.getD 0 = p at *
            have HP := Lib.hid hp; clear hp
            have hany : ∀ q, outB 1 8 p = q → (q = true → W.any (outB 1 8) = true) := by
              intro q hq hqt
              subst hqt
              rw [List.any_eq_true]
              refine ⟨p, ?_, hq⟩
              have := HP.out
              rw [List.getElem?_eq_getElem hlt] at this
              simp at this; rw [← this]; exact List.getElem_mem hlt
            have HA := Lib.hid hany; clear hany
            by_cases q1 : p < 1
            · have z1 : decide (p < 1) = true := decide_eq_true q1
              obtain rfl : q = true := by rw [← HQ.out]; exact HA.out true (by simp [outB, q1]) rfl
              go_wp2_with fail
              go_ret
              exact ⟨rfl, btr (bal (bz _) _) HB.out⟩
            · have z1 : decide (p < 1) = false := decide_eq_false q1
              by_cases q8 : 8 < p
              · have z8 : decide (8 < p) = true := decide_eq_true q8
                obtain rfl : q = true := by rw [← HQ.out]; exact HA.out true (by simp [outB, q8]) rfl
                go_wp2_with fail
                go_ret
                exact ⟨rfl, btr (bal (bz _) _) HB.out⟩
              · have z8 : decide (8 < p) = false := decide_eq_false q8
                have HO1 : Hid (∀ j, j < k + 1 → outB 1 8 (W[j]?.getD 0) = false) := Lib.hid (fun j hj => by
                  by_cases e : j = k
                  · subst e; rw [HP.out]; simp [outB]; omega
                  · exact HO.out j (by omega))
                clear HA HO q1 q8
                go_wp2_with fail
                go_roundw
                case rel => exact ⟨k + 1, by omega, by go_num, HO1, HB.out⟩
                case measure => simp [intOf]; omega
          · have hn : W.any (outB 1 8) = false := by
              rw [List.any_eq_false]
              intro y hy
              obtain ⟨j, hj, rfl⟩ := List.getElem_of_mem hy
              have := HO.out j (by omega)
              simpa [hj] using this
            obtain rfl : q = false := by rw [← HQ.out]; exact hn
            have HB := Lib.hid hB
            clear hB hn
            go_wp2_with fail
            go_ret
            exact ⟨rfl, btr (bal (bz _) _) HB.out⟩
end Go.Proofs.Ytjajdpggoggoiaa

namespace Go.Proofs.Ytjajdpggoggoiaa
open Go.RowKit Go.Shelf

def arrI (l : List Int) : Array Value := (l.map (Value.int .i64)).toArray
theorem arrI_size (l : List Int) : (arrI l).size = l.length := by simp [arrI]
theorem arrI_get (l : List Int) (i : Nat) (h : i < l.length) : (arrI l)[i]? = some (.int .i64 (l[i]?.getD 0)) := by simp [arrI, h]
theorem arrI_set (l : List Int) (i : Nat) (x : Int) : (arrI l).setIfInBounds i (.int .i64 x) = arrI (l.set i x) := by simp [arrI, List.map_set]

def benchC (R : Int) (x : Value) (on : List Int) (m : Value) : Array Value := ([.int .i64 R, x] ++ on.map (Value.int .i64) ++ [m]).toArray
/-- Block b is a bench: its room, its wants, what is on it (9 numbers), its pauses. -/
structure BenchAt (w : World) (b : Nat) (R : Int) (x : Value) (on : List Int) (m : Value) : Prop where
  row : w.heap[b]? = some (.cells (benchC R x on m) 63 (0, 0))
  len : on.length = 9
theorem BenchAt.lt {w : World} {b : Nat} {R : Int} {x : Value} {on : List Int} {m : Value} (h : BenchAt w b R x on m) : b < w.heap.size := (Array.getElem?_eq_some_iff.1 h.row).1
theorem BenchAt.up {w w' : World} {b : Nat} {R : Int} {x : Value} {on : List Int} {m : Value} (h : BenchAt w b R x on m) (hb : Below w.heap.size w w') : BenchAt w' b R x on m := ⟨(hb.block _ h.lt).trans h.row, h.len⟩
theorem BenchAt.far {w w' : World} {b : Nat} {R : Int} {x : Value} {on : List Int} {m : Value} {n : Nat} (h : BenchAt w b R x on m) (hb : Below n w w') (hn : b < n) : BenchAt w' b R x on m := ⟨(hb.block _ hn).trans h.row, h.len⟩
theorem BenchAt.cells {w : World} {b : Nat} {R : Int} {x : Value} {on : List Int} {m : Value} (h : BenchAt w b R x on m) :
    w.cell? ⟨b, 0, none⟩ = some (.int .i64 R) ∧ w.cell? ⟨b, 1, none⟩ = some x ∧ w.cell? ⟨b, 11, none⟩ = some m := by
  have hl := h.len
  refine ⟨?_, ?_, ?_⟩
  · rw [cell_of_row w _ 0 _ _ _ h.row]; rfl
  · rw [cell_of_row w _ 1 _ _ _ h.row]; rfl
  · rw [cell_of_row w _ 11 _ _ _ h.row]
    simp [benchC, hl]
theorem BenchAt.on {w : World} {b : Nat} {R : Int} {x : Value} {on : List Int} {m : Value} (h : BenchAt w b R x on m) {i : Nat} (hi : i < 9) : w.cell? ⟨b, 2 + i, none⟩ = some (.int .i64 (on[i]?.getD 0)) := by
  have hl := h.len
  rw [cell_of_row w _ _ _ _ _ h.row]
  simp [benchC, List.getElem?_append, hl, hi, Nat.add_comm 2 i]
theorem BenchAt.set {w : World} {b : Nat} {R : Int} {x : Value} {on : List Int} {m : Value} (h : BenchAt w b R x on m) {i : Nat} (hi : i < 9) (v : Int) : BenchAt (w.setCell ⟨b, 2 + i, none⟩ (.int .i64 v)) b R x (on.set i v) m := by
  have hl := h.len
  refine ⟨?_, by simp [hl]⟩
  rw [heap_setCell_same w b (2 + i) _ _ _ h.row]
  congr 2
  unfold benchC
  apply Array.ext'
  simp only [Array.toList_setIfInBounds]
  rw [List.set_append_left _ _ (by simp [hl]; omega), List.set_append_right _ _ (by simp)]
  simp [List.map_set]
theorem BenchAt.load {w : World} {b : Nat} {R : Int} {x : Value} {on : List Int} {m : Value} (h : BenchAt w b R x on m) : (loadVar 60 ⟨b, 2, none⟩).run Try.prog w = .ok (.agg (arrI on)) w := by
  have hl : (loadCells ⟨b, 2, none⟩ (on.map (Value.int .i64)).length).run Try.prog w = .ok (on.map (Value.int .i64)).toArray w :=
    run_loadCells_list (P := Try.prog) w ⟨b, 2, none⟩ (on.map (Value.int .i64)) (fun j v hv => by
      have hadd : (⟨b, 2, none⟩ : Addr).add j = ⟨b, 2 + j, none⟩ := by unfold Addr.add; split <;> simp_all
      have hj : j < 9 := by have := (List.getElem?_eq_some_iff.1 hv).1; rw [List.length_map, h.len] at this; exact this
      rw [hadd, h.on hj]
      rw [← hv]
      simp [h.len, hj])
  have hi : (Try.prog.info? 60).map (·.size) = some 9 := by kernel_rfl
  cases hq : Try.prog.info? 60 with
  | none => simp [hq] at hi
  | some i =>
    have hs : i.size = 9 := by simpa [hq] using hi
    have hagg : (isAgg 60).run Try.prog w = .ok true w := by
      unfold isAgg
      rw [Sem.run_bind, run_underlying Try.underlying60 w]
      rfl
    rw [List.length_map, h.len] at hl
    unfold loadVar
    simp [Sem.run_bind, hagg, sizeOf, typeInfo, hq, hs, hl, arrI]

theorem wpList_load_var {P : Program} {ops : Array Oper} {rest : List Oper} {o : Oper} {a : Act} {w : World} {Q : Exit → Act → World → Prop} (hgd : o.guard = none) (ty : TypeId) (x : Operand) (ho : o.op = .load ty x)
    (ad : Addr) (hx : a.eval x = .pointer (some ad)) (v : Value) (hl : (loadVar ty ad).run P w = .ok v w) (h : wpList P ops Q rest (a.put o.dst v) w) : wpList P ops Q (o :: rest) a w :=
  wpList_plain hgd fun _ hK => by
    unfold Oper.wp execOp
    simp only [ho, hx, Instr.loadAt, Instr.sureAddr, Sem.run_bind, Sem.run_pure, Result.andThen_ok, hl]
    exact hK _ _ h

theorem wpList_index {P : Program} {ops : Array Oper} {rest : List Oper} {o : Oper} {a : Act} {w : World} {Q : Exit → Act → World → Prop} (hgd : o.guard = none) (ty : TypeId) (x y : Operand) (ho : o.op = .index ty x y)
    (vx vy : Value) (hx : a.eval x = vx) (hy : a.eval y = vy) (v : Value) (hl : (Instr.index ty vx vy).run P w = .ok v w) (h : wpList P ops Q rest (a.put o.dst v) w) : wpList P ops Q (o :: rest) a w :=
  wpList_plain hgd fun _ hK => by
    unfold Oper.wp execOp
    simp only [ho, hx, hy, Sem.run_bind, Sem.run_pure, Result.andThen_ok, hl]
    exact hK _ _ h
def bitV (on : List Int) (r : Int) : Int := on[r.toNat]?.getD 0
set_option maxRecDepth 100000 in
set_option maxHeartbeats 1000000 in
theorem has_any (b : Nat) (R : Int) (x : Value) (on : List Int) (m : Value) (r : Int) (w : World) (hD : BenchAt w b R x on m) (r0 : 0 ≤ r) (r1 : r ≤ 8) :
    Calls Try.prog 44 #[.pointer (some ⟨b, 0, none⟩), .int .i64 r] w fun e w' => e = .returned (.bool (decide (0 < bitV on r))) ∧ w = w' := by
  obtain ⟨n, rfl⟩ := Int.eq_ofNat_of_zero_le r0
  have c0 := hD.on (i := n) (by omega)
  have hz := hD.lt
  unfold bitV
  rw [Int.toNat_natCast]
  clear hD
  generalize on[n]?.getD 0 = v at *
  go_enter Try.func44, Try.ntmps44
  go_wp2_with fail
  go_ret
  exact ⟨rfl, rfl⟩
set_option maxRecDepth 100000 in
set_option maxHeartbeats 1000000 in
theorem put_any (b : Nat) (R : Int) (x : Value) (on : List Int) (m : Value) (r : Int) (w : World) (hD : BenchAt w b R x on m) (r0 : 0 ≤ r) (r1 : r ≤ 8) :
    Calls Try.prog 46 #[.pointer (some ⟨b, 0, none⟩), .int .i64 r] w fun e w' => (∃ v, e = .returned v) ∧ w' = w.setCell ⟨b, 2 + r.toNat, none⟩ (.int .i64 0) := by
  obtain ⟨n, rfl⟩ := Int.eq_ofNat_of_zero_le r0
  have c0 := hD.on (i := n) (by omega)
  have hz := hD.lt
  have hf : w.frozen? ⟨b, 2 + n, none⟩ = false := frozen_of_row w b _ _ _ hD.row
  rw [Int.toNat_natCast]
  clear hD
  generalize on[n]?.getD 0 = v at *
  go_enter Try.func46, Try.ntmps46
  go_wp2_with fail
  exact bodyPost_end (results_none rfl _ _ _) rfl ⟨⟨_, rfl⟩, rfl⟩
set_option maxRecDepth 100000 in
set_option maxHeartbeats 1000000 in
theorem take_any (b : Nat) (R : Int) (x : Value) (on : List Int) (m : Value) (r : Int) (w : World) (hD : BenchAt w b R x on m) (r0 : 0 ≤ r) (r1 : r ≤ 8) :
    Calls Try.prog 47 #[.pointer (some ⟨b, 0, none⟩), .int .i64 r] w fun e w' => (∃ v, e = .returned v) ∧ w' = w.setCell ⟨b, 2 + r.toNat, none⟩ (.int .i64 1) := by
  obtain ⟨n, rfl⟩ := Int.eq_ofNat_of_zero_le r0
  have c0 := hD.on (i := n) (by omega)
  have hz := hD.lt
  have hf : w.frozen? ⟨b, 2 + n, none⟩ = false := frozen_of_row w b _ _ _ hD.row
  rw [Int.toNat_natCast]
  clear hD
  generalize on[n]?.getD 0 = v at *
  go_enter Try.func47, Try.ntmps47
  go_wp2_with fail
  exact bodyPost_end (results_none rfl _ _ _) rfl ⟨⟨_, rfl⟩, rfl⟩

theorem run_index_on (on : List Int) (hl : on.length = 9) {k : Nat} (hk : k < 9) (w : World) : (Instr.index 60 (.agg (arrI on)) (.int .i64 (k : Int))).run Try.prog w = .ok (.int .i64 (on[k]?.getD 0)) w := by
  obtain ⟨i0, hi, hz0, hz1, hz2⟩ := info_parts num3
  simp [Instr.index, run_underlying Try.underlying60, asIntOf, part, isAgg, run_underlying Try.underlying3, sizeOf, typeInfo, hi, hz1, arrI, hl, hk, go_sem]
def sumL (l : List Int) : Int := l.foldl (· + ·) 0
theorem sumL_snoc (l : List Int) (x : Int) : sumL (l ++ [x]) = sumL l + x := by simp [sumL, List.foldl_append]
theorem sumL_bd (on : List Int) (h : ∀ y ∈ on, 0 ≤ y ∧ y ≤ 1) : ∀ k, k ≤ on.length → 0 ≤ sumL (on.take k) ∧ sumL (on.take k) ≤ k
  | 0, _ => by simp [sumL]
  | k + 1, hk => by
    have ih := sumL_bd on h k (by omega)
    rw [List.take_succ_eq_append_getElem (by omega), sumL_snoc]
    have := h on[k] (List.getElem_mem _)
    omega
set_option maxRecDepth 100000 in
set_option maxHeartbeats 1000000 in
theorem many_any (b : Nat) (R : Int) (x : Value) (on : List Int) (m : Value) (w : World) (hD : BenchAt w b R x on m) (h01 : ∀ y ∈ on, 0 ≤ y ∧ y ≤ 1) :
    Calls Try.prog 45 #[.pointer (some ⟨b, 0, none⟩)] w fun e w' => e = .returned (.int .i64 (sumL on)) ∧ w = w' := by
  have hld := hD.load
  have hz := hD.lt
  have hl := hD.len
  clear hD
  go_enter Try.func45, Try.ntmps45
  go_wp2_with (refine wpList_load_var rfl 60 _ rfl _ rfl _ hld ?_)
  go_loopw [3, 5, 10] (fun s3 _ i wr => ∃ k : Nat, k ≤ 9 ∧ i = .int .i64 k ∧ s3 = .int .i64 (sumL (on.take k)) ∧ w = wr) (fun _ _ i _ => 9 - (intOf i).toNat)
  case atStart => exact ⟨0, Nat.zero_le _, rfl, rfl, rfl⟩
  case round =>
    obtain ⟨k, hk, rfl, rfl, rfl⟩ := hrel
    by_cases hlt : k < 9
    · have hix := run_index_on on hl hlt w
      have HT : Hid (sumL (on.take (k + 1)) = sumL (on.take k) + on[k]?.getD 0) := Lib.hid (by
        rw [List.take_succ_eq_append_getElem (by omega), sumL_snoc]; simp [hl, hlt])
      have hb := h01 (on[k]?.getD 0) (by simp [hl, hlt])
      have hs := sumL_bd on h01 k (by omega)
      generalize on[k]?.getD 0 = v at *
      generalize sumL (on.take k) = s at *
      obtain ⟨b0, b1⟩ := hb
      go_wp2_with fail
      go_roundw
      case rel => exact ⟨k + 1, by omega, by go_num, by rw [HT.out], trivial⟩
      case measure => simp [intOf]; omega
    · have hke : k = 9 := by omega
      have he : on.take k = on := by rw [List.take_of_length_le (by omega)]
      rw [he]
      clear he hke
      go_wp2_with fail
      go_ret
      exact ⟨rfl, rfl⟩
end Go.Proofs.Ytjajdpggoggoiaa

namespace Go.Proofs.Ytjajdpggoggoiaa
open Go.RowKit Go.Shelf

def eqB (r y : Int) : Bool := r == y
set_option maxRecDepth 100000 in
set_option maxHeartbeats 400000 in
theorem index_any (x : Value) (xs : List Int) (r : Int) (w : World) (hx0 : RdI w .i64 x xs) (hl : xs.length ≤ 1000) :
    Calls Try.prog 66 #[x, .int .i64 r] w fun e w' => e = .returned (.int .i64 (idxOf (eqB r) xs)) ∧ w = w' := by
  obtain ⟨a, ca, rfl, _, hcm, hx⟩ := hx0.form
  clear hx0 hcm
  go_enter Try.func66, Try.ntmps66
  go_wp2
  go_loopw [5, 8] (fun j i wr => ∃ k : Nat, k ≤ xs.length ∧ i = .int .i64 k ∧ Hid (∀ i, i < k → eqB r (xs[i]?.getD 0) = false) ∧ w = wr) (fun _ i _ => xs.length - (intOf i).toNat)
  case atStart => exact ⟨0, Nat.zero_le _, rfl, Lib.hid (by intro i h1; omega), rfl⟩
  case round =>
    obtain ⟨k, hk, rfl, HT, rfl⟩ := hrel
    by_cases hlt : k < xs.length
    · obtain ⟨bx, ox, rfl, hbx, hcx⟩ := hx (by omega)
      have gx := hcx k hlt
      clear hx hcx
      generalize hp : xs[k]?.getD 0 = p at *
      have HP := Lib.hid hp; clear hp
      by_cases hb : r = p
      · have t1 : (r == p) = true := by simp [hb]
        have HE : Hid (eqB r p = true) := Lib.hid t1
        clear hb
        go_wp2_with fail
        go_ret
        exact ⟨ret_int (find_none_step HT.out hlt (by rw [HP.out]; exact HE.out)).symm, rfl⟩
      · have t1 : (r == p) = false := by simp [hb]
        have HT1 : Hid (∀ i, i < k + 1 → eqB r (xs[i]?.getD 0) = false) := Lib.hid (fun i h1 => by
          by_cases e : i = k
          · subst e; rw [HP.out]; exact t1
          · exact HT.out i (by omega))
        clear hb HT
        go_wp2_with fail
        go_roundw
        case rel => exact ⟨k + 1, by omega, by go_num, HT1, trivial⟩
        case measure => simp [intOf]; omega
    · have HN : Hid (idxOf (eqB r) xs = -1) := Lib.hid (find_none fun i hi => HT.out i (by omega))
      go_wp2_with fail
      go_ret
      exact ⟨ret_int HN.out.symm, rfl⟩
theorem contains_any (x : Value) (xs : List Int) (r : Int) (w : World) (hx0 : RdI w .i64 x xs) (hl : xs.length ≤ 1000) :
    Calls Try.prog 79 #[x, .int .i64 r] w fun e w' => e = .returned (.bool (xs.any (eqB r))) ∧ w = w' := by
  have H := Lib.hid (idxOf_any (eqB r) xs)
  have HI := Lib.hid (index_any x xs r w hx0 hl)
  generalize idxOf (eqB r) xs = q at *
  go_enter Try.func79, Try.ntmps79
  go_wp2_with fail
  refine HI.out.mono ?_
  rintro e w2 ⟨rfl, rfl⟩
  go_wp2_with fail
  go_ret
  exact ⟨ret_bool H.out, rfl⟩
theorem run_cutMid (g o n c lo hi : Nat) (h1 : lo ≤ hi) (h2 : hi ≤ c) : ∃ ad, (∀ w : World, (Instr.slice 22 (.slice (some ⟨g, o, none⟩) n c) (some (.int .i64 (lo : Int))) (some (.int .i64 (hi : Int))) none).run Try.prog w = .ok (.slice (some ad) (hi - lo) (c - lo)) w) ∧ (lo < hi → ad = ⟨g, o + lo, none⟩) := by
  obtain ⟨i0, hi0, hz0, hz1, hz2⟩ := info_parts num3
  have k1 : ¬ ((lo : Int) < 0) := by omega
  have k2 : ¬ ((hi : Int) < (lo : Int)) := by omega
  have k3 : ¬ ((c : Int) < (hi : Int)) := by omega
  by_cases hq : c = lo
  · have hh : hi = lo := by omega
    subst hh; subst hq
    refine ⟨⟨g, o, none⟩, fun w => ?_, fun h => by omega⟩
    simp [Instr.slice, run_underlying Try.underlying22, Sem.run_bind, Instr.sliceBounds, Instr.sliceBound, asIntOf, sizeOf, typeInfo, hi0, Addr.add]
  · refine ⟨⟨g, o + lo, none⟩, fun w => ?_, fun _ => rfl⟩
    simp [Instr.slice, run_underlying Try.underlying22, Sem.run_bind, Instr.sliceBounds, Instr.sliceBound, asIntOf, sizeOf, typeInfo, hi0, hz1, Addr.add, hq, h1, h2]
theorem rdI_mid {w : World} {g o n c lo hi : Nat} {ad : Addr} {W : List Int} (hn : n = W.length) (h : RdI w .i64 (.slice (some ⟨g, o, none⟩) n c) W) (h1 : lo ≤ hi) (h2 : hi ≤ n) (had : lo < hi → ad = ⟨g, o + lo, none⟩) : RdI w .i64 (.slice (some ad) (hi - lo) (c - lo)) ((W.drop lo).take (hi - lo)) := by
  subst hn
  obtain ⟨_, _, e, k1, k2, hx⟩ := h.form
  cases e
  have hl : ((W.drop lo).take (hi - lo)).length = hi - lo := by rw [List.length_take, List.length_drop]; omega
  refine ⟨_, _, by rw [hl], by omega, by omega, fun hne => ?_⟩
  have hlt : lo < hi := by
    rcases Nat.lt_or_ge lo hi with h | h
    · exact h
    · rw [show hi - lo = 0 by omega] at hne; simp at hne
  obtain ⟨b, off, e, hb, hc⟩ := hx (by omega)
  cases e
  refine ⟨g, o + lo, by rw [had hlt], hb, fun j u hu => ?_⟩
  have hj : j < hi - lo := by have := (List.getElem?_eq_some_iff.1 hu).1; rw [List.length_map, hl] at this; exact this
  have := hc (lo + j) (by omega)
  rw [show o + lo + j = o + (lo + j) by omega, this, ← hu]
  have hj2 : lo + j < W.length := by omega
  simp [hj, List.getElem?_drop, hj2]

abbrev Ents := List ((Int × Int) × Int × Nat)
/-- The want i. -/
def want (W : List Int) (i : Nat) : Int := W[i]?.getD 0
/-- The map bears the pairs of wants of the same reamer up to (i, k). -/
def FillM (W : List Int) (L : Ents) (k i : Nat) : Prop :=
  ∀ x m, (∃ t, (x, m, t) ∈ L) ↔ ∃ a b : Nat, a < b ∧ b < W.length ∧ x = ((a : Int), (b : Int)) ∧ m = want W b ∧ want W b = want W a ∧ (b < k ∨ b = k ∧ a < i)
/-- None of the same reamer lies between. -/
def soleB (W : List Int) (a b : Nat) : Bool := !((W.drop (a + 1)).take (b - (a + 1))).any (eqB (want W b))
/-- The map bears the pauses. -/
def PsM (W : List Int) (L : Ents) : Prop :=
  ∀ x m, (∃ t, (x, m, t) ∈ L) ↔ ∃ a b : Nat, a < b ∧ b < W.length ∧ x = ((a : Int), (b : Int)) ∧ m = want W b ∧ want W b = want W a ∧ soleB W a b = true
theorem fill_nil (W : List Int) : FillM W [] 0 0 := by
  intro x m
  constructor
  · rintro ⟨t, h⟩; cases h
  · rintro ⟨a, b, h1, h2, _, _, _, h⟩; omega
theorem fill_next {W : List Int} {L : Ents} {k : Nat} (h : FillM W L k k) : FillM W L (k + 1) 0 := by
  intro x m
  rw [h x m]
  constructor
  · rintro ⟨a, b, h1, h2, h3, h4, h5, h6⟩; exact ⟨a, b, h1, h2, h3, h4, h5, by omega⟩
  · rintro ⟨a, b, h1, h2, h3, h4, h5, h6⟩; exact ⟨a, b, h1, h2, h3, h4, h5, by omega⟩
theorem fill_skip {W : List Int} {L : Ents} {k i : Nat} (h : FillM W L k i) (hne : want W k ≠ want W i) : FillM W L k (i + 1) := by
  intro x m
  rw [h x m]
  constructor
  · rintro ⟨a, b, h1, h2, h3, h4, h5, h6⟩; exact ⟨a, b, h1, h2, h3, h4, h5, by omega⟩
  · rintro ⟨a, b, h1, h2, h3, h4, h5, h6⟩
    refine ⟨a, b, h1, h2, h3, h4, h5, ?_⟩
    rcases h6 with h6 | ⟨rfl, h6⟩
    · exact .inl h6
    · refine .inr ⟨rfl, ?_⟩
      rcases Nat.lt_or_ge a i with h | h
      · exact h
      · have : a = i := by omega
        subst this; exact absurd h5 hne
theorem fill_put {W : List Int} {L L1 : Ents} {k i : Nat} (h : FillM W L k i) (hi : i < k) (hk : k < W.length) (he : want W k = want W i)
    (hp : ∀ x m, (∃ t, (x, m, t) ∈ L1) ↔ (x = ((i : Int), (k : Int)) ∧ m = want W k) ∨ (x ≠ ((i : Int), (k : Int)) ∧ ∃ t, (x, m, t) ∈ L)) : FillM W L1 k (i + 1) := by
  intro x m
  rw [hp, h x m]
  constructor
  · rintro (⟨rfl, rfl⟩ | ⟨_, a, b, h1, h2, h3, h4, h5, h6⟩)
    · exact ⟨i, k, hi, hk, rfl, rfl, he, by omega⟩
    · exact ⟨a, b, h1, h2, h3, h4, h5, by omega⟩
  · rintro ⟨a, b, h1, h2, rfl, rfl, h5, h6⟩
    by_cases e : a = i ∧ b = k
    · obtain ⟨rfl, rfl⟩ := e; exact .inl ⟨rfl, rfl⟩
    · refine .inr ⟨fun e' => ?_, a, b, h1, h2, rfl, rfl, h5, by omega⟩
      simp only [Prod.mk.injEq] at e'
      exact e ⟨by omega, by omega⟩
/-- An entry is a pause. -/
def clE (W : List Int) (e : (Int × Int) × Int × Nat) : Bool := soleB W e.1.1.toNat e.1.2.toNat
theorem clm_of {W : List Int} {L L' : Ents} {seen : Array Nat} (h : FillM W L W.length 0) (h1 : ∀ e ∈ L', e ∈ L) (h2 : ∀ e ∈ L, clE W e = true → e ∈ L') (h3 : ∀ e ∈ L', e.2.2 ∈ seen → clE W e = true) (h4 : ∀ e ∈ L', e.2.2 ∈ seen) : PsM W L' := by
  intro x m
  constructor
  · rintro ⟨t, ht⟩
    obtain ⟨a, b, g1, g2, rfl, rfl, g5, _⟩ := (h x m).1 ⟨t, h1 _ ht⟩
    refine ⟨a, b, g1, g2, rfl, rfl, g5, ?_⟩
    have := h3 _ ht (h4 _ ht)
    simpa [clE] using this
  · rintro ⟨a, b, g1, g2, rfl, rfl, g5, g3⟩
    obtain ⟨t, ht⟩ := (h _ _).2 ⟨a, b, g1, g2, rfl, rfl, g5, .inl g2⟩
    exact ⟨t, h2 _ ht (by simpa [clE] using g3)⟩
theorem fill_at {W : List Int} {L : Ents} (h : FillM W L W.length 0) {e : (Int × Int) × Int × Nat} (he : e ∈ L) : ∃ a b : Nat, a < b ∧ b < W.length ∧ e.1 = ((a : Int), (b : Int)) ∧ e.2.1 = want W b := by
  obtain ⟨a, b, h1, h2, h3, h4, _⟩ := (h e.1 e.2.1).1 ⟨e.2.2, he⟩
  exact ⟨a, b, h1, h2, h3, h4⟩

/-- Each element of a list without repetition. -/
theorem nodup_le {α : Type} [DecidableEq α] : ∀ (l m : List α), l.Nodup → (∀ x ∈ l, x ∈ m) → l.length ≤ m.length := by
  intro l
  induction l with
  | nil => intro m _ _; simp
  | cons x r ih =>
    intro m hn hs
    rw [List.nodup_cons] at hn
    have hx := hs x (by simp)
    have := ih (m.erase x) hn.2 (fun y hy => by
      rw [List.mem_erase_of_ne]
      · exact hs y (by simp [hy])
      · rintro rfl; exact hn.1 hy)
    rw [List.length_erase_of_mem hx] at this
    have := List.length_pos_of_mem hx
    simp only [List.length_cons]
    omega
theorem nodup_len {α : Type} [DecidableEq α] (l m : List α) (hl : l.Nodup) (hm : m.Nodup) (h : ∀ x, x ∈ l ↔ x ∈ m) : l.length = m.length :=
  Nat.le_antisymm (nodup_le l m hl fun x => (h x).1) (nodup_le m l hm fun x => (h x).2)
/-- How many entries a range has not met yet. -/
def unmet : Option Obj → Option Obj → Nat
  | some (.map es _), some (.mapIter _ _ seen _) => (es.filter fun e => !seen.contains e.born).size
  | _, _ => 0
theorem unmet_eq (L : Ents) (c : Nat) (seen : Array Nat) (m : Option Nat) (s l : Nat) : unmet (some (.map (entsOf L) c)) (some (.mapIter m s seen l)) = (L.filter fun e => !seen.contains e.2.2).length := by
  simp [unmet, entsOf, List.filter_map, Function.comp_def]
theorem born_inj {L : Ents} {c : Nat} (hL : OkL L c) {e e' : (Int × Int) × Int × Nat} (h1 : e ∈ L) (h2 : e' ∈ L) (h : e.2.2 = e'.2.2) : e = e' := by
  obtain ⟨i, hi, rfl⟩ := List.getElem_of_mem h1
  obtain ⟨j, hj, rfl⟩ := List.getElem_of_mem h2
  have hb := hL.born
  rw [List.nodup_iff_pairwise_ne, List.pairwise_iff_getElem] at hb
  rcases Nat.lt_trichotomy i j with h' | rfl | h'
  · exact absurd (by rw [List.getElem_map, List.getElem_map]; exact h) (hb i j (by simpa) (by simpa) h')
  · rfl
  · exact absurd (by rw [List.getElem_map, List.getElem_map]; exact h.symm) (hb j i (by simpa) (by simpa) h')
theorem nodup_ents {L : Ents} {c : Nat} (hL : OkL L c) : L.Nodup := by
  have hb := hL.born
  unfold List.Nodup at hb ⊢
  rw [List.pairwise_map] at hb
  exact hb.imp fun h e => h (by rw [e])
theorem unmet_lt {L L2 : Ents} {c : Nat} {seen : Array Nat} {e : (Int × Int) × Int × Nat} (h2 : OkL L2 c) (hs : ∀ x ∈ L2, x ∈ L) (he : e ∈ L) (hes : e.2.2 ∉ seen) :
    (L2.filter fun x => !(seen.push e.2.2).contains x.2.2).length < (L.filter fun x => !seen.contains x.2.2).length := by
  have hm : e ∈ L.filter fun x => !seen.contains x.2.2 := by
    rw [List.mem_filter]; exact ⟨he, by simpa using hes⟩
  have h := nodup_le (L2.filter fun x => !(seen.push e.2.2).contains x.2.2) ((L.filter fun x => !seen.contains x.2.2).erase e) ((nodup_ents h2).filter _) (fun x hx => by
    rw [List.mem_filter] at hx
    obtain ⟨hx1, hx2⟩ := hx
    simp only [Array.contains_push, Bool.not_or, Bool.and_eq_true] at hx2
    have hne : x ≠ e := by rintro rfl; simp at hx2
    rw [List.mem_erase_of_ne hne, List.mem_filter]
    exact ⟨hs x hx1, by simp at hx2 ⊢; exact hx2.1⟩)
  rw [List.length_erase_of_mem hm] at h
  have := List.length_pos_of_mem hm
  omega


/-- Block b is the bench of a day, with on it what a list of 9 numbers says. -/
def IsBench (w : World) (b : Nat) (R : Int) (W : List Int) (on : List Int) : Prop :=
  ∃ x M L c, BenchAt w b R x on (.map (some M)) ∧ w.heap[M]? = some (.map (entsOf L) c) ∧ OkL L c ∧ PsM W L ∧ RdI w .i64 x W
theorem IsBench.mono {w w' : World} {b : Nat} {R : Int} {W on : List Int} (h : IsBench w b R W on) (hb : Below w.heap.size w w') : IsBench w' b R W on := by
  obtain ⟨x, M, L, c, h1, h2, h3, h4, h5⟩ := h
  exact ⟨x, M, L, c, h1.up hb, (hb.block _ (Array.getElem?_eq_some_iff.1 h2).1).trans h2, h3, h4, h5.mono hb⟩
theorem IsBench.lt {w : World} {b : Nat} {R : Int} {W on : List Int} (h : IsBench w b R W on) : b < w.heap.size := by
  obtain ⟨x, M, L, c, h1, _⟩ := h; exact h1.lt
end Go.Proofs.Ytjajdpggoggoiaa

namespace Go.Proofs.Ytjajdpggoggoiaa
open Go.RowKit Go.Shelf

def zeros : List Int := List.replicate 9 0
theorem BenchAt.clear {b : Nat} {R : Int} {x m : Value} (k : Nat) : ∀ (i : Nat) (w : World), i + k ≤ 9 → BenchAt w b R x zeros m → BenchAt (w.setCells b (2 + i) (List.replicate k (.int .i64 0))) b R x zeros m := by
  induction k with
  | zero => intro i w _ h; exact h
  | succ k ih =>
    intro i w hi h
    rw [List.replicate_succ, World.setCells]
    have := h.set (i := i) (by omega) 0
    rw [show zeros.set i 0 = zeros from List.set_replicate_self] at this
    exact ih (i + 1) _ (by omega) this
theorem run_cutToI (g o n c i : Nat) (h : i ≤ c) (w : World) : (Instr.slice 22 (.slice (some ⟨g, o, none⟩) n c) none (some (.int .i64 (i : Int))) none).run Try.prog w = .ok (.slice (some ⟨g, o, none⟩) i c) w := by
  obtain ⟨i0, hi, hz0, hz1, hz2⟩ := info_parts num3
  have h2 : ¬ ((c : Int) < (i : Int)) := by omega
  simp [Instr.slice, run_underlying Try.underlying22, Sem.run_bind, Instr.sliceBounds, Instr.sliceBound, asIntOf, h, sizeOf, typeInfo, hi, Addr.add]
theorem bsetsL {a : World} {g : Nat} (hg : a.heap.size ≤ g) (vs : List Value) : ∀ (o : Nat) (w : World), Below a.heap.size a w → Below a.heap.size a (w.setCells g o vs) := by
  induction vs with
  | nil => intro o w h; exact h
  | cons v vs ih => intro o w h; exact ih (o + 1) _ (bset h hg _)
theorem heap_setCells_far {g : Nat} (k : Nat) (hk : k ≠ g) (vs : List Value) : ∀ (o : Nat) (w : World), (w.setCells g o vs).heap[k]? = w.heap[k]? := by
  induction vs with
  | nil => intro o w; rfl
  | cons v vs ih => intro o w; rw [World.setCells, ih]; exact Go.Deep.blk_setCell_other w _ v k hk
/-- newBench under way. -/
structure Mid (w wr : World) (R : Int) (x : Value) (L : Ents) (c : Nat) : Prop where
  B : Below w.heap.size w wr
  D : BenchAt wr (w.heap.size + 1 + 1) R x zeros (.map (some (w.heap.size + 1)))
  M : wr.heap[w.heap.size + 1]? = some (.map (entsOf L) c)
  ok : OkL L c
theorem Mid.up {w wr w' : World} {R : Int} {x : Value} {L : Ents} {c : Nat} (h : Mid w wr R x L c) (hb : Below wr.heap.size wr w') : Mid w w' R x L c :=
  ⟨btr h.B hb, h.D.up hb, (hb.block _ (Array.getElem?_eq_some_iff.1 h.M).1).trans h.M, h.ok⟩
theorem Mid.put {w wr : World} {R : Int} {x : Value} {L L1 : Ents} {c c1 : Nat} (h : Mid w wr R x L c) (h1 : OkL L1 c1) : Mid w (wr.putObj (w.heap.size + 1) (.map (entsOf L1) c1)) R x L1 c1 :=
  ⟨below_put h.B _ (by omega), ⟨(World.putObj_heap_other (by omega)).trans h.D.row, h.D.len⟩, World.putObj_heap_same (Array.getElem?_eq_some_iff.1 h.M).1, h1⟩
theorem Mid.next {w wr : World} {R : Int} {x : Value} {L : Ents} {c bi n : Nat} {o : Obj} (h : Mid w wr R x L c) (hb : w.heap.size + 1 + 1 < bi) : Mid w ((wr.drewN n).putObj bi o) R x L c :=
  ⟨below_put (Below.drewN' n h.B) _ (by omega), ⟨(World.putObj_heap_other (by omega)).trans h.D.row, h.D.len⟩, (World.putObj_heap_other (by omega)).trans h.M, h.ok⟩

theorem mid_start {w W3 : World} {R : Int} {x : Value} (hB : Below w.heap.size w W3) (hD : BenchAt W3 (w.heap.size + 1 + 1) R x zeros (.map (some (w.heap.size + 1)))) (hM : W3.heap[w.heap.size + 1]? = some (.map (entsOf []) 0)) :
    Mid w (W3.setCells (w.heap.size + 1 + 1) 2 (List.replicate 9 (.int .i64 0))) R x [] 0 :=
  ⟨bsetsL (by omega) _ _ _ hB, BenchAt.clear 9 0 W3 (by omega) hD, (heap_setCells_far _ (by omega) _ _ _).trans hM, ⟨by simp, by simp, by simp⟩⟩

def BenchOk (R : Int) (W : List Int) (w : World) (e : Ending) (w' : World) : Prop := ∃ b, e = .returned (.pointer (some ⟨b, 0, none⟩)) ∧ w.heap.size ≤ b ∧ IsBench w' b R W zeros ∧ Below w.heap.size w w'
set_option maxRecDepth 100000 in
set_option maxHeartbeats 4000000 in
theorem newbench_any (R : Int) (x : Value) (W : List Int) (w : World) (hx0 : RdI w .i64 x W) (hl : W.length ≤ 16) :
    Calls Try.prog 62 #[.agg #[.int .i64 R, x]] w (BenchOk R W w) := by
  obtain ⟨a, ca, rfl, hca, hca2, hx⟩ := hx0.form
  have hmm := @run_makeMap Try.prog
  have HX0 := Lib.hid hx0
  clear hca2 hx0
  have hD0 : BenchAt (((w.alloc (Obj.cells #[Value.int IntKind.i64 R, Value.slice a W.length ca] 24)).alloc (Obj.map #[] 0)).alloc (Obj.cells (benchC R (.slice a W.length ca) zeros (.map (some (w.heap.size + 1)))) 63)) (w.heap.size + 1 + 1) R (.slice a W.length ca) zeros (.map (some (w.heap.size + 1))) := by
    refine ⟨?_, rfl⟩
    have h := heap_alloc_new ((w.alloc (Obj.cells #[Value.int IntKind.i64 R, Value.slice a W.length ca] 24)).alloc (Obj.map #[] 0)) (Obj.cells (benchC R (.slice a W.length ca) zeros (.map (some (w.heap.size + 1)))) 63)
    rw [World.size_alloc, World.size_alloc] at h
    exact h
  have hM0 : (((w.alloc (Obj.cells #[Value.int IntKind.i64 R, Value.slice a W.length ca] 24)).alloc (Obj.map #[] 0)).alloc (Obj.cells (benchC R (.slice a W.length ca) zeros (.map (some (w.heap.size + 1)))) 63)).heap[w.heap.size + 1]? = some (.map (entsOf []) 0) := by
    have h := heap_alloc_new (w.alloc (Obj.cells #[Value.int IntKind.i64 R, Value.slice a W.length ca] 24)) (Obj.map #[] 0)
    rw [World.size_alloc] at h
    exact (Below.heap_alloc _ _ _ (by simp)).trans h
  have hcl : (Builtin.clear_ #[22] 0 #[.slice (some ⟨w.heap.size + 1 + 1, 2, none⟩) 9 9]).run Try.prog (((w.alloc (Obj.cells #[Value.int IntKind.i64 R, Value.slice a W.length ca] 24)).alloc (Obj.map #[] 0)).alloc (Obj.cells (benchC R (.slice a W.length ca) zeros (.map (some (w.heap.size + 1)))) 63)) = .ok (.tuple #[]) ((((w.alloc (Obj.cells #[Value.int IntKind.i64 R, Value.slice a W.length ca] 24)).alloc (Obj.map #[] 0)).alloc (Obj.cells (benchC R (.slice a W.length ca) zeros (.map (some (w.heap.size + 1)))) 63)).setCells (w.heap.size + 1 + 1) 2 (List.replicate 9 (.int .i64 0))) := by
    refine Lib.run_clear_slice _ 22 3 0 (.int .i64 0) Try.underlying22 (fun w => by kernel_rfl) rfl rfl (w.heap.size + 1 + 1) 2 9 9 (by omega) (fun j hj => ?_) (fun j hj => frozen_of_row _ _ _ _ _ hD0.row)
    have := hD0.on (i := j) hj
    rw [this]
    rfl
  have HM1 := Lib.hid (mid_start (bal (bal (bal (bz w) (Obj.cells #[Value.int IntKind.i64 R, Value.slice a W.length ca] 24)) (Obj.map #[] 0)) (Obj.cells (benchC R (.slice a W.length ca) zeros (.map (some (w.heap.size + 1)))) 63)) hD0 hM0)
  clear hD0 hM0
  have he : benchC R (.slice a W.length ca) zeros (.map (some (w.heap.size + 1))) = #[Value.int IntKind.i64 R, Value.slice a W.length ca, Value.int IntKind.i64 0, Value.int IntKind.i64 0, Value.int IntKind.i64 0, Value.int IntKind.i64 0, Value.int IntKind.i64 0, Value.int IntKind.i64 0, Value.int IntKind.i64 0, Value.int IntKind.i64 0, Value.int IntKind.i64 0, Value.map (some (w.heap.size + 1))] := rfl
  rw [he] at hcl HM1
  clear he
  rw [show List.replicate 9 (Value.int .i64 0) = [Value.int IntKind.i64 0, Value.int IntKind.i64 0, Value.int IntKind.i64 0, Value.int IntKind.i64 0, Value.int IntKind.i64 0, Value.int IntKind.i64 0, Value.int IntKind.i64 0, Value.int IntKind.i64 0, Value.int IntKind.i64 0] from rfl] at hcl HM1
  go_enter Try.func62, Try.ntmps62
  go_upto_region 3 with fail
  clear hmm hcl
  obtain ⟨d0, d1, d2⟩ := HM1.out.D.cells
  have dz := HM1.out.D.lt
  generalize (((w.alloc (Obj.cells #[Value.int IntKind.i64 R, Value.slice a W.length ca] 24)).alloc (Obj.map #[] 0)).alloc (Obj.cells #[Value.int IntKind.i64 R, Value.slice a W.length ca, Value.int IntKind.i64 0, Value.int IntKind.i64 0, Value.int IntKind.i64 0, Value.int IntKind.i64 0, Value.int IntKind.i64 0, Value.int IntKind.i64 0, Value.int IntKind.i64 0, Value.int IntKind.i64 0, Value.int IntKind.i64 0, Value.map (some (w.heap.size + 1))] 63)).setCells (w.heap.size + 1 + 1) 2 [Value.int IntKind.i64 0, Value.int IntKind.i64 0, Value.int IntKind.i64 0, Value.int IntKind.i64 0, Value.int IntKind.i64 0, Value.int IntKind.i64 0, Value.int IntKind.i64 0, Value.int IntKind.i64 0, Value.int IntKind.i64 0] = wv at *
  go_wp2_with fail
  go_loopw [4, 5, 6, 7, 23] (fun _ _ _ _ i wr => ∃ (k : Nat) (L : Ents) (c : Nat), k ≤ W.length ∧ i = .int .i64 k ∧ Mid w wr R (.slice a W.length ca) L c ∧ Hid (FillM W L k 0)) (fun _ _ _ _ i _ => W.length - (intOf i).toNat)
  case atStart => exact ⟨0, [], 0, Nat.zero_le _, rfl, HM1.out, Lib.hid (fill_nil W)⟩
  case round =>
    obtain ⟨k, L, c, hk, rfl, hM, HF⟩ := hrel
    clear d0 d1 d2 dz HM1
    obtain ⟨d0, d1, d2⟩ := hM.D.cells
    have dz := hM.D.lt
    have HM := Lib.hid hM; clear hM
    by_cases hlt : k < W.length
    · obtain ⟨bx, ox, rfl, hbx, hcx⟩ := hx (by omega)
      have gx := (HM.out.B.cell (p := ⟨bx, ox + k, none⟩) hbx).trans (hcx k hlt)
      have hcx' := Lib.hid hcx
      have hbz := Nat.lt_of_lt_of_le hbx HM.out.B.size
      have hs := run_cutToI bx ox W.length ca k (by omega)
      clear hx hcx
      have HP : Hid (W[k]?.getD 0 = want W k) := Lib.hid rfl
      generalize W[k]?.getD 0 = q at *
      go_wp2_with fail
      clear hs
      go_loopw [6, 7, 36] (fun _ _ i ws => ∃ (i' : Nat) (L : Ents) (c : Nat), i' ≤ k ∧ i = .int .i64 i' ∧ Mid w ws R (.slice (some ⟨bx, ox, none⟩) W.length ca) L c ∧ Hid (FillM W L k i')) (fun _ _ i _ => k - (intOf i).toNat)
      case atStart => exact ⟨0, L, c, Nat.zero_le _, rfl, HM.out, HF⟩
      case round =>
        clear HM HF L c d0 d1 d2 dz gx hbz
        obtain ⟨i, L, c, hi, rfl, hM, HF⟩ := hrel
        obtain ⟨d0, d1, d2⟩ := hM.D.cells
        have dz := hM.D.lt
        have HM := Lib.hid hM; clear hM
        have hbz := Nat.lt_of_lt_of_le hbx HM.out.B.size
        by_cases hli : i < k
        · have gx := (HM.out.B.cell (p := ⟨bx, ox + i, none⟩) hbx).trans (hcx'.out i (by omega))
          have HP' : Hid (W[i]?.getD 0 = want W i) := Lib.hid rfl
          generalize W[i]?.getD 0 = q' at *
          by_cases hqq : q = q'
          · have t1 : (q == q') = true := by simp [hqq]
            have HQ := Lib.hid hqq; clear hqq
            obtain ⟨L1, c1, hput, hok1, hkeys⟩ := run_putL HM.out.M HM.out.ok ((i : Int), (k : Int)) q
            have HK1 := Lib.hid hkeys
            unfold kv at hput
            simp only at hput
            clear hkeys
            go_wp2_with fail
            clear hput
            go_roundw
            case rel => exact ⟨i + 1, L1, c1, by omega, by go_num, HM.out.put hok1, Lib.hid (fill_put HF.out hli hlt (by rw [← HP.out, ← HP'.out]; exact HQ.out) (by rw [← HP.out]; exact HK1.out))⟩
            case measure => simp [intOf]; omega
          · have t1 : (q == q') = false := by simp [hqq]
            have HQ := Lib.hid hqq; clear hqq
            go_wp2_with fail
            go_roundw
            case rel => exact ⟨i + 1, L, c, by omega, by go_num, HM.out, Lib.hid (fill_skip HF.out (by rw [← HP.out, ← HP'.out]; exact HQ.out))⟩
            case measure => simp [intOf]; omega
        · have hik : i = k := by omega
          subst hik
          go_wp2_with fail
          go_roundw
          case rel => exact ⟨i + 1, L, c, by omega, by go_num, HM.out, Lib.hid (fill_next HF.out)⟩
          case measure => simp [intOf]; omega
    · have hkl : k = W.length := by omega
      have HKL := Lib.hid hkl; clear hkl
      have hrg : (Instr.range 61 (.map (some (w.heap.size + 1)))).run Try.prog wr = .ok (.pointer (some ⟨wr.heap.size, 0, none⟩)) (wr.alloc (.mapIter (some (w.heap.size + 1)) c #[] c)) := by
        simp [Instr.range, Sem.run_bind, run_underlying Try.underlying61, Result.andThen_ok, run_getMap HM.out.M]
      go_wp2_with fail
      clear hrg
      have hW := HM.out.B.size
      have hMB := HM.out.D.lt
      have hMU := HM.out.up (bal (bz wr) (.mapIter (some (w.heap.size + 1)) c #[] c))
      have hIT : (wr.alloc (.mapIter (some (w.heap.size + 1)) c #[] c)).heap[wr.heap.size]? = some (.mapIter (some (w.heap.size + 1)) c #[] c) := heap_alloc_new _ _
      have HMU := Lib.hid hMU; have HIT := Lib.hid hIT
      clear hMU hIT d0 d1 d2 dz HM
      generalize (wr.alloc (.mapIter (some (w.heap.size + 1)) c #[] c)) = wv at *
      generalize hbi : wr.heap.size = bi at *
      clear hbi
      go_loopw [8] (fun _ ws => ∃ L' seen, Mid w ws R (.slice a W.length ca) L' c ∧ ws.heap[bi]? = some (.mapIter (some (w.heap.size + 1)) c seen c) ∧
          (∀ e ∈ L', e ∈ L) ∧ (∀ e ∈ L, clE W e = true → e ∈ L') ∧ (∀ e ∈ L', e.2.2 ∈ seen → clE W e = true)) (fun _ ws => unmet (ws.heap[w.heap.size + 1]?) (ws.heap[bi]?))
      case atStart => exact ⟨L, #[], HMU.out, HIT.out, fun e h => h, fun e h _ => h, by simp⟩
      case round =>
        clear HMU HIT
        obtain ⟨L', seen, hM, hit, hs1, hs2, hs3⟩ := hrel
        rcases run_nextL hM.M hM.ok hit with ⟨hall, hnx⟩ | ⟨e, he, hes, n, hnx⟩
        · have HA := Lib.hid hall; have HM := Lib.hid hM; have HI := Lib.hid hit; have HS1 := Lib.hid hs1; have HS2 := Lib.hid hs2; have HS3 := Lib.hid hs3
          clear hall hM hit hs1 hs2 hs3
          go_wp2_with fail
          go_ret
          refine ⟨_, rfl, by omega, ⟨_, _, L', c, HM.out.D, HM.out.M, HM.out.ok, clm_of (by have := HF.out; rw [HKL.out] at this; exact this) HS1.out HS2.out HS3.out HA.out, HX0.out.mono HM.out.B⟩, HM.out.B⟩
        · have HSN := Lib.hid hes; have HE := Lib.hid he; have HM := Lib.hid hM; have HI := Lib.hid hit; have HS1 := Lib.hid hs1; have HS2 := Lib.hid hs2; have HS3 := Lib.hid hs3
          clear hes he hM hit hs1 hs2 hs3
          go_wp2_with fail
          clear hnx
          obtain ⟨⟨k1, k2⟩, m, t⟩ := e
          obtain ⟨a', b', hab, hbl, he1, he2⟩ := fill_at (by have := HF.out; rw [HKL.out] at this; exact this) (HS1.out _ HE.out)
          simp only [Prod.mk.injEq] at he1 he2
          obtain ⟨rfl, rfl⟩ := he1
          have hal : a' < W.length := by omega
          have hbr := HM.out.B.size
          have hrI := (Array.getElem?_eq_some_iff.1 HI.out).1
          have hMn := HM.out.next (n := n) (o := .mapIter (some (w.heap.size + 1)) c (seen.push t) c) hMB
          have hnI : ((wr.drewN n).putObj bi (.mapIter (some (w.heap.size + 1)) c (seen.push t) c)).heap[bi]? = some (.mapIter (some (w.heap.size + 1)) c (seen.push t) c) := World.putObj_heap_same hrI
          have hen := run_entryL hMn.M hMn.ok HE.out hnI
          have hzn : ((wr.drewN n).putObj bi (.mapIter (some (w.heap.size + 1)) c (seen.push t) c)).heap.size = wr.heap.size := by simp [World.drewN]
          have HMn := Lib.hid hMn; have HNI := Lib.hid hnI; clear hMn hnI
          simp only at hen HMn HNI hzn
          generalize (wr.drewN n).putObj bi (.mapIter (some (w.heap.size + 1)) c (seen.push t) c) = wn at *
          have hbn : bi < wn.heap.size := by omega
          clear hzn
          obtain ⟨bx, ox, rfl, hbx, hcx⟩ := hx (by omega)
          have gb := hcx b' hbl
          have HP : Hid (W[b']?.getD 0 = want W b') := Lib.hid rfl
          obtain ⟨ad, hs, had⟩ := run_cutMid bx ox W.length ca (a' + 1) b' (by omega) (by omega)
          have HRD := Lib.hid (fun wz (hB : Below w.heap.size w wz) => rdI_mid rfl (HX0.out.mono hB) (show a' + 1 ≤ b' by omega) (by omega) had)
          have hs' : ∀ wz : World, (Instr.slice 22 (.slice (some ⟨bx, ox, none⟩) W.length ca) (some (.int .i64 ((a' : Int) + 1))) (some (.int .i64 (b' : Int))) none).run Try.prog wz = .ok (.slice (some ad) (b' - (a' + 1)) (ca - (a' + 1))) wz := fun wz => by
            have := hs wz; rwa [show (((a' + 1 : Nat)) : Int) = (a' : Int) + 1 by omega] at this
          have hdl : ((W.drop (a' + 1)).take (b' - (a' + 1))).length ≤ 1000 := by rw [List.length_take]; omega
          have HCE : Hid (clE W ((↑a', ↑b'), m, t) = !((W.drop (a' + 1)).take (b' - (a' + 1))).any (eqB (want W b'))) := Lib.hid rfl
          have HE2 := Lib.hid he2
          clear hx hcx he2 hs had
          generalize W[b']?.getD 0 = q at *
          rw [← HP.out] at HCE
          have HCT := Lib.hid (fun x wz hx => contains_any x ((W.drop (a' + 1)).take (b' - (a' + 1))) q wz hx hdl)
          generalize ((W.drop (a' + 1)).take (b' - (a' + 1))).any (eqB q) = cz at *
          unfold kv at hen
          simp only at hen
          have HSS := Lib.hid hs'; clear hs'
          go_wp2_with fail
          clear hen
          have hMy := HMn.out.up (bal (bz wn) (Obj.cells #[Value.int IntKind.i64 ↑a', Value.int IntKind.i64 ↑b'] 96))
          have y0 : (wn.alloc (Obj.cells #[Value.int IntKind.i64 ↑a', Value.int IntKind.i64 ↑b'] 96)).cell? ⟨wn.heap.size, 0, none⟩ = some (.int .i64 a') := cnew rfl rfl
          have y1 : (wn.alloc (Obj.cells #[Value.int IntKind.i64 ↑a', Value.int IntKind.i64 ↑b'] 96)).cell? ⟨wn.heap.size, 1, none⟩ = some (.int .i64 b') := cnew rfl rfl
          have yz : wn.heap.size < (wn.alloc (Obj.cells #[Value.int IntKind.i64 ↑a', Value.int IntKind.i64 ↑b'] 96)).heap.size := by simp
          have yI := (Below.heap_alloc wn (.cells #[Value.int IntKind.i64 ↑a', Value.int IntKind.i64 ↑b'] 96) bi hbn).trans HNI.out
          have HMY := Lib.hid hMy; have HYI := Lib.hid yI
          clear hMy yI HMn HNI
          generalize (wn.alloc (Obj.cells #[Value.int IntKind.i64 ↑a', Value.int IntKind.i64 ↑b'] 96)) = wy at *
          generalize hyb : wn.heap.size = yb at *
          clear hyb
          refine wp_region_flow [] [([0, 1, 2, 3, 4, 5, 6, 7, 8, 9, 10, 11, 12, 13, 14, 15, 16, 17, 18, 19], 20, true)] [] (by kernel_rfl) (by kernel_rfl) ?_
          intro wc hBc hh
          clear hh
          have hMc := HMY.out.up hBc
          obtain ⟨e0, e1, e2⟩ := hMc.D.cells
          have ez := hMc.D.lt
          have hb2 := (hMc.B.cell (p := ⟨bx, ox + b', none⟩) hbx).trans gb
          have hbx' : bx < wc.heap.size := Nat.lt_of_lt_of_le hbx hMc.B.size
          have u0 := (hBc.cell (p := ⟨yb, 0, none⟩) yz).trans y0
          have u1 := (hBc.cell (p := ⟨yb, 1, none⟩) yz).trans y1
          have uz : yb < wc.heap.size := Nat.lt_of_lt_of_le yz hBc.size
          have hL := @Later.cell wc
          have hss := HSS.out
          have HMC := Lib.hid hMc; have HBc := Lib.hid hBc
          clear hMc hBc gb y0 y1
          simp only [flowP, flow, pickL, List.getElem?_cons_succ, List.getElem?_cons_zero]
          refine wpQuiet_nil ?_
          repeat (go_big_quiet_step (fail))
          refine wpQuiet_nil ?_
          go_wp2_with fail
          refine (HCT.out _ _ (HRD.out _ HMC.out.B)).mono ?_
          rintro e w' ⟨rfl, rfl⟩
          go_wp2
          refine seg_grow ⟨⟨_, bz _⟩, rfl⟩ ?_
          refine wpQuiet_nil ?_
          refine only_done ?_
          clear hss hb2
          have hyc := (HBc.out.block _ (Array.getElem?_eq_some_iff.1 HYI.out).1).trans HYI.out
          have HYC := Lib.hid hyc
          clear hyc HYI
          cases cz
          · go_wp2
            go_roundw
            case rel =>
              refine ⟨L', seen.push t, HMC.out, HYC.out, HS1.out, HS2.out, fun x hx hxs => ?_⟩
              rw [Array.mem_push] at hxs
              rcases hxs with h | h
              · exact HS3.out x hx h
              · rw [born_inj HMC.out.ok hx HE.out h]; exact HCE.out
            case measure =>
              rw [HM.out.M, HI.out, HMC.out.M, HYC.out, unmet_eq, unmet_eq]
              exact unmet_lt HMC.out.ok (fun x h => h) HE.out HSN.out
          · go_wp2_with fail
            refine wp_region_flow [] [([0, 1, 2, 3, 4], 5, false)] [] (by kernel_rfl) (by kernel_rfl) ?_
            intro wd hBd hh
            clear hh
            have hMd := HMC.out.up hBd
            obtain ⟨d0, d1, d2⟩ := hMd.D.cells
            have dz := hMd.D.lt
            have v0 := (hBd.cell (World.block_lt_of_cell? wc _ u0)).trans u0
            have v1 := (hBd.cell (World.block_lt_of_cell? wc _ u1)).trans u1
            have vz : yb < wd.heap.size := Nat.lt_of_lt_of_le uz hBd.size
            have hyd := (hBd.block _ (Array.getElem?_eq_some_iff.1 HYC.out).1).trans HYC.out
            have hLd := @Later.cell wd
            obtain ⟨L2, hdel, hL2, hk2⟩ := run_deleteL hMd.M hMd.ok ((a' : Int), (b' : Int))
            have HMD := Lib.hid hMd; have HYD := Lib.hid hyd; have HDEL := Lib.hid hdel; have HK2 := Lib.hid hk2
            clear hMd hyd hdel hk2 hBd e0 e1 e2 u0 u1 hL
            simp only [flowP, flow, pickL, List.getElem?_cons_succ, List.getElem?_cons_zero]
            refine wpQuiet_nil ?_
            repeat (go_big_quiet_step (fail))
            refine wpQuiet_nil ?_
            have hdel := HDEL.out
            unfold kv at hdel
            simp only at hdel
            go_wp2
            refine seg_write ?_
            refine wpQuiet_nil ?_
            refine only_done ?_
            clear hdel
            go_wp2
            go_roundw
            case rel =>
              refine ⟨L2, seen.push t, HMD.out.put hL2, (World.putObj_heap_other (by omega)).trans HYD.out, fun x h => HS1.out x ((HK2.out x).1 h).1, fun x h1 h2 => (HK2.out x).2 ⟨HS2.out x h1 h2, fun h => ?_⟩, fun x hx hxs => ?_⟩
              · obtain ⟨x1, x2, x3⟩ := x
                simp only at h
                subst h
                have := HCE.out
                unfold clE at this h2
                simp only at this h2
                rw [h2] at this
                cases this
              · obtain ⟨hx1, hx2⟩ := (HK2.out x).1 hx
                rw [Array.mem_push] at hxs
                rcases hxs with h | h
                · exact HS3.out x hx1 h
                · exact absurd (by rw [born_inj HMD.out.ok hx1 HE.out h]) hx2
            case measure =>
              rw [HM.out.M, HI.out, World.putObj_heap_same (Array.getElem?_eq_some_iff.1 HMD.out.M).1, World.putObj_heap_other (by omega), HYD.out, unmet_eq, unmet_eq]
              exact unmet_lt hL2 (fun x h => ((HK2.out x).1 h).1) HE.out HSN.out
end Go.Proofs.Ytjajdpggoggoiaa

namespace Go.Proofs.Ytjajdpggoggoiaa
open Go.RowKit Go.Shelf

theorem checkD_cases (R : Int) (W : List Int) : checkD R W = 0 ∨ checkD R W = 2 ∨ checkD R W = 3 ∨ checkD R W = 6 := by
  unfold checkD; (repeat' split) <;> simp
/-- A valid day. -/
structure OkD (R : Int) (W : List Int) : Prop where
  r1 : 1 ≤ R
  r6 : R ≤ 6
  l16 : W.length ≤ 16
  ok : ∀ x ∈ W, 1 ≤ x ∧ x ≤ 8
theorem okD_of {R : Int} {W : List Int} (h : checkD R W = 0) : OkD R W := by
  unfold checkD at h
  by_cases h1 : outB 1 6 R = true
  · rw [if_pos h1] at h; cases h
  · rw [if_neg h1] at h
    by_cases h2 : 16 < W.length
    · rw [if_pos h2] at h; cases h
    · rw [if_neg h2] at h
      by_cases h3 : W.any (outB 1 8) = true
      · rw [if_pos h3] at h; cases h
      · simp [outB] at h1 h3
        exact ⟨by omega, by omega, by omega, fun x hx => by have := h3 x hx; omega⟩
theorem OkD.at {R : Int} {W : List Int} (h : OkD R W) {i : Nat} (hi : i < W.length) : 1 ≤ want W i ∧ want W i ≤ 8 := by
  have : want W i = W[i] := by simp [want, hi]
  rw [this]; exact h.ok _ (List.getElem_mem hi)

def OpenOk (R : Int) (W : List Int) (w : World) (e : Ending) (w' : World) : Prop := ∃ b, e = .returned (.tuple #[.pointer (some ⟨b, 0, none⟩), .int .i64 0]) ∧ w.heap.size ≤ b ∧ IsBench w' b R W zeros ∧ Below w.heap.size w w'
set_option maxRecDepth 100000 in
set_option maxHeartbeats 1000000 in
theorem open_ok (R : Int) (x : Value) (W : List Int) (w : World) (hx0 : RdI w .i64 x W) (hc : checkD R W = 0) : Calls Try.prog 42 #[.agg #[.int .i64 R, x]] w (OpenOk R W w) := by
  have hl := (okD_of hc).l16
  obtain ⟨a, c, rfl⟩ := hx0.ex _ rfl
  have HC := Lib.hid (fun wz hx => checkday_any R (.slice a W.length c) W wz hx (by omega))
  have HN := Lib.hid (fun wz hx => newbench_any R (.slice a W.length c) W wz hx hl)
  rw [hc] at HC
  have HX := Lib.hid hx0
  clear hc hx0
  unfold OpenOk
  go_enter Try.func42, Try.ntmps42
  go_wp2_with fail
  refine (HC.out _ (HX.out.mono (bal (bz _) _))).mono ?_
  rintro e w2 ⟨rfl, hB2⟩
  obtain ⟨hc, hf⟩ := bcell hB2
  have hz := hB2.size
  simp only [World.size_alloc] at hz
  have HB2 := Lib.hid (btr (bal (bz w) _) hB2)
  clear hB2
  go_wp2_with fail
  refine (HN.out _ (HX.out.mono HB2.out)).mono ?_
  rintro e w3 ⟨b, rfl, hb, hD, hB3⟩
  have HD := Lib.hid hD; have HB3 := Lib.hid hB3
  clear hD hB3
  go_wp2_with fail
  go_ret2
  exact ⟨b, rfl, by omega, HD.out, btr HB2.out HB3.out⟩
set_option maxRecDepth 100000 in
set_option maxHeartbeats 1000000 in
theorem open_no (R : Int) (x : Value) (W : List Int) (w : World) (hx0 : RdI w .i64 x W) (hl : W.length ≤ 1000) (hc : checkD R W ≠ 0) :
    Calls Try.prog 42 #[.agg #[.int .i64 R, x]] w fun e w' => e = .returned (.tuple #[.pointer none, .int .i64 (checkD R W)]) ∧ Below w.heap.size w w' := by
  obtain ⟨a, c, rfl⟩ := hx0.ex _ rfl
  have HC := Lib.hid (fun wz hx => checkday_any R (.slice a W.length c) W wz hx hl)
  have HX := Lib.hid hx0
  have t1 : (checkD R W != 0) = true := by simpa using hc
  clear hc hx0
  generalize checkD R W = q at *
  go_enter Try.func42, Try.ntmps42
  go_wp2_with fail
  refine (HC.out _ (HX.out.mono (bal (bz _) _))).mono ?_
  rintro e w2 ⟨rfl, hB2⟩
  have HB2 := Lib.hid (btr (bal (bz w) _) hB2)
  clear hB2
  go_wp2_with fail
  go_ret2
  exact ⟨rfl, HB2.out⟩

def ruleE (R : Int) (W : List Int) (r : Int) : Int := if checkD R W ≠ 0 then checkD R W else if outB 1 3 r then 2 else 0
set_option maxRecDepth 100000 in
set_option maxHeartbeats 1000000 in
theorem ruled_no (R : Int) (x : Value) (W : List Int) (r : Int) (w : World) (hx0 : RdI w .i64 x W) (hl : W.length ≤ 1000) (hc : ruleE R W r ≠ 0) :
    Calls Try.prog 49 #[.agg #[.int .i64 R, x], .int .i64 r] w fun e w' => e = .returned (.tuple #[.pointer none, .int .i64 (ruleE R W r)]) ∧ Below w.heap.size w w' := by
  obtain ⟨a, c, rfl⟩ := hx0.ex _ rfl
  have HX := Lib.hid hx0
  by_cases h : checkD R W = 0
  · have e : ruleE R W r = if outB 1 3 r then 2 else 0 := by unfold ruleE; rw [if_neg (by simpa using h)]
    rw [e] at hc ⊢
    have hr : outB 1 3 r = true := by
      cases h : outB 1 3 r
      · rw [h] at hc; exact absurd rfl hc
      · rfl
    rw [if_pos hr]
    have HO := Lib.hid (fun wz hx => open_ok R (.slice a W.length c) W wz hx h)
    have HR : Hid ([r].any (outB 1 3) = true) := Lib.hid (by simp [hr])
    clear e h hc hr hx0
    unfold OpenOk at HO
    go_enter Try.func49, Try.ntmps49
    go_wp2_with fail
    refine (HO.out _ (HX.out.mono (bal (bz _) _))).mono ?_
    rintro e w2 ⟨b, rfl, hb, hD, hB2⟩
    have HB2 := Lib.hid (btr (bal (bz w) _) hB2)
    clear hB2 hD
    go_wp2_with fail
    refine (within_any _ [r] _ _ _ (one_slice (by simp) (by simp)) (by simp)).mono ?_
    rintro e w3 ⟨rfl, hB3⟩
    rw [HR.out]
    go_wp2_with fail
    go_ret2
    exact ⟨rfl, btr (bal HB2.out _) hB3⟩
  · have e : ruleE R W r = checkD R W := by unfold ruleE; rw [if_pos h]
    rw [e]
    have HO := Lib.hid (fun wz hx => open_no R (.slice a W.length c) W wz hx hl h)
    have t1 : (checkD R W != 0) = true := by simpa using h
    clear e hc h hx0
    generalize checkD R W = q at *
    go_enter Try.func49, Try.ntmps49
    go_wp2_with fail
    refine (HO.out _ (HX.out.mono (bal (bz _) _))).mono ?_
    rintro e w2 ⟨rfl, hB2⟩
    have HB2 := Lib.hid (btr (bal (bz w) _) hB2)
    clear hB2
    go_wp2_with fail
    go_ret2
    exact ⟨rfl, HB2.out⟩
set_option maxRecDepth 100000 in
set_option maxHeartbeats 1000000 in
theorem ruled_ok (R : Int) (x : Value) (W : List Int) (r : Int) (w : World) (hx0 : RdI w .i64 x W) (hc : ruleE R W r = 0) :
    Calls Try.prog 49 #[.agg #[.int .i64 R, x], .int .i64 r] w (OpenOk R W w) := by
  obtain ⟨a, c, rfl⟩ := hx0.ex _ rfl
  have HX := Lib.hid hx0
  have h : checkD R W = 0 := by
    unfold ruleE at hc
    by_cases h : checkD R W = 0
    · exact h
    · rw [if_pos h] at hc; exact absurd hc h
  have hr : outB 1 3 r = false := by
    unfold ruleE at hc
    rw [if_neg (by simpa using h)] at hc
    cases h : outB 1 3 r
    · rfl
    · rw [h] at hc; exact absurd hc (by decide)
  have HO := Lib.hid (fun wz hx => open_ok R (.slice a W.length c) W wz hx h)
  have HR : Hid ([r].any (outB 1 3) = false) := Lib.hid (by simp [hr])
  clear h hc hr hx0
  unfold OpenOk at HO ⊢
  go_enter Try.func49, Try.ntmps49
  go_wp2_with fail
  refine (HO.out _ (HX.out.mono (bal (bz _) _))).mono ?_
  rintro e w2 ⟨b, rfl, hb, hD, hB2⟩
  have hbs : w.heap.size ≤ b := by simp at hb; omega
  have HB2 := Lib.hid (btr (bal (bz w) _) hB2); have HD := Lib.hid hD
  clear hB2 hD hb
  go_wp2_with fail
  refine (within_any _ [r] _ _ _ (one_slice (by simp) (by simp)) (by simp)).mono ?_
  rintro e w3 ⟨rfl, hB3⟩
  rw [HR.out]
  have HB3 := Lib.hid hB3; clear hB3
  go_wp2_with fail
  go_ret2
  exact ⟨b, rfl, hbs, HD.out.mono (btr (bal (bz _) _) HB3.out), btr (bal HB2.out _) HB3.out⟩
end Go.Proofs.Ytjajdpggoggoiaa
