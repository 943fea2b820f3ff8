/- Merged texts: slices that are read; sorting; places of a chain; no condition. -/
import Derived.Test.YtpeminhnjdakiaaGreatRows
import Derived.WalkKit
import Derived.WalkSpells
import Derived.WalkLawsBesides
import Derived.BigRegion
import Derived.BigQuiet
import Derived.Lib.Hide
import Derived.Deep.QuietTactic
import Derived.RangeFuncBox
import Derived.Deep.Cut
import Derived.Deep.DeepCutAuto
import Derived.Deep.RegionWith
import Derived.RangeFuncNested
import Derived.RangeFuncBound
import Derived.RangeFuncCalls
import Derived.RangeFuncLeaves
import Derived.Shelf.Abstract
import Derived.Shelf.RegionOpen
import Derived.OwnWalkIn
import Derived.ChangeKeysEq
import Derived.TacticsInMore
import Derived.LoopNIn
import Derived.LoopIn
import Derived.StillTailTactics
import Derived.OrdersHeld
import Derived.Deep.OwnRows
import Derived.Deep.RegionLaw
import Derived.Laws.OwnMore
import Derived.Maps.AppendAt
import Derived.Test.YtpeminhnjdakiaaGreatMEd
import Derived.Test.YtpeminhnjdakiaaGreatMEe
section
namespace Go.Proofs.YtpeminhnjdakiaaGreat
open Go.RowKit

/-- The slice value v, of n elements, reads the cells cs. -/
def RdC (w : World) (v : Value) (n : Nat) (cs : List Value) : Prop :=
  ∃ a cap, v = .slice a n cap ∧ n ≤ cap ∧ cap ≤ maxLen ∧ (cs ≠ [] → ∃ b off, a = some ⟨b, off, none⟩ ∧ b < w.heap.size ∧ ∀ j u, cs[j]? = some u → w.cell? ⟨b, off + j, none⟩ = some u)

/-- A slice of integers of one kind. -/
def RdI (w : World) (k : IntKind) (v : Value) (xs : List Int) : Prop := RdC w v xs.length (xs.map (Value.int k))

/-- A slice of pairs of ints. -/
def prs (V : List (Int × Int)) : List Value := V.flatMap fun p => [.int .i64 p.1, .int .i64 p.2]
def RdP (w : World) (v : Value) (V : List (Int × Int)) : Prop := RdC w v V.length (prs V)

theorem RdC.mono {w w' : World} {v : Value} {n : Nat} {cs : List Value} (h : RdC w v n cs) (hb : Below w.heap.size w w') : RdC w' v n cs := by
  obtain ⟨a, cap, rfl, hc1, hc2, h⟩ := h
  refine ⟨a, cap, rfl, hc1, hc2, fun hne => ?_⟩
  obtain ⟨b, off, rfl, h1, h2⟩ := h hne
  exact ⟨b, off, rfl, Nat.lt_of_lt_of_le h1 hb.size, fun j u hu => (hb.cell (p := ⟨b, off + j, none⟩) h1).trans (h2 j u hu)⟩
theorem RdI.mono {w w' : World} {k : IntKind} {v : Value} {xs : List Int} (h : RdI w k v xs) (hb : Below w.heap.size w w') : RdI w' k v xs := RdC.mono h hb
theorem RdP.mono {w w' : World} {v : Value} {V : List (Int × Int)} (h : RdP w v V) (hb : Below w.heap.size w w') : RdP w' v V := RdC.mono h hb

theorem RdI.form {w : World} {k : IntKind} {v : Value} {xs : List Int} (h : RdI w k v xs) :
    ∃ a cap, v = .slice a xs.length cap ∧ xs.length ≤ cap ∧ cap ≤ maxLen ∧ (0 < xs.length → ∃ b off, a = some ⟨b, off, none⟩ ∧ b < w.heap.size ∧ ∀ j, j < xs.length → w.cell? ⟨b, off + j, none⟩ = some (.int k (xs[j]?.getD 0))) := by
  obtain ⟨a, cap, rfl, hc1, hc2, h⟩ := h
  refine ⟨a, cap, rfl, hc1, hc2, fun hne => ?_⟩
  obtain ⟨b, off, rfl, h1, h2⟩ := h (by intro e; simp at e; subst e; simp at hne)
  exact ⟨b, off, rfl, h1, fun j hj => h2 j _ (by simp [hj])⟩

theorem prs_get (V : List (Int × Int)) : ∀ j, j < V.length → (prs V)[j * 2]? = some (.int .i64 ((V[j]?.getD (0, 0)).1)) ∧ (prs V)[j * 2 + 1]? = some (.int .i64 ((V[j]?.getD (0, 0)).2)) := by
  induction V with
  | nil => intro j hj; simp at hj
  | cons p V ih =>
    intro j hj
    cases j with
    | zero => simp [prs]
    | succ j =>
      have := ih j (by simpa using hj)
      have e1 : (j + 1) * 2 = j * 2 + 1 + 1 := by omega
      simp only [prs, List.flatMap_cons, List.cons_append, List.nil_append] at this ⊢
      rw [e1]
      simpa using this
theorem prs_length (V : List (Int × Int)) : (prs V).length = V.length * 2 := by
  induction V with
  | nil => rfl
  | cons p V ih => simp only [prs, List.flatMap_cons, List.length_append, List.length_cons, List.length_nil] at ih ⊢; omega

theorem RdP.form {w : World} {v : Value} {V : List (Int × Int)} (h : RdP w v V) :
    ∃ a cap, v = .slice a V.length cap ∧ V.length ≤ cap ∧ cap ≤ maxLen ∧ (0 < V.length → ∃ b off, a = some ⟨b, off, none⟩ ∧ b < w.heap.size ∧
      ∀ j, j < V.length → w.cell? ⟨b, off + j * 2, none⟩ = some (.int .i64 ((V[j]?.getD (0, 0)).1)) ∧ w.cell? ⟨b, off + j * 2 + 1, none⟩ = some (.int .i64 ((V[j]?.getD (0, 0)).2))) := by
  obtain ⟨a, cap, rfl, hc1, hc2, h⟩ := h
  refine ⟨a, cap, rfl, hc1, hc2, fun hne => ?_⟩
  obtain ⟨b, off, rfl, h1, h2⟩ := h (by intro e; have := prs_length V; rw [e] at this; simp at this; omega)
  refine ⟨b, off, rfl, h1, fun j hj => ?_⟩
  obtain ⟨g1, g2⟩ := prs_get V j hj
  exact ⟨h2 _ _ g1, by have := h2 _ _ g2; rwa [← Nat.add_assoc] at this⟩

/-- What the call owns reads. -/
theorem RdC.of_owns {w : World} {base : Nat} {e : TypeId} {size : Nat} {v : Value} {n : Nat} {cs : List Value} (h : w.ownsRow base e size v n cs) : RdC w v n cs := by
  have hl := h.1
  have h' := h
  rcases h.2 with ⟨rfl, rfl⟩ | ⟨g, cap, cur, rfl, hb, hg, hc1, hc2, _, htake⟩
  · exact ⟨none, 0, rfl, Nat.le_refl _, by unfold maxLen; omega, fun hne => by simp at hl; exact absurd hl hne⟩
  · refine ⟨_, _, rfl, hc1, hc2, fun hne => ⟨g, 0, rfl, (Array.getElem?_eq_some_iff.1 hg).1, fun j u hu => ?_⟩⟩
    rw [Nat.zero_add, h'.cellAt j (by rw [← hl]; exact (List.getElem?_eq_some_iff.1 hu).1)]
    exact hu
theorem RdI.of_owns {w : World} {base : Nat} {e : TypeId} {k : IntKind} {v : Value} {n : Nat} {xs : List Int} (h : w.ownsRow base e 1 v n (xs.map (Value.int k))) : RdI w k v xs := by
  have hl := h.1
  simp at hl
  subst hl
  exact RdC.of_owns h
theorem RdP.of_owns {w : World} {base : Nat} {e : TypeId} {v : Value} {n : Nat} {V : List (Int × Int)} (h : w.ownsRow base e 2 v n (prs V)) : RdP w v V := by
  have hl := h.1
  rw [prs_length] at hl
  obtain rfl : V.length = n := by omega
  exact RdC.of_owns h

theorem bcell {W w1 : World} (hb : Below W.heap.size W w1) : (∀ b o, b < W.heap.size → w1.cell? ⟨b, o, none⟩ = W.cell? ⟨b, o, none⟩) ∧ (∀ b o, b < W.heap.size → w1.frozen? ⟨b, o, none⟩ = W.frozen? ⟨b, o, none⟩) :=
  ⟨fun b o h => hb.cell (p := ⟨b, o, none⟩) h, fun b o h => hb.frozen (p := ⟨b, o, none⟩) h⟩

theorem bz (w : World) : Below w.heap.size w w := Below.refl _ _
theorem bal {a w : World} (h : Below a.heap.size a w) (o : Obj) : Below a.heap.size a (w.alloc o) := h.alloc h.size o
theorem btr {a w w' : World} (h : Below a.heap.size a w) (h2 : Below w.heap.size w w') : Below a.heap.size a w' := h.trans (h2.mono h.size)
theorem bset {a w : World} (h : Below a.heap.size a w) {p : Addr} (hp : a.heap.size ≤ p.block) (u : Value) : Below a.heap.size a (w.setCell p u) := h.setCell hp u
theorem bgr {a w w' : World} {row : Option Nat} (h : Below a.heap.size a w) (hg : w.grownBy w' row) (hr : ∀ k, row = some k → a.heap.size ≤ k) : Below a.heap.size a w' := h.grown hg h.size hr
theorem Below.drewN' {B : Nat} {a w : World} (n : Nat) (h : Below B a w) : Below B a (w.drewN n) := ⟨h.os, h.tape, h.output, h.size, h.block⟩
theorem ret_int {k : IntKind} {a b : Int} (h : a = b) : Ending.returned (.int k a) = .returned (.int k b) := by rw [h]
theorem ret_bool {a b : Bool} (h : a = b) : Ending.returned (.bool a) = .returned (.bool b) := by rw [h]

/-- A world in which all that was there when w was reads as it did. -/
structure Later (w : World) where
  val : World
  le : Below w.heap.size w val
instance (w : World) : Nonempty (Later w) := ⟨⟨w, Below.refl _ _⟩⟩
theorem Later.cell {w : World} (l : Later w) (b o : Nat) (h : b < w.heap.size) : l.val.cell? ⟨b, o, none⟩ = w.cell? ⟨b, o, none⟩ := l.le.cell (p := ⟨b, o, none⟩) h
theorem wp_region_later {P : Program} {id : Nat} {Q : Exit → Act → World → Prop} {a : Act} {w : World} {l : List Oper} (hm : P.follows .mixedOrders = true) (hB : Region.lexB .any l.toArray = true)
    (h : wpQuiet P l.toArray (fun w' => ∃ x : Later w, w' = x.val) (fun a' => ∀ w', (∃ x : Later w, w' = x.val) → Q .normal a' w') l a) : (Code.region id l.toArray true).wp P Q a w :=
  wp_region_quiet (C := fun w' => ∃ x : Later w, w' = x.val) hm hB ⟨⟨_, Below.drew (Below.refl _ _)⟩, rfl⟩ (by simpa using h)
theorem Calls.later {P : Program} {f : FuncId} {args : Array Value} {w : World} {l : Later w} {v : Value}
    (h : Calls P f args l.val fun e w' => e = .returned v ∧ Below l.val.heap.size l.val w') : Calls P f args l.val fun e w'' => e = .returned v ∧ ∃ x : Later w, w'' = x.val :=
  h.mono fun _ w' ⟨he, hb⟩ => ⟨he, ⟨w', btr l.le hb⟩, rfl⟩

end Go.Proofs.YtpeminhnjdakiaaGreat
end

section
namespace Go.Proofs.YtpeminhnjdakiaaGreat
open Go.RowKit Go.Shelf

/-- From block lo on, what was there in W is there in W'. -/
structure KF (lo : Nat) (W W' : World) : Prop where
  size : W.heap.size ≤ W'.heap.size
  same : ∀ r, lo ≤ r → r < W.heap.size → W'.heap[r]? = W.heap[r]?
theorem KF.refl (lo : Nat) (W : World) : KF lo W W := ⟨Nat.le_refl _, fun _ _ _ => rfl⟩
theorem KF.trans {lo : Nat} {A B C : World} (h : KF lo A B) (k : KF lo B C) : KF lo A C :=
  ⟨Nat.le_trans h.size k.size, fun r h1 h2 => (k.same r h1 (Nat.lt_of_lt_of_le h2 h.size)).trans (h.same r h1 h2)⟩
theorem KF.of_below {lo : Nat} {W W' : World} (h : Below W.heap.size W W') : KF lo W W' := ⟨h.size, fun r _ h2 => h.block r h2⟩
theorem KF.alloc {lo : Nat} {A W : World} (h : KF lo A W) (o : Obj) : KF lo A (W.alloc o) := h.trans (KF.of_below (bal (bz _) _))
theorem KF.set {lo : Nat} {A W : World} (h : KF lo A W) {p : Addr} (hp : p.block < lo) (u : Value) : KF lo A (W.setCell p u) :=
  h.trans ⟨by simp, fun r h1 _ => Below.heap_setCell _ _ _ _ (by omega)⟩

/-- An assertion that abides new blocks, draws, and the turn of a block between lo and hi. -/
def Abides1 (lo hi : Nat) (I : World → Prop) : Prop := ∀ W W' row, I W → W.grownBy W' row → (∀ r, row = some r → lo ≤ r ∧ r < hi) → I W'

/-- The iterator's contract: it yields the values xs one after another as long as it is told to go on; it keeps k blocks of its own, the first ones that it makes. -/
def Yields {α : Type} (n : Nat) (P : Program) (g : Nat) (lb : Array Value) (encs : α → Array Value) (k : Nat) (Rd : World → Prop) (xs : List α) : Prop :=
  ∀ (l : Nat) (J Jx : List α → World → Prop) (W : World),
    (∀ s, Abides1 W.heap.size (W.heap.size + k) (J s)) → (∀ s, Abides1 W.heap.size (W.heap.size + k) (Jx s)) → (∀ s W1, J s W1 → Rd W1) →
    (∀ pre x W1, J pre W1 → pre ++ [x] <+: xs → W.heap.size + k ≤ W1.heap.size → YieldAt Fence.wide (n - 1) P l (encs x) W1 fun e W' =>
      (e = .returned (.bool true) ∧ J (pre ++ [x]) W' ∧ W1.heap.size ≤ W'.heap.size ∧ ∀ r, W.heap.size ≤ r → r < W.heap.size + k → W'.heap[r]? = W1.heap[r]?) ∨ (e = .returned (.bool false) ∧ Jx (pre ++ [x]) W')) →
    J [] W →
    CallsIn Fence.wide n P g (#[.func (.yield l) #[] #[]] ++ lb) W fun e W' => (∃ v, e = .returned v) ∧ (J xs W' ∨ ∃ pre, pre <+: xs ∧ Jx pre W')

/-- How a round may end. -/
def roundEnd {α : Type} (lo : Nat) (I : List α → World → Prop) (Ix : Code → List α → World → Prop) (s : List α) (W : World) : Exit → Act → World → Prop
  | .normal, _, W' => KF lo W W' ∧ I s W'
  | .ret, _, W' => KF lo W W' ∧ Ix .ret s W'
  | .exit id, _, W' => KF lo W W' ∧ Ix (.exit id) s W'
  | .goto t, _, W' => KF lo W W' ∧ Ix (.goto t) s W'
  | .panic _, _, _ => False
  | .outgrown, _, _ => False

/-- The statement 'for x := range g'. -/
theorem range_law {P : Program} {n : Nat} {α : Type} {g : Operand} {ps : Array Tmp} {assign body : Code} {Q : Exit → Act → World → Prop} {a : Act} {w : World}
    {gf : Nat} {lb : Array Value} (hg : a.eval g = .func (.func gf) #[] lb) (eg : ∀ args w, (callFunc gf args).run P w = .ok (.enter gf args) w)
    {encs : α → Array Value} {k : Nat} {Rd : World → Prop} {xs : List α} (hseq : Yields (n - 1) P gf lb encs k Rd xs) (hps : ∀ x, (encs x).size = ps.size)
    (I : List α → World → Prop) (Ix : Code → List α → World → Prop)
    (hI : ∀ s, Abides1 w.heap.size (w.heap.size + 2 + k) (I s)) (hIx : ∀ c s, Abides1 w.heap.size (w.heap.size + 2 + k) (Ix c s)) (hR : ∀ s W1, I s W1 → Rd W1) (h0 : I [] w)
    (hround : ∀ (l : Nat) (pre : List α) (x : α) (W : World), I pre W → pre ++ [x] <+: xs → w.heap.size + 2 + k ≤ W.heap.size →
      assign.wpIn (Fence.wide.inRound l) (n - 1 - 1) P (Exit.then (fun a₁ W₁ => KF w.heap.size W W₁ ∧ ∀ W₂, W₁.grownBy W₂ (some (w.heap.size + 1)) → W₂.heap.size = W₁.heap.size →
          body.wpIn (Fence.wide.inRound l) (n - 1 - 1) P (roundEnd w.heap.size I Ix (pre ++ [x]) W₂) a₁ W₂) (fun _ _ _ => False))
        { tmps := (ps.zip (encs x)).foldl (fun t (p, v) => t.setIfInBounds p v) a.tmps, defers := [] } W)
    (hdone : ∀ (W : World), I xs W → W.heap[w.heap.size]? = some (.deferred (some [])) → Q .normal { a with defers := { target := .collected w.heap.size, args := #[] } :: a.defers } W)
    (hstop : ∀ (c : Code) (pre : List α) (W : World), pre <+: xs → Ix c pre W → W.heap[w.heap.size]? = some (.deferred (some [])) → c.wpIn Fence.wide n P Q { a with defers := { target := .collected w.heap.size, args := #[] } :: a.defers } W) :
    (Code.rangeFunc g ps assign body).wpIn Fence.wide n P Q a w := by
  refine wpIn_rangeFunc ?_
  intro fn hfn
  let rec0 : LoopState → Option Code → Loop := fun st pe => { state := st, pending := pe, fn, tmps := a.tmps, params := ps, assign, body, defers := w.heap.size }
  obtain ⟨V, hV⟩ : ∃ V, (w.alloc (.deferred (some []))).alloc (.loop (rec0 .ready none)) = V := ⟨_, rfl⟩
  have hVs : V.heap.size = w.heap.size + 2 := by rw [← hV]; simp
  have hVl : V.heap[w.heap.size + 1]? = some (.loop (rec0 .ready none)) := by rw [← hV]; exact heap_alloc2_new _ _ _
  have hVd : V.heap[w.heap.size]? = some (.deferred (some [])) := by rw [← hV]; exact heap_alloc2_old _ _ _
  have hVI : I [] V := by
    rw [← hV]
    exact hI [] _ _ none (hI [] _ _ none h0 (World.grownBy_alloc _ _ none) (fun r e => by cases e)) (World.grownBy_alloc _ _ none) (fun r e => by cases e)
  -- what stays of the two blocks of the loop's own
  have keep : ∀ {X Y : World} {row : Option Nat} {j : Nat} {o : Obj}, X.heap[j]? = some o → j < V.heap.size → X.grownBy Y row → (∀ r, row = some r → V.heap.size ≤ r ∧ r < V.heap.size + k) → Y.heap[j]? = some o := by
    intro X Y row j o hx hj hgr hr
    rw [hgr.block j (Array.getElem?_eq_some_iff.1 hx).1 (fun e => by have := hr j e.symm; omega)]
    exact hx
  have wider : ∀ {row : Option Nat}, (∀ r, row = some r → V.heap.size ≤ r ∧ r < V.heap.size + k) → ∀ r, row = some r → w.heap.size ≤ r ∧ r < w.heap.size + 2 + k := by
    intro row h r e
    have := h r e
    omega
  have turn : ∀ {X : World} {o : Obj} {J : World → Prop}, Abides1 w.heap.size (w.heap.size + 2 + k) J → J X → J (X.putObj (w.heap.size + 1) o) :=
    fun h hx => h _ _ (some (w.heap.size + 1)) hx (grownBy_putObj' _ _ _) (fun r e => by cases e; omega)
  refine ⟨w.heap.size + 1, [{ target := .collected w.heap.size, args := #[] }], V, { target := .fn (.func gf) lb, args := #[.func (.yield (w.heap.size + 1)) #[] #[]] }, V, gf,
    #[.func (.yield (w.heap.size + 1)) #[] #[]] ++ lb, V, ?_, ?_, fun _ _ => trivial, ?_, fun h => by simp [Fence.wide] at h, ?_⟩
  · rw [← hV]; exact run_enterLoop_outer _ _ _ _ _
  · simp only [resolve, hg]
    simp [go_sem]
  · simp [invoke, go_sem, eg]
  refine (hseq (w.heap.size + 1)
    (fun s X => I s X ∧ X.heap[w.heap.size + 1]? = some (.loop (rec0 .ready none)) ∧ X.heap[w.heap.size]? = some (.deferred (some [])))
    (fun s X => ∃ c, Ix c s X ∧ X.heap[w.heap.size + 1]? = some (.loop (rec0 .done (some c))) ∧ X.heap[w.heap.size]? = some (.deferred (some []))) V
    (fun s X Y row h hgr hr => ⟨hI s X Y row h.1 hgr (wider hr), keep h.2.1 (by omega) hgr hr, keep h.2.2 (by omega) hgr hr⟩)
    (fun s X Y row h hgr hr => by
      obtain ⟨c, h1, h2, h3⟩ := h
      exact ⟨c, hIx c s X Y row h1 hgr (wider hr), keep h2 (by omega) hgr hr, keep h3 (by omega) hgr hr⟩)
    (fun s X h => hR s X h.1) ?_ ⟨hVI, hVl, hVd⟩).mono ?_
  · rintro pre x X ⟨hi, hl, hd⟩ hpre hsz
    have hlt : w.heap.size + 1 < X.heap.size := (Array.getElem?_eq_some_iff.1 hl).1
    refine ⟨fn, _, assign, body, run_yield (args := encs x) hl (hps x), roundIn_of_wpIn trivial (wpIn_mono (hround (w.heap.size + 1) pre x X hi hpre (by omega)) ?_)⟩
    rintro e a1 X1 hp
    cases e with
    | normal =>
      obtain ⟨hk1, hbody⟩ := hp
      have hl1 := (hk1.same _ (by omega) hlt).trans hl
      have hd1 := (hk1.same _ (by omega) (by omega)).trans hd
      refine ⟨_, run_beginRound hl1 rfl, wpIn_mono (hbody _ (grownBy_putObj' _ _ _) (by simp)) ?_⟩
      have hlt1 : w.heap.size + 1 < X1.heap.size := (Array.getElem?_eq_some_iff.1 hl1).1
      have fin : ∀ (jump : Option Code) (X3 : World), KF w.heap.size (X1.putObj (w.heap.size + 1) (.loop { rec0 .ready none with state := .busy })) X3 →
          (Instr.endRound (w.heap.size + 1) jump).run P X3 = .ok (.bool jump.isNone) (X3.putObj (w.heap.size + 1) (.loop (rec0 (if jump.isNone then .ready else .done) jump))) ∧
          (X3.putObj (w.heap.size + 1) (.loop (rec0 (if jump.isNone then .ready else .done) jump))).heap[w.heap.size + 1]? = some (.loop (rec0 (if jump.isNone then .ready else .done) jump)) ∧
          (X3.putObj (w.heap.size + 1) (.loop (rec0 (if jump.isNone then .ready else .done) jump))).heap[w.heap.size]? = some (.deferred (some [])) ∧
          X.heap.size ≤ X3.heap.size ∧
          ∀ r, V.heap.size ≤ r → r < V.heap.size + k → (X3.putObj (w.heap.size + 1) (.loop (rec0 (if jump.isNone then .ready else .done) jump))).heap[r]? = X.heap[r]? := by
        intro jump X3 hk3
        have hl3 : X3.heap[w.heap.size + 1]? = some (.loop { rec0 .ready none with state := .busy }) := (hk3.same _ (by omega) (by simp; omega)).trans (World.putObj_heap_same hlt1)
        have hd3 : X3.heap[w.heap.size]? = some (.deferred (some [])) := (hk3.same _ (by omega) (by simp; omega)).trans ((World.putObj_heap_other (by omega)).trans hd1)
        refine ⟨run_endRound jump hl3, World.putObj_heap_same (Array.getElem?_eq_some_iff.1 hl3).1, (World.putObj_heap_other (by omega)).trans hd3, ?_, fun r h1 h2 => ?_⟩
        · have h1 := hk3.size; have h2 := hk1.size; simp at h1; omega
        · have h4 := hk1.size
          rw [World.putObj_heap_other (by omega), hk3.same r (by omega) (by simp; omega), World.putObj_heap_other (by omega), hk1.same r (by omega) (by omega)]
      rintro e2 a3 X3 hp2
      cases e2 with
      | normal =>
        obtain ⟨hk3, hi3⟩ := hp2
        obtain ⟨f1, f2, f3, f4, f5⟩ := fin none X3 hk3
        exact ⟨_, _, f1, .inl ⟨rfl, ⟨turn (hI _) hi3, f2, f3⟩, by simp; exact f4, f5⟩⟩
      | ret =>
        obtain ⟨hk3, hi3⟩ := hp2
        obtain ⟨f1, f2, f3, f4, f5⟩ := fin (some .ret) X3 hk3
        exact ⟨_, _, f1, .inr ⟨rfl, _, turn (hIx _ _) hi3, f2, f3⟩⟩
      | exit id =>
        obtain ⟨hk3, hi3⟩ := hp2
        obtain ⟨f1, f2, f3, f4, f5⟩ := fin (some (.exit id)) X3 hk3
        exact ⟨_, _, f1, .inr ⟨rfl, _, turn (hIx _ _) hi3, f2, f3⟩⟩
      | goto t =>
        obtain ⟨hk3, hi3⟩ := hp2
        obtain ⟨f1, f2, f3, f4, f5⟩ := fin (some (.goto t)) X3 hk3
        exact ⟨_, _, f1, .inr ⟨rfl, _, turn (hIx _ _) hi3, f2, f3⟩⟩
      | panic ch => exact hp2.elim
      | outgrown => exact hp2.elim
    | ret => exact hp.elim
    | exit id => exact hp.elim
    | goto t => exact hp.elim
    | panic ch => exact hp.elim
    | outgrown => exact hp.elim
  · rintro e X ⟨⟨v, rfl⟩, ⟨hi, hl, hd⟩ | ⟨pre, hpre, c, hi, hl, hd⟩⟩
    · exact ⟨none, _, run_endLoop hl (by simp [rec0]), hdone _ (turn (hI _) hi) ((World.putObj_heap_other (by omega)).trans hd)⟩
    · exact ⟨some c, _, run_endLoop hl (by simp [rec0]), hstop c pre _ hpre (turn (hIx _ _) hi) ((World.putObj_heap_other (by omega)).trans hd)⟩

/-- Cells behind new blocks. -/
theorem cal {w : World} {a : Addr} {v : Value} (o : Obj) (h : w.cell? a = some v) : (w.alloc o).cell? a = some v :=
  (World.cell?_of_block (w := w) (Below.heap_alloc w o a.block (World.block_lt_of_cell? w a h))).trans h
theorem cnew {w : World} {cs : Array Value} {t : TypeId} {n j : Nat} {v : Value} (hn : n = w.heap.size) (h : cs[j]? = some v) : (w.alloc (.cells cs t)).cell? ⟨n, j, none⟩ = some v := by
  subst hn; rw [cell_of_row _ _ _ _ _ _ (heap_alloc_new w _)]; exact h
theorem fal {w : World} {a : Addr} (o : Obj) (h : w.frozen? a = false) (hb : a.block < w.heap.size) : (w.alloc o).frozen? a = false :=
  (World.frozen?_of_block (w := w) (Below.heap_alloc w o a.block hb)).trans h
theorem fnew {w : World} {cs : Array Value} {t : TypeId} {n j : Nat} (hn : n = w.heap.size) : (w.alloc (.cells cs t)).frozen? ⟨n, j, none⟩ = false := by
  subst hn; exact frozen_of_row _ _ _ _ _ (heap_alloc_new w _)

theorem abides_below {lo hi B : Nat} {w0 : World} (h1 : B ≤ lo) (h2 : B ≤ w0.heap.size) : Abides1 lo hi (fun W => Below B w0 W) :=
  fun _ _ _ h hg hr => h.grown hg (Nat.le_trans h2 h.size) (fun k e => Nat.le_trans h1 (hr k e).1)
theorem abides_cell {lo hi : Nat} {a : Addr} {v : Value} (h1 : a.block < lo) : Abides1 lo hi (fun W => W.cell? a = some v) :=
  fun W _ _ h hg hr => (World.cell?_of_block (hg.block a.block (World.block_lt_of_cell? W a h) (fun e => by have := hr _ e.symm; omega))).trans h
theorem Abides1.and {lo hi : Nat} {I J : World → Prop} (h : Abides1 lo hi I) (k : Abides1 lo hi J) : Abides1 lo hi (fun W => I W ∧ J W) :=
  fun W W' row hs hg hr => ⟨h W W' row hs.1 hg hr, k W W' row hs.2 hg hr⟩
theorem abides_pure {lo hi : Nat} {q : Prop} : Abides1 lo hi (fun _ => q) := fun _ _ _ h _ _ => h

section
variable {n : Nat} {F : Fence} {P : Program} {ops : Array Oper} {rest : List Oper} {o : Oper} {a : Act} {w : World} {Q : Exit → Act → World → Prop}
/-- In a fence: a whole array or struct is read. -/
theorem inLoadRow (hF : ∀ f, F.fn f) (hgd : o.guard = none) (ty : TypeId) (x : Operand) (ho : o.op = .load ty x) (g : Nat) (hx : a.eval x = .pointer (some ⟨g, 0, none⟩)) (t : TypeId) (cs : Array Value) (fr : Nat × Nat) (d : TypeDesc)
    (hg : w.heap[g]? = some (.cells cs t fr)) (hu : P.underlying ty = some d) (hd : (match d with | .struct _ | .array _ _ => true | _ => false) = true) (hi : (P.info? ty).map (·.size) = some cs.size)
    (h : wpListIn F n P ops Q rest (a.put o.dst (.agg cs)) w) : wpListIn F n P ops Q (o :: rest) a w := by
  refine wpListIn_plain hgd fun K hK => ⟨fun _ _ => hF _, ?_⟩
  have e : o.semAt F.round a.eval = execOp a.eval o := by unfold Oper.semAt; cases F.round <;> simp [ho]
  rw [e]; unfold execOp
  simp only [ho, hx, Instr.loadAt, Instr.sureAddr, Sem.run_bind, Sem.run_pure, Result.andThen_ok, run_loadVar_row w g t ty cs fr d hg hu hd hi]
  exact hK _ _ h
/-- .. is written. -/
theorem inStoreRow (hF : ∀ f, F.fn f) (hgd : o.guard = none) (ty : TypeId) (x y : Operand) (ho : o.op = .store ty x y) (g : Nat) (cells : Array Value) (hx : a.eval x = .pointer (some ⟨g, 0, none⟩)) (hy : a.eval y = .agg cells)
    (t : TypeId) (old : Array Value) (hg : w.heap[g]? = some (.cells old t (0, 0))) (hi : (P.info? ty).map (·.size) = some cells.size) (hold : old.size = cells.size) (h1 : cells.all (·.oneCell') = true)
    (h : wpListIn F n P ops Q rest (a.put o.dst undef) (w.setRow g cells)) : wpListIn F n P ops Q (o :: rest) a w := by
  refine wpListIn_plain hgd fun K hK => ⟨fun _ _ => hF _, ?_⟩
  have e : o.semAt F.round a.eval = execOp a.eval o := by unfold Oper.semAt; cases F.round <;> simp [ho]
  rw [e]; unfold execOp
  simp only [ho, hx, hy, Instr.storeAt, Instr.sureAddr, Sem.run_bind, Sem.run_pure, Result.andThen_ok, run_storeVar_row w g t ty old cells hg hi hold h1]
  exact hK _ _ h
end
/-- The fence of everything, in a round or in none. -/
abbrev WF (r : Option Nat) : Fence := { Fence.wide with round := r }

section
variable {P : Program} {ops : Array Oper} {md : Region.Mode} {C : World → Prop} {n : Nat} {r : Option Nat}
theorem inOp_of_quiet {i : Nat} {a : Act} {K : Act → Prop} {K' : Act → World → Prop} {Q' : Exit → Act → World → Prop} {w : World} (hd : ∀ (i : Nat) (o : Oper), ops[i]? = some o → ∀ c, o.op ≠ .defer c)
    (hC : C w) (h : ∀ a w', C w' → K a → K' a w') (hh : qOp P ops C i K a) : wpOpIn (WF r) n P ops Q' i K' a w := by
  unfold qOp at hh
  unfold wpOpIn
  cases ho : ops[i]? with
  | none => simp only [ho] at hh; exact h _ _ hC hh
  | some o =>
    simp only [ho] at hh ⊢
    by_cases hw : Region.wanted o (yielded ops a.tmps) = true
    · simp only [hw, if_true] at hh ⊢
      obtain ⟨v, h1, h2⟩ := hh
      have h3 := h1 w hC
      unfold Oper.quietAt at h3
      refine ⟨fun _ _ => trivial, ?_⟩
      have e : o.semAt (WF r).round a.eval = execOp a.eval o := Oper.semAt_eq _ _ _ (hd i o ho)
      rw [e]
      generalize (execOp a.eval o).run P w = res at *
      cases res with
      | ok x w' =>
        cases x <;> simp only [Oper.quietUpon] at h3 <;> simp only [Oper.uponIn]
        case value u =>
          obtain ⟨e1, e2⟩ := h3
          rw [e1, e2]; exact h _ _ hC h2
        case skip =>
          obtain ⟨e1, e2⟩ := h3
          rw [e1, ← e2]; exact h _ _ hC h2
        case enter f args =>
          obtain ⟨e1, hc⟩ := h3
          rw [e1]
          refine ⟨fun hh => by simp [Fence.wide] at hh, ?_⟩
          exact (show CallsIn Fence.wide (n - 1) P f args w _ from callsIn_wide.2 (hc.mono fun e w'' ⟨he, hw''⟩ => by subst he; exact h _ _ hw'' h2))
      | halt x w' => simp only [Oper.quietUpon] at h3
    · simp only [hw] at hh ⊢
      exact ⟨fun _ _ => trivial, h _ _ hC hh⟩
theorem inAny_of_quiet {Q : Act → Prop} {Q' : Exit → Act → World → Prop} (hd : ∀ (i : Nat) (o : Oper), ops[i]? = some o → ∀ c, o.op ≠ .defer c) (hQ : ∀ a w, C w → Q a → Q' .normal a w) :
    ∀ (fuel : Nat) (listed : Array Bool) (a : Act) (w : World), C w → wpAnyQ P md ops C Q fuel listed a → wpAnyIn (WF r) n P md ops Q' fuel listed a w
  | 0, _, _, _, hw, h => ⟨h.1, hQ _ _ hw h.2⟩
  | fuel + 1, _, _, _, hw, h => ⟨fun h0 => hQ _ _ hw (h.1 h0), fun i hi => inOp_of_quiet hd hw (fun a' w' hw' => inAny_of_quiet hd hQ fuel _ a' w' hw') (h.2 i hi)⟩
def noDefer (l : List Oper) : Bool := l.all fun o => match o.op with | .defer _ => false | _ => true
/-- A region that draws its order, in a fence, whose operations only read and whose calls return one value and leave old memory alone: one walk. -/
theorem in_region_later {id : Nat} {Q : Exit → Act → World → Prop} {a : Act} {w : World} {l : List Oper} (hm : P.follows .mixedOrders = true) (hB : Region.lexB .any l.toArray = true) (hd : noDefer l = true)
    (h : wpQuiet P l.toArray (fun w' => ∃ x : Later w, w' = x.val) (fun a' => ∀ w', (∃ x : Later w, w' = x.val) → Q .normal a' w') l a) : (Code.region id l.toArray true).wpIn (WF r) n P Q a w := by
  have hd' : ∀ (i : Nat) (o : Oper), l.toArray[i]? = some o → ∀ c, o.op ≠ .defer c := by
    intro i o ho c e
    have hm : o ∈ l := by rw [List.getElem?_toArray] at ho; exact List.mem_of_getElem? ho
    have := List.all_eq_true.1 hd o hm
    rw [e] at this
    simp at this
  simp only [Region.lexB, Bool.and_eq_true] at hB
  refine wpIn_region_any hm (inAny_of_quiet (C := fun w' => ∃ x : Later w, w' = x.val) (Q := fun a' => ∀ w', (∃ x : Later w, w' = x.val) → Q .normal a' w') hd' (fun _ w' hw' h => h w' hw') _ _ _ _ ⟨⟨_, Below.drew (Below.refl _ _)⟩, rfl⟩ ?_)
  have := wpAnyQ_lex (P := P) (C := fun w' => ∃ x : Later w, w' = x.val) (md := .any) hB.1 l.toArray.toList 0 (Array.replicate l.toArray.size false) a (by simp) (by simpa using hB.2) (by simpa using h)
  simpa using this
end
/-- Arrays of ints, compared. -/
theorem eqItems_ints {P : Program} {w : World} (d : Nat) (e : TypeId) (k : IntKind) (he : P.underlying e = some (.int k)) (xs ys : List Int) : ∀ is : List Nat, (∀ i ∈ is, i < xs.length ∧ i < ys.length) →
    (Op.eqItems (d + 1) e 1 (xs.map (Value.int k)).toArray (ys.map (Value.int k)).toArray is).run P w = .ok (is.all fun i => xs[i]?.getD 0 == ys[i]?.getD 0) w
  | [], _ => by simp [Op.eqItems]
  | i :: is, h => by
    have ih := eqItems_ints (w := w) d e k he xs ys is (fun j hj => h j (List.mem_cons_of_mem _ hj))
    obtain ⟨h1, h2⟩ := h i (by simp)
    have px : (part e (xs.map (Value.int k)).toArray (i * 1)).run P w = .ok (.int k (xs[i]?.getD 0)) w := by
      simp [part, isAgg, run_underlying he, h1]
    have py : (part e (ys.map (Value.int k)).toArray (i * 1)).run P w = .ok (.int k (ys[i]?.getD 0)) w := by
      simp [part, isAgg, run_underlying he, h2]
    simp only [Op.eqItems, Sem.run_bind, px, py, Result.andThen_ok, run_equalIn_int w d e k k _ _ he, List.all_cons]
    cases hb : (xs[i]?.getD 0 == ys[i]?.getD 0)
    · simp
    · simpa using ih
theorem all_get_eq (xs ys : List Int) (h : xs.length = ys.length) : ((List.range xs.length).all fun i => xs[i]?.getD 0 == ys[i]?.getD 0) = decide (xs = ys) := by
  rw [Bool.eq_iff_iff, List.all_eq_true, decide_eq_true_eq]
  constructor
  · intro h1
    apply List.ext_getElem h
    intro i h2 h3
    have := h1 i (List.mem_range.2 h2)
    simpa [h2, h3] using this
  · rintro rfl i _; simp
theorem run_eq_arr {P : Program} (w : World) (d : Nat) (t e : TypeId) (n : Nat) (k : IntKind) (i : TypeInfo) (hu : P.underlying t = some (.array n e)) (hi : P.info? e = some i) (hc : P.cellsOf e = 1) (he : P.underlying e = some (.int k)) (xs ys : List Int) (hx : xs.length = n) (hy : ys.length = n) :
    (Op.equalIn (d + 2) t (.agg (xs.map (Value.int k)).toArray) (.agg (ys.map (Value.int k)).toArray)).run P w = .ok (decide (xs = ys)) w := by
  rw [run_equalIn_array w (d + 1) _ _ hu hi, hc, eqItems_ints d e k he xs ys _ (fun j hj => by rw [List.mem_range] at hj; omega), ← hx, all_get_eq xs ys (by omega)]
theorem run_neq_arr {P : Program} (w : World) (t e : TypeId) (n : Nat) (k : IntKind) (i : TypeInfo) (hu : P.underlying t = some (.array n e)) (hi : P.info? e = some i) (hc : P.cellsOf e = 1) (he : P.underlying e = some (.int k)) (xs ys : List Int) (hx : xs.length = n) (hy : ys.length = n) :
    (binOp .neq t (.agg (xs.map (Value.int k)).toArray) (.agg (ys.map (Value.int k)).toArray)).run P w = .ok (.bool (!decide (xs = ys))) w := by
  rw [run_neq_struct, run_eq_arr w 9998 t e n k i hu hi hc he xs ys hx hy]; rfl
/-- A whole array is read, in a region that draws. -/
theorem wpQuiet_load_row {P : Program} {ops : Array Oper} {Q : Act → Prop} {a : Act} {w : World} {rest : List Oper} {o : Oper} (hgd : o.guard = none) (ty : TypeId) (x : Operand) (ho : o.op = .load ty x) (g : Nat) (hx : a.eval x = .pointer (some ⟨g, 0, none⟩)) (t : TypeId) (cs : Array Value) (fr : Nat × Nat) (d : TypeDesc)
    (hg : w.heap[g]? = some (.cells cs t fr)) (hu : P.underlying ty = some d) (hd : (match d with | .struct _ | .array _ _ => true | _ => false) = true) (hi : (P.info? ty).map (·.size) = some cs.size)
    (h : wpQuiet P ops (fun w' => ∃ x : Later w, w' = x.val) Q rest (a.put o.dst (.agg cs))) : wpQuiet P ops (fun w' => ∃ x : Later w, w' = x.val) Q (o :: rest) a := by
  unfold wpQuiet
  rw [if_pos (by simp [Region.wanted, hgd])]
  refine ⟨.agg cs, ?_, h⟩
  rintro w' ⟨l, rfl⟩
  have hg' : l.val.heap[g]? = some (.cells cs t fr) := (l.le.block g (Array.getElem?_eq_some_iff.1 hg).1).trans hg
  unfold Oper.quietAt execOp
  simp only [ho, hx, Instr.loadAt, Instr.sureAddr, Sem.run_bind, Sem.run_pure, Result.andThen_ok, run_loadVar_row l.val g t ty cs fr d hg' hu hd hi, Oper.quietUpon, and_self]
/-- A struct or an array is built, in a region that draws. -/
theorem wpQuiet_build {P : Program} {ops : Array Oper} {Q : Act → Prop} {a : Act} {C : World → Prop} {rest : List Oper} {o : Oper} (hgd : o.guard = none) (t : TypeId) (x : Operand) (ho : o.op = .build t #[(0, x)]) (v : Value) (hx : a.eval x = v) (cells : Array Value)
    (hb : P.built t [(0, v)] = some cells)
    (h : wpQuiet P ops C Q rest (a.put o.dst (.agg cells))) : wpQuiet P ops C Q (o :: rest) a := by
  unfold wpQuiet
  rw [if_pos (by simp [Region.wanted, hgd])]
  refine ⟨.agg cells, fun w _ => ?_, h⟩
  unfold Oper.quietAt execOp
  have hp : (#[(0, x)].map fun (p : Nat × Operand) => (p.1, a.eval p.2)).toList = [(0, v)] := by simp [hx]
  simp only [ho, Sem.run_bind, run_build w t _ cells (by rw [hp]; exact hb), Result.andThen_ok, Sem.run_pure, Oper.quietUpon, and_self]
/-- What lies there when a round's body begins: the loop variable in its box, and all that was there but for the loop's record. -/
theorem round_start {W W2 : World} {z cs : Array Value} {t : TypeId} {r : Nat} (hr : r < W.heap.size) (hg : ((W.alloc (.cells z t)).setRow W.heap.size cs).grownBy W2 (some r)) (hs : W2.heap.size = ((W.alloc (.cells z t)).setRow W.heap.size cs).heap.size) :
    W2.heap[W.heap.size]? = some (.cells cs t (0, 0)) ∧ W2.heap.size = W.heap.size + 1 ∧ Below r W W2 ∧ KF r W ((W.alloc (.cells z t)).setRow W.heap.size cs) := by
  have h0 : ((W.alloc (.cells z t)).setRow W.heap.size cs).heap.size = W.heap.size + 1 := by simp
  have hk : ∀ j, j < W.heap.size → ((W.alloc (.cells z t)).setRow W.heap.size cs).heap[j]? = W.heap[j]? := fun j hj => by
    rw [setRow_other _ _ _ _ (by omega)]; exact Below.heap_alloc _ _ _ hj
  refine ⟨?_, by rw [hs, h0], ⟨hg.os, hg.tape, hg.output, by rw [hs, h0]; omega, fun j hj => ?_⟩, ⟨by rw [h0]; omega, fun j _ hj => hk j hj⟩⟩
  · rw [hg.block _ (by rw [h0]; omega) (by intro e; cases e; omega)]
    exact setRow_heap _ _ _ _ _ _ (heap_alloc_new _ _)
  · rw [hg.block _ (by rw [h0]; omega) (by intro e; cases e; omega)]
    exact hk j (by omega)
theorem kf_box (lo : Nat) (W : World) (z cs : Array Value) (t : TypeId) : KF lo W ((W.alloc (.cells z t)).setRow W.heap.size cs) :=
  ⟨by simp, fun j _ hj => by rw [setRow_other _ _ _ _ (by omega)]; exact Below.heap_alloc _ _ _ hj⟩
theorem below_box (W : World) (z cs : Array Value) (t : TypeId) : Below W.heap.size W ((W.alloc (.cells z t)).setRow W.heap.size cs) :=
  ⟨rfl, rfl, rfl, by simp, fun j hj => by rw [setRow_other _ _ _ _ (by omega)]; exact Below.heap_alloc _ _ _ hj⟩
theorem heap_box (W : World) (z cs : Array Value) (t : TypeId) : ((W.alloc (.cells z t)).setRow W.heap.size cs).heap[W.heap.size]? = some (.cells cs t (0, 0)) :=
  setRow_heap _ _ _ _ _ _ (heap_alloc_new _ _)
theorem results_cell {P : Program} {fn : Func} {p : Tmp} {ty : TypeId} {tmps : Array Value} {w : World} {g : Nat} {v : Value} (h : fn.results = #[.cell p ty]) (hp : tmps.getD p undef = .pointer (some ⟨g, 0, none⟩))
    (hl : (loadVar ty ⟨g, 0, none⟩).run P w = .ok v w) : (results fn tmps).run P w = .ok v w := by
  have hp' : tmps[p]?.getD undef = .pointer (some ⟨g, 0, none⟩) := by simpa using hp
  simp [results, h, hp', asAddr, hl]
theorem results_cell2 {P : Program} {fn : Func} {p p' : Tmp} {ty ty' : TypeId} {tmps : Array Value} {w : World} {g g' : Nat} {v v' : Value} (h : fn.results = #[.cell p ty, .cell p' ty']) (hp : tmps.getD p undef = .pointer (some ⟨g, 0, none⟩)) (hp2 : tmps.getD p' undef = .pointer (some ⟨g', 0, none⟩))
    (hl : (loadVar ty ⟨g, 0, none⟩).run P w = .ok v w) (hl' : (loadVar ty' ⟨g', 0, none⟩).run P w = .ok v' w) : (results fn tmps).run P w = .ok (.tuple #[v, v']) w := by
  have hp' : tmps[p]?.getD undef = .pointer (some ⟨g, 0, none⟩) := by simpa using hp
  have hp2' : tmps[p']?.getD undef = .pointer (some ⟨g', 0, none⟩) := by simpa using hp2
  simp [results, h, hp', hp2', asAddr, hl, hl']
theorem cell_put {W : World} {a : Addr} {v : Value} (r : Nat) (o : Obj) (h : W.cell? a = some v) (hr : a.block ≠ r) : (W.putObj r o).cell? a = some v :=
  (World.cell?_of_block (w := W) (World.putObj_heap_other hr)).trans h
theorem below_put {a W : World} (h : Below a.heap.size a W) {r : Nat} (o : Obj) (hr : a.heap.size ≤ r) : Below a.heap.size a (W.putObj r o) :=
  bgr h (grownBy_putObj' W r o) (fun k e => by cases e; exact hr)
end Go.Proofs.YtpeminhnjdakiaaGreat
end

section
namespace Go.Proofs.YtpeminhnjdakiaaGreat
open Go.RowKit Go.Shelf

section
variable {P : Program} {ops : Array Oper} {md : Region.Mode} {C : World → Prop}
/-- Some order of the first f operations that come up, all of the head; then L. -/
def headThen (P : Program) (md : Region.Mode) (ops : Array Oper) (C : World → Prop) (n : Nat) (L : Array Bool → Act → Prop) : Nat → Array Bool → Act → Prop
  | 0, listed, a => L listed a
  | f + 1, listed, a => Region.ready md ops listed ≠ [] ∧ ∀ i ∈ Region.ready md ops listed, i < n ∧ qOp P ops C i (headThen P md ops C n L f (listed.setIfInBounds i true)) a
theorem any_of_headThen {n g : Nat} {L : Array Bool → Act → Prop} {Q' : Exit → Act → World → Prop} (hL : ∀ listed a w, C w → L listed a → wpAny P md ops Q' g listed a w) :
    ∀ (f : Nat) (listed : Array Bool) (a : Act) (w : World), C w → headThen P md ops C n L f listed a → wpAny P md ops Q' (f + g) listed a w
  | 0, listed, a, w, hw, h => by rw [Nat.zero_add]; exact hL _ _ _ hw h
  | f + 1, listed, a, w, hw, h => by
    rw [show f + 1 + g = (f + g) + 1 by omega]
    exact ⟨fun h0 => absurd h0 h.1, fun i hi => wpOp_of_qOp hw (fun a' w' hw' h' => any_of_headThen hL f _ a' w' hw' h') (h.2 i hi).2⟩
/-- An operation of the head that may come up now may be taken first. -/
theorem headThen_first {n i : Nat} {oi : Oper} {v : Value} {L : Array Bool → Act → Prop} (hi : ops[i]? = some oi) (hsel : ∀ (j : Nat) (o : Oper) cs b, ops[j]? = some o → o.op ≠ .select cs b)
    (hwait : ∀ listed, HeadInv md ops n listed → ∀ i, i < n → listed.getD i true = false → ∀ t, n ≤ t → t ∉ Region.ready md ops listed) (hin : i < n) (hdone : ∀ listed a, L listed a → ∀ j ∈ Region.ready md ops listed, n ≤ j) :
    ∀ (f : Nat) (listed : Array Bool) (a : Act), HeadInv md ops n listed →
      (∀ j oj, ops[j]? = some oj → j ≠ i → listed.getD j true = false → (∀ e ∈ oj.after, Region.binds md e = true → e.on ≠ i) → oi.apart ops oj = true) →
      i ∈ Region.ready md ops listed → YieldsIn P ops C oi v a →
      headThen P md ops C n L f (listed.setIfInBounds i true) (a.put oi.dst v) → headThen P md ops C n L (f + 1) listed a := by
  intro f
  induction f with
  | zero =>
    intro listed a inv _ hr hy H
    refine ⟨fun h => (by rw [h] at hr; cases hr), fun j hj => ?_⟩
    have hjn : j < n := Nat.lt_of_not_le fun h => absurd hj (hwait _ inv i hin (mem_ready.1 hr).1 j h)
    refine ⟨hjn, ?_⟩
    by_cases hji : j = i
    · subst hji; exact hy.qOp hi H
    · have := hdone _ _ H j (ready_mono hj hji)
      omega
  | succ f ih =>
    intro listed a inv hfree hr hy H
    refine ⟨fun h => (by rw [h] at hr; cases hr), fun j hj => ?_⟩
    have hjn : j < n := Nat.lt_of_not_le fun h => absurd hj (hwait _ inv i hin (mem_ready.1 hr).1 j h)
    refine ⟨hjn, ?_⟩
    by_cases hji : j = i
    · subst hji; exact hy.qOp hi H
    obtain ⟨hjun, oj, hoj, hall⟩ := mem_ready.1 hj
    have hnot : ∀ e ∈ oj.after, Region.binds md e = true → e.on ≠ i := by
      intro e he hb heq
      have h1 := hall e he hb
      rw [heq, getD_both (mem_ready.1 hr).1] at h1
      cases h1
    refine qOp_mono (fun a' h3 => ih (listed.setIfInBounds j true) a' (inv.set hj hjn) ?_ (ready_mono hr (Ne.symm hji)) h3.1 ?_)
      (qOp_put hoj (hfree j oj hoj hji hjun hnot) (fun cs b => hsel i oi cs b hi) (fun cs b => hsel j oj cs b hoj) hy (H.2 j (ready_mono hj hji)).2)
    · intro k ok hk hki hun hno
      refine hfree k ok hk hki ?_ hno
      by_cases hjk : j = k
      · subst hjk; exact hjun
      · rw [getD_set_ne true hjk] at hun; exact hun
    · rw [Array.setIfInBounds_comm _ _ hji]
      exact h3.2
theorem headThen_lex {n g : Nat} {Lq : Act → Prop} (hsel : Region.noSelect ops = true) (hs : Region.sinkB md ops n = true) (hc : Region.chainB md ops n = true) (hn : n < ops.size) :
    ∀ (l : List Oper) (k : Nat) (listed : Array Bool) (a : Act), (∀ j, j < l.length → l[j]? = ops[k + j]?) → k + l.length = n → HeadInv md ops n listed →
    Region.lexHead md ops g l.length k listed = true → wpQuiet P ops C Lq l a →
    headThen P md ops C n (fun listed' a' => Region.seqB md ops g n listed' = true ∧ Lq a') l.length listed a
  | [], k, listed, a, _, hk, _, hB, h => by
    obtain rfl : k = n := by simpa using hk
    exact ⟨by simpa [Region.lexHead] using hB, h⟩
  | o :: l, k, listed, a, hl, hk, inv, hB, h => by
    have h0 : ops[k]? = some o := by simpa using (hl 0 (by simp)).symm
    simp only [List.length_cons, Region.lexHead, Bool.and_eq_true] at hB hk
    obtain ⟨⟨hr, hf⟩, hB'⟩ := hB
    have hr' : k ∈ Region.ready md ops listed := by simpa using hr
    have hst : qOp P ops C k (wpQuiet P ops C Lq l) a := by unfold qOp; simp only [h0]; exact h
    obtain ⟨v, hy, hK⟩ := yieldsIn_of_qOp h0 hst
    exact headThen_first h0 (Region.noSelect_spec hsel) (fun listed inv i hi hu => tail_waits hs hc hn inv _ i rfl hi hu) (by omega) (fun listed' a' hL => seqB_ready hL.1) l.length listed a inv (Region.free_spec h0 hf) hr' hy
      (headThen_lex hsel hs hc hn l (k + 1) _ _ (fun j hj => by have := hl (j + 1) (by simp; omega); simpa [Nat.add_assoc, Nat.add_comm 1 j] using this) (by omega) (inv.set hr' (by omega)) hB' hK)

theorem any_head_tail {Q : Exit → Act → World → Prop} {a : Act} {w : World} {l : List Oper} (n : Nat) (hB : Region.lexTailB .any l.toArray n = true) (hC : C w)
    (h : wpQuiet P l.toArray C (fun a' => ∀ w', C w' → wpList P l.toArray Q (l.drop n) a' w') (l.take n) a) : wpAny P .any l.toArray Q l.toArray.size (Array.replicate l.toArray.size false) a w := by
  simp only [Region.lexTailB, Bool.and_eq_true, decide_eq_true_eq] at hB
  obtain ⟨⟨⟨⟨hsel, hn⟩, hs⟩, hc⟩, hlex⟩ := hB
  have hn' : n < l.length := by simpa using hn
  have htl : (l.take n).length = n := by simp; omega
  have hdl : (l.drop n).length = l.toArray.size - n := by simp
  have inv0 : HeadInv .any l.toArray n (Array.replicate l.toArray.size false) :=
    ⟨by simp, fun j oj _ hl => (by rw [getD_replicate_false] at hl; cases hl), fun t _ ht => getD_in (by simpa using ht) (getD_replicate_false _ _)⟩
  have H := headThen_lex (md := .any) (g := l.toArray.size - n) hsel hs hc hn (l.take n) 0 _ a (fun j hj => by
    have hj' : j < n := by rw [htl] at hj; exact hj
    simp [hj']) (by simpa using htl) inv0 (by rw [htl]; exact hlex) h
  have := any_of_headThen (Q' := Q) (g := l.toArray.size - n) (fun listed a' w' hw' hL => by
    have := wpAny_of_seq (md := .any) (Q' := Q) (l.drop n) n listed a' w' (fun j => by simp [List.getElem?_drop]) (by rw [hdl]; exact hL.1) (hL.2 w' hw')
    rwa [hdl] at this) _ _ _ _ hC H
  rw [htl, show n + (l.toArray.size - n) = l.toArray.size by omega] at this
  exact this

/-- Every operation of the tail waits, itself or by an earlier one of the tail, for all of the head. -/
def tailB (md : Region.Mode) (ops : Array Oper) (n : Nat) : Bool :=
  (List.range ops.size).all fun t => decide (t < n) || (List.range t).any (fun t' => decide (n ≤ t') && Region.waitsFor md ops t t') ||
    (List.range n).all fun i => (List.range n).any (fun j => decide (i < j) && Region.waitsFor md ops j i) || Region.waitsFor md ops t i
theorem not_ready_of_waits {listed : Array Bool} {t i : Nat} (h : Region.waitsFor md ops t i = true) (hu : listed.getD i false = false) : t ∉ Region.ready md ops listed := by
  intro hr
  obtain ⟨_, ot, hot, hall⟩ := mem_ready.1 hr
  obtain ⟨o', ho', e, he, hb, hon⟩ := Region.waitsFor_spec h
  obtain rfl : o' = ot := Option.some.inj (ho'.symm.trans hot)
  have := hall e he hb
  rw [hon, hu] at this
  cases this
theorem tailB_waits {n : Nat} (h : tailB md ops n = true) : ∀ listed, HeadInv md ops n listed → ∀ i, i < n → listed.getD i true = false → ∀ t, n ≤ t → t ∉ Region.ready md ops listed := by
  intro listed inv i hi hu t ht
  by_cases hts : t < ops.size
  · have h1 := List.all_eq_true.1 h t (List.mem_range.2 hts)
    simp only [Bool.or_eq_true, decide_eq_true_eq] at h1
    rcases h1 with (h1 | h1) | h1
    · omega
    · obtain ⟨t', ht', h2⟩ := List.any_eq_true.1 h1
      simp only [Bool.and_eq_true, decide_eq_true_eq] at h2
      exact not_ready_of_waits h2.2 (getD_both (inv.tail t' h2.1 (by have := List.mem_range.1 ht'; omega)))
    · have key : ∀ d i, n - i = d → i < n → listed.getD i true = false → t ∉ Region.ready md ops listed := by
        intro d
        induction d using Nat.strongRecOn with
        | _ d ih =>
          intro i hd hi hu
          have h2 := List.all_eq_true.1 h1 i (List.mem_range.2 hi)
          simp only [Bool.or_eq_true] at h2
          rcases h2 with h2 | h2
          · obtain ⟨j, hj, h3⟩ := List.any_eq_true.1 h2
            simp only [Bool.and_eq_true, decide_eq_true_eq] at h3
            have hjn := List.mem_range.1 hj
            obtain ⟨oj, hoj, e, he, hb, hon⟩ := Region.waitsFor_spec h3.2
            cases hl : listed.getD j false with
            | true =>
              have h4 := inv.closed j oj hoj hl e he hb
              rw [hon, getD_both hu] at h4
              cases h4
            | false =>
              have hjs : j < listed.size := by rw [inv.size]; exact (Array.getElem?_eq_some_iff.1 hoj).1
              exact ih (n - j) (by omega) j rfl hjn (getD_in hjs hl)
          · exact not_ready_of_waits h2 (getD_both hu)
      exact key _ i rfl hi hu
  · intro hr
    obtain ⟨_, ot, hot, _⟩ := mem_ready.1 hr
    exact hts (Array.getElem?_eq_some_iff.1 hot).1
/-- The head in the text's order; what is listed behind it. -/
def lexHd (md : Region.Mode) (ops : Array Oper) : Nat → Nat → Array Bool → Bool
  | 0, _, _ => true
  | f + 1, k, listed => (Region.ready md ops listed).contains k && Region.free md ops listed k && lexHd md ops f (k + 1) (listed.setIfInBounds k true)
def marked : Nat → Nat → Array Bool → Array Bool
  | 0, _, listed => listed
  | f + 1, k, listed => marked f (k + 1) (listed.setIfInBounds k true)
theorem headThen_lex2 {n : Nat} {Lq : Act → Prop} (hsel : Region.noSelect ops = true) (hw : tailB md ops n = true) (hlist : Array Bool) (hdone : ∀ j ∈ Region.ready md ops hlist, n ≤ j) :
    ∀ (l : List Oper) (k : Nat) (listed : Array Bool) (a : Act), (∀ j, j < l.length → l[j]? = ops[k + j]?) → k + l.length = n → HeadInv md ops n listed → marked l.length k listed = hlist →
    lexHd md ops l.length k listed = true → wpQuiet P ops C Lq l a →
    headThen P md ops C n (fun listed' a' => listed' = hlist ∧ Lq a') l.length listed a
  | [], k, listed, a, _, hk, _, hm, hB, h => ⟨hm, h⟩
  | o :: l, k, listed, a, hl, hk, inv, hm, hB, h => by
    have h0 : ops[k]? = some o := by simpa using (hl 0 (by simp)).symm
    simp only [List.length_cons, lexHd, Bool.and_eq_true] at hB hk
    obtain ⟨⟨hr, hf⟩, hB'⟩ := hB
    have hr' : k ∈ Region.ready md ops listed := by simpa using hr
    have hst : qOp P ops C k (wpQuiet P ops C Lq l) a := by unfold qOp; simp only [h0]; exact h
    obtain ⟨v, hy, hK⟩ := yieldsIn_of_qOp h0 hst
    exact headThen_first h0 (Region.noSelect_spec hsel) (tailB_waits hw) (by omega) (fun listed' a' hL => by rw [hL.1]; exact hdone) l.length listed a inv (Region.free_spec h0 hf) hr' hy
      (headThen_lex2 hsel hw hlist hdone l (k + 1) _ _ (fun j hj => by have := hl (j + 1) (by simp; omega); simpa [Nat.add_assoc, Nat.add_comm 1 j] using this) (by omega) (inv.set hr' (by omega)) hm hB' hK)
def headB (md : Region.Mode) (ops : Array Oper) (n : Nat) : Bool :=
  Region.noSelect ops && decide (n < ops.size) && tailB md ops n && lexHd md ops n 0 (Array.replicate ops.size false) && (Region.ready md ops (marked n 0 (Array.replicate ops.size false))).all (fun j => decide (n ≤ j))
/-- Quiet operations first; what comes behind them in whatever order. -/
theorem any_head_any {Q : Exit → Act → World → Prop} {a : Act} {w : World} {l : List Oper} (n : Nat) (hB : headB .any l.toArray n = true) (hC : C w)
    (h : wpQuiet P l.toArray C (fun a' => ∀ w', C w' → wpAny P .any l.toArray Q (l.length - n) (marked n 0 (Array.replicate l.toArray.size false)) a' w') (l.take n) a) : wpAny P .any l.toArray Q l.toArray.size (Array.replicate l.toArray.size false) a w := by
  simp only [headB, Bool.and_eq_true, decide_eq_true_eq] at hB
  obtain ⟨⟨⟨⟨hsel, hn⟩, hw⟩, hlex⟩, hd⟩ := hB
  have hn' : n < l.length := by simpa using hn
  have htl : (l.take n).length = n := by simp; omega
  have inv0 : HeadInv .any l.toArray n (Array.replicate l.toArray.size false) :=
    ⟨by simp, fun j oj _ hl => (by rw [getD_replicate_false] at hl; cases hl), fun t _ ht => getD_in (by simpa using ht) (getD_replicate_false _ _)⟩
  have H := headThen_lex2 (md := .any) hsel hw _ (fun j hj => by simpa using List.all_eq_true.1 hd j hj) (l.take n) 0 _ a (fun j hj => by
    have hj' : j < n := by rw [htl] at hj; exact hj
    simp [hj']) (by simpa using htl) inv0 (by rw [htl]) (by rw [htl]; exact hlex) h
  have := any_of_headThen (Q' := Q) (g := l.length - n) (fun listed a' w' hw' hL => by
    obtain ⟨rfl, h2⟩ := hL
    exact h2 w' hw') _ _ _ _ hC H
  rw [htl, show n + (l.length - n) = l.toArray.size by simp; omega] at this
  exact this

/-- From an operation outside a fence to one inside the fence of everything. -/
theorem inOp_of_op {m : Nat} {r : Option Nat} {Q : Exit → Act → World → Prop} (hd : ∀ (i : Nat) (o : Oper), ops[i]? = some o → ∀ c, o.op ≠ .defer c) (hout : ¬ LetsOut Q) {i : Nat} {K K' : Act → World → Prop} {a : Act} {w : World} (hK : ∀ a w, K a w → K' a w)
    (h : wpOp P ops Q i K a w) : wpOpIn (WF r) m P ops Q i K' a w := by
  unfold wpOp at h
  unfold wpOpIn
  cases ho : ops[i]? with
  | none => simp only [ho] at h; exact hK _ _ h
  | some o =>
    simp only [ho] at h ⊢
    by_cases hw : Region.wanted o (yielded ops a.tmps) = true
    · simp only [hw, if_true] at h ⊢
      rcases h with h | ⟨_, h⟩
      · unfold Oper.wp at h
        refine ⟨fun _ _ => trivial, ?_⟩
        have e : o.semAt (WF r).round a.eval = execOp a.eval o := Oper.semAt_eq _ _ _ (hd i o ho)
        rw [e]
        generalize (execOp a.eval o).run P w = res at *
        cases res with
        | ok x w' =>
          cases x <;> simp only [Oper.upon] at h <;> simp only [Oper.uponIn]
          case value u => exact hK _ _ h
          case skip => exact hK _ _ h
          case defer d => exact hK _ _ h
          case enter f args =>
            refine ⟨fun hh => by simp [Fence.wide] at hh, ?_⟩
            refine (show CallsIn Fence.wide (m - 1) P f args w' _ from callsIn_wide.2 (h.mono fun e w'' he => ?_))
            cases e with
            | returned v => exact hK _ _ he
            | panicked c => exact he
            | outgrown => exact he
          case row row args =>
            refine ⟨fun hh => by simp [Fence.wide] at hh, fun c cs _ => ?_⟩
            obtain ⟨v, w2, h1, h2⟩ := h c cs
            exact ⟨v, w2, hK _ _ h1, stepsIn_wide.2 h2⟩
        | halt x w' => cases x <;> simp only [Oper.upon] at h <;> simp only [Oper.uponIn] <;> exact h
      · exact absurd h hout
    · simp only [hw] at h ⊢
      exact ⟨fun _ _ => trivial, hK _ _ h⟩
theorem inAny_of_any {m : Nat} {r : Option Nat} {Q : Exit → Act → World → Prop} (hd : ∀ (i : Nat) (o : Oper), ops[i]? = some o → ∀ c, o.op ≠ .defer c) (hout : ¬ LetsOut Q) :
    ∀ (fuel : Nat) (listed : Array Bool) (a : Act) (w : World), wpAny P md ops Q fuel listed a w → wpAnyIn (WF r) m P md ops Q fuel listed a w
  | 0, _, _, _, h => h
  | fuel + 1, _, _, _, h => ⟨h.1, fun i hi => inOp_of_op hd hout (fun a' w' => inAny_of_any hd hout fuel _ a' w') (h.2 i hi)⟩
theorem noDefer_spec {l : List Oper} (hd : noDefer l = true) : ∀ (i : Nat) (o : Oper), l.toArray[i]? = some o → ∀ c, o.op ≠ .defer c := by
  intro i o ho c e
  have hm : o ∈ l := by rw [List.getElem?_toArray] at ho; exact List.mem_of_getElem? ho
  have := List.all_eq_true.1 hd o hm
  rw [e] at this
  simp at this

/-- Quiet operations, then a tail: outside a fence. -/
theorem wp_region_tail {id : Nat} {Q : Exit → Act → World → Prop} {a : Act} {w : World} {l : List Oper} (n : Nat) (hm : P.follows .mixedOrders = true) (hB : Region.lexTailB .any l.toArray n = true)
    (h : wpQuiet P l.toArray (fun w' => ∃ x : Later w, w' = x.val) (fun a' => ∀ w', (∃ x : Later w, w' = x.val) → wpList P l.toArray Q (l.drop n) a' w') (l.take n) a) : (Code.region id l.toArray true).wp P Q a w :=
  wp_region_any hm (any_head_tail n hB ⟨⟨_, Below.drew (Below.refl _ _)⟩, rfl⟩ h)
/-- .. in the fence of everything. -/
theorem in_region_tail {id m : Nat} {r : Option Nat} {Q : Exit → Act → World → Prop} {a : Act} {w : World} {l : List Oper} (n : Nat) (hm : P.follows .mixedOrders = true) (hB : Region.lexTailB .any l.toArray n = true) (hd : noDefer l = true) (hout : ¬ LetsOut Q)
    (h : wpQuiet P l.toArray (fun w' => ∃ x : Later w, w' = x.val) (fun a' => ∀ w', (∃ x : Later w, w' = x.val) → wpList P l.toArray Q (l.drop n) a' w') (l.take n) a) : (Code.region id l.toArray true).wpIn (WF r) m P Q a w :=
  wpIn_region_any hm (inAny_of_any (noDefer_spec hd) hout _ _ _ _ (any_head_tail n hB ⟨⟨_, Below.drew (Below.refl _ _)⟩, rfl⟩ h))
/-- .. with a tail in whatever order: outside a fence, and in the fence of everything. -/
theorem wp_region_head {id : Nat} {Q : Exit → Act → World → Prop} {a : Act} {w : World} {l : List Oper} (n : Nat) (hm : P.follows .mixedOrders = true) (hB : headB .any l.toArray n = true)
    (h : wpQuiet P l.toArray (fun w' => ∃ x : Later w, w' = x.val) (fun a' => ∀ w', (∃ x : Later w, w' = x.val) → wpAny P .any l.toArray Q (l.length - n) (marked n 0 (Array.replicate l.toArray.size false)) a' w') (l.take n) a) : (Code.region id l.toArray true).wp P Q a w :=
  wp_region_any hm (any_head_any n hB ⟨⟨_, Below.drew (Below.refl _ _)⟩, rfl⟩ h)
theorem in_region_head {id m : Nat} {r : Option Nat} {Q : Exit → Act → World → Prop} {a : Act} {w : World} {l : List Oper} (n : Nat) (hm : P.follows .mixedOrders = true) (hB : headB .any l.toArray n = true) (hd : noDefer l = true) (hout : ¬ LetsOut Q)
    (h : wpQuiet P l.toArray (fun w' => ∃ x : Later w, w' = x.val) (fun a' => ∀ w', (∃ x : Later w, w' = x.val) → wpAny P .any l.toArray Q (l.length - n) (marked n 0 (Array.replicate l.toArray.size false)) a' w') (l.take n) a) : (Code.region id l.toArray true).wpIn (WF r) m P Q a w :=
  wpIn_region_any hm (inAny_of_any (noDefer_spec hd) hout _ _ _ _ (any_head_any n hB ⟨⟨_, Below.drew (Below.refl _ _)⟩, rfl⟩ h))
end
end Go.Proofs.YtpeminhnjdakiaaGreat
end

section
namespace Go.Proofs.YtpeminhnjdakiaaGreat
open Go.RowKit Go.Shelf

section
variable {P : Program} {ops : Array Oper} {md : Region.Mode} {S : World → Prop} {Q : Exit → Act → World → Prop}

def wpAnyU (P : Program) (md : Region.Mode) (ops : Array Oper) (Q : Exit → Act → World → Prop) (S : World → Prop) (need : Nat → Bool) : Nat → Array Bool → Act → World → Prop
  | 0, listed, a, w => Region.ready md ops listed = [] ∧ Q .normal a w
  | fuel + 1, listed, a, w =>
    (Region.ready md ops listed = [] → Q .normal a w) ∧
    ∀ i ∈ Region.ready md ops listed, wpOp P ops Q i (fun a' w' => (need i = true → S w') ∧ wpAnyU P md ops Q S need fuel (listed.setIfInBounds i true) a' w') a w
theorem wpAny_of_U {need : Nat → Bool} : ∀ (fuel : Nat) (listed : Array Bool) (a : Act) (w : World), wpAnyU P md ops Q S need fuel listed a w → wpAny P md ops Q fuel listed a w
  | 0, _, _, _, h => h
  | fuel + 1, _, _, _, h => ⟨h.1, fun i hi => wpOp_mono (fun a' w' h' => wpAny_of_U fuel _ a' w' h'.2) (h.2 i hi)⟩

def ClosedL (md : Region.Mode) (ops : Array Oper) (listed : Array Bool) : Prop :=
  ∀ j oj, ops[j]? = some oj → listed.getD j false = true → ∀ e ∈ oj.after, Region.binds md e = true → listed.getD e.on false = true
theorem ClosedL.set {i : Nat} {listed : Array Bool} (h : ClosedL md ops listed) (hi : i ∈ Region.ready md ops listed) : ClosedL md ops (listed.setIfInBounds i true) := by
  obtain ⟨_, oi, hoi, hall⟩ := mem_ready.1 hi
  intro j oj hj hl e he hb
  by_cases hij : i = j
  · subst hij
    obtain rfl : oj = oi := Option.some.inj (hj.symm.trans hoi)
    exact getD_set_true (hall e he hb)
  · rw [getD_set_ne false hij] at hl
    exact getD_set_true (h j oj hj hl e he hb)

theorem wpAnyU_first {need : Nat → Bool} {i : Nat} {oi : Oper} {v : Value} (hi : ops[i]? = some oi) (hsel : ∀ (j : Nat) (o : Oper) cs b, ops[j]? = some o → o.op ≠ .select cs b)
    (hQ : ∀ c a w, Q (.panic c) (a.put oi.dst v) w → Q (.panic c) a w)
    (hwait : ∀ listed, ClosedL md ops listed → listed.getD i true = false → ∀ j ∈ Region.ready md ops listed, j ≠ i → need j = true) :
    ∀ (fuel : Nat) (listed : Array Bool) (a : Act) (w : World), ClosedL md ops listed →
      (∀ j oj, ops[j]? = some oj → j ≠ i → listed.getD j true = false → (∀ e ∈ oj.after, Region.binds md e = true → e.on ≠ i) → oi.apart ops oj = true) →
      i ∈ Region.ready md ops listed → YieldsIf P ops S oi v a → S w →
      wpAnyU P md ops Q S need fuel (listed.setIfInBounds i true) (a.put oi.dst v) w → wpAnyU P md ops Q S need (fuel + 1) listed a w := by
  intro fuel
  induction fuel with
  | zero =>
    intro listed a w _ _ hr hy hS H
    refine ⟨fun h => (by rw [h] at hr; cases hr), fun j hj => ?_⟩
    by_cases hji : j = i
    · subst hji; exact hy.wpOp hi hS ⟨fun _ => hS, H⟩
    · have := ready_mono hj hji
      rw [H.1] at this
      cases this
  | succ fuel ih =>
    intro listed a w hcl hfree hr hy hS H
    refine ⟨fun h => (by rw [h] at hr; cases hr), fun j hj => ?_⟩
    by_cases hji : j = i
    · subst hji; exact hy.wpOp hi hS ⟨fun _ => hS, H⟩
    · have h1 := H.2 j (ready_mono hj hji)
      have hneed := hwait listed hcl (mem_ready.1 hr).1 j hj hji
      obtain ⟨hjun, oj, hoj, hall⟩ := mem_ready.1 hj
      have hnot : ∀ e ∈ oj.after, Region.binds md e = true → e.on ≠ i := fun e he hb heq => by
        have h1 := hall e he hb
        rw [heq, getD_both (mem_ready.1 hr).1] at h1
        cases h1
      have h2 := wpOp_putIf hoj (hfree j oj hoj hji hjun hnot) (fun cs b => hsel i oi cs b hi) (fun cs b => hsel j oj cs b hoj) hQ hy h1
      refine wpOp_mono (fun a' w' h3 => ⟨h3.2.1, ih (listed.setIfInBounds j true) a' w' (hcl.set hj) ?_ (ready_mono hr (Ne.symm hji)) h3.1 (h3.2.1 hneed) ?_⟩) h2
      · intro k ok hk hki hun hno
        refine hfree k ok hk hki ?_ hno
        by_cases hjk : j = k
        · subst hjk; exact hjun
        · rw [getD_set_ne true hjk] at hun; exact hun
      · rw [Array.setIfInBounds_comm _ _ hji]
        exact h3.2.2

/-! Who waits for whom. -/
inductive Anc (md : Region.Mode) (ops : Array Oper) : Nat → Nat → Prop
  | one {t : Nat} {o : Oper} {e : _} : ops[t]? = some o → e ∈ o.after → Region.binds md e = true → Anc md ops e.on t
  | more {h t : Nat} {o : Oper} {e : _} : Anc md ops h e.on → ops[t]? = some o → e ∈ o.after → Region.binds md e = true → Anc md ops h t
theorem Anc.closed {h t : Nat} {listed : Array Bool} (hc : ClosedL md ops listed) (H : Anc md ops h t) : listed.getD t false = true → listed.getD h false = true := by
  induction H with
  | one ht he hb => exact fun hl => hc _ _ ht hl _ he hb
  | more _ ht he hb ih => exact fun hl => ih (hc _ _ ht hl _ he hb)
theorem Anc.listed {h t : Nat} {listed : Array Bool} (hc : ClosedL md ops listed) (H : Anc md ops h t) (hr : t ∈ Region.ready md ops listed) : listed.getD h false = true := by
  obtain ⟨_, o', ho', hall⟩ := mem_ready.1 hr
  cases H with
  | one ht he hb =>
    obtain rfl := Option.some.inj (ho'.symm.trans ht)
    exact hall _ he hb
  | more H ht he hb =>
    obtain rfl := Option.some.inj (ho'.symm.trans ht)
    exact H.closed hc (hall _ he hb)
def depsL (md : Region.Mode) (ops : Array Oper) (t : Nat) : List Nat :=
  match ops[t]? with
  | none => []
  | some o => (o.after.toList.filter fun e => Region.binds md e).map fun e => e.on
def growL (md : Region.Mode) (ops : Array Oper) : Nat → List Nat → List Nat → List Nat
  | 0, seen, _ => seen
  | f + 1, seen, front => growL md ops f (seen ++ ((front.flatMap (depsL md ops)).filter fun x => !seen.contains x).eraseDups) ((front.flatMap (depsL md ops)).filter fun x => !seen.contains x).eraseDups
theorem deps_anc {t x : Nat} (h : x ∈ depsL md ops t) : Anc md ops x t := by
  unfold depsL at h
  split at h
  · cases h
  · rename_i o ho
    obtain ⟨e, he, rfl⟩ := List.mem_map.1 h
    obtain ⟨he, hb⟩ := List.mem_filter.1 he
    exact .one ho (by simpa using he) hb
theorem anc_trans {a b t : Nat} (h1 : Anc md ops a b) (h2 : Anc md ops b t) : Anc md ops a t := by
  revert h1
  induction h2 with
  | one ht he hb => exact fun h1 => .more h1 ht he hb
  | more _ ht he hb ih => exact fun h1 => .more (ih h1) ht he hb
theorem grow_anc {t : Nat} : ∀ (f : Nat) (seen front : List Nat), (∀ x ∈ seen, Anc md ops x t) → (∀ x ∈ front, Anc md ops x t) → ∀ x ∈ growL md ops f seen front, Anc md ops x t
  | 0, _, _, h1, _, x, hx => h1 x hx
  | f + 1, seen, front, h1, h2, x, hx => by
    have hn : ∀ y ∈ ((front.flatMap (depsL md ops)).filter fun x => !seen.contains x).eraseDups, Anc md ops y t := by
      intro y hy
      have hy := List.mem_eraseDups.1 hy
      obtain ⟨hy, _⟩ := List.mem_filter.1 hy
      obtain ⟨z, hz, hyz⟩ := List.mem_flatMap.1 hy
      exact anc_trans (deps_anc hyz) (h2 z hz)
    exact grow_anc f _ _ (fun y hy => (List.mem_append.1 hy).elim (h1 y) (hn y)) hn x hx
def ancsL (md : Region.Mode) (ops : Array Oper) (t : Nat) : List Nat := growL md ops ops.size (depsL md ops t) (depsL md ops t)
theorem ancs_anc {t x : Nat} (h : x ∈ ancsL md ops t) : Anc md ops x t := grow_anc _ _ _ (fun _ => deps_anc) (fun _ => deps_anc) x h

/-! Operations that yield a value and do nothing else, if they come through. -/
def valOp : Op → Bool
  | .move _ | .assign _ | .pick .. | .build .. | .load .. | .fieldAddr .. | .field .. | .indexAddr .. | .index .. | .binOp .. | .unOp .. | .convert .. | .slice .. | .extract .. | .nilCheck _ => true
  | .call c => match c.callee with | .builtin .len | .builtin .min | .builtin .max => true | _ => false
  | _ => false
theorem vrun (s : Sem Value) (w : World) : ((do pure (Next.value (← s))) : Sem Next).run P w = (s.run P w).andThen fun v w' => .ok (.value v) w' := by
  rw [Sem.run_bind]; rfl
theorem val_run {o : Oper} {ρ : Operand → Value} (h : valOp o.op = true) (w : World) : (∃ v w', (execOp ρ o).run P w = .ok (.value v) w') ∨ ∃ x w', (execOp ρ o).run P w = .halt x w' := by
  have key : ∀ s : Sem Value, (∃ v w', ((do pure (Next.value (← s))) : Sem Next).run P w = .ok (.value v) w') ∨ ∃ x w', ((do pure (Next.value (← s))) : Sem Next).run P w = .halt x w' := by
    intro s
    rw [vrun]
    cases s.run P w with
    | ok v w' => exact .inl ⟨v, w', rfl⟩
    | halt x w' => exact .inr ⟨x, w', rfl⟩
  unfold execOp
  cases ho : o.op <;> simp only [ho, valOp] at h ⊢ <;> first | exact key _ | exact Bool.noConfusion h | skip
  case move x => exact .inl ⟨_, _, rfl⟩
  case assign x => exact .inl ⟨_, _, rfl⟩
  case pick c x y =>
    rw [Sem.run_bind]
    cases (asBool (ρ c)).run P w with
    | ok v w' => exact .inl ⟨_, w', rfl⟩
    | halt x w' => exact .inr ⟨x, w', rfl⟩
  case nilCheck x =>
    have rp : ∀ w, ∃ x w', ((runtimePanic .nilDeref : Sem Next).run P w) = .halt x w' := fun w => by simp [runtimePanic, goPanic]
    split
    · exact .inr (rp _)
    · exact .inr (rp _)
    · exact .inr (rp _)
    · split
      · exact .inr (rp _)
      · rw [Sem.run_bind]
        cases (program).run P w with
        | halt x w' => exact .inr ⟨x, w', rfl⟩
        | ok p w1 =>
          simp only [Result.andThen_ok, Sem.run_bind]
          generalize (nilAhead _ _ _ _).run P w1 = r
          cases r with
          | halt x w' => exact .inr ⟨x, w', rfl⟩
          | ok b w2 =>
            simp only [Result.andThen_ok]
            split
            · exact .inr (by simp [Result.andThen])
            · exact .inl ⟨_, _, rfl⟩
      · exact .inl ⟨_, _, rfl⟩
    · exact .inl ⟨_, _, rfl⟩
  case call c =>
    obtain ⟨cal, args, tys⟩ := c
    cases cal with
    | value f => simp at h
    | invoke r m => simp at h
    | builtin b =>
      cases b <;> simp at h
      · simp only [resolve, Sem.run_bind, Sem.run_pure, Result.andThen_ok, invoke, builtin]
        cases (Builtin.len_ tys o.type (Array.map ρ args)).run P w with
        | ok v w' => exact .inl ⟨v, w', rfl⟩
        | halt x w' => exact .inr ⟨x, w', rfl⟩
      · simp only [resolve, Sem.run_bind, Sem.run_pure, Result.andThen_ok, invoke, builtin]
        cases (Builtin.max_ tys o.type (Array.map ρ args)).run P w with
        | ok v w' => exact .inl ⟨v, w', rfl⟩
        | halt x w' => exact .inr ⟨x, w', rfl⟩
      · simp only [resolve, Sem.run_bind, Sem.run_pure, Result.andThen_ok, invoke, builtin]
        cases (Builtin.min_ tys o.type (Array.map ρ args)).run P w with
        | ok v w' => exact .inl ⟨v, w', rfl⟩
        | halt x w' => exact .inr ⟨x, w', rfl⟩
theorem yieldsIf_of_quiet {o : Oper} {rest : List Oper} {Lq : Act → Prop} {a : Act} (hv : valOp o.op = true) (h : wpQuiet P ops S Lq (o :: rest) a) :
    ∃ v, YieldsIf P ops S o v a ∧ wpQuiet P ops S Lq rest (a.put o.dst v) := by
  unfold wpQuiet at h
  by_cases hw : Region.wanted o (yielded ops a.tmps) = true
  · rw [if_pos hw] at h
    obtain ⟨v, h1, h2⟩ := h
    refine ⟨v, .inl ⟨hw, fun w' hw' => ?_⟩, h2⟩
    have h3 := h1 w' hw'
    unfold Oper.quietAt at h3
    rcases val_run (P := P) (ρ := a.eval) hv w' with ⟨u, w2, e⟩ | ⟨x, w2, e⟩
    · rw [e] at h3 ⊢
      obtain ⟨rfl, rfl⟩ := h3
      rfl
    · rw [e] at h3; exact h3.elim
  · rw [if_neg hw] at h
    exact ⟨undef, .inr ⟨by simpa using hw, rfl⟩, h⟩

/-! The walk. -/
def pickL (l : List Oper) : List Nat → List Oper
  | [] => []
  | k :: ks => match l[k]? with | some o => o :: pickL l ks | none => []
def segQ (Q : Exit → Act → World → Prop) (K : Act → World → Prop) : Exit → Act → World → Prop
  | .normal, a, w => K a w
  | e, a, w => Q e a w
def segK (nd : Bool) (S : World → Prop) (_ : Act) (w : World) (p : Prop) : Prop := (nd = true → S w) ∧ p
def flow (P : Program) (l : List Oper) (Q : Exit → Act → World → Prop) (S : World → Prop) : List (List Nat × Nat × Bool) → List Nat → Act → World → Prop
  | [], last, a, w => wpQuiet P l.toArray S (fun a' => Q .normal a' w) (pickL l last) a
  | (hs, c, nd) :: r, last, a, w => wpQuiet P l.toArray S (fun a' => wpList P l.toArray (segQ Q (fun a'' w'' => segK nd S a'' w'' (flow P l Q S r last a'' w''))) (pickL l [c]) a' w) (pickL l hs) a

def headsB (md : Region.Mode) (ops : Array Oper) : List Nat → Array Bool → Bool
  | [], _ => true
  | k :: ks, listed => (Region.ready md ops listed).contains k && Region.free md ops listed k && ((ops[k]?).map fun o => valOp o.op).getD false && headsB md ops ks (listed.setIfInBounds k true)
def markL : List Nat → Array Bool → Array Bool
  | [], listed => listed
  | k :: ks, listed => markL ks (listed.setIfInBounds k true)
def segsB (md : Region.Mode) (ops : Array Oper) (H : List Nat) : List (List Nat × Nat × Bool) → List Nat → Array Bool → Bool
  | [], last, listed => headsB md ops last listed && (Region.ready md ops (markL last listed)).isEmpty && last.all (fun k => H.contains k)
  | (hs, c, nd) :: r, last, listed => headsB md ops hs listed && decide (Region.ready md ops (markL hs listed) = [c]) && hs.all (fun k => H.contains k) &&
      (nd || (H.all (fun h => (ancsL md ops c).contains h) && r.all (fun s => s.1.isEmpty) && last.isEmpty)) && segsB md ops H r last ((markL hs listed).setIfInBounds c true)
def needB (segs : List (List Nat × Nat × Bool)) (j : Nat) : Bool := segs.all fun s => !(s.2.1 == j) || s.2.2
def fuelS (last : List Nat) : List (List Nat × Nat × Bool) → Nat
  | [] => last.length
  | (hs, _, _) :: r => hs.length + (fuelS last r + 1)
def flowB (md : Region.Mode) (ops : Array Oper) (pre : List Nat) (segs : List (List Nat × Nat × Bool)) (last : List Nat) : Bool :=
  Region.noSelect ops && segs.all (fun s => s.2.2 || (segs.flatMap (·.1) ++ last).all (fun h => (ancsL md ops s.2.1).contains h)) && decide (pre.length + fuelS last segs = ops.size) && headsB md ops pre (Array.replicate ops.size false) && segsB md ops (segs.flatMap (·.1) ++ last) segs last (markL pre (Array.replicate ops.size false))

theorem heads_U {need : Nat → Bool} (l : List Oper) (hsel : Region.noSelect l.toArray = true) (hQ : ∀ c a d v w, Q (.panic c) (Act.put a d v) w → Q (.panic c) a w) (H : List Nat)
    (hwait : ∀ i ∈ H, ∀ listed, ClosedL md l.toArray listed → listed.getD i true = false → ∀ j ∈ Region.ready md l.toArray listed, j ≠ i → need j = true) {w : World} {Lq : Act → Prop} (fuel : Nat) :
    ∀ (hs : List Nat) (listed : Array Bool) (a : Act), hs.all (fun k => H.contains k) = true → headsB md l.toArray hs listed = true → ClosedL md l.toArray listed → (hs ≠ [] → S w) →
      (∀ a', ClosedL md l.toArray (markL hs listed) → Lq a' → wpAnyU P md l.toArray Q S need fuel (markL hs listed) a' w) →
      wpQuiet P l.toArray S Lq (pickL l hs) a → wpAnyU P md l.toArray Q S need (hs.length + fuel) listed a w
  | [], listed, a, _, _, hc, _, hk, h => by rw [show ([] : List Nat).length + fuel = fuel by simp]; exact hk a hc h
  | k :: ks, listed, a, hH, hB, hc, hS, hk, h => by
    simp only [headsB, Bool.and_eq_true] at hB
    obtain ⟨⟨⟨hr, hf⟩, hv⟩, hB⟩ := hB
    simp only [List.all_cons, Bool.and_eq_true] at hH
    have hr' : k ∈ Region.ready md l.toArray listed := by simpa using hr
    obtain ⟨_, o, ho, _⟩ := mem_ready.1 hr'
    have hol : l[k]? = some o := by simpa using ho
    have hv' : valOp o.op = true := by rw [ho] at hv; exact hv
    simp only [pickL, hol] at h
    obtain ⟨v, hy, h2⟩ := yieldsIf_of_quiet hv' h
    rw [show (k :: ks).length + fuel = (ks.length + fuel) + 1 by simp; omega]
    refine wpAnyU_first ho (Region.noSelect_spec hsel) (fun c a w => hQ c a _ _ w) (hwait k (by simpa using hH.1)) _ _ _ _ hc (Region.free_spec ho hf) hr' hy (hS (by simp)) ?_
    exact heads_U l hsel hQ H hwait fuel ks _ _ hH.2 hB (hc.set hr') (fun _ => hS (by simp)) hk h2

theorem letsOut_seg {K : Act → World → Prop} : LetsOut (segQ Q K) = LetsOut Q := rfl
theorem wp_seg {o : Oper} {K : Act → World → Prop} {a : Act} {w : World} {K' : Act → World → Prop} (h : o.wp P a w K' (segQ Q K)) : o.wp P a w K' Q := by
  unfold Oper.wp at *
  generalize (execOp a.eval o).run P w = r at *
  cases r with
  | ok n w' =>
    cases n <;> simp only [Oper.upon] at h ⊢ <;> first
      | exact h
      | exact h.mono fun e w'' he => by cases e <;> exact he
  | halt x w' => cases x <;> simp only [Oper.upon] at h ⊢ <;> exact h

theorem segs_U {need : Nat → Bool} (l : List Oper) (hsel : Region.noSelect l.toArray = true) (hQ : ∀ c a d v w, Q (.panic c) (Act.put a d v) w → Q (.panic c) a w) (H : List Nat)
    (hwait : ∀ i ∈ H, ∀ listed, ClosedL md l.toArray listed → listed.getD i true = false → ∀ j ∈ Region.ready md l.toArray listed, j ≠ i → need j = true) (last : List Nat) :
    ∀ (segs : List (List Nat × Nat × Bool)) (listed : Array Bool) (a : Act) (w : World), (∀ s ∈ segs, need s.2.1 = true → s.2.2 = true) → segsB md l.toArray H segs last listed = true → ClosedL md l.toArray listed →
      (S w ∨ (segs.all (fun s => s.1.isEmpty) = true ∧ last = [])) → flow P l Q S segs last a w → wpAnyU P md l.toArray Q S need (fuelS last segs) listed a w
  | [], listed, a, w, _, hB, hc, hS, h => by
    simp only [segsB, Bool.and_eq_true] at hB
    obtain ⟨⟨hB, he⟩, hH⟩ := hB
    exact heads_U (need := need) l hsel hQ H hwait 0 last listed a hH hB hc (fun hne => hS.elim id fun h => absurd h.2 hne) (fun a' _ h' => ⟨by simpa using he, h'⟩) h
  | (hs, c, nd) :: r, listed, a, w, hnd, hB, hc, hS, h => by
    simp only [segsB, Bool.and_eq_true, decide_eq_true_eq] at hB
    obtain ⟨⟨⟨⟨hB, hone⟩, hH⟩, hnn⟩, hB'⟩ := hB
    have hr' : ∀ L, Region.ready md l.toArray L = [c] → c ∈ Region.ready md l.toArray L := fun L e => by rw [e]; simp
    refine heads_U (need := need) l hsel hQ H hwait (fuelS last r + 1) hs listed a hH hB hc (fun hne => hS.elim id fun h => absurd h.1 (by simp [hne])) (fun a' hc' h' => ?_) h
    refine ⟨fun h0 => (by rw [hone] at h0; cases h0), fun i hi => ?_⟩
    rw [hone] at hi
    obtain rfl : i = c := by simpa using hi
    have hrd := hr' _ hone
    obtain ⟨_, o, ho, _⟩ := mem_ready.1 hrd
    have hol : l[i]? = some o := by simpa using ho
    simp only [pickL, hol] at h'
    have hgo : ∀ a'' w'', (nd = true → S w'') ∧ flow P l Q S r last a'' w'' → (need i = true → S w'') ∧ wpAnyU P md l.toArray Q S need (fuelS last r) ((markL hs listed).setIfInBounds i true) a'' w'' := by
      intro a'' w'' ⟨h1, h2⟩
      refine ⟨fun hn => h1 (hnd (hs, i, nd) (by simp) hn), segs_U l hsel hQ H hwait last r _ _ _ (fun s hs => hnd s (by simp [hs])) hB' (hc'.set hrd) ?_ h2⟩
      simp only [Bool.or_eq_true, Bool.and_eq_true] at hnn
      rcases hnn with hnn | ⟨⟨_, hnn⟩, hl⟩
      · exact .inl (h1 hnn)
      · exact .inr ⟨hnn, by simpa using hl⟩
    unfold wpList at h'
    unfold wpOp
    simp only [ho]
    split
    · rename_i hw
      rw [if_pos hw] at h'
      rcases h' with h' | ⟨h1, h2⟩
      · exact .inl (Oper.wp_mono (fun a'' w'' h3 => hgo _ _ h3) (wp_seg h'))
      · exact .inr ⟨h1, h2⟩
    · rename_i hw
      rw [if_neg hw] at h'
      exact hgo _ _ h'

theorem pre_any (l : List Oper) (hsel : Region.noSelect l.toArray = true) (hQ : ∀ c a d v w, Q (.panic c) (Act.put a d v) w → Q (.panic c) a w) {w : World} {Lq : Act → Prop} (fuel : Nat) :
    ∀ (hs : List Nat) (listed : Array Bool) (a : Act), headsB md l.toArray hs listed = true → ClosedL md l.toArray listed →
      (∀ a', ClosedL md l.toArray (markL hs listed) → Lq a' → wpAny P md l.toArray Q fuel (markL hs listed) a' w) →
      wpQuiet P l.toArray (fun _ => True) Lq (pickL l hs) a → wpAny P md l.toArray Q (hs.length + fuel) listed a w
  | [], listed, a, _, hc, hk, h => by rw [show ([] : List Nat).length + fuel = fuel by simp]; exact hk a hc h
  | k :: ks, listed, a, hB, hc, hk, h => by
    simp only [headsB, Bool.and_eq_true] at hB
    obtain ⟨⟨⟨hr, hf⟩, hv⟩, hB⟩ := hB
    have hr' : k ∈ Region.ready md l.toArray listed := by simpa using hr
    obtain ⟨_, o, ho, _⟩ := mem_ready.1 hr'
    have hol : l[k]? = some o := by simpa using ho
    have hv' : valOp o.op = true := by rw [ho] at hv; exact hv
    simp only [pickL, hol] at h
    obtain ⟨v, hy, h2⟩ := yieldsIf_of_quiet hv' h
    rw [show (k :: ks).length + fuel = (ks.length + fuel) + 1 by simp; omega]
    refine wpAny_first ho (Region.noSelect_spec hsel) (fun c a w => hQ c a _ _ w) _ _ _ _ (Region.free_spec ho hf) hr' (hy.imp (fun ⟨hw, hv⟩ => ⟨hw, fun w => hv w trivial⟩) id) ?_
    exact pre_any l hsel hQ fuel ks _ _ hB (hc.set hr') hk h2

def flowP (P : Program) (l : List Oper) (Q : Exit → Act → World → Prop) (S : World → Prop) (pre : List Nat) (segs : List (List Nat × Nat × Bool)) (last : List Nat) (a : Act) (w : World) : Prop :=
  wpQuiet P l.toArray (fun _ => True) (fun a' => flow P l Q S segs last a' w) (pickL l pre) a
theorem any_flow {a : Act} {w : World} {l : List Oper} (pre : List Nat) (segs : List (List Nat × Nat × Bool)) (last : List Nat) (hB : flowB .any l.toArray pre segs last = true)
    (hQ : ∀ c a d v w, Q (.panic c) (Act.put a d v) w → Q (.panic c) a w) (hS : S w) (h : flowP P l Q S pre segs last a w) : wpAny P .any l.toArray Q l.toArray.size (Array.replicate l.toArray.size false) a w := by
  simp only [flowB, Bool.and_eq_true, decide_eq_true_eq] at hB
  obtain ⟨⟨⟨⟨hsel, hnd⟩, hfu⟩, hpre⟩, hB⟩ := hB
  refine (show wpAny P .any l.toArray Q (pre.length + fuelS last segs) (Array.replicate l.toArray.size false) a w → _ from fun H => by rwa [hfu] at H) ?_
  refine pre_any l hsel hQ (fuelS last segs) pre _ a hpre ?_ ?_ h
  · intro j oj _ hl
    rw [getD_replicate_false] at hl
    cases hl
  intro a' hc0 h
  have H := segs_U (S := S) (need := needB segs) l hsel hQ (segs.flatMap (·.1) ++ last) ?_ last segs _ a' w ?_ hB hc0 (.inl hS) h
  · exact wpAny_of_U _ _ _ _ H
  · intro i hi listed hc hu j hj hji
    unfold needB
    rw [List.all_eq_true]
    intro s hs
    have h1 := List.all_eq_true.1 hnd s hs
    simp only [Bool.or_eq_true] at h1 ⊢
    rcases h1 with h1 | h1
    · exact .inr h1
    · refine .inl ?_
      rw [Bool.not_eq_true', beq_eq_false_iff_ne]
      rintro rfl
      have h2 := List.all_eq_true.1 h1 i hi
      have := (ancs_anc (by simpa using h2)).listed hc hj
      rw [getD_both hu] at this
      cases this
  · intro s hs hn
    have := List.all_eq_true.1 hn s hs
    simpa using this

def onlyN (K : Act → World → Prop) : Exit → Act → World → Prop
  | .normal, a, w => K a w
  | _, _, _ => False
theorem onlyN_imp {Q : Exit → Act → World → Prop} : ∀ (e : Exit) (a : Act) (w : World), onlyN (Q .normal) e a w → Q e a w := fun e a w h => by
  cases e <;> first | exact h | exact (h : False).elim
theorem seg_grow {F : Act → World → Prop} {a : Act} {w : World} (hS : S w) (h : F a w) : segQ Q (fun a'' w'' => segK true S a'' w'' (F a'' w'')) .normal a w := ⟨fun _ => hS, h⟩
theorem seg_write {F : Act → World → Prop} {a : Act} {w : World} (h : F a w) : segQ Q (fun a'' w'' => segK false S a'' w'' (F a'' w'')) .normal a w := ⟨fun h => Bool.noConfusion h, h⟩
theorem only_done {K : Act → World → Prop} {a : Act} {w : World} (h : K a w) : onlyN K .normal a w := h
/-- One walk serves every order: outside a fence, and in the fence of everything. -/
theorem wp_region_flow {id : Nat} {a : Act} {w : World} {l : List Oper} (pre : List Nat) (segs : List (List Nat × Nat × Bool)) (last : List Nat) (hm : P.follows .mixedOrders = true) (hB : flowB .any l.toArray pre segs last = true)
    (h : ∀ w', Below w.heap.size w w' → w'.heap = w.heap → flowP P l (onlyN (Q .normal)) (fun w2 => ∃ x : Later w', w2 = x.val) pre segs last a w') : (Code.region id l.toArray true).wp P Q a w :=
  Code.wp_mono onlyN_imp (wp_region_any hm (any_flow pre segs last hB (fun _ _ _ _ _ h => h) (S := fun w2 => ∃ x : Later (w.drewN 1), w2 = x.val) ⟨⟨_, Below.refl _ _⟩, rfl⟩ (h _ (Below.drewN' 1 (Below.refl _ _)) rfl)))
theorem in_region_flow {id m : Nat} {r : Option Nat} {a : Act} {w : World} {l : List Oper} (pre : List Nat) (segs : List (List Nat × Nat × Bool)) (last : List Nat) (hm : P.follows .mixedOrders = true) (hB : flowB .any l.toArray pre segs last = true) (hd : noDefer l = true)
    (h : ∀ w', Below w.heap.size w w' → w'.heap = w.heap → flowP P l (onlyN (Q .normal)) (fun w2 => ∃ x : Later w', w2 = x.val) pre segs last a w') : (Code.region id l.toArray true).wpIn (WF r) m P Q a w :=
  Code.wpIn_mono onlyN_imp (wpIn_region_any hm (inAny_of_any (noDefer_spec hd) (by rintro ⟨_, _, h⟩; exact h) _ _ _ _ (any_flow pre segs last hB (fun _ _ _ _ _ h => h) (S := fun w2 => ∃ x : Later (w.drewN 1), w2 = x.val) ⟨⟨_, Below.refl _ _⟩, rfl⟩ (h _ (Below.drewN' 1 (Below.refl _ _)) rfl))))

/-! The same, step by step: where several operations may come next. -/
def closedB (md : Region.Mode) (ops : Array Oper) (listed : Array Bool) : Bool :=
  (List.range ops.size).all fun j => !listed.getD j false || (depsL md ops j).all fun i => listed.getD i false
theorem closedB_spec {listed : Array Bool} (h : closedB md ops listed = true) : ClosedL md ops listed := by
  intro j oj hj hl e he hb
  have h1 := List.all_eq_true.1 h j (List.mem_range.2 (Array.getElem?_eq_some_iff.1 hj).1)
  rw [hl] at h1
  simp only [Bool.not_true, Bool.false_or] at h1
  refine List.all_eq_true.1 h1 e.on ?_
  unfold depsL
  rw [hj]
  exact List.mem_map.2 ⟨e, List.mem_filter.2 ⟨by simpa using he, hb⟩, rfl⟩
def UB (md : Region.Mode) (ops : Array Oper) (H W : List Nat) : Bool := Region.noSelect ops && W.all fun c => H.all fun h => (ancsL md ops c).contains h
/-- What may come from here on, in a region whose operations are l. -/
def wpU (P : Program) (l : List Oper) (Q : Exit → Act → World → Prop) (S : World → Prop) (H W : List Nat) (fuel : Nat) (listed : Array Bool) (a : Act) (w : World) : Prop :=
  UB .any l.toArray H W = true → wpAnyU P .any l.toArray Q S (fun j => !W.contains j) fuel listed a w
theorem wp_region_U {id : Nat} {a : Act} {w : World} {l : List Oper} (H W : List Nat) (hm : P.follows .mixedOrders = true) (hB : UB .any l.toArray H W = true)
    (h : ∀ w', Below w.heap.size w w' → w'.heap = w.heap → wpU P l (onlyN (Q .normal)) (fun w2 => ∃ x : Later w', w2 = x.val) H W l.length (Array.replicate l.length false) a w') : (Code.region id l.toArray true).wp P Q a w := by
  refine Code.wp_mono onlyN_imp (wp_region_any hm ?_)
  have := h (w.drewN 1) (Below.drewN' 1 (Below.refl _ _)) rfl hB
  have := wpAny_of_U _ _ _ _ this
  rw [show l.toArray.size = l.length from rfl]
  exact this
theorem U_heads {K : Act → World → Prop} {a : Act} {w : World} {l : List Oper} {H W : List Nat} {fuel : Nat} {listed : Array Bool} (hs : List Nat)
    (hB : (hs.all (fun k => H.contains k) && headsB .any l.toArray hs listed && closedB .any l.toArray listed && decide (hs.length ≤ fuel)) = true) (hS : S w)
    (h : wpQuiet P l.toArray S (fun a' => wpU P l (onlyN K) S H W (fuel - hs.length) (markL hs listed) a' w) (pickL l hs) a) : wpU P l (onlyN K) S H W fuel listed a w := by
  intro hU
  simp only [Bool.and_eq_true, decide_eq_true_eq] at hB
  obtain ⟨⟨⟨h1, h2⟩, h3⟩, h4⟩ := hB
  have hU' := hU
  simp only [UB, Bool.and_eq_true] at hU'
  have := heads_U (need := fun j => !W.contains j) (Q := onlyN K) l hU'.1 (fun _ _ _ _ _ h => h) H ?_ (fuel - hs.length) hs listed a h1 h2 (closedB_spec h3) (fun _ => hS) (fun a' _ h' => h' hU) h
  · rwa [show hs.length + (fuel - hs.length) = fuel by omega] at this
  · intro i hi listed hc hu j hj hji
    cases hw : W.contains j with
    | false => rfl
    | true =>
      have h5 := List.all_eq_true.1 (List.all_eq_true.1 hU'.2 j (by simpa using hw)) i hi
      have := (ancs_anc (by simpa using h5)).listed hc hj
      rw [getD_both hu] at this
      cases this
theorem U_all {K : Act → World → Prop} {a : Act} {w : World} {l : List Oper} {H W : List Nat} {fuel : Nat} {listed : Array Bool} (cs : List Nat)
    (hB : (decide (Region.ready .any l.toArray listed = cs) && decide (0 < fuel) && !cs.isEmpty) = true)
    (h : ∀ c ∈ cs, wpList P l.toArray (segQ (onlyN K) (fun a'' w'' => segK (!W.contains c) S a'' w'' (wpU P l (onlyN K) S H W (fuel - 1) (listed.setIfInBounds c true) a'' w''))) (pickL l [c]) a w) : wpU P l (onlyN K) S H W fuel listed a w := by
  intro hU
  simp only [Bool.and_eq_true, decide_eq_true_eq] at hB
  obtain ⟨⟨h1, h2⟩, h3⟩ := hB
  obtain ⟨f, rfl⟩ : ∃ f, fuel = f + 1 := ⟨fuel - 1, by omega⟩
  refine ⟨fun h0 => (by rw [h1] at h0; subst h0; simp at h3), fun i hi => ?_⟩
  obtain ⟨_, o, ho, _⟩ := mem_ready.1 hi
  have hol : l[i]? = some o := by simpa using ho
  rw [h1] at hi
  have h' := h i hi
  simp only [pickL, hol] at h'
  unfold wpList at h'
  unfold wpOp
  simp only [ho]
  split
  · rename_i hw
    rw [if_pos hw] at h'
    rcases h' with h' | ⟨h1, h2⟩
    · exact .inl (Oper.wp_mono (fun a'' w'' h3 => ⟨h3.1, h3.2 hU⟩) (wp_seg h'))
    · exact .inr ⟨h1, h2⟩
  · rename_i hw
    rw [if_neg hw] at h'
    exact ⟨h'.1, h'.2 hU⟩
theorem U_one {K : Act → World → Prop} {a : Act} {w : World} {l : List Oper} {H W : List Nat} {fuel : Nat} {listed : Array Bool} (c : Nat)
    (hB : (decide (Region.ready .any l.toArray listed = [c]) && decide (0 < fuel)) = true)
    (h : wpList P l.toArray (segQ (onlyN K) (fun a'' w'' => segK (!W.contains c) S a'' w'' (wpU P l (onlyN K) S H W (fuel - 1) (listed.setIfInBounds c true) a'' w''))) (pickL l [c]) a w) : wpU P l (onlyN K) S H W fuel listed a w :=
  U_all [c] (by simpa using hB) (fun c' hc => by simp at hc; subst hc; exact h)
theorem U_two {K : Act → World → Prop} {a : Act} {w : World} {l : List Oper} {H W : List Nat} {fuel : Nat} {listed : Array Bool} (c d : Nat)
    (hB : (decide (Region.ready .any l.toArray listed = [c, d]) && decide (0 < fuel)) = true)
    (h1 : wpList P l.toArray (segQ (onlyN K) (fun a'' w'' => segK (!W.contains c) S a'' w'' (wpU P l (onlyN K) S H W (fuel - 1) (listed.setIfInBounds c true) a'' w''))) (pickL l [c]) a w)
    (h2 : wpList P l.toArray (segQ (onlyN K) (fun a'' w'' => segK (!W.contains d) S a'' w'' (wpU P l (onlyN K) S H W (fuel - 1) (listed.setIfInBounds d true) a'' w''))) (pickL l [d]) a w) : wpU P l (onlyN K) S H W fuel listed a w :=
  U_all [c, d] (by simpa using hB) (fun c' hc => by simp at hc; rcases hc with rfl | rfl <;> assumption)
theorem U_done {K : Act → World → Prop} {a : Act} {w : World} {l : List Oper} {H W : List Nat} {fuel : Nat} {listed : Array Bool} (hB : (Region.ready .any l.toArray listed).isEmpty = true) (h : K a w) : wpU P l (onlyN K) S H W fuel listed a w := by
  intro _
  have he : Region.ready .any l.toArray listed = [] := by simpa using hB
  cases fuel with
  | zero => exact ⟨he, h⟩
  | succ f => exact ⟨fun _ => h, fun i hi => by rw [he] at hi; cases hi⟩
/-- The same; what is read first holds in each world of S. -/
theorem wp_region_flowS (S : World → Prop) {id : Nat} {a : Act} {w : World} {l : List Oper} (pre : List Nat) (segs : List (List Nat × Nat × Bool)) (last : List Nat) (hm : P.follows .mixedOrders = true) (hB : flowB .any l.toArray pre segs last = true)
    (hS : ∀ w', Below w.heap.size w w' → w'.heap = w.heap → S w')
    (h : ∀ w', Below w.heap.size w w' → w'.heap = w.heap → flowP P l (onlyN (Q .normal)) S pre segs last a w') : (Code.region id l.toArray true).wp P Q a w := by
  refine Code.wp_mono onlyN_imp (wp_region_any hm ?_)
  exact any_flow pre segs last hB (fun _ _ _ _ _ h => h) (S := S) (hS _ (Below.drewN' 1 (Below.refl _ _)) rfl) (h _ (Below.drewN' 1 (Below.refl _ _)) rfl)
theorem in_region_flowS (S : World → Prop) {id m : Nat} {r : Option Nat} {a : Act} {w : World} {l : List Oper} (pre : List Nat) (segs : List (List Nat × Nat × Bool)) (last : List Nat) (hm : P.follows .mixedOrders = true) (hB : flowB .any l.toArray pre segs last = true) (hd : noDefer l = true)
    (hS : ∀ w', Below w.heap.size w w' → w'.heap = w.heap → S w')
    (h : ∀ w', Below w.heap.size w w' → w'.heap = w.heap → flowP P l (onlyN (Q .normal)) S pre segs last a w') : (Code.region id l.toArray true).wpIn (WF r) m P Q a w :=
  Code.wpIn_mono onlyN_imp (wpIn_region_any hm (inAny_of_any (noDefer_spec hd) (by rintro ⟨_, _, h⟩; exact h) _ _ _ _ (any_flow pre segs last hB (fun _ _ _ _ _ h => h) (S := S) (hS _ (Below.drewN' 1 (Below.refl _ _)) rfl) (h _ (Below.drewN' 1 (Below.refl _ _)) rfl))))
/-- One walk serves every order; what the region reads is older than a world before it, and stays. -/
theorem wp_region_flow_at {id : Nat} {a : Act} {w : World} {l : List Oper} (w0 : World) (hw : Below w0.heap.size w0 w) (pre : List Nat) (segs : List (List Nat × Nat × Bool)) (last : List Nat) (hm : P.follows .mixedOrders = true) (hB : flowB .any l.toArray pre segs last = true)
    (h : ∀ w', Below w.heap.size w w' → w'.heap = w.heap → flowP P l (onlyN (Q .normal)) (fun w2 => ∃ x : Later w0, w2 = x.val) pre segs last a w') : (Code.region id l.toArray true).wp P Q a w :=
  wp_region_flowS _ pre segs last hm hB (fun _ hb _ => ⟨⟨_, btr hw hb⟩, rfl⟩) h
/-- Operations that look at no memory are taken first, whatever the others write. -/
structure AnyW (w : World) where
  val : World
instance (w : World) : Nonempty (AnyW w) := ⟨⟨w⟩⟩
theorem anyW (w0 w : World) : ∃ x : AnyW w0, w = x.val := ⟨⟨w⟩, rfl⟩
/-- Step by step; what is read first holds in each world of S. -/
theorem wp_region_US (S : World → Prop) {id : Nat} {a : Act} {w : World} {l : List Oper} (H W : List Nat) (hm : P.follows .mixedOrders = true) (hB : UB .any l.toArray H W = true)
    (h : ∀ w', Below w.heap.size w w' → w'.heap = w.heap → wpU P l (onlyN (Q .normal)) S H W l.length (Array.replicate l.length false) a w') : (Code.region id l.toArray true).wp P Q a w := by
  refine Code.wp_mono onlyN_imp (wp_region_any hm ?_)
  have := h (w.drewN 1) (Below.drewN' 1 (Below.refl _ _)) rfl hB
  have := wpAny_of_U _ _ _ _ this
  rw [show l.toArray.size = l.length from rfl]
  exact this
end
end Go.Proofs.YtpeminhnjdakiaaGreat
end

section
namespace Go.Proofs.YtpeminhnjdakiaaGreat
open Go.RowKit Go.Shelf

/-- An assertion that abides new blocks, draws, and the turn of a block of R. -/
def AbR (R : Nat → Prop) (I : World → Prop) : Prop := ∀ W W' row, I W → W.grownBy W' row → (∀ r, row = some r → R r) → I W'
theorem AbR.and {R : Nat → Prop} {I J : World → Prop} (h : AbR R I) (k : AbR R J) : AbR R (fun W => I W ∧ J W) := fun W W' row ⟨h1, h2⟩ hg hr => ⟨h W W' row h1 hg hr, k W W' row h2 hg hr⟩
theorem abR_pure {R : Nat → Prop} {q : Prop} : AbR R (fun _ => q) := fun _ _ _ h _ _ => h
theorem abR_heap {R : Nat → Prop} {j : Nat} {o : Obj} (h1 : ¬ R j) : AbR R (fun W => W.heap[j]? = some o) :=
  fun _ _ _ h hg hr => (hg.block j (Array.getElem?_eq_some_iff.1 h).1 (fun e => h1 (hr _ e.symm))).trans h
theorem abR_below {R : Nat → Prop} {a : World} (h1 : ∀ r, R r → a.heap.size ≤ r) : AbR R (fun W => Below a.heap.size a W) :=
  fun _ _ _ h hg hr => bgr h hg (fun k e => h1 k (hr k e))

/-- The iterator's contract, for a loop that is left in its first round: it yields x, if o; then it is told to stop. -/
def YieldsO {α : Type} (n : Nat) (P : Program) (g : Nat) (lb : Array Value) (encs : α → Array Value) (R : Nat → Prop) (o : Bool) (x : α) (W : World) : Prop :=
  ∀ (l : Nat) (J Jx : World → Prop), AbR R J → AbR R Jx →
    (o = true → ∀ W1, J W1 → W.heap.size ≤ W1.heap.size → YieldAt Fence.wide (n - 1) P l (encs x) W1 fun e W' => e = .returned (.bool false) ∧ Jx W') → J W →
    CallsIn Fence.wide n P g (#[.func (.yield l) #[] #[]] ++ lb) W fun e W' => (∃ v, e = .returned v) ∧ ((o = false ∧ J W') ∨ (o = true ∧ Jx W'))

/-- How the round may end. -/
def roundEndO (lo : Nat) (Ix : Code → World → Prop) (W : World) : Exit → Act → World → Prop
  | .ret, _, W' => KF lo W W' ∧ Ix .ret W'
  | .exit id, _, W' => KF lo W W' ∧ Ix (.exit id) W'
  | .goto t, _, W' => KF lo W W' ∧ Ix (.goto t) W'
  | _, _, _ => False

/-- The statement 'for x := range g', left in its first round. -/
theorem range_once {P : Program} {n : Nat} {α : Type} {g : Operand} {ps : Array Tmp} {assign body : Code} {Q : Exit → Act → World → Prop} {a : Act} {w : World}
    {gf : Nat} {lb : Array Value} (hg : a.eval g = .func (.func gf) #[] lb) (eg : ∀ args w, (callFunc gf args).run P w = .ok (.enter gf args) w)
    {encs : α → Array Value} {R : Nat → Prop} {o : Bool} {x : α} (hR : ∀ r, R r → r < w.heap.size) (hseq : ∀ V, Below w.heap.size w V → YieldsO (n - 1) P gf lb encs R o x V) (hps : (encs x).size = ps.size)
    (I : World → Prop) (Ix : Code → World → Prop) (hI : AbR (fun r => R r ∨ (w.heap.size ≤ r ∧ r < w.heap.size + 2)) I) (hIx : ∀ c, AbR (fun r => R r ∨ (w.heap.size ≤ r ∧ r < w.heap.size + 2)) (Ix c)) (h0 : I w)
    (hround : o = true → ∀ (l : Nat) (W : World), I W → w.heap.size + 2 ≤ W.heap.size →
      assign.wpIn (Fence.wide.inRound l) (n - 1 - 1) P (Exit.then (fun a₁ W₁ => KF w.heap.size W W₁ ∧ ∀ W₂, W₁.grownBy W₂ (some (w.heap.size + 1)) → W₂.heap.size = W₁.heap.size →
          body.wpIn (Fence.wide.inRound l) (n - 1 - 1) P (roundEndO w.heap.size Ix W₂) a₁ W₂) (fun _ _ _ => False))
        { tmps := (ps.zip (encs x)).foldl (fun t (p, v) => t.setIfInBounds p v) a.tmps, defers := [] } W)
    (hdone : o = false → ∀ (W : World), I W → W.heap[w.heap.size]? = some (.deferred (some [])) → Q .normal { a with defers := { target := .collected w.heap.size, args := #[] } :: a.defers } W)
    (hstop : o = true → ∀ (c : Code) (W : World), Ix c W → W.heap[w.heap.size]? = some (.deferred (some [])) → c.wpIn Fence.wide n P Q { a with defers := { target := .collected w.heap.size, args := #[] } :: a.defers } W) :
    (Code.rangeFunc g ps assign body).wpIn Fence.wide n P Q a w := by
  refine wpIn_rangeFunc ?_
  intro fn hfn
  let rec0 : LoopState → Option Code → Loop := fun st pe => { state := st, pending := pe, fn, tmps := a.tmps, params := ps, assign, body, defers := w.heap.size }
  obtain ⟨V, hV⟩ : ∃ V, (w.alloc (.deferred (some []))).alloc (.loop (rec0 .ready none)) = V := ⟨_, rfl⟩
  have hVs : V.heap.size = w.heap.size + 2 := by rw [← hV]; simp
  have hVl : V.heap[w.heap.size + 1]? = some (.loop (rec0 .ready none)) := by rw [← hV]; exact heap_alloc2_new _ _ _
  have hVd : V.heap[w.heap.size]? = some (.deferred (some [])) := by rw [← hV]; exact heap_alloc2_old _ _ _
  have hVB : Below w.heap.size w V := by rw [← hV]; exact bal (bal (bz _) _) _
  have hVI : I V := by
    rw [← hV]
    exact hI _ _ none (hI _ _ none h0 (World.grownBy_alloc _ _ none) (fun r e => by cases e)) (World.grownBy_alloc _ _ none) (fun r e => by cases e)
  have keep : ∀ {X Y : World} {row : Option Nat} {j : Nat} {o : Obj}, X.heap[j]? = some o → w.heap.size ≤ j → X.grownBy Y row → (∀ r, row = some r → R r) → Y.heap[j]? = some o := by
    intro X Y row j o hx hj hgr hr
    rw [hgr.block j (Array.getElem?_eq_some_iff.1 hx).1 (fun e => by have := hR j (hr j e.symm); omega)]
    exact hx
  have turn : ∀ {X : World} {o : Obj} {J : World → Prop}, AbR (fun r => R r ∨ (w.heap.size ≤ r ∧ r < w.heap.size + 2)) J → J X → J (X.putObj (w.heap.size + 1) o) :=
    fun h hx => h _ _ (some (w.heap.size + 1)) hx (grownBy_putObj' _ _ _) (fun r e => by cases e; exact .inr ⟨by omega, by omega⟩)
  refine ⟨w.heap.size + 1, [{ target := .collected w.heap.size, args := #[] }], V, { target := .fn (.func gf) lb, args := #[.func (.yield (w.heap.size + 1)) #[] #[]] }, V, gf,
    #[.func (.yield (w.heap.size + 1)) #[] #[]] ++ lb, V, ?_, ?_, fun _ _ => trivial, ?_, fun h => by simp [Fence.wide] at h, ?_⟩
  · rw [← hV]; exact run_enterLoop_outer _ _ _ _ _
  · simp only [resolve, hg]
    simp [go_sem]
  · simp [invoke, go_sem, eg]
  refine (hseq V hVB (w.heap.size + 1)
    (fun X => I X ∧ X.heap[w.heap.size + 1]? = some (.loop (rec0 .ready none)) ∧ X.heap[w.heap.size]? = some (.deferred (some [])))
    (fun X => ∃ c, Ix c X ∧ X.heap[w.heap.size + 1]? = some (.loop (rec0 .done (some c))) ∧ X.heap[w.heap.size]? = some (.deferred (some [])))
    (fun X Y row h hgr hr => ⟨hI X Y row h.1 hgr (fun r e => .inl (hr r e)), keep h.2.1 (by omega) hgr hr, keep h.2.2 (by omega) hgr hr⟩)
    (fun X Y row h hgr hr => by
      obtain ⟨c, h1, h2, h3⟩ := h
      exact ⟨c, hIx c X Y row h1 hgr (fun r e => .inl (hr r e)), keep h2 (by omega) hgr hr, keep h3 (by omega) hgr hr⟩)
    ?_ ⟨hVI, hVl, hVd⟩).mono ?_
  · rintro ho X ⟨hi, hl, hd⟩ hsz
    have hlt : w.heap.size + 1 < X.heap.size := (Array.getElem?_eq_some_iff.1 hl).1
    refine ⟨fn, _, assign, body, run_yield (args := encs x) hl hps, roundIn_of_wpIn trivial (wpIn_mono (hround ho (w.heap.size + 1) X hi (by omega)) ?_)⟩
    rintro e a1 X1 hp
    cases e with
    | normal =>
      obtain ⟨hk1, hbody⟩ := hp
      have hl1 := (hk1.same _ (by omega) hlt).trans hl
      have hd1 := (hk1.same _ (by omega) (by omega)).trans hd
      refine ⟨_, run_beginRound hl1 rfl, wpIn_mono (hbody _ (grownBy_putObj' _ _ _) (by simp)) ?_⟩
      have hlt1 : w.heap.size + 1 < X1.heap.size := (Array.getElem?_eq_some_iff.1 hl1).1
      have fin : ∀ (jump : Code) (X3 : World), KF w.heap.size (X1.putObj (w.heap.size + 1) (.loop { rec0 .ready none with state := .busy })) X3 →
          (Instr.endRound (w.heap.size + 1) (some jump)).run P X3 = .ok (.bool false) (X3.putObj (w.heap.size + 1) (.loop (rec0 .done (some jump)))) ∧
          (X3.putObj (w.heap.size + 1) (.loop (rec0 .done (some jump)))).heap[w.heap.size + 1]? = some (.loop (rec0 .done (some jump))) ∧
          (X3.putObj (w.heap.size + 1) (.loop (rec0 .done (some jump)))).heap[w.heap.size]? = some (.deferred (some [])) := by
        intro jump X3 hk3
        have hl3 : X3.heap[w.heap.size + 1]? = some (.loop { rec0 .ready none with state := .busy }) := (hk3.same _ (by omega) (by simp; omega)).trans (World.putObj_heap_same hlt1)
        have hd3 : X3.heap[w.heap.size]? = some (.deferred (some [])) := (hk3.same _ (by omega) (by simp; omega)).trans ((World.putObj_heap_other (by omega)).trans hd1)
        exact ⟨run_endRound (some jump) hl3, World.putObj_heap_same (Array.getElem?_eq_some_iff.1 hl3).1, (World.putObj_heap_other (by omega)).trans hd3⟩
      rintro e2 a3 X3 hp2
      cases e2 with
      | normal => exact hp2.elim
      | ret =>
        obtain ⟨hk3, hi3⟩ := hp2
        obtain ⟨f1, f2, f3⟩ := fin .ret X3 hk3
        exact ⟨_, _, f1, rfl, _, turn (hIx _) hi3, f2, f3⟩
      | exit id =>
        obtain ⟨hk3, hi3⟩ := hp2
        obtain ⟨f1, f2, f3⟩ := fin (.exit id) X3 hk3
        exact ⟨_, _, f1, rfl, _, turn (hIx _) hi3, f2, f3⟩
      | goto t =>
        obtain ⟨hk3, hi3⟩ := hp2
        obtain ⟨f1, f2, f3⟩ := fin (.goto t) X3 hk3
        exact ⟨_, _, f1, rfl, _, turn (hIx _) hi3, f2, f3⟩
      | panic ch => exact hp2.elim
      | outgrown => exact hp2.elim
    | ret => exact hp.elim
    | exit id => exact hp.elim
    | goto t => exact hp.elim
    | panic ch => exact hp.elim
    | outgrown => exact hp.elim
  · rintro e X ⟨⟨v, rfl⟩, ⟨ho, hi, hl, hd⟩ | ⟨ho, c, hi, hl, hd⟩⟩
    · exact ⟨none, _, run_endLoop hl (by simp [rec0]), hdone ho _ (turn hI hi) ((World.putObj_heap_other (by omega)).trans hd)⟩
    · exact ⟨some c, _, run_endLoop hl (by simp [rec0]), hstop ho c _ (turn (hIx _) hi) ((World.putObj_heap_other (by omega)).trans hd)⟩
end Go.Proofs.YtpeminhnjdakiaaGreat
end

section
namespace Go.Proofs.YtpeminhnjdakiaaGreat
open Go.RowKit Go.Shelf

theorem num3 : (Tryz.prog.info? 3).map (fun i => (i.zero, i.size, i.bytes)) = some (some (.int .i64 0), 1, 8) := by kernel_rfl
theorem num2 : (Tryz.prog.info? 2).map (fun i => (i.zero, i.size, i.bytes)) = some (some (.int .i64 0), 1, 8) := by kernel_rfl
theorem infoE : (Tryz.prog.info? 73).map (fun i => (i.zero, i.size, i.bytes)) = some (some (.agg #[.int .i64 0, .int .i64 0]), 2, 16) := by kernel_rfl
theorem infoI : (Tryz.prog.info? 32).map (fun i => (i.zero, i.size, i.bytes)) = some (some (.slice none 0 0), 1, 24) := by kernel_rfl
theorem run_clip (a : Option Addr) (n cap : Nat) (h : n ≤ cap) (ha : ∀ ad, a = some ad → ad.off = 0 ∧ ad.spot = none) (w : World) :
    (Instr.slice 32 (.slice a n cap) none (some (.int .i64 (n : Int))) (some (.int .i64 (n : Int)))).run Tryz.prog w = .ok (.slice a n n) w := by
  have h1 : ¬ ((n : Int) < 0) := by omega
  have h2 : ¬ ((cap : Int) < (n : Int)) := by omega
  obtain ⟨i0, hi, hz0, hz1, hz2⟩ := info_parts num3
  cases a with
  | none => simp [Instr.slice, run_underlying Tryz.underlying32, Sem.run_bind, Instr.sliceBounds, Instr.sliceBound, asIntOf, h, sizeOf, typeInfo, hi, Addr.add]
  | some ad =>
    obtain ⟨e1, e2⟩ := ha ad rfl
    obtain ⟨b, o, sp⟩ := ad
    simp only at e1 e2
    subst e1; subst e2
    simp [Instr.slice, run_underlying Tryz.underlying32, Sem.run_bind, Instr.sliceBounds, Instr.sliceBound, asIntOf, h, sizeOf, typeInfo, hi, Addr.add]

/-- One more element behind a slice that is clipped to its length. -/
theorem append_clip (w : World) (a : Option Addr) (n cap : Nat) (xs : List Int) (hrd : RdI w .i64 (.slice a n cap) xs) (ha : ∀ ad, a = some ad → ad.off = 0 ∧ ad.spot = none) (hn : n ≤ 1000) (ad : Addr) (x : Int) (hx : w.cell? (ad.add 0) = some (.int .i64 x)) :
    ∀ ty, ∃ v' w', (Builtin.append_ #[32, 32] ty #[.slice a n n, .slice (some ad) 1 1]).run Tryz.prog w = .ok v' w' ∧ w'.ownsRow w.heap.size 3 1 v' (n + 1) ((xs ++ [x]).map (Value.int .i64)) ∧ w.grownBy w' none := by
  intro ty
  obtain ⟨i0, hi, hz0, hz1, hz2⟩ := info_parts num3
  obtain ⟨a', c', he, hcap, hcm, hcell⟩ := hrd.form
  simp only [Value.slice.injEq] at he
  obtain ⟨rfl, rfl, rfl⟩ := he
  have hnews : ∀ j u, ([Value.int .i64 x] : List Value)[j]? = some u → w.cell? (ad.add j) = some u := by
    intro j u hu
    cases j with
    | zero => simp at hu; rw [hx, hu]
    | succ j => simp at hu
  have grown : ∀ (old : Nat), (w.drew.alloc (.cells ((xs.map (Value.int .i64)).toArray ++ [Value.int .i64 x].toArray ++ Builtin.zeroCells (Value.int .i64 0).cells (grownCap w (xs.length + 1) old 3 - (xs.length + 1))) 3)).ownsRow w.heap.size 3 1
        (.slice (some ⟨w.heap.size, 0, none⟩) (xs.length + 1) (grownCap w (xs.length + 1) old 3)) (xs.length + 1) ((xs ++ [x]).map (Value.int .i64)) ∧
      w.grownBy (w.drew.alloc (.cells ((xs.map (Value.int .i64)).toArray ++ [Value.int .i64 x].toArray ++ Builtin.zeroCells (Value.int .i64 0).cells (grownCap w (xs.length + 1) old 3 - (xs.length + 1))) 3)) none := by
    intro old
    have hge := grownCap_ge w (xs.length + 1) old 3
    have hcm : grownCap w (xs.length + 1) old 3 ≤ maxLen := grownCap_le_maxLen w (xs.length + 1) old 3 (by unfold maxLen; omega)
    refine ⟨⟨by simp, .inr ⟨w.heap.size, _, _, rfl, Nat.le_refl _, heap_alloc_new w.drew _, hge, hcm, ?_, ?_⟩⟩, ⟨rfl, rfl, rfl, by simp, fun k hk _ => Below.heap_alloc w.drew _ k hk⟩⟩
    · simp only [Array.size_append, List.size_toArray, size_zeroCells, List.length_map, List.length_cons, List.length_nil]
      simp [Value.cells]
      omega
    · simp only [Array.toList_append, List.append_assoc, List.map_append, List.map_cons, List.map_nil]
      rw [← List.append_assoc, List.take_append_of_le_length (by simp), List.take_of_length_le (by simp)]
  cases a with
  | none =>
    have h0 : xs.length = 0 := by
      rcases Nat.eq_zero_or_pos xs.length with h | h
      · exact h
      · obtain ⟨b, off, e, _⟩ := hcell h; cases e
    obtain rfl : xs = [] := List.eq_nil_of_length_eq_zero h0
    have hr := run_append_nil (P := Tryz.prog) w 32 ty 3 i0 (.int .i64 0) Tryz.underlying32 hi hz0 ad 1 1 [.int .i64 x] (by rw [hz1]; rfl) hnews (by omega) (by omega) (by rw [hz2]; omega)
    have hgr := grown 0
    simp only [List.length_nil, Nat.zero_add, List.map_nil, List.nil_append, Array.empty_append] at hgr ⊢
    exact ⟨_, _, hr, hgr.1, hgr.2⟩
  | some g =>
    have holds : ∀ j u, (xs.map (Value.int .i64))[j]? = some u → w.cell? (g.add j) = some u := by
      intro j u hu
      have hj : j < xs.length := by have := (List.getElem?_eq_some_iff.1 hu).1; simpa using this
      obtain ⟨b, off, e, hb, hc⟩ := hcell (by omega)
      simp only [Option.some.injEq] at e
      subst e
      rw [Go.WideShapes.add_plain, hc j hj]
      simp [hj] at hu
      simp [hj, hu]
    have hr := run_append_grow (P := Tryz.prog) w 32 ty 3 i0 (.int .i64 0) Tryz.underlying32 hi hz0 g xs.length xs.length (xs.map (Value.int .i64)) (by rw [hz1]; simp) holds ad 1 1 [.int .i64 x] (by rw [hz1]; rfl) hnews (by omega) (by omega) (growslice_fits (by omega) (by rw [hz2]; omega))
    have hgr := grown xs.length
    exact ⟨_, _, hr, hgr.1, hgr.2⟩

/-- The operation 'append', where its run is known. -/
theorem wpList_append_eq {P : Program} (w : World) {ops : Array Oper} {rest : List Oper} {o : Oper} {a : Act} {Q : Exit → Act → World → Prop} (hgd : o.guard = none) (s x : Operand) (t : TypeId)
    (ho : o.op = .call { callee := .builtin .append, args := #[s, x], argTypes := #[t, t] }) (v u : Value) (hs : a.eval s = v) (hx : a.eval x = u) {v' : Value} {w' : World}
    (hr : (Builtin.append_ #[t, t] o.type #[v, u]).run P w = .ok v' w') (h : wpList P ops Q rest (a.put o.dst v') w') : wpList P ops Q (o :: rest) a w := by
  refine wpList_plain hgd fun K hK => ?_
  unfold Oper.wp execOp
  simp only [ho, resolve, invoke, builtin, Sem.run_bind, Sem.run_pure, Result.andThen_ok, List.map_toArray, List.map_cons, List.map_nil, hs, hx, hr]
  exact hK _ _ h

theorem rdP_nil (w : World) : RdP w (.slice none 0 0) [] := ⟨none, 0, rfl, Nat.le_refl _, by unfold maxLen; omega, fun h => absurd rfl h⟩
theorem prs_append (a b : List (Int × Int)) : prs (a ++ b) = prs a ++ prs b := by simp [prs]
theorem cell_two_new (w : World) (x y : Value) (t : TypeId) : ∀ j u, ([x, y] : List Value)[j]? = some u → (w.alloc (.cells #[x, y] t)).cell? ((⟨w.heap.size, 0, none⟩ : Addr).add j) = some u := by
  intro j u h
  match j, h with
  | 0, h => simp at h; subst h; exact cnew rfl rfl
  | 1, h => simp at h; subst h; exact cnew rfl rfl
  | j + 2, h => simp at h
theorem two_int (a b : Int) : ∀ u ∈ [Value.int .i64 a, Value.int .i64 b], u.oneCell' = true := by simp [Value.oneCell']
theorem owns_form {w : World} {base e size n : Nat} {v : Value} {xs : List Value} (h : w.ownsRow base e size v n xs) : ∃ a c, v = .slice a n c := by
  rcases h.2 with ⟨rfl, rfl⟩ | ⟨g, cap, cur, rfl, _⟩
  · exact ⟨_, _, rfl⟩
  · exact ⟨_, _, rfl⟩
theorem append_keep {w w' : World} {base e size n j : Nat} {v : Value} {xs : List Value} (h : w.ownsRow base e size v n xs) (hg : w.grownBy w' v.ownBlock) (hj : j < base) (hjw : j < w.heap.size) : w'.heap[j]? = w.heap[j]? :=
  hg.block j hjw fun e => by have := (h.lt j e.symm).1; omega
theorem append_below {a w w' : World} {base e size n : Nat} {v : Value} {xs : List Value} (hb : Below a.heap.size a w) (h : w.ownsRow base e size v n xs) (hg : w.grownBy w' v.ownBlock) (hj : a.heap.size ≤ base) : Below a.heap.size a w' :=
  bgr hb hg fun k e => Nat.le_trans hj (h.lt k e).1

theorem owns_lt {w : World} {base e g n cap : Nat} {cs : List Value} (h : w.ownsRow base e 1 (.slice (some ⟨g, 0, none⟩) n cap) n cs) (hn : 0 < n) : g < w.heap.size := by
  have h1 := h.cellAt 0 (by omega)
  have h2 : 0 < cs.length := by rw [h.1]; omega
  rw [List.getElem?_eq_getElem h2] at h1
  exact World.block_lt_of_cell? _ _ h1
theorem grown_of {a w : World} (h : Below a.heap.size a w) : a.grownBy w none := ⟨h.os, h.tape, h.output, h.size, fun r h1 _ => h.block r h1⟩
theorem owns_kept {w w' : World} {base e size n : Nat} {v : Value} {xs : List Value} (h : w.ownsRow base e size v n xs) (hb : Below w.heap.size w w') : w'.ownsRow base e size v n xs := by
  refine h.kept (grown_of hb) ?_
  cases hv : v.ownBlock with
  | none => exact .inl rfl
  | some k => exact .inr (by simp)
/-- 'append' of one number to a list of the call's own. -/
theorem wpList_append_num {w : World} {base : Nat} {t e : TypeId} {v : Value} {xs : List Int} {ops : Array Oper} {rest : List Oper} {o : Oper} {a : Act} {Q : Exit → Act → World → Prop} (hgd : o.guard = none) (s x : Operand)
    (ho : o.op = .call { callee := .builtin .append, args := #[s, x], argTypes := #[t, t] }) (ht : Tryz.prog.underlying t = some (.slice e)) (hie : (Tryz.prog.info? e).map (fun i => (i.zero, i.size, i.bytes)) = some (some (.int .i64 0), 1, 8))
    (h : w.ownsRow base e 1 v xs.length (xs.map (Value.int .i64))) (q : Int) (hs : a.eval s = v) {nb : Nat} (hx : a.eval x = .slice (some ⟨nb, 0, none⟩) 1 1) (hnb : nb = w.heap.size) (hl : xs.length ≤ 1000) (hb : base ≤ w.heap.size)
    (H : ∀ v' w', w'.ownsRow base e 1 v' (xs ++ [q]).length ((xs ++ [q]).map (Value.int .i64)) → (w.alloc (.cells #[.int .i64 q] e)).grownBy w' v.ownBlock → wpList Tryz.prog ops Q rest (a.put o.dst v') w') :
    wpList Tryz.prog ops Q (o :: rest) a (w.alloc (.cells #[.int .i64 q] e)) := by
  subst hnb
  obtain ⟨i0, hi, hz0, hz1, hz2⟩ := info_parts hie
  refine wpList_append_own _ hgd s x t ho base e i0 (.int .i64 0) 1 8 ht hi hz0 hz1 hz2 rfl (by decide) _ _ _ hs (h.alloc _) ⟨w.heap.size, 0, none⟩ 1 1 [.int .i64 q] hx rfl (fun j u hj => ?_) (fun u hu => by simp at hu; subst hu; rfl)
    (by simp only [maxLen]; omega) (by omega) (by simp; omega) ?_
  · match j, hj with
    | 0, hj => simp at hj; subst hj; rw [Go.WideShapes.add_plain]; simp
  · intro v' w' h1 h2 _
    refine H v' w' ?_ h2
    rw [List.map_append, List.length_append]
    exact h1
theorem grownBy_set (W : World) (a : Addr) (u : Value) : W.grownBy (W.setCell a u) (some a.block) :=
  ⟨rfl, rfl, rfl, by simp, fun k _ hk => Below.heap_setCell W a u k (fun e => hk (by rw [e]))⟩
theorem own_ne {w : World} {b1 b2 : Nat} {e1 e2 : TypeId} {s1 s2 : Nat} {v1 v2 : Value} {n1 n2 : Nat} {x1 x2 : List Value} (h1 : w.ownsRow b1 e1 s1 v1 n1 x1) (h2 : w.ownsRow b2 e2 s2 v2 n2 x2) (he : e1 ≠ e2) : v1.ownBlock = none ∨ v1.ownBlock ≠ v2.ownBlock := by
  rcases h1.2 with ⟨rfl, _⟩ | ⟨g, cap, cur, rfl, _, hg, _⟩
  · exact .inl rfl
  · refine .inr ?_
    rcases h2.2 with ⟨rfl, _⟩ | ⟨g', cap', cur', rfl, _, hg', _⟩
    · simp [Value.ownBlock]
    · simp only [Value.ownBlock, ne_eq, Option.some.injEq]
      rintro rfl
      rw [hg] at hg'
      simp at hg'
      exact he hg'.2

theorem run_append_none {P : Program} {w : World} {base size n : Nat} {e : TypeId} {v : Value} {xs : List Value} (t ty : TypeId) (i : TypeInfo) (ht : P.underlying t = some (.slice e)) (hi : P.info? e = some i) (h : w.ownsRow base e size v n xs) (c : Nat) :
    (Builtin.append_ #[t, t] ty #[v, .slice none 0 c]).run P w = .ok v w := by
  rcases h.2 with ⟨rfl, rfl⟩ | ⟨g, cap, cur, rfl, _, hg, hc, _⟩
  · simp [Builtin.append_, run_underlying ht, sizeOf, typeInfo, hi, Builtin.lenOf, Builtin.firstCells]
  · simp [Builtin.append_, run_underlying ht, sizeOf, typeInfo, hi, Builtin.lenOf, Builtin.firstCells, hc, storeCells]
theorem prs_num (V : List (Int × Int)) : ∀ u ∈ prs V, u.oneCell' = true := by
  intro u hu
  simp only [prs, List.mem_flatMap] at hu
  obtain ⟨p, _, hu⟩ := hu
  simp at hu
  rcases hu with rfl | rfl <;> rfl
/-- 'append' of one pair to a list of the call's own; the pair has just been laid into a block of its own. -/
theorem wpList_append_pair {w : World} {base : Nat} {t e : TypeId} {v : Value} {V : List (Int × Int)} {ops : Array Oper} {rest : List Oper} {o : Oper} {a : Act} {Q : Exit → Act → World → Prop} (hgd : o.guard = none) (s x : Operand)
    (ho : o.op = .call { callee := .builtin .append, args := #[s, x], argTypes := #[t, t] }) (ht : Tryz.prog.underlying t = some (.slice e)) (hie : (Tryz.prog.info? e).map (fun i => (i.zero, i.size, i.bytes)) = some (some (.agg #[.int .i64 0, .int .i64 0]), 2, 16))
    (h : w.ownsRow base e 2 v V.length (prs V)) (hb : base ≤ w.heap.size) (q1 q2 : Int) (hs : a.eval s = v) {nb : Nat} (hx : a.eval x = .slice (some ⟨nb, 0, none⟩) 1 1) (hnb : nb = w.heap.size) (hl : V.length ≤ 1000)
    (H : ∀ v' w', w'.ownsRow base e 2 v' (V ++ [(q1, q2)]).length (prs (V ++ [(q1, q2)])) → (w.alloc (.cells #[.int .i64 q1, .int .i64 q2] e)).grownBy w' v.ownBlock → wpList Tryz.prog ops Q rest (a.put o.dst v') w') :
    wpList Tryz.prog ops Q (o :: rest) a (w.alloc (.cells #[.int .i64 q1, .int .i64 q2] e)) := by
  subst hnb
  obtain ⟨i0, hi, hz0, hz1, hz2⟩ := info_parts hie
  refine wpList_append_own _ hgd s x t ho base e i0 (.agg #[.int .i64 0, .int .i64 0]) 2 16 ht hi hz0 hz1 hz2 rfl (by decide) _ _ _ hs (h.alloc _) ⟨w.heap.size, 0, none⟩ 1 1 [.int .i64 q1, .int .i64 q2] hx rfl (cell_two_new _ _ _ _) (two_int _ _)
    (by simp only [maxLen]; omega) (by omega) (by simp; omega) ?_
  intro v' w' h1 h2 _
  refine H v' w' ?_ h2
  rw [List.length_append, prs_append]
  exact h1
theorem owns_set {w : World} {base e size n : Nat} {v : Value} {xs : List Value} (h : w.ownsRow base e size v n xs) {r : Nat} (hr : r < base) (i : Nat) (u : Value) : (w.setCell ⟨r, i, none⟩ u).ownsRow base e size v n xs :=
  h.kept (grownBy_set w _ _) (by
    cases hvv : v.ownBlock with
    | none => exact .inl rfl
    | some q => exact .inr (by intro e; cases e; have := (h.lt _ hvv).1; simp only at this; omega))
theorem owns_base {w : World} {b1 b2 e size n : Nat} {v : Value} {xs : List Value} (h : w.ownsRow b1 e size v n xs) (hb : b2 ≤ b1) : w.ownsRow b2 e size v n xs := by
  refine ⟨h.1, ?_⟩
  rcases h.2 with h | ⟨g, cap, cur, h1, h2, h3⟩
  · exact .inl h
  · exact .inr ⟨g, cap, cur, h1, by omega, h3⟩
theorem owns_clip {w : World} {base e size n : Nat} {v : Value} {xs : List Value} (h : w.ownsRow base e size v n xs) : ∃ a c, v = .slice a n c ∧ n ≤ c ∧ ∀ ad, a = some ad → ad.off = 0 ∧ ad.spot = none := by
  rcases h.2 with ⟨rfl, rfl⟩ | ⟨g, cap, cur, rfl, _, _, hc, _⟩
  · exact ⟨none, 0, rfl, Nat.le_refl _, by simp⟩
  · exact ⟨_, _, rfl, hc, by rintro ad e; cases e; exact ⟨rfl, rfl⟩⟩
end Go.Proofs.YtpeminhnjdakiaaGreat
end

section
namespace Go.Proofs.YtpeminhnjdakiaaGreat
open Go.RowKit Go.Shelf

theorem isnan_any (a : Int) (w : World) : Calls Tryz.prog 138 #[.int .i64 a] w fun e w' => e = .returned (.bool false) ∧ w' = w := by
  go_enter Tryz.func138, Tryz.ntmps138
  have h : (a != a) = false := by simp
  go_wp2_with fail
  go_ret
  exact ⟨rfl, rfl⟩
theorem less_any (a b : Int) (w : World) : Calls Tryz.prog 72 #[.int .i64 a, .int .i64 b] w fun e w' => e = .returned (.bool (decide (a < b))) ∧ w' = w := by
  go_enter Tryz.func72, Tryz.ntmps72
  go_wp2_with fail
  refine (isnan_any a w).mono ?_
  rintro e w2 ⟨rfl, rfl⟩
  go_wp2_with fail
  go_ret
  exact ⟨rfl, rfl⟩
def ownJ (w : World) (base g n cap : Nat) (zs : List Int) : Prop := w.ownsRow base 2 1 (.slice (some ⟨g, 0, none⟩) n cap) n (zs.map (Value.int .i64))
theorem ownJ.len {w : World} {base g n cap : Nat} {zs : List Int} (h : ownJ w base g n cap zs) : zs.length = n := by
  have := h.1; simpa using this
theorem ownJ.cell {w : World} {base g n cap : Nat} {zs : List Int} (h : ownJ w base g n cap zs) {j : Nat} (hj : j < n) : w.cell? ⟨g, j, none⟩ = some (.int .i64 (zs[j]?.getD 0)) := by
  have hl := h.len
  rw [World.ownsRow.cellAt h j (by omega)]
  simp [show j < zs.length by omega]
theorem ownJ.set {w : World} {base g n cap : Nat} {zs : List Int} (h : ownJ w base g n cap zs) (j : Nat) (x : Int) : ownJ (w.setCell ⟨g, j, none⟩ (.int .i64 x)) base g n cap (zs.set j x) := by
  have := (World.ownsRow.stored h j (.int .i64 x)).1
  unfold ownJ
  rw [List.map_set]; exact this
theorem ownJ.drewN {w : World} {base g n cap : Nat} {zs : List Int} (h : ownJ w base g n cap zs) (k : Nat) : ownJ (w.drewN k) base g n cap zs := h
theorem ownJ.lt {w : World} {base g n cap : Nat} {zs : List Int} (h : ownJ w base g n cap zs) : g < w.heap.size := by
  rcases h.2 with ⟨h', _⟩ | ⟨g', cap', cur, h', _, hg, _⟩
  · simp at h'
  · simp only [Value.slice.injEq, Option.some.injEq, Addr.mk.injEq, and_true, true_and] at h'
    obtain ⟨rfl, rfl⟩ := h'
    exact (Array.getElem?_eq_some_iff.1 hg).1
theorem grown_set {w w' : World} {g j : Nat} {u : Value} (h : w.grownBy w' (some g)) : w.grownBy (w'.setCell ⟨g, j, none⟩ u) (some g) :=
  ⟨h.os, h.tape, h.output, by have := h.size; simp; omega, fun k hk hne => by
    rw [heap_setCell_other w' ⟨g, j, none⟩ k u (fun e => hne (by simp [e]))]; exact h.block k hk hne⟩
theorem grown_drewN {w w' : World} {r : Option Nat} (k : Nat) (h : w.grownBy w' r) : w.grownBy (w'.drewN k) r := ⟨h.os, h.tape, h.output, h.size, h.block⟩
theorem grown_rfl (w : World) (r : Option Nat) : w.grownBy w r := ⟨rfl, rfl, rfl, Nat.le_refl _, fun _ _ _ => rfl⟩
theorem set_get (l : List Int) (i j : Nat) (v : Int) (hi : i < l.length) : (l.set i v)[j]?.getD 0 = if i = j then v else l[j]?.getD 0 := by
  rw [List.getElem?_set]
  by_cases e : i = j
  · subst e; simp [hi]
  · simp [e]

def el (l : List Int) (i : Nat) : Int := l[i]?.getD 0
/-- Sorted up to i, but for the number at j, which is at most what comes behind it. -/
def InsI (i j : Nat) (l : List Int) : Prop := ∀ a b, a < b → b ≤ i → b ≠ j → el l a ≤ el l b
def SrtI (i : Nat) (l : List Int) : Prop := ∀ a b, a < b → b < i → el l a ≤ el l b
theorem el_swap (l : List Int) (i m t : Nat) (hi : i < l.length) (hm : m < l.length) : el ((l.set i (el l m)).set m (el l i)) t = if m = t then el l i else if i = t then el l m else el l t := by
  unfold el
  rw [set_get _ _ _ _ (by simpa using hm), set_get _ _ _ _ hi]
theorem InsI.step {i j : Nat} {l : List Int} (h : InsI i (j + 1) l) (hj : j + 1 ≤ i) (hi : i < l.length) (hlt : el l (j + 1) < el l j) : InsI i j ((l.set (j + 1) (el l j)).set j (el l (j + 1))) := by
  intro a b hab hb hne
  rw [el_swap l (j + 1) j a (by omega) (by omega), el_swap l (j + 1) j b (by omega) (by omega)]
  by_cases e1 : j = b
  · exact absurd e1.symm hne
  · rw [if_neg e1]
    by_cases e2 : j + 1 = b
    · subst e2
      rw [if_pos rfl]
      by_cases e3 : j = a
      · rw [if_pos e3]; omega
      · rw [if_neg e3, if_neg (by omega)]
        exact h a j (by omega) (by omega) (by omega)
    · rw [if_neg e2]
      by_cases e3 : j = a
      · rw [if_pos e3]; exact h (j + 1) b (by omega) hb (by omega)
      · rw [if_neg e3]
        by_cases e4 : j + 1 = a
        · rw [if_pos e4]; exact h j b (by omega) hb (by omega)
        · rw [if_neg e4]; exact h a b hab hb (by omega)
theorem InsI.stop {i j : Nat} {l : List Int} (h : InsI i j l) (hs : j = 0 ∨ ∃ k, j = k + 1 ∧ ¬ el l (k + 1) < el l k) : SrtI (i + 1) l := by
  intro a b hab hb
  by_cases e : b = j
  · subst e
    rcases hs with h0 | ⟨k, hk, h1⟩
    · omega
    · subst hk
      by_cases e2 : a = k
      · subst e2; omega
      · have := h a k (by omega) (by omega) (by omega)
        omega
  · exact h a b hab (by omega) e
theorem InsI.start {i : Nat} {l : List Int} (h : SrtI i l) : InsI i i l := fun a b hab hb hne => h a b hab (by omega)
theorem swap_perm (l : List Int) (i m : Nat) (hi : i < l.length) (hm : m < l.length) (hne : i ≠ m) : ((l.set i (el l m)).set m (el l i)).Perm l := by
  rw [List.perm_iff_count]
  intro a
  have e1 : el l i = l[i] := by simp [el, hi]
  have e2 : el l m = l[m] := by simp [el, hm]
  rw [List.count_set (by simpa using hm), List.count_set hi, List.getElem_set_ne hne]
  rw [e1, e2]
  have h1 : 0 < (if l[i] == a then 1 else 0) → 0 < l.count a := by
    intro h
    split at h
    · rename_i h2
      rw [beq_iff_eq] at h2
      subst h2; exact List.count_pos_iff.2 (List.getElem_mem _)
    · omega
  have h2 : 0 < (if l[m] == a then 1 else 0) → 0 < l.count a := by
    intro h
    split at h
    · rename_i h2
      rw [beq_iff_eq] at h2
      subst h2; exact List.count_pos_iff.2 (List.getElem_mem _)
    · omega
  by_cases c1 : (l[i] == a) = true <;> by_cases c2 : (l[m] == a) = true <;> simp only [c1, c2, if_true, Bool.false_eq_true, if_false] at * <;> omega
theorem srt_pairwise {l : List Int} (h : SrtI l.length l) : l.Pairwise (· ≤ ·) := by
  rw [List.pairwise_iff_getElem]
  intro i j hi hj hij
  have := h i j hij hj
  simpa [el, hi, hj] using this
end Go.Proofs.YtpeminhnjdakiaaGreat
end

section
namespace Go.Proofs.YtpeminhnjdakiaaGreat
open Go.RowKit Go.Shelf

set_option maxRecDepth 100000 in
set_option maxHeartbeats 4000000 in
theorem ins_any (base g n cap : Nat) (zs : List Int) (w : World) (h : ownJ w base g n cap zs) (hn : n ≤ 12) :
    Calls Tryz.prog 66 #[.slice (some ⟨g, 0, none⟩) n cap, .int .i64 0, .int .i64 n] w fun e w' => (∃ v, e = .returned v) ∧ ∃ ts : List Int, ts.Perm zs ∧ ts.Pairwise (· ≤ ·) ∧ ownJ w' base g n cap ts ∧ w.grownBy w' (some g) := by
  have HO := Lib.hid h
  have HZ := Lib.hid h.len
  clear h
  go_enter Tryz.func66, Tryz.ntmps66
  go_wp2_with fail
  go_loopw [6] (fun iv wr => ∃ (i : Nat) (cur : List Int), i ≤ n + 1 ∧ 1 ≤ i ∧ iv = .int .i64 i ∧ SrtI i cur ∧ cur.Perm zs ∧ ownJ wr base g n cap cur ∧ w.grownBy wr (some g)) (fun iv _ => n + 1 - (intOf iv).toNat)
  case atStart => exact ⟨1, zs, by omega, Nat.le_refl _, rfl, fun a b h1 h2 => by omega, .refl _, HO.out, grown_rfl _ _⟩
  case round =>
    obtain ⟨i, cur, hi, hi1, rfl, hs, hp, ho, hg⟩ := hrel
    have HS := Lib.hid hs; have HP := Lib.hid hp; have HW := Lib.hid ho; have HG := Lib.hid hg
    clear hs hp ho hg
    by_cases hlt : i < n
    · have hlt' : (i : Int) < (n : Int) := by omega
      go_wp2_with fail
      go_loopw [7] (fun jv ws => ∃ (j : Nat) (l : List Int), j ≤ i ∧ jv = .int .i64 j ∧ InsI i j l ∧ l.Perm zs ∧ ownJ ws base g n cap l ∧ w.grownBy ws (some g)) (fun jv _ => (intOf jv).toNat)
      case atStart => exact ⟨i, cur, Nat.le_refl _, rfl, InsI.start HS.out, HP.out, HW.out, HG.out⟩
      case round =>
        clear HS HP HW HG cur
        obtain ⟨j, l, hj, rfl, hI, hp, ho, hg⟩ := hrel
        have HI := Lib.hid hI; have HP := Lib.hid hp; have HW := Lib.hid ho; have HG := Lib.hid hg
        have hl := ho.len
        clear hI hp ho hg
        cases j with
        | zero =>
          have hd : decide ((0 : Int) < ((0 : Nat) : Int)) = false := by simp
          go_wp2_with fail
          refine wp_region_flow [] [([0, 1, 2, 3, 4, 5, 6, 7, 8, 9, 10, 11, 12], 13, true)] [14] (by kernel_rfl) (by kernel_rfl) ?_
          intro wc hB hh
          have HC := Lib.hid (show ownJ wc base g n cap l by unfold ownJ World.ownsRow; rw [hh]; exact HW.out)
          have HGC := Lib.hid (show w.grownBy wc (some g) from ⟨hB.os.trans HG.out.os, hB.tape.trans HG.out.tape, hB.output.trans HG.out.output, by rw [hh]; exact HG.out.size, fun r h1 h2 => by rw [hh]; exact HG.out.block r h1 h2⟩)
          clear hh
          have hL := @Later.cell wc
          simp only [flowP, flow, pickL, List.getElem?_cons_succ, List.getElem?_cons_zero]
          refine wpQuiet_nil ?_
          repeat (go_big_quiet_step (fail))
          refine wpQuiet_nil ?_
          go_wp2
          refine seg_grow ⟨⟨_, Below.refl _ wc⟩, rfl⟩ ?_
          repeat (go_big_quiet_step (fail))
          refine wpQuiet_nil ?_
          refine only_done ?_
          have wi : IntKind.i64.wrap ((i : Int) + 1) = (i : Int) + 1 := IntWalk.i64_in _ (by omega)
          go_wp2_with fail
          exact ⟨⟨i + 1, l, by omega, by omega, by simp, InsI.stop HI.out (.inl rfl), HP.out, HC.out, HGC.out⟩, by simp [intOf]; omega⟩
        | succ k =>
          have wi : IntKind.i64.wrap ((i : Int) + 1) = (i : Int) + 1 := IntWalk.i64_in _ (by omega)
          have w1 : IntKind.i64.wrap (((k + 1 : Nat) : Int) - 1) = (k : Int) := by rw [show ((k + 1 : Nat) : Int) - 1 = (k : Int) by omega]; exact IntWalk.i64_in _ (by omega)
          have w2 : ((k + 1 : Nat) : Int) - 1 = (k : Int) := by omega
          obtain ⟨x, HX⟩ : ∃ x, Hid (el l (k + 1) = x) := ⟨_, Lib.hid rfl⟩
          obtain ⟨y, HY⟩ : ∃ y, Hid (el l k = y) := ⟨_, Lib.hid rfl⟩
          have HC1 := Lib.hid (fun wz (h : ownJ wz base g n cap l) => show wz.cell? ⟨g, k + 1, none⟩ = some (.int .i64 x) by rw [← HX.out]; exact h.cell (j := k + 1) (by omega))
          have HC2 := Lib.hid (fun wz (h : ownJ wz base g n cap l) => show wz.cell? ⟨g, k, none⟩ = some (.int .i64 y) by rw [← HY.out]; exact h.cell (j := k) (by omega))
          have j1 : ((k + 1 : Nat) : Int) < n := by omega
          have j2 : (k : Int) < n := by omega
          have j3 : k + 1 < n := by omega
          have j4 : k < n := by omega
          have j5 : (0 : Int) < ((k + 1 : Nat) : Int) := by omega
          have j6 : (0 : Int) ≤ (k : Int) := by omega
          have HJ := Lib.hid hj
          clear hj
          go_wp2_with fail
          refine wp_region_flow [] [([0, 1, 2, 3, 4, 5, 6, 7, 8, 9, 10, 11, 12], 13, true)] [14] (by kernel_rfl) (by kernel_rfl) ?_
          intro wc hB hh
          have HC := Lib.hid (show ownJ wc base g n cap l by unfold ownJ World.ownsRow; rw [hh]; exact HW.out)
          have HGC := Lib.hid (show w.grownBy wc (some g) from ⟨hB.os.trans HG.out.os, hB.tape.trans HG.out.tape, hB.output.trans HG.out.output, by rw [hh]; exact HG.out.size, fun r h1 h2 => by rw [hh]; exact HG.out.block r h1 h2⟩)
          clear hh
          have c1 := HC1.out wc HC.out
          have c2 := HC2.out wc HC.out
          have zg := HC.out.lt
          have hL := @Later.cell wc
          clear hB
          simp only [flowP, flow, pickL, List.getElem?_cons_succ, List.getElem?_cons_zero]
          refine wpQuiet_nil ?_
          repeat (go_big_quiet_step (fail))
          refine wpQuiet_nil ?_
          go_wp2_with fail
          refine (less_any x y wc).mono ?_
          rintro e w2 ⟨rfl, rfl⟩
          go_wp2
          refine seg_grow ⟨⟨_, Below.refl _ _⟩, rfl⟩ ?_
          repeat (go_big_quiet_step (fail))
          refine wpQuiet_nil ?_
          refine only_done ?_
          clear c1 c2 hL zg HW HG
          by_cases hxy : x < y
          · have hl' := HC.out.len
            have HI2 := Lib.hid (InsI.step HI.out HJ.out (by omega) (by rw [HX.out, HY.out]; exact hxy))
            have HP2 := Lib.hid ((swap_perm l (k + 1) k (by omega) (by omega) (by omega)).trans HP.out)
            rw [HX.out, HY.out] at HI2 HP2
            have HW2 := Lib.hid (fun wz (h : ownJ wz base g n cap l) => (h.set (k + 1) y).set k x)
            go_wp2_with fail
            refine wp_region_flow [2, 3, 4] [([0, 1, 5, 6, 7, 8, 9, 10, 11, 12, 13, 14], 15, false), ([], 16, false), ([], 17, false)] [] (by kernel_rfl) (by kernel_rfl) ?_
            intro wd hB hh
            have HD := Lib.hid (show ownJ wd base g n cap l by unfold ownJ World.ownsRow; rw [hh]; exact HC.out)
            have HGD := Lib.hid (show w.grownBy wd (some g) from ⟨hB.os.trans HGC.out.os, hB.tape.trans HGC.out.tape, hB.output.trans HGC.out.output, by rw [hh]; exact HGC.out.size, fun r h1 h2 => by rw [hh]; exact HGC.out.block r h1 h2⟩)
            clear hh
            have c1 := HC1.out wd HD.out
            have c2 := HC2.out wd HD.out
            have f1 := World.ownsRow.frozenAt HD.out (k + 1)
            have f2 := World.ownsRow.frozenAt HD.out k
            have zg := HD.out.lt
            have hL := @Later.cell wd
            clear hB
            simp only [flowP, flow, pickL, List.getElem?_cons_succ, List.getElem?_cons_zero]
            repeat (go_big_quiet_step (fail))
            refine wpQuiet_nil ?_
            repeat (go_big_quiet_step (fail))
            refine wpQuiet_nil ?_
            go_wp2
            refine seg_write ?_
            refine wpQuiet_nil ?_
            go_wp2
            refine seg_write ?_
            refine wpQuiet_nil ?_
            go_wp2
            refine seg_write ?_
            refine wpQuiet_nil ?_
            refine only_done ?_
            go_wp2_with fail
            exact ⟨⟨k, _, by have := HJ.out; omega, rfl, HI2.out, HP2.out, HW2.out wd HD.out, grown_set (grown_set HGD.out)⟩, by simp [intOf]⟩
          · have hs : SrtI (i + 1) l := InsI.stop HI.out (.inr ⟨k, rfl, by rw [HX.out, HY.out]; exact hxy⟩)
            have HS := Lib.hid hs
            clear hs
            go_wp2_with fail
            exact ⟨⟨i + 1, l, by omega, by omega, by simp, HS.out, HP.out, HC.out, HGC.out⟩, by simp [intOf]; omega⟩

    · have hge : decide ((i : Int) < (n : Int)) = false := by simp; omega
      have hl := HW.out.len
      go_wp2_with fail
      exact bodyPost_end (results_none rfl _ _ _) rfl ⟨⟨_, rfl⟩, cur, HP.out, srt_pairwise (fun a b h1 h2 => HS.out a b h1 (by omega)), HW.out, HG.out⟩
end Go.Proofs.YtpeminhnjdakiaaGreat
end

section
namespace Go.Proofs.YtpeminhnjdakiaaGreat
open Go.RowKit Go.Shelf Go.Ev

theorem mixed : Tryz.prog.follows .mixedOrders = true := by kernel_rfl
theorem plain : Plain Tryz.prog := plain_of (by kernel_rfl)
noncomputable def saysI (r : VRes) : Bool := VRes.rec false (fun v _ => v.intE false fun k _ => isI64 k) r
theorem saysI_ok {r : VRes} (h : saysI r = true) : ∃ n h', r = .ok (.int .i64 n) h' := by
  cases r with
  | bad => cases h
  | ok v h' =>
    cases v <;> first | (rename_i k n; cases k <;> first | exact ⟨n, h', rfl⟩ | cases h) | cases h
theorem lens : allL (fun n => saysI ((recN Tryz.prog orc0 100000).call 0 35 [.int .u64 (Int.ofNat n)] hp0)) [0, 1, 2, 3, 4, 5, 6, 7, 8, 9, 10, 11, 12] = true := by kernel_rfl
theorem len_any (n : Nat) (hn : n ≤ 12) (w : World) : Calls Tryz.prog 35 #[.int .u64 n] w fun e w' => (∃ r, e = .returned (.int .i64 r)) ∧ Below w.heap.size w w' := by
  have h := lens
  rw [allL_eq, List.all_eq_true] at h
  have h1 := h n (by simp only [List.mem_cons, List.not_mem_nil, or_false]; omega)
  obtain ⟨r, h', h2⟩ := saysI_ok h1
  refine (closed_call (us := [.int .u64 n]) mixed plain orc0_ok (.cons (.int _ _) .nil) h2 w).mono ?_
  rintro e w' ⟨u, ρ', rfl, h3, _, h4⟩
  cases h3
  exact ⟨⟨r, rfl⟩, h4⟩
set_option maxRecDepth 100000 in
set_option maxHeartbeats 4000000 in
theorem pdq_any (base g n cap : Nat) (zs : List Int) (r : Int) (w : World) (h : ownJ w base g n cap zs) (hn : n ≤ 12) :
    Calls Tryz.prog 34 #[.slice (some ⟨g, 0, none⟩) n cap, .int .i64 0, .int .i64 n, .int .i64 r] w fun e w' => (∃ v, e = .returned v) ∧ ∃ ts : List Int, ts.Perm zs ∧ ts.Pairwise (· ≤ ·) ∧ ownJ w' base g n cap ts ∧ w.grownBy w' (some g) := by
  have HO := Lib.hid h
  clear h
  go_enter Tryz.func34, Tryz.ntmps34
  go_wp2_with fail
  go_loopw [1, 2, 3, 8, 9] (fun s1 s2 s3 s8 s9 wr => s1 = .int .i64 0 ∧ s2 = .int .i64 n ∧ s3 = .int .i64 r ∧ s8 = .bool true ∧ s9 = .bool true ∧ wr = w) (fun _ _ _ _ _ _ => 0)
  case atStart => exact ⟨rfl, rfl, rfl, rfl, rfl, rfl⟩
  case round =>
    obtain ⟨rfl, rfl, rfl, rfl, rfl, rfl⟩ := hrel
    have w1 : IntKind.i64.wrap ((n : Int) - 0) = (n : Int) := by rw [Int.sub_zero]; exact IntWalk.i64_in _ (by omega)
    have h12 : decide ((n : Int) ≤ 12) = true := by simp; omega
    go_wp2_with fail
    refine (ins_any base g n cap zs wr HO.out hn).mono ?_
    rintro e w2 ⟨⟨v, rfl⟩, ts, h1, h2, h3, h4⟩
    go_wp2_with fail
    exact bodyPost_ret (results_none rfl _ _ _) rfl ⟨⟨_, rfl⟩, ts, h1, h2, h3, h4⟩
set_option maxRecDepth 100000 in
set_option maxHeartbeats 4000000 in
theorem sort64_any (base g n cap : Nat) (zs : List Int) (w : World) (h : ownJ w base g n cap zs) (hn : n ≤ 12) :
    Calls Tryz.prog 14 #[.slice (some ⟨g, 0, none⟩) n cap] w fun e w' => (∃ v, e = .returned v) ∧ ∃ ts : List Int, ts.Perm zs ∧ ts.Pairwise (· ≤ ·) ∧ ownJ w' base g n cap ts ∧ w.grownBy w' (some g) := by
  have HO := Lib.hid h
  clear h
  have w1 : IntKind.u64.wrap (n : Int) = (n : Int) := IntWalk.u64_in _ (by omega)
  go_enter Tryz.func14, Tryz.ntmps14
  go_wp2_with fail
  refine (len_any n hn w).mono ?_
  rintro e w2 ⟨⟨r, rfl⟩, hB⟩
  have HO2 := Lib.hid (show ownJ w2 base g n cap zs from owns_kept HO.out hB)
  have HB := Lib.hid hB
  clear hB
  go_wp2_with fail
  refine (pdq_any base g n cap zs r w2 HO2.out hn).mono ?_
  rintro e w3 ⟨⟨v, rfl⟩, ts, h1, h2, h3, h4⟩
  have hG : w.grownBy w3 (some g) := ⟨h4.os.trans HB.out.os, h4.tape.trans HB.out.tape, h4.output.trans HB.out.output, Nat.le_trans HB.out.size h4.size, fun k hk hne => (h4.block k (Nat.lt_of_lt_of_le hk HB.out.size) hne).trans (HB.out.block k hk)⟩
  go_wp2_with fail
  exact bodyPost_end (results_none rfl _ _ _) rfl ⟨⟨_, rfl⟩, ts, h1, h2, h3, hG⟩
end Go.Proofs.YtpeminhnjdakiaaGreat
end

section
namespace Go.Proofs.YtpeminhnjdakiaaGreat
open Go.RowKit Go.Shelf Go.EvMap

theorem keyP : KeyS Tryz.prog 63 65 3 k1 := keyS1 (it := 2) (by kernel_rfl) (by kernel_rfl) (by kernel_rfl) Tryz.underlying2 (by kernel_rfl)
/-- The map under way: its keys are those of the first k notes. -/
structure PlM (w wr : World) (mb : Nat) (o s : Int) (k : Nat) (L : Ents Int) (c : Nat) : Prop where
  B : Below w.heap.size w wr
  ge : w.heap.size ≤ mb
  M : wr.heap[mb]? = some (.map (entsOf k1 L) c)
  ok : OkL L c
  keys : ∀ x, x ∈ L.map (·.1) ↔ ∃ i : Nat, i < k ∧ x = (i : Int) * s % o
theorem mem_keys {L : Ents Int} {x : Int} : x ∈ L.map (·.1) ↔ ∃ m t, (x, m, t) ∈ L := by
  rw [List.mem_map]
  exact ⟨fun ⟨⟨y, m, t⟩, h1, h2⟩ => ⟨m, t, by simp only at h2; rw [← h2]; exact h1⟩, fun ⟨m, t, h⟩ => ⟨_, h, rfl⟩⟩
theorem PlM.put {w wr : World} {mb : Nat} {o s : Int} {k : Nat} {L L1 : Ents Int} {c c1 : Nat} {v : Value} (h : PlM w wr mb o s k L c) (h1 : OkL L1 c1) (h2 : ∀ x m, (∃ t, (x, m, t) ∈ L1) ↔ (x = (k : Int) * s % o ∧ m = v) ∨ (x ≠ (k : Int) * s % o ∧ ∃ t, (x, m, t) ∈ L)) :
    PlM w (wr.putObj mb (.map (entsOf k1 L1) c1)) mb o s (k + 1) L1 c1 := by
  refine ⟨below_put h.B _ h.ge, h.ge, World.putObj_heap_same (Array.getElem?_eq_some_iff.1 h.M).1, h1, fun x => ?_⟩
  rw [mem_keys]
  constructor
  · rintro ⟨m, t, h3⟩
    rcases (h2 x m).1 ⟨t, h3⟩ with ⟨h4, _⟩ | ⟨_, t', h4⟩
    · exact ⟨k, by omega, h4⟩
    · obtain ⟨i, h5, h6⟩ := (h.keys x).1 (mem_keys.2 ⟨m, t', h4⟩)
      exact ⟨i, by omega, h6⟩
  · rintro ⟨i, h3, h4⟩
    by_cases hx : x = (k : Int) * s % o
    · obtain ⟨t, ht⟩ := (h2 x v).2 (.inl ⟨hx, rfl⟩)
      exact ⟨v, t, ht⟩
    · have : i ≠ k := fun e => hx (by rw [h4, e])
      obtain ⟨m, t, h5⟩ := mem_keys.1 ((h.keys x).2 ⟨i, by omega, h4⟩)
      obtain ⟨t', ht⟩ := (h2 x m).2 (.inr ⟨hx, t, h5⟩)
      exact ⟨m, t', ht⟩
/-- .. without the first note's place. -/
structure PlD (w wr : World) (mb : Nat) (o s : Int) (n : Nat) (L : Ents Int) (c : Nat) : Prop where
  B : Below w.heap.size w wr
  ge : w.heap.size ≤ mb
  M : wr.heap[mb]? = some (.map (entsOf k1 L) c)
  ok : OkL L c
  keys : ∀ x, x ∈ L.map (·.1) ↔ x ≠ 0 ∧ ∃ i : Nat, i < n ∧ x = (i : Int) * s % o
theorem PlM.del {w wr : World} {mb : Nat} {o s : Int} {n : Nat} {L L2 : Ents Int} {c : Nat} (h : PlM w wr mb o s n L c) (h1 : OkL L2 c) (h2 : ∀ e, e ∈ L2 ↔ e ∈ L ∧ e.1 ≠ 0) : PlD w (wr.putObj mb (.map (entsOf k1 L2) c)) mb o s n L2 c := by
  refine ⟨below_put h.B _ h.ge, h.ge, World.putObj_heap_same (Array.getElem?_eq_some_iff.1 h.M).1, h1, fun x => ?_⟩
  rw [← h.keys, mem_keys, mem_keys]
  constructor
  · rintro ⟨m, t, h3⟩
    obtain ⟨h4, h5⟩ := (h2 _).1 h3
    exact ⟨h5, m, t, h4⟩
  · rintro ⟨h3, m, t, h4⟩
    exact ⟨m, t, (h2 _).2 ⟨h4, h3⟩⟩
theorem PlD.up {w wr w' : World} {mb : Nat} {o s : Int} {n : Nat} {L : Ents Int} {c : Nat} (h : PlD w wr mb o s n L c) (hb : Below wr.heap.size wr w') : PlD w w' mb o s n L c :=
  ⟨btr h.B hb, h.ge, (hb.block _ (Array.getElem?_eq_some_iff.1 h.M).1).trans h.M, h.ok, h.keys⟩
theorem grown_other {w w' : World} {base e size n : Nat} {v : Value} {xs : List Value} (h : w.ownsRow base e size v n xs) (hg : w.grownBy w' v.ownBlock) {r : Nat} {ob : Obj} (hr : w.heap[r]? = some ob) (ho : ob.isCells = false) : w'.heap[r]? = some ob := by
  rw [hg.block r (Array.getElem?_eq_some_iff.1 hr).1 ?_]
  · exact hr
  · rcases h.2 with ⟨rfl, _⟩ | ⟨g, cap, cur, rfl, _, hgb, _⟩
    · intro e; cases e
    · intro e
      have e : r = g := by simpa [Value.ownBlock] using e
      rw [← e, hr] at hgb
      cases hgb
      cases ho
theorem PlD.grown {w wr w' : World} {mb : Nat} {o s : Int} {n : Nat} {L : Ents Int} {c : Nat} (h : PlD w wr mb o s n L c) {e size k : Nat} {v : Value} {xs : List Value} (h1 : wr.ownsRow w.heap.size e size v k xs) (hg : wr.grownBy w' v.ownBlock) : PlD w w' mb o s n L c :=
  ⟨append_below h.B h1 hg (Nat.le_refl _), h.ge, grown_other h1 hg h.M rfl, h.ok, h.keys⟩
/-- The list under way: 0, and the keys that have been met. -/
structure PlR (L : Ents Int) (seen : Array Nat) (xs : List Int) : Prop where
  mem : ∀ x, x ∈ xs ↔ x = 0 ∨ ∃ e ∈ L, e.2.2 ∈ seen ∧ e.1 = x
  nodup : xs.Nodup
theorem PlR.start (L : Ents Int) : PlR L #[] [0] := ⟨fun x => by simp, by simp⟩
theorem PlR.push {L : Ents Int} {c : Nat} {seen : Array Nat} {xs : List Int} (h : PlR L seen xs) (hL : OkL L c) {e : Int × Value × Nat} (he : e ∈ L) (h0 : e.1 ≠ 0) (hs : e.2.2 ∉ seen) : PlR L (seen.push e.2.2) (xs ++ [e.1]) := by
  constructor
  · intro x
    rw [List.mem_append, List.mem_singleton, h.mem]
    constructor
    · rintro ((h1 | ⟨e', h1, h2, h3⟩) | h1)
      · exact .inl h1
      · exact .inr ⟨e', h1, by rw [Array.mem_push]; exact .inl h2, h3⟩
      · exact .inr ⟨e, he, by rw [Array.mem_push]; exact .inr rfl, h1.symm⟩
    · rintro (h1 | ⟨e', h1, h2, h3⟩)
      · exact .inl (.inl h1)
      · rw [Array.mem_push] at h2
        rcases h2 with h2 | h2
        · exact .inl (.inr ⟨e', h1, h2, h3⟩)
        · rw [Go.EvMap.born_inj hL h1 he h2] at h3; exact .inr h3.symm
  · rw [List.nodup_append]
    refine ⟨h.nodup, by simp, ?_⟩
    intro a ha b hb hab
    simp only [List.mem_singleton] at hb
    subst hb
    rw [hab, h.mem] at ha
    rcases ha with ha | ⟨e', h1, h2, h3⟩
    · exact h0 ha
    · have hk := hL.keys
      rw [List.nodup_iff_pairwise_ne, List.pairwise_iff_getElem] at hk
      obtain ⟨i, hi, rfl⟩ := List.getElem_of_mem h1
      obtain ⟨j, hj, rfl⟩ := List.getElem_of_mem he
      rcases Nat.lt_trichotomy i j with h' | rfl | h'
      · exact hk i j (by simpa) (by simpa) h' (by rw [List.getElem_map, List.getElem_map]; exact h3)
      · exact hs h2
      · exact hk j i (by simpa) (by simpa) h' (by rw [List.getElem_map, List.getElem_map]; exact h3.symm)
theorem nodup_bound : ∀ {xs : List Int} {ys : List Int}, xs.Nodup → (∀ x ∈ xs, x ∈ ys) → xs.length ≤ ys.length
  | [], _, _, _ => Nat.zero_le _
  | x :: xs, ys, h, hm => by
    rw [List.nodup_cons] at h
    have := nodup_bound (xs := xs) (ys := ys.erase x) h.2 fun y hy => (List.mem_erase_of_ne (fun e => h.1 (by rw [← e]; exact hy))).2 (hm y (List.mem_cons_of_mem _ hy))
    rw [List.length_erase_of_mem (hm x (List.mem_cons_self ..))] at this
    have := List.length_pos_of_mem (hm x (List.mem_cons_self ..))
    simp only [List.length_cons]
    omega
theorem PlR.len {w wr : World} {mb : Nat} {o s : Int} {n : Nat} {L : Ents Int} {c : Nat} {seen : Array Nat} {xs : List Int} (h : PlR L seen xs) (hD : PlD w wr mb o s n L c) : xs.length ≤ n + 1 := by
  have := nodup_bound (ys := 0 :: (List.range n).map fun i : Nat => (i : Int) * s % o) h.nodup fun x hx => by
    rcases (h.mem x).1 hx with h1 | ⟨e, h1, _, h3⟩
    · rw [h1]; exact List.mem_cons_self ..
    · obtain ⟨_, i, h4, h5⟩ := (hD.keys x).1 (List.mem_map.2 ⟨e, h1, h3⟩)
      exact List.mem_cons_of_mem _ (List.mem_map.2 ⟨i, List.mem_range.2 h4, h5.symm⟩)
  simpa using this
set_option maxRecDepth 100000 in
set_option maxHeartbeats 4000000 in
theorem places_any (o s : Int) (n : Nat) (w : World) (ho : 1 ≤ o) (ho2 : o ≤ 1000) (hs : 0 ≤ s) (hs2 : s ≤ 1000) (hn : n ≤ 11) :
    Calls Tryz.prog 13 #[.int .i64 o, .int .i64 s, .int .i64 n] w fun e w' => ∃ g m cap ts, e = .returned (.slice (some ⟨g, 0, none⟩) m cap) ∧ ownJ w' w.heap.size g m cap ts ∧ ts.Pairwise (· < ·) ∧ (∀ x, x ∈ ts ↔ x = 0 ∨ ∃ i : Nat, i < n ∧ x = (i : Int) * s % o) ∧ Below w.heap.size w w' := by
  have hmm := @run_makeMap Tryz.prog
  have hB1 : Below w.heap.size w (w.alloc (.map #[] 0)) := bal (bz w) _
  have hM1 : (w.alloc (.map #[] 0)).heap[w.heap.size]? = some (.map (entsOf k1 []) 0) := heap_alloc_new _ _
  have HM1 := Lib.hid (show PlM w (w.alloc (.map #[] 0)) w.heap.size o s 0 [] 0 from ⟨hB1, Nat.le_refl _, hM1, ⟨by simp, by simp, by simp⟩, fun x => by simp⟩)
  clear hB1 hM1
  go_enter Tryz.func13, Tryz.ntmps13
  go_wp2_with fail
  clear hmm
  generalize (w.alloc (.map #[] 0)) = w1 at *
  obtain ⟨mb, HMB⟩ : ∃ mb, Hid (w.heap.size = mb) := ⟨_, Lib.hid rfl⟩
  rw [HMB.out] at HM1
  rw [HMB.out]
  go_loopw [13] (fun iv wr => ∃ (k : Nat) (L : Ents Int) (c : Nat), k ≤ n ∧ iv = .int .i64 k ∧ PlM w wr mb o s k L c) (fun iv _ => n - (intOf iv).toNat)
  case atStart => exact ⟨0, [], 0, Nat.zero_le _, rfl, HM1.out⟩
  case round =>
    obtain ⟨k, L, c, hk, rfl, hM⟩ := hrel
    have HM := Lib.hid hM
    clear hM HM1
    by_cases hlt : k < n
    · have hlt' : (k : Int) < (n : Int) := by omega
      have hks : 0 ≤ (k : Int) * s ∧ (k : Int) * s ≤ 11000 := ⟨Int.mul_nonneg (by omega) hs, by
        have h1 : (k : Int) * s ≤ 11 * 1000 := Int.mul_le_mul (by omega) hs2 hs (by omega)
        omega⟩
      obtain ⟨L1, c1, hput, hok, hkeys⟩ := run_putL keyP HM.out.M HM.out.ok ((k : Int) * s % o) (.int .i64 k)
      have hke : (wrap64 ((k : Int) * s)).tmod o = (k : Int) * s % o := by
        rw [show wrap64 ((k : Int) * s) = (k : Int) * s from IntWalk.wrap64_in _ (by omega)]
        exact Int.tmod_eq_emod_of_nonneg hks.1
      rw [← hke] at hput
      unfold k1 at hput
      have wk : IntKind.i64.wrap ((k : Int) + 1) = (k : Int) + 1 := IntWalk.i64_in _ (by omega)
      have HM2 := Lib.hid (HM.out.put hok hkeys)
      clear hks hke hkeys hok
      go_wp2_with fail
      go_roundw
      case rel => exact ⟨k + 1, L1, c1, by omega, by go_num, HM2.out⟩
      case measure => simp [intOf]; omega
    · have hkn : k = n := by omega
      subst hkn
      obtain ⟨L2, hdel, hok, hmem⟩ := run_deleteL keyP HM.out.M HM.out.ok 0
      have HD := Lib.hid (HM.out.del hok hmem)
      clear hmem HM hok
      unfold k1 at hdel
      have hHD : Hid (PlD w (wr.putObj mb (.map (entsOf (fun a => Value.agg #[Value.int IntKind.i64 a]) L2) c)) mb o s k L2 c) := HD
      clear HD
      generalize wr.putObj mb (.map (entsOf (fun a => Value.agg #[Value.int IntKind.i64 a]) L2) c) = W2 at *
      have HD3 := Lib.hid (hHD.out.up (bal (bz W2) (.cells #[.int .i64 0] 2)))
      have HO3 := Lib.hid (show (W2.alloc (.cells #[.int .i64 0] 2)).ownsRow w.heap.size 2 1 (.slice (some ⟨W2.heap.size, 0, none⟩) 1 1) ([0] : List Int).length (([0] : List Int).map (Value.int .i64)) from World.ownsRow_lit W2 #[.int .i64 0] 1 hHD.out.B.size (by unfold maxLen; omega) rfl)
      have hrg : (Instr.range 63 (.map (some mb))).run Tryz.prog (W2.alloc (.cells #[.int .i64 0] 2)) = .ok (.pointer (some ⟨(W2.alloc (.cells #[.int .i64 0] 2)).heap.size, 0, none⟩)) ((W2.alloc (.cells #[.int .i64 0] 2)).alloc (.mapIter (some mb) c #[] c)) := by
        simp [Instr.range, Sem.run_bind, run_underlying keyP.under, Result.andThen_ok, run_getMap HD3.out.M]
      go_wp2_with fail
      clear hrg
      have HD4 := Lib.hid (HD3.out.up (bal (bz _) (.mapIter (some mb) c #[] c)))
      have HO4 := Lib.hid (HO3.out.alloc (.mapIter (some mb) c #[] c))
      have HIT := Lib.hid (show ((W2.alloc (.cells #[.int .i64 0] 2)).alloc (.mapIter (some mb) c #[] c)).heap[W2.heap.size + 1]? = some (.mapIter (some mb) c #[] c) by have := heap_alloc_new (W2.alloc (.cells #[.int .i64 0] 2)) (.mapIter (some mb) c #[] c); rw [World.size_alloc] at this; exact this)
      have HBI := Lib.hid (show w.heap.size ≤ W2.heap.size + 1 by have := hHD.out.B.size; omega)
      clear HD3 HO3 hHD
      generalize (W2.alloc (.cells #[.int .i64 0] 2)).alloc (.mapIter (some mb) c #[] c) = W4 at *
      generalize hbi : W2.heap.size + 1 = bi at *
      generalize W2.heap.size = g0 at *
      clear hbi
      go_loopw [9, 10] (fun v _ ws => ∃ (xs : List Int) (seen : Array Nat), PlD w ws mb o s k L2 c ∧ ws.heap[bi]? = some (.mapIter (some mb) c seen c) ∧ ws.ownsRow w.heap.size 2 1 v xs.length (xs.map (Value.int .i64)) ∧ PlR L2 seen xs) (fun _ _ ws => unmet (ws.heap[mb]?) (ws.heap[bi]?))
      case atStart => exact ⟨[0], #[], HD4.out, HIT.out, HO4.out, PlR.start L2⟩
      case round =>
        clear HD4 HO4 HIT
        obtain ⟨xs, seen, hD, hit, hown, hR⟩ := hrel
        rcases run_nextL (P := Tryz.prog) hD.M hD.ok hit with ⟨hall, hnx⟩ | ⟨e, he, hes, n, hnx⟩
        · have HA := Lib.hid hall; have HD := Lib.hid hD; have HO := Lib.hid hown; have HR := Lib.hid hR
          clear hall hD hit hown hR
          have hpos : 0 < xs.length := List.length_pos_of_mem ((HR.out.mem 0).2 (.inl rfl))
          have hlen := HR.out.len HD.out
          obtain ⟨g, cap, hv⟩ : ∃ g cap, u9 = .slice (some ⟨g, 0, none⟩) xs.length cap := by
            rcases HO.out.2 with ⟨_, h0⟩ | ⟨g, cap, _, h1, _⟩
            · omega
            · exact ⟨g, cap, h1⟩
          subst hv
          have HS := Lib.hid (fun wz (h : ownJ wz w.heap.size g xs.length cap xs) => sort64_any w.heap.size g xs.length cap xs wz h (by omega))
          have hge := (HO.out.lt g rfl).1
          have HGE := Lib.hid hge
          clear hpos hlen hge
          go_wp2_with fail
          refine (HS.out _ HO.out).mono ?_
          rintro e w5 ⟨⟨v5, rfl⟩, ts, h1, h2, h3, h4⟩
          have hfin : (∀ x, x ∈ ts ↔ x = 0 ∨ ∃ i : Nat, i < k ∧ x = (i : Int) * s % o) := fun x => by
            rw [h1.mem_iff, HR.out.mem]
            constructor
            · rintro (h5 | ⟨e, h5, _, h6⟩)
              · exact .inl h5
              · exact .inr ((HD.out.keys x).1 (List.mem_map.2 ⟨e, h5, h6⟩)).2
            · rintro (h5 | h5)
              · exact .inl h5
              · by_cases h0 : x = 0
                · exact .inl h0
                · obtain ⟨e, h6, h7⟩ := List.mem_map.1 ((HD.out.keys x).2 ⟨h0, h5⟩)
                  exact .inr ⟨e, h6, HA.out e h6, h7⟩
          have hlt : ts.Pairwise (· < ·) := by
            have hn2 : ts.Nodup := h1.nodup_iff.2 HR.out.nodup
            exact (List.Pairwise.and h2 hn2).imp fun h => by have := h.1; have := h.2; omega
          have hBel : Below w.heap.size w w5 := ⟨h4.os.trans HD.out.B.os, h4.tape.trans HD.out.B.tape, h4.output.trans HD.out.B.output, Nat.le_trans HD.out.B.size h4.size, fun j hj => (h4.block j (Nat.lt_of_lt_of_le hj HD.out.B.size) (fun e => by have := Option.some.inj e; have := HGE.out; omega)).trans (HD.out.B.block j hj)⟩
          go_wp2_with fail
          go_ret
          exact ⟨g, _, cap, ts, rfl, h3, hlt, hfin, hBel⟩
        · have HSN := Lib.hid hes; have HE := Lib.hid he; have HD := Lib.hid hD; have HO := Lib.hid hown; have HR := Lib.hid hR; have HI := Lib.hid hit
          clear hes he hD hit hown hR
          obtain ⟨q, qv, t⟩ := e
          have hne : mb ≠ bi := fun e => by have h1 := HD.out.M; rw [e, HI.out] at h1; cases h1
          have HDn := Lib.hid (show PlD w ((wr.drewN n).putObj bi (.mapIter (some mb) c (seen.push t) c)) mb o s k L2 c from ⟨below_put (Below.drewN' n HD.out.B) _ HBI.out, HD.out.ge, (World.putObj_heap_other hne).trans HD.out.M, HD.out.ok, HD.out.keys⟩)
          have HNI := Lib.hid (show ((wr.drewN n).putObj bi (.mapIter (some mb) c (seen.push t) c)).heap[bi]? = some (.mapIter (some mb) c (seen.push t) c) from World.putObj_heap_same (Array.getElem?_eq_some_iff.1 HI.out).1)
          have HOn := Lib.hid (show ((wr.drewN n).putObj bi (.mapIter (some mb) c (seen.push t) c)).ownsRow w.heap.size 2 1 u9 xs.length (xs.map (Value.int .i64)) from ownsRow_putObj (W := wr.drewN n) HO.out _ HI.out rfl)
          have hen := run_entryL (P := Tryz.prog) HDn.out.M HDn.out.ok HE.out HNI.out
          have HRn := Lib.hid (HR.out.push HD.out.ok HE.out ((HD.out.keys q).1 (List.mem_map.2 ⟨_, HE.out, rfl⟩)).1 HSN.out)
          have hlen := HR.out.len HD.out
          have HM0 := Lib.hid (show unmet (wr.heap[mb]?) (wr.heap[bi]?) = (L2.filter fun x => !seen.contains x.2.2).length by rw [HD.out.M, HI.out, unmet_eq])
          have HM1 := Lib.hid (unmet_lt (L := L2) ⟨_, HE.out, rfl⟩ HSN.out)
          simp only at HRn HM1
          rw [HM0.out]
          unfold k1 at hen hnx
          simp only at hen hnx
          clear hne HO HD HI HR
          generalize (wr.drewN n).putObj bi (.mapIter (some mb) c (seen.push t) c) = wn at *
          have HOz := Lib.hid (HOn.out.alloc (.cells #[.int .i64 q] 65))
          have HDz := Lib.hid (HDn.out.up (bal (bz wn) (.cells #[.int .i64 q] 65)))
          have HIz := Lib.hid ((Below.heap_alloc wn (.cells #[.int .i64 q] 65) bi (Array.getElem?_eq_some_iff.1 HNI.out).1).trans HNI.out)
          have HLE := Lib.hid (show xs.length ≤ 1000 by omega)
          clear hlen HM0
          go_wp2_with (at_builtin; refine wpList_append_num rfl _ _ rfl Tryz.underlying26 num2 HOz.out q rfl rfl (by simp) HLE.out HDz.out.B.size ?_)
          intro v6 w6 h1 h2
          have HO6 := Lib.hid h1
          have HD6 := Lib.hid ((HDz.out.up (bal (bz _) (.cells #[.int .i64 q] 2))).grown (HOz.out.alloc _) h2)
          have HI6 := Lib.hid (grown_other (HOz.out.alloc (.cells #[.int .i64 q] 2)) h2 ((Below.heap_alloc _ (.cells #[.int .i64 q] 2) bi (Array.getElem?_eq_some_iff.1 HIz.out).1).trans HIz.out) rfl)
          clear h1 h2
          go_wp2_with fail
          go_roundw
          case rel => exact ⟨xs ++ [q], seen.push t, HD6.out, HI6.out, by rw [List.length_append, List.map_append]; exact HO6.out, HRn.out⟩
          case measure =>
            rw [HD6.out.M, HI6.out, unmet_eq]
            exact HM1.out
end Go.Proofs.YtpeminhnjdakiaaGreat
end

section
namespace Go.Proofs.YtpeminhnjdakiaaGreat
open Go.RowKit Go.Shelf Go.Ev

def insN (x : Nat) : List Nat → List Nat
  | [] => [x]
  | y :: l => bif Nat.ble x y then (bif Nat.beq x y then y :: l else x :: y :: l) else y :: insN x l
def plN (o s : Nat) : Nat → List Nat
  | 0 => []
  | n + 1 => insN (Nat.mod (Nat.mul n s) o) (plN o s n)
theorem insN_mem (x y : Nat) : ∀ l : List Nat, y ∈ insN x l ↔ y = x ∨ y ∈ l
  | [] => by simp [insN]
  | z :: l => by
    unfold insN
    rw [nat_ble, nat_beq]
    by_cases h1 : x ≤ z
    · by_cases h2 : x = z
      · subst h2; simp
      · simp [h1, h2]
    · simp only [h1, decide_false, cond_false, List.mem_cons, insN_mem x y l]
      exact ⟨fun h => by rcases h with h | h | h <;> simp [h], fun h => by rcases h with h | h | h <;> simp [h]⟩
theorem insN_sorted (x : Nat) : ∀ {l : List Nat}, l.Pairwise (· < ·) → (insN x l).Pairwise (· < ·)
  | [], _ => by simp [insN]
  | z :: l, h => by
    rw [List.pairwise_cons] at h
    unfold insN
    rw [nat_ble, nat_beq]
    by_cases h1 : x ≤ z
    · by_cases h2 : x = z
      · subst h2; simp only [Nat.le_refl, decide_true, cond_true]; exact List.pairwise_cons.2 h
      · simp only [h1, h2, decide_true, decide_false, cond_true, cond_false]
        refine List.pairwise_cons.2 ⟨fun y hy => ?_, List.pairwise_cons.2 h⟩
        rcases List.mem_cons.1 hy with rfl | hy
        · omega
        · have := h.1 y hy; omega
    · simp only [h1, decide_false, cond_false]
      refine List.pairwise_cons.2 ⟨fun y hy => ?_, insN_sorted x h.2⟩
      rcases (insN_mem x y l).1 hy with rfl | hy
      · omega
      · exact h.1 y hy
theorem plN_mem (o s x : Nat) : ∀ n, x ∈ plN o s n ↔ ∃ i, i < n ∧ x = i * s % o
  | 0 => by simp [plN]
  | n + 1 => by
    unfold plN
    rw [insN_mem, plN_mem o s x n]
    constructor
    · rintro (h | ⟨i, h1, h2⟩)
      · exact ⟨n, by omega, h⟩
      · exact ⟨i, by omega, h2⟩
    · rintro ⟨i, h1, h2⟩
      by_cases h3 : i = n
      · subst h3; exact .inl h2
      · exact .inr ⟨i, by omega, h2⟩
theorem plN_sorted (o s : Nat) : ∀ n, (plN o s n).Pairwise (· < ·)
  | 0 => by simp [plN]
  | n + 1 => insN_sorted _ (plN_sorted o s n)
theorem same_sorted : ∀ {l1 l2 : List Int}, l1.Pairwise (· < ·) → l2.Pairwise (· < ·) → (∀ x, x ∈ l1 ↔ x ∈ l2) → l1 = l2
  | [], [], _, _, _ => rfl
  | [], b :: l, _, _, h => absurd ((h b).2 (List.mem_cons_self ..)) List.not_mem_nil
  | a :: l, [], _, _, h => absurd ((h a).1 (List.mem_cons_self ..)) List.not_mem_nil
  | a :: l1, b :: l2, h1, h2, h => by
    rw [List.pairwise_cons] at h1 h2
    have hab : a = b := by
      rcases List.mem_cons.1 ((h a).1 (List.mem_cons_self ..)) with e | e
      · exact e
      · rcases List.mem_cons.1 ((h b).2 (List.mem_cons_self ..)) with e2 | e2
        · exact e2.symm
        · have := h2.1 a e; have := h1.1 b e2; omega
    subst hab
    rw [same_sorted h1.2 h2.2 fun x => ?_]
    constructor
    · intro hx
      rcases List.mem_cons.1 ((h x).1 (List.mem_cons_of_mem _ hx)) with e | e
      · subst e; have := h1.1 x hx; omega
      · exact e
    · intro hx
      rcases List.mem_cons.1 ((h x).2 (List.mem_cons_of_mem _ hx)) with e | e
      · subst e; have := h2.1 x hx; omega
      · exact e
def plOk (o s n : Nat) : Bool := Nat.ble 1 o && (Nat.ble o 1000 && (Nat.ble s 1000 && (Nat.ble 1 n && Nat.ble n 11)))
noncomputable def plAns (o s n : Nat) (h : Hp) : Option (AV × Hp) := sel (plOk o s n) (some (.slice h.next 0 (plN o s n).length 0 true, h.new (.row 2 ((plN o s n).map fun x => .int .i64 (.ofNat x)) false none))) none
noncomputable def orcPl (args : List AV) (h : Hp) : Option (AV × Hp) :=
  match args with
  | [.int .i64 (.ofNat o), .int .i64 (.ofNat s), .int .i64 (.ofNat n)] => plAns o s n h
  | _ => none
noncomputable def orcP (O : Orc) : Orc := fun k args h => Bool.rec (O k args h) (orcPl args h) (Nat.beq k 13)
theorem int1 : ∃ i : TypeInfo, Tryz.prog.info? 2 = some i ∧ i.size = 1 := by
  obtain ⟨i, h1, _, h2, _⟩ := info_parts num2
  exact ⟨i, h1, h2⟩
theorem has_places : ∃ fn c, Tryz.prog.funcs[13]? = some fn ∧ fn.body = some c := ⟨Tryz.f13, _, Tryz.func13, rfl⟩
theorem orcP_ok {O : Orc} (hO : OrcOk Tryz.prog O) : OrcOk Tryz.prog (orcP O) := by
  intro k args h v h' he
  unfold orcP at he
  rw [nat_beq] at he
  by_cases hk : k = 13
  · subst hk
    simp only [decide_true] at he
    refine ⟨has_places, fun mark ρ base w us hr hb hm hus => ?_⟩
    have he : orcPl args h = some (v, h') := he
    unfold orcPl at he
    split at he
    · rename_i o s n _
      unfold plAns at he
      obtain ⟨h1, h2⟩ := sel_none he
      simp only [plOk, Bool.and_eq_true, nat_ble, decide_eq_true_eq] at h1
      obtain ⟨a1, a2, a3, a4, a5⟩ := h1
      injection h2 with h2
      injection h2 with h2 h3
      cases hus with
      | cons u1 hus =>
        cases u1
        cases hus with
        | cons u2 hus =>
          cases u2
          cases hus with
          | cons u3 hus =>
            cases u3
            cases hus
            refine (places_any (o : Int) (s : Int) n w (by omega) (by omega) (by omega) (by omega) a5).mono ?_
            rintro e w' ⟨g, m, cap, ts, rfl, h4, h5, h6, h7⟩
            have hts : ts = (plN o s n).map fun x => Int.ofNat x := by
              refine same_sorted h5 ?_ fun x => ?_
              · rw [List.pairwise_map]
                exact (plN_sorted o s n).imp fun h => by simpa using h
              · rw [h6, List.mem_map]
                constructor
                · rintro (h8 | ⟨i, h8, h9⟩)
                  · exact ⟨0, (plN_mem o s 0 n).2 ⟨0, by omega, by simp⟩, h8.symm⟩
                  · exact ⟨i * s % o, (plN_mem o s _ n).2 ⟨i, h8, rfl⟩, by rw [h9]; simp⟩
                · rintro ⟨y, h8, h9⟩
                  obtain ⟨i, h10, h11⟩ := (plN_mem o s y n).1 h8
                  exact .inr ⟨i, h10, by rw [← h9, h11]; simp⟩
            obtain ⟨i, hi, hs⟩ := int1
            obtain ⟨ρ', g1, g2, g3⟩ := own_new hr hb hm h7 hi hs h4
            have hlen := ownJ.len h4
            have hc : ts.map (AV.int .i64) = (plN o s n).map fun x => AV.int .i64 (.ofNat x) := by rw [hts, List.map_map]; rfl
            rw [hc] at g2 g3
            rw [← hlen, hts, List.length_map] at g1
            refine ⟨_, ρ', rfl, ?_, ?_, ?_⟩
            · rw [← h2, ← hlen, hts, List.length_map]; exact g1
            · rw [← h3]; exact g2
            · rw [← h3]; exact g3
    · cases he
  · rw [decide_eq_false hk] at he
    exact hO k args h v h' he
end Go.Proofs.YtpeminhnjdakiaaGreat
end

