/- Small words and lemmas on slices that are read, which all walks of this seat use; no condition. -/
import Derived.Test.YtooddicegkiiiaaRows
import Derived.WalkKit
import Derived.WalkSpells
import Derived.WalkLawsBesides
import Derived.BigRegion
import Derived.BigQuiet
import Derived.Lib.Hide
import Derived.Deep.QuietTactic
import Derived.RangeFuncBox
import Derived.Deep.Cut
import Derived.Deep.DeepCutAuto
import Derived.Deep.RegionWith
namespace Go.Proofs.Ytooddicegkiiiaa
open Go.RowKit

/-- The slice value v, of n elements, reads the cells cs. -/
def RdC (w : World) (v : Value) (n : Nat) (cs : List Value) : Prop :=
  ∃ a cap, v = .slice a n cap ∧ n ≤ cap ∧ cap ≤ maxLen ∧ (cs ≠ [] → ∃ b off, a = some ⟨b, off, none⟩ ∧ b < w.heap.size ∧ ∀ j u, cs[j]? = some u → w.cell? ⟨b, off + j, none⟩ = some u)

/-- A slice of integers of one kind. -/
def RdI (w : World) (k : IntKind) (v : Value) (xs : List Int) : Prop := RdC w v xs.length (xs.map (Value.int k))

/-- A slice of pairs of ints. -/
def prs (V : List (Int × Int)) : List Value := V.flatMap fun p => [.int .i64 p.1, .int .i64 p.2]
def RdP (w : World) (v : Value) (V : List (Int × Int)) : Prop := RdC w v V.length (prs V)

theorem RdC.mono {w w' : World} {v : Value} {n : Nat} {cs : List Value} (h : RdC w v n cs) (hb : Below w.heap.size w w') : RdC w' v n cs := by
  obtain ⟨a, cap, rfl, hc1, hc2, h⟩ := h
  refine ⟨a, cap, rfl, hc1, hc2, fun hne => ?_⟩
  obtain ⟨b, off, rfl, h1, h2⟩ := h hne
  exact ⟨b, off, rfl, Nat.lt_of_lt_of_le h1 hb.size, fun j u hu => (hb.cell (p := ⟨b, off + j, none⟩) h1).trans (h2 j u hu)⟩
theorem RdI.mono {w w' : World} {k : IntKind} {v : Value} {xs : List Int} (h : RdI w k v xs) (hb : Below w.heap.size w w') : RdI w' k v xs := RdC.mono h hb
theorem RdP.mono {w w' : World} {v : Value} {V : List (Int × Int)} (h : RdP w v V) (hb : Below w.heap.size w w') : RdP w' v V := RdC.mono h hb

theorem RdI.form {w : World} {k : IntKind} {v : Value} {xs : List Int} (h : RdI w k v xs) :
    ∃ a cap, v = .slice a xs.length cap ∧ xs.length ≤ cap ∧ cap ≤ maxLen ∧ (0 < xs.length → ∃ b off, a = some ⟨b, off, none⟩ ∧ b < w.heap.size ∧ ∀ j, j < xs.length → w.cell? ⟨b, off + j, none⟩ = some (.int k (xs[j]?.getD 0))) := by
  obtain ⟨a, cap, rfl, hc1, hc2, h⟩ := h
  refine ⟨a, cap, rfl, hc1, hc2, fun hne => ?_⟩
  obtain ⟨b, off, rfl, h1, h2⟩ := h (by intro e; simp at e; subst e; simp at hne)
  exact ⟨b, off, rfl, h1, fun j hj => h2 j _ (by simp [hj])⟩

theorem prs_get (V : List (Int × Int)) : ∀ j, j < V.length → (prs V)[j * 2]? = some (.int .i64 ((V[j]?.getD (0, 0)).1)) ∧ (prs V)[j * 2 + 1]? = some (.int .i64 ((V[j]?.getD (0, 0)).2)) := by
  induction V with
  | nil => intro j hj; simp at hj
  | cons p V ih =>
    intro j hj
    cases j with
    | zero => simp [prs]
    | succ j =>
      have := ih j (by simpa using hj)
      have e1 : (j + 1) * 2 = j * 2 + 1 + 1 := by omega
      simp only [prs, List.flatMap_cons, List.cons_append, List.nil_append] at this ⊢
      rw [e1]
      simpa using this
theorem prs_length (V : List (Int × Int)) : (prs V).length = V.length * 2 := by
  induction V with
  | nil => rfl
  | cons p V ih => simp only [prs, List.flatMap_cons, List.length_append, List.length_cons, List.length_nil] at ih ⊢; omega

theorem RdP.form {w : World} {v : Value} {V : List (Int × Int)} (h : RdP w v V) :
    ∃ a cap, v = .slice a V.length cap ∧ V.length ≤ cap ∧ cap ≤ maxLen ∧ (0 < V.length → ∃ b off, a = some ⟨b, off, none⟩ ∧ b < w.heap.size ∧
      ∀ j, j < V.length → w.cell? ⟨b, off + j * 2, none⟩ = some (.int .i64 ((V[j]?.getD (0, 0)).1)) ∧ w.cell? ⟨b, off + j * 2 + 1, none⟩ = some (.int .i64 ((V[j]?.getD (0, 0)).2))) := by
  obtain ⟨a, cap, rfl, hc1, hc2, h⟩ := h
  refine ⟨a, cap, rfl, hc1, hc2, fun hne => ?_⟩
  obtain ⟨b, off, rfl, h1, h2⟩ := h (by intro e; have := prs_length V; rw [e] at this; simp at this; omega)
  refine ⟨b, off, rfl, h1, fun j hj => ?_⟩
  obtain ⟨g1, g2⟩ := prs_get V j hj
  exact ⟨h2 _ _ g1, by have := h2 _ _ g2; rwa [← Nat.add_assoc] at this⟩

/-- What the call owns reads. -/
theorem RdC.of_owns {w : World} {base : Nat} {e : TypeId} {size : Nat} {v : Value} {n : Nat} {cs : List Value} (h : w.ownsRow base e size v n cs) : RdC w v n cs := by
  have hl := h.1
  have h' := h
  rcases h.2 with ⟨rfl, rfl⟩ | ⟨g, cap, cur, rfl, hb, hg, hc1, hc2, _, htake⟩
  · exact ⟨none, 0, rfl, Nat.le_refl _, by unfold maxLen; omega, fun hne => by simp at hl; exact absurd hl hne⟩
  · refine ⟨_, _, rfl, hc1, hc2, fun hne => ⟨g, 0, rfl, (Array.getElem?_eq_some_iff.1 hg).1, fun j u hu => ?_⟩⟩
    rw [Nat.zero_add, h'.cellAt j (by rw [← hl]; exact (List.getElem?_eq_some_iff.1 hu).1)]
    exact hu
theorem RdI.of_owns {w : World} {base : Nat} {e : TypeId} {k : IntKind} {v : Value} {n : Nat} {xs : List Int} (h : w.ownsRow base e 1 v n (xs.map (Value.int k))) : RdI w k v xs := by
  have hl := h.1
  simp at hl
  subst hl
  exact RdC.of_owns h
theorem RdP.of_owns {w : World} {base : Nat} {e : TypeId} {v : Value} {n : Nat} {V : List (Int × Int)} (h : w.ownsRow base e 2 v n (prs V)) : RdP w v V := by
  have hl := h.1
  rw [prs_length] at hl
  obtain rfl : V.length = n := by omega
  exact RdC.of_owns h

theorem bcell {W w1 : World} (hb : Below W.heap.size W w1) : (∀ b o, b < W.heap.size → w1.cell? ⟨b, o, none⟩ = W.cell? ⟨b, o, none⟩) ∧ (∀ b o, b < W.heap.size → w1.frozen? ⟨b, o, none⟩ = W.frozen? ⟨b, o, none⟩) :=
  ⟨fun b o h => hb.cell (p := ⟨b, o, none⟩) h, fun b o h => hb.frozen (p := ⟨b, o, none⟩) h⟩

theorem bz (w : World) : Below w.heap.size w w := Below.refl _ _
theorem bal {a w : World} (h : Below a.heap.size a w) (o : Obj) : Below a.heap.size a (w.alloc o) := h.alloc h.size o
theorem btr {a w w' : World} (h : Below a.heap.size a w) (h2 : Below w.heap.size w w') : Below a.heap.size a w' := h.trans (h2.mono h.size)
theorem bset {a w : World} (h : Below a.heap.size a w) {p : Addr} (hp : a.heap.size ≤ p.block) (u : Value) : Below a.heap.size a (w.setCell p u) := h.setCell hp u
theorem bgr {a w w' : World} {row : Option Nat} (h : Below a.heap.size a w) (hg : w.grownBy w' row) (hr : ∀ k, row = some k → a.heap.size ≤ k) : Below a.heap.size a w' := h.grown hg h.size hr
theorem Below.drewN' {B : Nat} {a w : World} (n : Nat) (h : Below B a w) : Below B a (w.drewN n) := ⟨h.os, h.tape, h.output, h.size, h.block⟩
theorem ret_int {k : IntKind} {a b : Int} (h : a = b) : Ending.returned (.int k a) = .returned (.int k b) := by rw [h]
theorem ret_bool {a b : Bool} (h : a = b) : Ending.returned (.bool a) = .returned (.bool b) := by rw [h]

/-- A world in which all that was there when w was reads as it did. -/
structure Later (w : World) where
  val : World
  le : Below w.heap.size w val
instance (w : World) : Nonempty (Later w) := ⟨⟨w, Below.refl _ _⟩⟩
theorem Later.cell {w : World} (l : Later w) (b o : Nat) (h : b < w.heap.size) : l.val.cell? ⟨b, o, none⟩ = w.cell? ⟨b, o, none⟩ := l.le.cell (p := ⟨b, o, none⟩) h
theorem wp_region_later {P : Program} {id : Nat} {Q : Exit → Act → World → Prop} {a : Act} {w : World} {l : List Oper} (hm : P.follows .mixedOrders = true) (hB : Region.lexB .any l.toArray = true)
    (h : wpQuiet P l.toArray (fun w' => ∃ x : Later w, w' = x.val) (fun a' => ∀ w', (∃ x : Later w, w' = x.val) → Q .normal a' w') l a) : (Code.region id l.toArray true).wp P Q a w :=
  wp_region_quiet (C := fun w' => ∃ x : Later w, w' = x.val) hm hB ⟨⟨_, Below.drew (Below.refl _ _)⟩, rfl⟩ (by simpa using h)
theorem Calls.later {P : Program} {f : FuncId} {args : Array Value} {w : World} {l : Later w} {v : Value}
    (h : Calls P f args l.val fun e w' => e = .returned v ∧ Below l.val.heap.size l.val w') : Calls P f args l.val fun e w'' => e = .returned v ∧ ∃ x : Later w, w'' = x.val :=
  h.mono fun _ w' ⟨he, hb⟩ => ⟨he, ⟨w', btr l.le hb⟩, rfl⟩

end Go.Proofs.Ytooddicegkiiiaa
