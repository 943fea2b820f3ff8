/- One more valve and one more round, laid in whatever order. -/
import Derived.Test.YtdnaipiiponhpaaH5
namespace Go.Proofs.Ytdnaipiiponhpaa
open Go.RowKit Go.Shelf

section
variable {P : Program} {Q : Exit → Act → World → Prop}
/-- Drawn regions, step by step; what is read first holds in each world of S. -/
theorem wp_region_US (S : World → Prop) {id : Nat} {a : Act} {w : World} {l : List Oper} (H W : List Nat) (hm : P.follows .mixedOrders = true) (hB : UB .any l.toArray H W = true)
    (h : ∀ w', Below w.heap.size w w' → w'.heap = w.heap → wpU P l (onlyN (Q .normal)) S H W l.length (Array.replicate l.length false) a w') : (Code.region id l.toArray true).wp P Q a w := by
  refine Code.wp_mono onlyN_imp (wp_region_any hm ?_)
  have := h (w.drewN 1) (Below.drewN' 1 (Below.refl _ _)) rfl hB
  have := wpAny_of_U _ _ _ _ this
  rw [show l.toArray.size = l.length from rfl]
  exact this
end
/-- A later world in which one cell is as it was. -/
structure LaterC (w : World) (p : Addr) (v : Value) where
  val : World
  le : Below w.heap.size w val
  c : val.cell? p = some v
theorem LaterC.old {w : World} {p : Addr} {v : Value} (l : LaterC w p v) (b o : Nat) (h : b < w.heap.size) : l.val.cell? ⟨b, o, none⟩ = w.cell? ⟨b, o, none⟩ := l.le.cell (p := ⟨b, o, none⟩) h
theorem LaterC.at {w : World} {p : Addr} {v : Value} (l : LaterC w p v) : l.val.cell? p = some v := l.c

structure X4 (w0 w : World) (g : Nat) (p : Int) (vX vA : Value) (U : List (Int × Int)) (vR : Value) (R : List Int) (q1 q2 m : Int) (b7 b11 : Option Nat) : Prop where
  row : w.heap[g]? = some (.cells #[.int .i64 p, vX] 24 (0, 0))
  a : w.ownsRow (g + 1) 59 2 vA U.length (prs U)
  r : w.ownsRow (g + 1) 3 1 vR R.length (R.map (Value.int .i64))
  lit7 : ∀ b, b7 = some b → w.heap[b]? = some (.cells #[.int .i64 q1, .int .i64 q2] 59 (0, 0)) ∧ vA.ownBlock ≠ some b
  lit11 : ∀ b, b11 = some b → w.heap[b]? = some (.cells #[.int .i64 m] 3 (0, 0)) ∧ vR.ownBlock ≠ some b
  bel : Below w0.heap.size w0 w
  lo : w0.heap.size ≤ g
section
variable {w0 w : World} {g : Nat} {p : Int} {vX vA vR : Value} {U V : List (Int × Int)} {R R' : List Int} {q1 q2 m : Int} {b7 b11 : Option Nat}
theorem X4.lt (h : X4 w0 w g p vX vA U vR R q1 q2 m b7 b11) : g + 1 ≤ w.heap.size := (Array.getElem?_eq_some_iff.1 h.row).1
theorem own_type {w : World} {base size n : Nat} {e : TypeId} {v : Value} {xs : List Value} (h : w.ownsRow base e size v n xs) {b : Nat} (hb : v.ownBlock = some b) : ∃ cur, w.heap[b]? = some (.cells cur e (0, 0)) := by
  rcases h.2 with ⟨rfl, _⟩ | ⟨k, cap, cur, rfl, _, hg, _⟩
  · cases hb
  · simp [Value.ownBlock] at hb; subst hb; exact ⟨cur, hg⟩
theorem own_fresh' {base size n : Nat} {e : TypeId} {v : Value} {xs : List Value} (h : w.ownsRow base e size v n xs) : v.ownBlock ≠ some w.heap.size := fun e' => by have := (h.lt _ e').2; omega
theorem X4.alloc (h : X4 w0 w g p vX vA U vR R q1 q2 m b7 b11) (o : Obj) : X4 w0 (w.alloc o) g p vX vA U vR R q1 q2 m b7 b11 :=
  ⟨heap_alloc_old _ _ _ _ h.row, h.a.alloc o, h.r.alloc o, fun b e => ⟨heap_alloc_old _ _ _ _ (h.lit7 b e).1, (h.lit7 b e).2⟩, fun b e => ⟨heap_alloc_old _ _ _ _ (h.lit11 b e).1, (h.lit11 b e).2⟩, bal h.bel o, h.lo⟩
theorem X4.later {w' : World} (h : X4 w0 w g p vX vA U vR R q1 q2 m b7 b11) (hb : Below w.heap.size w w') : X4 w0 w' g p vX vA U vR R q1 q2 m b7 b11 :=
  ⟨(hb.block _ (by have := h.lt; omega)).trans h.row, owns_kept h.a hb, owns_kept h.r hb, fun b e => ⟨(hb.block _ (Array.getElem?_eq_some_iff.1 (h.lit7 b e).1).1).trans (h.lit7 b e).1, (h.lit7 b e).2⟩, fun b e => ⟨(hb.block _ (Array.getElem?_eq_some_iff.1 (h.lit11 b e).1).1).trans (h.lit11 b e).1, (h.lit11 b e).2⟩, btr h.bel hb, h.lo⟩
theorem X4.a7 (h : X4 w0 w g p vX vA U vR R q1 q2 m none b11) (b0 : Nat) (hb0 : b0 = w.heap.size) : X4 w0 (w.alloc (.cells #[.int .i64 q1, .int .i64 q2] 59)) g p vX vA U vR R q1 q2 m (some b0) b11 := by
  subst hb0
  have k := h.alloc (.cells #[.int .i64 q1, .int .i64 q2] 59)
  exact ⟨k.row, k.a, k.r, fun b e => by cases e; exact ⟨heap_alloc_new _ _, own_fresh' h.a⟩, k.lit11, k.bel, k.lo⟩
theorem X4.a11 (h : X4 w0 w g p vX vA U vR R q1 q2 m b7 none) (b0 : Nat) (hb0 : b0 = w.heap.size) : X4 w0 (w.alloc (.cells #[.int .i64 m] 3)) g p vX vA U vR R q1 q2 m b7 (some b0) := by
  subst hb0
  have k := h.alloc (.cells #[.int .i64 m] 3)
  exact ⟨k.row, k.a, k.r, k.lit7, fun b e => by cases e; exact ⟨heap_alloc_new _ _, own_fresh' h.r⟩, k.bel, k.lo⟩
theorem ne_type {w : World} {b1 b2 s1 s2 n1 n2 : Nat} {e1 e2 : TypeId} {v1 v2 : Value} {x1 x2 : List Value} (h1 : w.ownsRow b1 e1 s1 v1 n1 x1) (h2 : w.ownsRow b2 e2 s2 v2 n2 x2) (he : e1 ≠ e2) : v1.ownBlock = none ∨ v1.ownBlock ≠ v2.ownBlock := own_ne h1 h2 he
theorem X4.g8 (h : X4 w0 w g p vX vA U vR R q1 q2 m b7 b11) {v' : Value} {w' : World} (h1 : w'.ownsRow (g + 1) 59 2 v' (U ++ V).length (prs (U ++ V))) (h2 : w.grownBy w' vA.ownBlock) (h3 : v'.ownBlock = vA.ownBlock ∨ v'.ownBlock = some w.heap.size) : X4 w0 w' g p vX v' (U ++ V) vR R q1 q2 m b7 b11 := by
  refine ⟨grown_old h2 h.row (fun e => by have := (h.a.lt _ e).1; omega), h1, h.r.kept h2 (ne_type h.r h.a (by decide)), fun b e => ⟨grown_old h2 (h.lit7 b e).1 (h.lit7 b e).2, fun e' => ?_⟩, fun b e => ⟨grown_old h2 (h.lit11 b e).1 (fun e' => ?_), (h.lit11 b e).2⟩, bgr h.bel h2 fun k e => by have := (h.a.lt k e).1; have := h.lo; omega, h.lo⟩
  · rcases h3 with h3 | h3
    · exact (h.lit7 b e).2 (by rw [← h3]; exact e')
    · have := (Array.getElem?_eq_some_iff.1 (h.lit7 b e).1).1
      rw [h3] at e'; simp at e'; omega
  · obtain ⟨cur, hc⟩ := own_type h.a e'
    rw [(h.lit11 b e).1] at hc; simp at hc
theorem X4.g12 (h : X4 w0 w g p vX vA U vR R q1 q2 m b7 b11) {v' : Value} {w' : World} (h1 : w'.ownsRow (g + 1) 3 1 v' (R ++ R').length ((R ++ R').map (Value.int .i64))) (h2 : w.grownBy w' vR.ownBlock) : X4 w0 w' g p vX vA U v' (R ++ R') q1 q2 m b7 none := by
  refine ⟨grown_old h2 h.row (fun e => by have := (h.r.lt _ e).1; omega), h.a.kept h2 (ne_type h.a h.r (by decide)), h1, fun b e => ⟨grown_old h2 (h.lit7 b e).1 (fun e' => ?_), (h.lit7 b e).2⟩, fun b e => (by cases e), bgr h.bel h2 fun k e => by have := (h.r.lt k e).1; have := h.lo; omega, h.lo⟩
  obtain ⟨cur, hc⟩ := own_type h.r e'
  rw [(h.lit7 b e).1] at hc; simp at hc
theorem X4.rd7 {b : Nat} (h : X4 w0 w g p vX vA U vR R q1 q2 m (some b) b11) : RdP w (.slice (some ⟨b, 0, none⟩) 1 1) [(q1, q2)] := by
  have h1 := (h.lit7 b rfl).1
  refine ⟨_, _, rfl, by simp, by simp only [maxLen]; omega, fun _ => ⟨b, 0, rfl, (Array.getElem?_eq_some_iff.1 h1).1, fun j u hj => ?_⟩⟩
  match j, hj with
  | 0, hj => rw [cell_of_row w b _ _ _ _ h1]; simp [prs] at hj; subst hj; rfl
  | 1, hj => rw [cell_of_row w b _ _ _ _ h1]; simp [prs] at hj; subst hj; rfl
theorem X4.rd11 {b : Nat} (h : X4 w0 w g p vX vA U vR R q1 q2 m b7 (some b)) : ∀ j, j < 1 → w.cell? ⟨b, 0 + j, none⟩ = some (.int .i64 (([m] : List Int)[j]?.getD 0)) := by
  intro j hj
  obtain rfl : j = 0 := by omega
  rw [cell_of_row w b _ _ _ _ (h.lit11 b rfl).1]; rfl
theorem X4.cx (h : X4 w0 w g p vX vA U vR R q1 q2 m b7 b11) : w.cell? ⟨g, 1, none⟩ = some vX := by rw [cell_of_row w g _ _ _ _ h.row]; rfl
theorem X4.fx (h : X4 w0 w g p vX vA U vR R q1 q2 m b7 b11) : w.frozen? ⟨g, 1, none⟩ = false := frozen_of_row w g _ _ _ h.row
/-- The struct's cell takes the new valves. -/
theorem X4.put (h : X4 w0 w g p vX vA U vR R q1 q2 m b7 b11) : SOwn (w.setCell ⟨g, 1, none⟩ vA) g (g + 1) 24 p vA U ∧ (w.setCell ⟨g, 1, none⟩ vA).ownsRow (g + 1) 3 1 vR R.length (R.map (Value.int .i64)) ∧ Below w0.heap.size w0 (w.setCell ⟨g, 1, none⟩ vA) := by
  have hk : ∀ (v : Value), (∀ k, v.ownBlock = some k → g + 1 ≤ k) → (v.ownBlock = none ∨ v.ownBlock ≠ some g) := fun v hv => by
    cases e : v.ownBlock with
    | none => exact .inl rfl
    | some k => exact .inr (by intro e'; cases e'; have := hv _ e; omega)
  refine ⟨⟨heap_setCell_same w g 1 _ _ vA h.row, h.a.kept (grownBy_set w _ _) (hk _ fun k e => (h.a.lt k e).1), Nat.lt_succ_self _, by have := h.lt; simp; omega⟩, h.r.kept (grownBy_set w _ _) (hk _ fun k e => (h.r.lt k e).1), bset h.bel (p := ⟨g, 1, none⟩) h.lo _⟩
end
end Go.Proofs.Ytdnaipiiponhpaa
