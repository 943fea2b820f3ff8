/- A row in memory to whose valves the call appends; no condition. -/
import Derived.Test.YtdnaipiiponhpaaKeep
namespace Go.Proofs.Ytdnaipiiponhpaa
open Go.RowKit Go.Shelf

structure SOwn (w : World) (g base : Nat) (t : TypeId) (p : Int) (v : Value) (V : List (Int × Int)) : Prop where
  row : w.heap[g]? = some (.cells #[.int .i64 p, v] t (0, 0))
  own : w.ownsRow base 59 2 v V.length (prs V)
  lt : g < base
  le : base ≤ w.heap.size
section
variable {w : World} {g base : Nat} {t : TypeId} {p : Int} {v : Value} {V : List (Int × Int)}
theorem SOwn.c0 (h : SOwn w g base t p v V) : w.cell? ⟨g, 0, none⟩ = some (.int .i64 p) := by rw [cell_of_row w g 0 _ _ _ h.row]; rfl
theorem SOwn.c1 (h : SOwn w g base t p v V) : w.cell? ⟨g, 1, none⟩ = some v := by rw [cell_of_row w g 1 _ _ _ h.row]; rfl
theorem SOwn.f0 (h : SOwn w g base t p v V) : w.frozen? ⟨g, 0, none⟩ = false := frozen_of_row w g 0 _ _ h.row
theorem SOwn.f1 (h : SOwn w g base t p v V) : w.frozen? ⟨g, 1, none⟩ = false := frozen_of_row w g 1 _ _ h.row
theorem SOwn.z (h : SOwn w g base t p v V) : g < w.heap.size := Nat.lt_of_lt_of_le h.lt h.le
theorem SOwn.rd (h : SOwn w g base t p v V) : RdP w v V := RdP.of_owns h.own
theorem SOwn.form (h : SOwn w g base t p v V) : ∃ a c, v = .slice a V.length c := owns_form h.own
theorem SOwn.later {w' : World} (h : SOwn w g base t p v V) (hb : Below w.heap.size w w') : SOwn w' g base t p v V :=
  ⟨(hb.block _ h.z).trans h.row, owns_kept h.own hb, h.lt, Nat.le_trans h.le hb.size⟩
theorem SOwn.new (w : World) (t : TypeId) (p : Int) : SOwn (w.alloc (.cells #[.int .i64 p, .slice none 0 0] t)) w.heap.size (w.heap.size + 1) t p (.slice none 0 0) [] :=
  ⟨heap_alloc_new _ _, World.ownsRow_nil _ _ _ _, Nat.lt_succ_self _, by simp⟩
theorem SOwn.done {w' : World} {v' : Value} {x y : Int} {o : Obj} (h : SOwn w g base t p v V) (hown' : w'.ownsRow base 59 2 v' (V.length + 1) (prs V ++ [.int .i64 x, .int .i64 y])) (hgrow : (w.alloc o).grownBy w' v.ownBlock) :
    w'.cell? ⟨g, 1, none⟩ = some v ∧ w'.frozen? ⟨g, 1, none⟩ = false ∧ g < w'.heap.size ∧ SOwn (w'.setCell ⟨g, 1, none⟩ v') g base t p v' (V ++ [(x, y)]) ∧
      (∀ a : World, Below a.heap.size a w → a.heap.size ≤ g → Below a.heap.size a (w'.setCell ⟨g, 1, none⟩ v')) ∧ ∃ a c, v' = .slice a (V.length + 1) c := by
  have hO := h.own.alloc o
  have hra := (append_keep hO hgrow h.lt (by simp; have := h.z; omega)).trans ((Below.heap_alloc _ _ _ h.z).trans h.row)
  have hnew := heap_setCell_same w' g 1 _ _ v' hra
  have hlt := h.lt
  have hkeep := (hown'.kept (w' := w'.setCell ⟨g, 1, none⟩ v') (grownBy_set w' _ _) (by
    cases hvv : v'.ownBlock with
    | none => exact .inl rfl
    | some q => exact .inr (by intro e; cases e; have := (hown'.lt _ hvv).1; simp only at this; omega)))
  have hsz : w.heap.size ≤ w'.heap.size := by have := hgrow.size; simp at this; omega
  refine ⟨by rw [cell_of_row w' g 1 _ _ _ hra]; rfl, frozen_of_row w' g 1 _ _ hra, (Array.getElem?_eq_some_iff.1 hra).1, ⟨hnew, ?_, h.lt, ?_⟩, fun a ha hag => ?_, owns_form hown'⟩
  · rw [List.length_append, prs_append]; exact hkeep
  · have := h.le; simp; omega
  · exact Below.setCell (append_below (bal ha o) hO hgrow (by omega)) hag _
theorem info59 : ∃ i, Try.prog.info? 59 = some i ∧ i.zero = some (.agg #[.int .i64 0, .int .i64 0]) ∧ i.size = 2 ∧ i.bytes = 16 := by
  obtain ⟨i0, hi, hz0, hz1, hz2⟩ := info_parts Try.info59
  exact ⟨i0, hi, hz0, hz1, hz2⟩
/-- 'append' of one pair to the row's valves; the pair has just been laid into a block of its own. -/
theorem wpList_append_pair {ops : Array Oper} {rest : List Oper} {o : Oper} {a : Act} {Q : Exit → Act → World → Prop} (hgd : o.guard = none) (s x : Operand)
    (ho : o.op = .call { callee := .builtin .append, args := #[s, x], argTypes := #[22, 22] }) (h : SOwn w g base t p v V) (q1 q2 : Int) (hs : a.eval s = v) (hx : a.eval x = .slice (some ⟨w.heap.size, 0, none⟩) 1 1) (hl : V.length ≤ 1000)
    (H : ∀ v' w', w'.ownsRow base 59 2 v' (V.length + 1) (prs V ++ [.int .i64 q1, .int .i64 q2]) → (w.alloc (.cells #[.int .i64 q1, .int .i64 q2] 59)).grownBy w' v.ownBlock → wpList Try.prog ops Q rest (a.put o.dst v') w') :
    wpList Try.prog ops Q (o :: rest) a (w.alloc (.cells #[.int .i64 q1, .int .i64 q2] 59)) := by
  obtain ⟨i0, hi, hz0, hz1, hz2⟩ := info59
  refine wpList_append_own _ hgd s x 22 ho base 59 i0 (.agg #[.int .i64 0, .int .i64 0]) 2 16 Try.underlying22 hi hz0 hz1 hz2 rfl (by decide) _ _ _ hs (h.own.alloc _) ⟨w.heap.size, 0, none⟩ 1 1 [.int .i64 q1, .int .i64 q2] hx rfl (cell_two_new _ _ _ _) (two_int _ _)
    (by simp only [maxLen]; omega) (by omega) (by have := h.le; simp; omega) ?_
  exact fun v' w' h1 h2 _ => H v' w' h1 h2
end
/-- The row is copied into the result's cells. -/
theorem SOwn.out {w : World} {g base : Nat} {t t0 : TypeId} {p : Int} {v u0 u1 : Value} {V : List (Int × Int)} (h : SOwn w g base t p v V) (r : Nat) (hr : w.heap[r]? = some (.cells #[u0, u1] t0 (0, 0))) (hrb : r < g) :
    ((w.setCell ⟨r, 0, none⟩ (.int .i64 p)).setCell ⟨r, 1, none⟩ v).heap[r]? = some (.cells #[.int .i64 p, v] t0 (0, 0)) ∧ RdP ((w.setCell ⟨r, 0, none⟩ (.int .i64 p)).setCell ⟨r, 1, none⟩ v) v V := by
  have hlt := h.lt
  have hb : ∀ (w2 : World) (u : Value) (i : Nat), w2.ownsRow base 59 2 v V.length (prs V) → (w2.setCell ⟨r, i, none⟩ u).ownsRow base 59 2 v V.length (prs V) := fun w2 u i ho =>
    ho.kept (grownBy_set w2 _ _) (by
      cases hvv : v.ownBlock with
      | none => exact .inl rfl
      | some q => exact .inr (by intro e; cases e; have := (ho.lt _ hvv).1; simp only at this; omega))
  exact ⟨heap_setCell_same _ r 1 _ _ v (heap_setCell_same w r 0 _ _ (.int .i64 p) hr), RdP.of_owns (hb _ _ _ (hb _ _ _ h.own))⟩
end Go.Proofs.Ytdnaipiiponhpaa
