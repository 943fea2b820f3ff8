/- A row's valves, copied into a row of the call's own, and one more. -/
import Derived.Test.YtdnaipiiponhpaaH4
import Derived.Laws.OwnMore
namespace Go.Proofs.Ytdnaipiiponhpaa
open Go.RowKit Go.Shelf

theorem run_append_none {P : Program} {w : World} {base size n : Nat} {e : TypeId} {v : Value} {xs : List Value} (t ty : TypeId) (i : TypeInfo) (ht : P.underlying t = some (.slice e)) (hi : P.info? e = some i) (h : w.ownsRow base e size v n xs) (c : Nat) :
    (Builtin.append_ #[t, t] ty #[v, .slice none 0 c]).run P w = .ok v w := by
  rcases h.2 with ⟨rfl, rfl⟩ | ⟨g, cap, cur, rfl, _, hg, hc, _⟩
  · simp [Builtin.append_, run_underlying ht, sizeOf, typeInfo, hi, Builtin.lenOf, Builtin.firstCells]
  · simp [Builtin.append_, run_underlying ht, sizeOf, typeInfo, hi, Builtin.lenOf, Builtin.firstCells, hc, storeCells]
theorem prs_num (V : List (Int × Int)) : ∀ u ∈ prs V, u.oneCell' = true := by
  intro u hu
  simp only [prs, List.mem_flatMap] at hu
  obtain ⟨p, _, hu⟩ := hu
  simp at hu
  rcases hu with rfl | rfl <;> rfl
/-- 'append' of a row's valves to a row of the call's own. -/
theorem wpList_append_rows {w : World} {base : Nat} {v y : Value} {U V : List (Int × Int)} {ops : Array Oper} {rest : List Oper} {o : Oper} {a : Act} {Q : Exit → Act → World → Prop} (hgd : o.guard = none) (s x : Operand)
    (ho : o.op = .call { callee := .builtin .append, args := #[s, x], argTypes := #[22, 22] })
    (h : w.ownsRow base 59 2 v U.length (prs U)) (hs : a.eval s = v) (hx : a.eval x = y) (hy : RdP w y V) (hl : U.length ≤ 1000) (hl2 : V.length ≤ 1000) (hb : base ≤ w.heap.size)
    (H : ∀ v' w', w'.ownsRow base 59 2 v' (U ++ V).length (prs (U ++ V)) → w.grownBy w' v.ownBlock → (v'.ownBlock = v.ownBlock ∨ v'.ownBlock = some w.heap.size) → wpList Try.prog ops Q rest (a.put o.dst v') w') :
    wpList Try.prog ops Q (o :: rest) a w := by
  obtain ⟨i0, hi, hz0, hz1, hz2⟩ := info59
  obtain ⟨ad, c, rfl, _, _, hc⟩ := hy
  have hlen : (prs V).length = V.length * 2 := prs_length V
  cases ad with
  | none =>
    have hV : V = [] := by
      cases V with
      | nil => rfl
      | cons p V => obtain ⟨b, off, h1, _⟩ := hc (by simp [prs]); cases h1
    subst hV
    refine wpList_plain hgd fun K hK => ?_
    have hrun := run_append_none (P := Try.prog) (w := w) 22 o.type i0 Try.underlying22 hi h c
    unfold Oper.wp
    simp [execOp, ho, resolve, invoke, builtin, hs, hx, hrun, Result.andThen]
    exact hK _ _ (H v w (by simpa using h) ⟨rfl, rfl, rfl, Nat.le_refl _, fun _ _ _ => rfl⟩ (.inl rfl))
  | some ad =>
    refine wpList_append_own_at _ hgd s x 22 ho base 59 i0 (.agg #[.int .i64 0, .int .i64 0]) 2 16 Try.underlying22 hi hz0 hz1 hz2 rfl (by decide) _ _ _ hs h ad V.length c (prs V) hx hlen (fun j u hj => ?_) (prs_num V)
      (by simp only [maxLen]; omega) (by omega) hb fun v' w' h1 h2 _ h4 => H v' w' (by rw [List.length_append, prs_append]; exact h1) h2 h4
    obtain ⟨b, off, h1, _, h3⟩ := hc (by intro e; rw [e] at hj; simp at hj)
    obtain rfl : ad = ⟨b, off, none⟩ := by simpa using h1
    rw [Go.WideShapes.add_plain]
    exact h3 j u hj
/-- What one more valve at a row's end needs, in whatever order it is laid: a copy of the valves, a pair, a row. -/
structure X3 (wc w : World) (vA : Value) (U : List (Int × Int)) (q1 q2 : Int) (b13 b16 : Option Nat) : Prop where
  own : w.ownsRow wc.heap.size 59 2 vA U.length (prs U)
  lit : ∀ b, b13 = some b → w.heap[b]? = some (.cells #[.int .i64 q1, .int .i64 q2] 59 (0, 0)) ∧ wc.heap.size ≤ b ∧ vA.ownBlock ≠ some b
  str : ∀ b, b16 = some b → w.heap[b]? = some (.cells #[.int .i64 0, .slice none 0 0] 24 (0, 0)) ∧ wc.heap.size ≤ b ∧ vA.ownBlock ≠ some b
  le : Below wc.heap.size wc w
section
variable {wc w : World} {vA : Value} {U V : List (Int × Int)} {q1 q2 : Int} {b13 b16 : Option Nat}
theorem X3.nil (wc : World) (q1 q2 : Int) : X3 wc wc (.slice none 0 0) [] q1 q2 none none := ⟨World.ownsRow_nil _ _ _ _, fun b h => by (cases h), fun b h => by (cases h), bz _⟩
theorem heap_alloc_old (w : World) (o : Obj) (b : Nat) (x : Obj) (h : w.heap[b]? = some x) : (w.alloc o).heap[b]? = some x := by
  have hb : b < w.heap.size := (Array.getElem?_eq_some_iff.1 h).1
  exact (Below.heap_alloc _ _ _ hb).trans h
theorem X3.alloc (h : X3 wc w vA U q1 q2 b13 b16) (o : Obj) : X3 wc (w.alloc o) vA U q1 q2 b13 b16 :=
  ⟨h.own.alloc o, fun b e => ⟨heap_alloc_old _ _ _ _ (h.lit b e).1, (h.lit b e).2⟩, fun b e => ⟨heap_alloc_old _ _ _ _ (h.str b e).1, (h.str b e).2⟩, bal h.le o⟩
theorem own_fresh (h : w.ownsRow wc.heap.size 59 2 vA U.length (prs U)) : vA.ownBlock ≠ some w.heap.size := fun e => by have := (h.lt _ e).2; omega
theorem X3.a13 (h : X3 wc w vA U q1 q2 none b16) (b0 : Nat) (hb0 : b0 = w.heap.size) : X3 wc (w.alloc (.cells #[.int .i64 q1, .int .i64 q2] 59)) vA U q1 q2 (some b0) b16 := by
  subst hb0
  have k := h.alloc (.cells #[.int .i64 q1, .int .i64 q2] 59)
  exact ⟨k.own, fun b e => by cases e; exact ⟨heap_alloc_new _ _, h.le.size, own_fresh h.own⟩, k.str, k.le⟩
theorem X3.a16 (h : X3 wc w vA U q1 q2 b13 none) (b0 : Nat) (hb0 : b0 = w.heap.size) : X3 wc (w.alloc (.cells #[.int .i64 0, .slice none 0 0] 24)) vA U q1 q2 b13 (some b0) := by
  subst hb0
  have k := h.alloc (.cells #[.int .i64 0, .slice none 0 0] 24)
  exact ⟨k.own, k.lit, fun b e => by cases e; exact ⟨heap_alloc_new _ _, h.le.size, own_fresh h.own⟩, k.le⟩
theorem X3.a2 (h : X3 wc w (.slice none 0 0) [] q1 q2 b13 b16) (b0 : Nat) (hb0 : b0 = w.heap.size) : X3 wc (w.alloc (.cells #[] 59)) (.slice (some ⟨b0, 0, none⟩) 0 0) [] q1 q2 b13 b16 := by
  subst hb0
  have k := h.alloc (.cells #[] 59)
  refine ⟨World.ownsRow_lit w #[] 0 h.le.size (by simp only [maxLen]; omega) rfl, fun b e => ⟨(k.lit b e).1, (h.lit b e).2.1, fun e' => ?_⟩, fun b e => ⟨(k.str b e).1, (h.str b e).2.1, fun e' => ?_⟩, k.le⟩
  · have := (Array.getElem?_eq_some_iff.1 (h.lit b e).1).1
    simp [Value.ownBlock] at e'; omega
  · have := (Array.getElem?_eq_some_iff.1 (h.str b e).1).1
    simp [Value.ownBlock] at e'; omega
theorem grown_old {w w' : World} {row : Option Nat} (hg : w.grownBy w' row) {b : Nat} {x : Obj} (h : w.heap[b]? = some x) (hne : row ≠ some b) : w'.heap[b]? = some x := by
  have hb : b < w.heap.size := (Array.getElem?_eq_some_iff.1 h).1
  exact (hg.block b hb (Ne.symm hne)).trans h
theorem X3.grow (h : X3 wc w vA U q1 q2 b13 b16) {v' : Value} {w' : World} (h1 : w'.ownsRow wc.heap.size 59 2 v' (U ++ V).length (prs (U ++ V))) (h2 : w.grownBy w' vA.ownBlock) (h3 : v'.ownBlock = vA.ownBlock ∨ v'.ownBlock = some w.heap.size) : X3 wc w' v' (U ++ V) q1 q2 b13 b16 := by
  refine ⟨h1, fun b e => ⟨grown_old h2 (h.lit b e).1 (h.lit b e).2.2, (h.lit b e).2.1, fun e' => ?_⟩, fun b e => ⟨grown_old h2 (h.str b e).1 (h.str b e).2.2, (h.str b e).2.1, fun e' => ?_⟩, bgr h.le h2 fun k e => (h.own.lt k e).1⟩
  · rcases h3 with h3 | h3
    · exact (h.lit b e).2.2 (by rw [← h3]; exact e')
    · have := (Array.getElem?_eq_some_iff.1 (h.lit b e).1).1
      rw [h3] at e'; simp at e'; omega
  · rcases h3 with h3 | h3
    · exact (h.str b e).2.2 (by rw [← h3]; exact e')
    · have := (Array.getElem?_eq_some_iff.1 (h.str b e).1).1
      rw [h3] at e'; simp at e'; omega
theorem X3.rd {b : Nat} (h : X3 wc w vA U q1 q2 (some b) b16) : RdP w (.slice (some ⟨b, 0, none⟩) 1 1) [(q1, q2)] := by
  have h1 := (h.lit b rfl).1
  refine ⟨_, _, rfl, by simp, by simp only [maxLen]; omega, fun _ => ⟨b, 0, rfl, (Array.getElem?_eq_some_iff.1 h1).1, fun j u hj => ?_⟩⟩
  match j, hj with
  | 0, hj => rw [cell_of_row w b _ _ _ _ h1]; simp [prs] at hj; subst hj; rfl
  | 1, hj => rw [cell_of_row w b _ _ _ _ h1]; simp [prs] at hj; subst hj; rfl
theorem X3.cell {b : Nat} (h : X3 wc w vA U q1 q2 b13 (some b)) : b < w.heap.size ∧ wc.heap.size ≤ b ∧ w.cell? ⟨b, 0, none⟩ = some (.int .i64 0) ∧ w.cell? ⟨b, 1, none⟩ = some (.slice none 0 0) ∧ w.frozen? ⟨b, 0, none⟩ = false ∧ w.frozen? ⟨b, 1, none⟩ = false := by
  obtain ⟨h1, h2, _⟩ := h.str b rfl
  exact ⟨(Array.getElem?_eq_some_iff.1 h1).1, h2, by rw [cell_of_row w b _ _ _ _ h1]; rfl, by rw [cell_of_row w b _ _ _ _ h1]; rfl, frozen_of_row w b _ _ _ h1, frozen_of_row w b _ _ _ h1⟩
/-- The row is laid into its cells. -/
theorem X3.put {b : Nat} (h : X3 wc w vA U q1 q2 b13 (some b)) (n : Int) : ∃ G : World → Prop, Keep ((w.setCell ⟨b, 0, none⟩ (.int .i64 n)).setCell ⟨b, 1, none⟩ vA) G ∧ (∀ w', G w' → w'.cell? ⟨b, 0, none⟩ = some (.int .i64 n) ∧ w'.cell? ⟨b, 1, none⟩ = some vA ∧ RdP w' vA U ∧ Below wc.heap.size wc w') := by
  obtain ⟨h1, h2, h3⟩ := h.str b rfl
  have e1 := heap_setCell_same w b 0 _ _ (.int .i64 n) h1
  have e2 := heap_setCell_same _ b 1 _ _ vA e1
  have hk : ∀ (w2 : World) (u : Value) (i : Nat), w2.ownsRow wc.heap.size 59 2 vA U.length (prs U) → (w2.setCell ⟨b, i, none⟩ u).ownsRow wc.heap.size 59 2 vA U.length (prs U) := fun w2 u i ho =>
    ho.kept (grownBy_set w2 _ _) (.inr h3)
  have hb : Below wc.heap.size wc ((w.setCell ⟨b, 0, none⟩ (.int .i64 n)).setCell ⟨b, 1, none⟩ vA) := bset (bset h.le (p := ⟨b, 0, none⟩) h2 _) (p := ⟨b, 1, none⟩) h2 _
  refine ⟨_, (((keepC (p := ⟨b, 0, none⟩) (v := .int .i64 n) (by rw [cell_of_row _ b _ _ _ _ e2]; rfl)).and (keepC (p := ⟨b, 1, none⟩) (v := vA) (by rw [cell_of_row _ b _ _ _ _ e2]; rfl))).and (keepP (RdP.of_owns (hk _ _ _ (hk _ _ _ h.own))))).and (keepB hb), fun w' hg => ⟨hg.2.2.2, hg.2.2.1, hg.2.1, hg.1⟩⟩
end
end Go.Proofs.Ytdnaipiiponhpaa
