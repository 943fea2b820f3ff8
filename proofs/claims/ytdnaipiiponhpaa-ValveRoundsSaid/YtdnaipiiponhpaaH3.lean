/- Two rows of numbers of the call's own, of one type; a row copied into a row of the call's own. -/
import Derived.Test.YtdnaipiiponhpaaH2
import Derived.Maps.AppendAt
namespace Go.Proofs.Ytdnaipiiponhpaa
open Go.RowKit Go.Shelf

theorem rdI_cells {w : World} {k : IntKind} {a : Option Addr} {n c : Nat} {xs : List Int} (h : RdI w k (.slice a n c) xs) (hl : xs.length = n) : 0 < n → ∃ b off, a = some ⟨b, off, none⟩ ∧ b < w.heap.size ∧ ∀ j, j < n → w.cell? ⟨b, off + j, none⟩ = some (.int k (xs[j]?.getD 0)) := by
  subst hl
  obtain ⟨a', c', he, _, _, hx⟩ := h.form
  simp only [Value.slice.injEq, true_and] at he
  obtain ⟨rfl, rfl⟩ := he
  exact hx
theorem rdI_cells2 {w : World} {k : IntKind} {b off n c : Nat} {xs : List Int} (h : RdI w k (.slice (some ⟨b, off, none⟩) n c) xs) (hl : xs.length = n) (hn : 0 < n) : b < w.heap.size ∧ ∀ j, j < n → w.cell? ⟨b, off + j, none⟩ = some (.int k (xs[j]?.getD 0)) := by
  obtain ⟨b', o', e, h1, h2⟩ := rdI_cells h hl hn
  simp only [Option.some.injEq, Addr.mk.injEq, and_true] at e
  obtain ⟨rfl, rfl⟩ := e
  exact ⟨h1, h2⟩
/-- Two rows of numbers that have no block in common. -/
structure Own2N (w : World) (base : Nat) (e : TypeId) (u v : Value) (xs ys : List Int) : Prop where
  a : w.ownsRow base e 1 u xs.length (xs.map (Value.int .i64))
  b : w.ownsRow base e 1 v ys.length (ys.map (Value.int .i64))
  ne : u.ownBlock = none ∨ u.ownBlock ≠ v.ownBlock
theorem Own2N.nil (w : World) (base : Nat) (e : TypeId) : Own2N w base e (.slice none 0 0) (.slice none 0 0) [] [] := ⟨World.ownsRow_nil _ _ _ _, World.ownsRow_nil _ _ _ _, .inl rfl⟩
theorem Own2N.later {w w' : World} {base : Nat} {e : TypeId} {u v : Value} {xs ys : List Int} (h : Own2N w base e u v xs ys) (hb : Below w.heap.size w w') : Own2N w' base e u v xs ys :=
  ⟨owns_kept h.a hb, owns_kept h.b hb, h.ne⟩
theorem Own2N.swap {w : World} {base : Nat} {e : TypeId} {u v : Value} {xs ys : List Int} (h : Own2N w base e u v xs ys) : Own2N w base e v u ys xs := by
  refine ⟨h.b, h.a, ?_⟩
  rcases h.ne with h1 | h1
  · cases hv : v.ownBlock with
    | none => exact .inl rfl
    | some k => exact .inr (by rw [h1]; simp)
  · exact .inr (Ne.symm h1)
theorem keepO {w : World} {base : Nat} {e : TypeId} {u v : Value} {xs ys : List Int} (h : Own2N w base e u v xs ys) : Keep w (fun w => Own2N w base e u v xs ys) := fun _ hb => h.later hb
theorem keepW {w : World} {base e size n : Nat} {v : Value} {xs : List Value} (h : w.ownsRow base e size v n xs) : Keep w (fun w => w.ownsRow base e size v n xs) := fun _ hb => owns_kept h hb
/-- 'append' of a number to the first one. -/
theorem Own2N.push {w : World} {base : Nat} {t e : TypeId} {u v : Value} {xs ys : List Int} {ops : Array Oper} {rest : List Oper} {o : Oper} {a : Act} {Q : Exit → Act → World → Prop} (hgd : o.guard = none) (s x : Operand)
    (ho : o.op = .call { callee := .builtin .append, args := #[s, x], argTypes := #[t, t] }) (ht : Try.prog.underlying t = some (.slice e)) (hie : (Try.prog.info? e).map (fun i => (i.zero, i.size, i.bytes)) = some (some (.int .i64 0), 1, 8))
    (h : Own2N w base e u v xs ys) (q : Int) (hs : a.eval s = u) (hx : a.eval x = .slice (some ⟨w.heap.size, 0, none⟩) 1 1) (hl : xs.length ≤ 1000) (hb : base ≤ w.heap.size)
    (H : ∀ u' w', Own2N w' base e u' v (xs ++ [q]) ys → (∀ z : World, Below z.heap.size z w → z.heap.size ≤ base → Below z.heap.size z w') → wpList Try.prog ops Q rest (a.put o.dst u') w') :
    wpList Try.prog ops Q (o :: rest) a (w.alloc (.cells #[.int .i64 q] e)) := by
  obtain ⟨i0, hi, hz0, hz1, hz2⟩ := info_parts hie
  refine wpList_append_own_at _ hgd s x t ho base e i0 (.int .i64 0) 1 8 ht hi hz0 hz1 hz2 rfl (by decide) _ _ _ hs (h.a.alloc _) ⟨w.heap.size, 0, none⟩ 1 1 [.int .i64 q] hx rfl (fun j u hj => ?_) (fun u hu => by simp at hu; subst hu; rfl)
    (by simp only [maxLen]; omega) (by omega) (by simp; omega) ?_
  · match j, hj with
    | 0, hj => simp at hj; subst hj; rw [Go.WideShapes.add_plain]; simp
  · intro u' w' h1 h2 _ h4
    refine H u' w' ⟨?_, ?_, ?_⟩ fun z hz hzb => append_below (bal hz _) (h.a.alloc _) h2 hzb
    · rw [List.map_append, List.length_append]; exact h1
    · refine (h.b.alloc _).kept h2 ?_
      rcases h.swap.ne with h5 | h5
      · exact .inl h5
      · exact .inr h5
    · rcases h4 with h4 | h4
      · rw [h4]; exact h.ne
      · refine .inr ?_
        rw [h4]
        intro e'
        have := (h.b.lt _ e'.symm).2
        simp at this
        omega
/-- 'append' of a whole row of numbers to a row of the call's own. -/
theorem wpList_append_row {w : World} {base : Nat} {t e : TypeId} {v : Value} {xs ys : List Int} {ops : Array Oper} {rest : List Oper} {o : Oper} {a : Act} {Q : Exit → Act → World → Prop} (hgd : o.guard = none) (s x : Operand)
    (ho : o.op = .call { callee := .builtin .append, args := #[s, x], argTypes := #[t, t] }) (ht : Try.prog.underlying t = some (.slice e)) (hie : (Try.prog.info? e).map (fun i => (i.zero, i.size, i.bytes)) = some (some (.int .i64 0), 1, 8))
    (h : w.ownsRow base e 1 v xs.length (xs.map (Value.int .i64))) (hs : a.eval s = v) {b off c m : Nat} (hm : ys.length = m) (hx : a.eval x = .slice (some ⟨b, off, none⟩) m c) (hc : ∀ j, j < m → w.cell? ⟨b, off + j, none⟩ = some (.int .i64 (ys[j]?.getD 0))) (hl : xs.length ≤ 1000) (hl2 : ys.length ≤ 1000) (hb : base ≤ w.heap.size)
    (H : ∀ v' w', w'.ownsRow base e 1 v' (xs ++ ys).length ((xs ++ ys).map (Value.int .i64)) → w.grownBy w' v.ownBlock → wpList Try.prog ops Q rest (a.put o.dst v') w') :
    wpList Try.prog ops Q (o :: rest) a w := by
  subst hm
  obtain ⟨i0, hi, hz0, hz1, hz2⟩ := info_parts hie
  refine wpList_append_own _ hgd s x t ho base e i0 (.int .i64 0) 1 8 ht hi hz0 hz1 hz2 rfl (by decide) _ _ _ hs h ⟨b, off, none⟩ ys.length c (ys.map (Value.int .i64)) hx (by simp) (fun j u hj => ?_) (fun u hu => by obtain ⟨z, _, rfl⟩ := List.mem_map.1 hu; rfl)
    (by simp only [maxLen]; omega) (by omega) hb ?_
  · rw [Go.WideShapes.add_plain]
    have hjl : j < ys.length := by have := (List.getElem?_eq_some_iff.1 hj).1; simpa using this
    rw [hc j hjl, ← hj]
    simp [hjl]
  · intro v' w' h1 h2 _
    refine H v' w' ?_ h2
    rw [List.map_append, List.length_append]; exact h1
theorem owns_num {w : World} {base g n c : Nat} {e : TypeId} {S : List Int} (h : w.ownsRow base e 1 (.slice (some ⟨g, 0, none⟩) n c) n (S.map (Value.int .i64))) (hl : S.length = n) (j : Nat) (hj : j < n) : w.cell? ⟨g, j, none⟩ = some (.int .i64 (S[j]?.getD 0)) := by
  have := h.cellAt j (by omega)
  rw [this]
  simp [show j < S.length by omega]
theorem owns_put {w : World} {base g n c : Nat} {e : TypeId} {S : List Int} (h : w.ownsRow base e 1 (.slice (some ⟨g, 0, none⟩) n c) n (S.map (Value.int .i64))) (j : Nat) (u : Int) : (w.setCell ⟨g, j, none⟩ (.int .i64 u)).ownsRow base e 1 (.slice (some ⟨g, 0, none⟩) n c) n ((S.set j u).map (Value.int .i64)) := by
  have := (h.stored j (.int .i64 u)).1
  rwa [← List.map_set] at this
theorem owns_some {w : World} {base n c : Nat} {e : TypeId} {a : Option Addr} {xs : List Value} (h : w.ownsRow base e 1 (.slice a n c) n xs) (hn : 0 < n) : ∃ g, a = some ⟨g, 0, none⟩ := by
  rcases h.2 with ⟨h, hn⟩ | ⟨g, cap, cur, h, _⟩
  · omega
  · simp at h; exact ⟨g, h.1⟩
section
variable {P : Program} {Q : Exit → Act → World → Prop}
/-- One walk serves every order; what the region reads is older than a world before it, and stays. -/
theorem wp_region_flow_at {id : Nat} {a : Act} {w : World} {l : List Oper} (w0 : World) (hw : Below w0.heap.size w0 w) (pre : List Nat) (segs : List (List Nat × Nat × Bool)) (last : List Nat) (hm : P.follows .mixedOrders = true) (hB : flowB .any l.toArray pre segs last = true)
    (h : ∀ w', Below w.heap.size w w' → w'.heap = w.heap → flowP P l (onlyN (Q .normal)) (fun w2 => ∃ x : Later w0, w2 = x.val) pre segs last a w') : (Code.region id l.toArray true).wp P Q a w := by
  refine Code.wp_mono onlyN_imp (wp_region_any hm ?_)
  exact any_flow pre segs last hB (fun _ _ _ _ _ h => h) (S := fun w2 => ∃ x : Later w0, w2 = x.val) ⟨⟨_, btr hw (Below.drewN' 1 (Below.refl _ _))⟩, rfl⟩ (h _ (Below.drewN' 1 (Below.refl _ _)) rfl)
/-- Operations that look at no memory are taken first, whatever the others write. -/
structure AnyW where
  val : World
theorem anyW (w : World) : ∃ x : AnyW, w = x.val := ⟨⟨w⟩, rfl⟩
theorem wp_region_pure {id : Nat} {a : Act} {w : World} {l : List Oper} (H : List Nat) (hm : P.follows .mixedOrders = true) (hB : UB .any l.toArray H [] = true)
    (h : ∀ w', Below w.heap.size w w' → w'.heap = w.heap → wpU P l (onlyN (Q .normal)) (fun w2 => ∃ x : AnyW, w2 = x.val) H [] l.length (Array.replicate l.length false) a w') : (Code.region id l.toArray true).wp P Q a w := by
  refine Code.wp_mono onlyN_imp (wp_region_any hm ?_)
  have := h (w.drewN 1) (Below.drewN' 1 (Below.refl _ _)) rfl hB
  have := wpAny_of_U _ _ _ _ this
  rw [show l.toArray.size = l.length from rfl]
  exact this
/-- The same, step by step. -/
theorem wp_region_U_at {id : Nat} {a : Act} {w : World} {l : List Oper} (w0 : World) (H W : List Nat) (hm : P.follows .mixedOrders = true) (hB : UB .any l.toArray H W = true)
    (h : ∀ w', Below w.heap.size w w' → w'.heap = w.heap → wpU P l (onlyN (Q .normal)) (fun w2 => ∃ x : Later w0, w2 = x.val) H W l.length (Array.replicate l.length false) a w') : (Code.region id l.toArray true).wp P Q a w := by
  refine Code.wp_mono onlyN_imp (wp_region_any hm ?_)
  have := h (w.drewN 1) (Below.drewN' 1 (Below.refl _ _)) rfl hB
  have := wpAny_of_U _ _ _ _ this
  rw [show l.toArray.size = l.length from rfl]
  exact this
end
end Go.Proofs.Ytdnaipiiponhpaa
