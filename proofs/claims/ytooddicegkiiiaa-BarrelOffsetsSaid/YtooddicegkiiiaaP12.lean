/- 'append' of pins that are read to a list of the call's own, whatever block they lie in. -/
import Derived.Test.YtooddicegkiiiaaP11
import Derived.Deep.AppendLies
namespace Go.Proofs.Ytooddicegkiiiaa
open Go.RowKit Go.Shelf

/-- The cells of pins lie from an address on. -/
def CellsAt (w : World) (ad : Addr) (U : List (Int × Int)) : Prop := ∀ j u, (prs U)[j]? = some u → w.cell? (ad.add j) = some u
theorem CellsAt.later {w w' : World} {ad : Addr} {U : List (Int × Int)} (h : CellsAt w ad U) (hb : Below w.heap.size w w') : CellsAt w' ad U :=
  fun j u hu => (hb.cell (World.block_lt_of_cell? w _ (h j u hu))).trans (h j u hu)
theorem add_block (ad : Addr) (j : Nat) : (ad.add j).block = ad.block := by unfold Addr.add; split <;> rfl
theorem CellsAt.grown {w w' : World} {ad : Addr} {U : List (Int × Int)} {row : Option Nat} (h : CellsAt w ad U) (hg : w.grownBy w' row) (hne : some ad.block ≠ row) : CellsAt w' ad U :=
  fun j u hu => (hg.cell_far _ (World.block_lt_of_cell? w _ (h j u hu)) (by rw [add_block]; exact hne)).trans (h j u hu)
theorem CellsAt.new (w : World) (p q : Int) {nb : Nat} (hnb : nb = w.heap.size) : CellsAt (w.alloc (.cells #[.int .i64 p, .int .i64 q] 55)) ⟨nb, 0, none⟩ [(p, q)] := by
  subst hnb; exact cell_two_new _ _ _ _
theorem CellsAt.of_rd {w : World} {b o c : Nat} {U : List (Int × Int)} (h : RdP w (.slice (some ⟨b, o, none⟩) U.length c) U) : CellsAt w ⟨b, o, none⟩ U := by
  intro j u hu
  obtain ⟨_, _, e, h1, h2, h⟩ := h
  cases e
  obtain ⟨b, off, e, _, h⟩ := h (by intro e; rw [e] at hu; simp at hu)
  cases e
  rw [addr_add]; exact h j u hu
theorem own_new (w : World) {base nb : Nat} (hnb : nb = w.heap.size) (hb : base ≤ w.heap.size) : (w.alloc (.cells #[] 55)).ownsRow base 55 2 (.slice (some ⟨nb, 0, none⟩) 0 0) ([] : List (Int × Int)).length (prs []) := by
  subst hnb
  exact ⟨rfl, .inr ⟨_, 0, #[], rfl, hb, heap_alloc_new _ _, Nat.le_refl _, by unfold maxLen; omega, rfl, rfl⟩⟩
theorem wpList_append_pins {w : World} {base : Nat} {v : Value} {V U : List (Int × Int)} {ops : Array Oper} {rest : List Oper} {o : Oper} {a : Act} {Q : Exit → Act → World → Prop} (hgd : o.guard = none) (s x : Operand)
    (ho : o.op = .call { callee := .builtin .append, args := #[s, x], argTypes := #[22, 22] }) (h : w.ownsRow base 55 2 v V.length (prs V)) (hb : base ≤ w.heap.size) (hs : a.eval s = v)
    {ad : Addr} {n c : Nat} (hx : a.eval x = .slice (some ad) n c) (hn : n = U.length) (hy : CellsAt w ad U) (hl : V.length ≤ 1000) (hl2 : U.length ≤ 1000)
    (H : ∀ v' w', w'.ownsRow base 55 2 v' (V ++ U).length (prs (V ++ U)) → w.grownBy w' v.ownBlock → wpList Try.prog ops Q rest (a.put o.dst v') w') :
    wpList Try.prog ops Q (o :: rest) a w := by
  subst hn
  obtain ⟨i0, hi, hz0, hz1, hz2⟩ := info_parts info55
  refine wpList_append_own _ hgd s x 22 ho base 55 i0 (.agg #[.int .i64 0, .int .i64 0]) 2 16 Try.underlying22 hi hz0 hz1 hz2 rfl (by decide) _ _ _ hs h ad U.length c (prs U) hx (prs_length U) hy (prs_num U)
    (by simp only [maxLen]; omega) (by omega) hb ?_
  intro v' w' h1 h2 _
  refine H v' w' ?_ h2
  rw [List.length_append, prs_append]
  exact h1
theorem run_cutTo2 (g o n c i : Nat) (h : i ≤ c) (w : World) : (Instr.slice 22 (.slice (some ⟨g, o, none⟩) n c) none (some (.int .i64 (i : Int))) none).run Try.prog w = .ok (.slice (some ⟨g, o, none⟩) i c) w := by
  obtain ⟨i0, hi, hz0, hz1, hz2⟩ := info_parts info55
  have h2 : ¬ ((c : Int) < (i : Int)) := by omega
  simp [Instr.slice, run_underlying Try.underlying22, Sem.run_bind, Instr.sliceBounds, Instr.sliceBound, asIntOf, h, sizeOf, typeInfo, hi, Addr.add]
theorem run_cutFrom2 (g o n c i : Nat) (h : i + 1 ≤ n) (hc : n ≤ c) (w : World) : ∃ ad, (Instr.slice 22 (.slice (some ⟨g, o, none⟩) n c) (some (.int .i64 ((i : Int) + 1))) none none).run Try.prog w = .ok (.slice (some ad) (n - (i + 1)) (c - (i + 1))) w ∧ (i + 1 < n → ad = ⟨g, o + (i + 1) * 2, none⟩) := by
  obtain ⟨i0, hi, hz0, hz1, hz2⟩ := info_parts info55
  have h1 : ¬ ((i : Int) + 1 < 0) := by omega
  have h2 : ¬ ((n : Int) < (i : Int) + 1) := by omega
  have h3 : ((i : Int) + 1).toNat = i + 1 := by omega
  by_cases hq : c = i + 1
  · refine ⟨⟨g, o, none⟩, ?_, fun h => by omega⟩
    simp [Instr.slice, run_underlying Try.underlying22, Sem.run_bind, Instr.sliceBounds, Instr.sliceBound, asIntOf, sizeOf, typeInfo, hi, hz1, Addr.add, h1, h2, h3, hq]
    all_goals first | omega | skip
  · refine ⟨⟨g, o + (i + 1) * 2, none⟩, ?_, fun _ => rfl⟩
    simp [Instr.slice, run_underlying Try.underlying22, Sem.run_bind, Instr.sliceBounds, Instr.sliceBound, asIntOf, sizeOf, typeInfo, hi, hz1, Addr.add, h1, h2, h3, hq]
    all_goals first | omega | skip
end Go.Proofs.Ytooddicegkiiiaa
