/- Regions that draw and make a day. -/
import Derived.Test.YtjajdpggoggoiaaH4
import Derived.Deep.CutRange
namespace Go.Proofs.Ytjajdpggoggoiaa
open Go.RowKit Go.Shelf
/-- A world behind another. -/
structure BelW (w1 : World) where
  val : World
  b : Below w1.heap.size w1 val
theorem belW {w1 w : World} (h : Below w1.heap.size w1 w) : ∃ x : BelW w1, w = x.val := ⟨⟨w, h⟩, rfl⟩
instance (w1 : World) : Nonempty (BelW w1) := ⟨⟨w1, bz w1⟩⟩
theorem row_other {w : World} {base g : Nat} {v : Value} {xs : List Int} {cs : Array Value} (h : rowI w base v xs) (hg : w.heap[g]? = some (.cells cs 24)) : v.ownBlock ≠ some g := by
  rcases h.2 with ⟨rfl, _⟩ | ⟨g', cap, cur, rfl, _, h2, _⟩
  · simp [Value.ownBlock]
  · intro e
    simp only [Value.ownBlock, Option.some.injEq] at e
    subst e
    rw [h2] at hg
    simp at hg
theorem keep_row {w w' : World} {base g : Nat} {v : Value} {xs : List Int} {cs : Array Value} (h : rowI w base v xs) (hg : w.heap[g]? = some (.cells cs 24)) (gr : w.grownBy w' v.ownBlock) : w'.heap[g]? = some (.cells cs 24) :=
  (gr.block g (by have := (Array.getElem?_eq_some_iff.1 hg).1; exact this) (fun e => row_other h hg e.symm)).trans hg
theorem rdI_row {w : World} {b o n c g : Nat} {xs : List Int} {cs : Array Value} (h : RdI w .i64 (.slice (some ⟨b, o, none⟩) n c) xs) (hb : b ≠ g) : RdI (w.setRow g cs) .i64 (.slice (some ⟨b, o, none⟩) n c) xs := by
  obtain ⟨a, cap, e, h1, h2, h3⟩ := h
  refine ⟨a, cap, e, h1, h2, fun hne => ?_⟩
  obtain ⟨b', o', e', h4, h5⟩ := h3 hne
  simp only [Value.slice.injEq] at e
  obtain ⟨e, _, _⟩ := e
  rw [← e] at e'
  simp only [Option.some.injEq, Addr.mk.injEq, and_true] at e'
  obtain ⟨rfl, rfl⟩ := e'
  refine ⟨b, o, e.symm, by simpa using h4, fun j v hj => ?_⟩
  rw [cell_setRow_other _ _ _ _ hb]
  exact h5 j v hj
theorem rd_store {w : World} {base g : Nat} {v : Value} {xs : List Int} {cs cs' : Array Value} (h : rowI w base v xs) (hg : w.heap[g]? = some (.cells cs 24)) : RdI (w.setRow g cs') .i64 v xs := by
  have hr := RdI.of_owns h
  have hn := row_other h hg
  rcases h.2 with ⟨rfl, h0⟩ | ⟨g', cap, cur, rfl, _, _⟩
  · have : xs = [] := List.eq_nil_of_length_eq_zero h0
    subst this
    exact rdI_nil _ _
  · exact rdI_row hr (fun e => hn (by simp [Value.ownBlock, e]))
theorem checkD_join {R : Int} {W V : List Int} (h1 : checkD R W = 0) (h2 : checkD R V = 0) (h : W.length + V.length ≤ 16) : checkD R (W ++ V) = 0 := by
  have a := okD_of h1; have b := okD_of h2
  have e2 : outB 1 6 R = false := by unfold outB; rw [decide_eq_false_iff_not]; have := a.r1; have := a.r6; omega
  unfold checkD
  rw [e2, if_neg (by simp), if_neg (by rw [List.length_append]; omega), if_neg]
  intro hc
  obtain ⟨x, hx, ho⟩ := List.any_eq_true.1 hc
  have hb : 1 ≤ x ∧ x ≤ 8 := by
    rcases List.mem_append.1 hx with g | g
    · exact a.ok x g
    · exact b.ok x g
  unfold outB at ho
  rw [decide_eq_true_eq] at ho
  omega
theorem checkD_room {R R' : Int} {W : List Int} (hc : checkD R W = 0) (h1 : 1 ≤ R') (h6 : R' ≤ 6) : checkD R' W = 0 := by
  have e1 : outB 1 6 R' = false := by unfold outB; rw [decide_eq_false_iff_not]; omega
  have hr := (okD_of hc).r1; have hr6 := (okD_of hc).r6
  have e2 : outB 1 6 R = false := by unfold outB; rw [decide_eq_false_iff_not]; omega
  unfold checkD at hc ⊢
  rw [e1]; rw [e2] at hc; exact hc
end Go.Proofs.Ytjajdpggoggoiaa
