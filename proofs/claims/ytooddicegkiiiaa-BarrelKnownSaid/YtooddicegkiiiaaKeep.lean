/- What stays true in all later worlds; a slice of numbers that is written out; no condition. -/
import Derived.Test.YtooddicegkiiiaaP7
import Derived.Test.YtooddicegkiiiaaP5
import Derived.Test.YtooddicegkiiiaaX6
import Derived.Test.YtooddicegkiiiaaW7
namespace Go.Proofs.Ytooddicegkiiiaa
open Go.RowKit Go.Shelf

def Keep (w : World) (G : World → Prop) : Prop := ∀ w', Below w.heap.size w w' → G w'
theorem Keep.here {w : World} {G : World → Prop} (h : Keep w G) : G w := h w (bz w)
theorem Keep.up {w w' : World} {G : World → Prop} (h : Keep w G) (hb : Below w.heap.size w w') : Keep w' G := fun w2 h2 => h w2 (btr hb h2)
theorem Keep.and {w : World} {G G' : World → Prop} (h : Keep w G) (k : Keep w G') : Keep w (fun w => G' w ∧ G w) := fun w' hb => ⟨k w' hb, h w' hb⟩
theorem Keep.name {w : World} {G : World → Prop} (h : Keep w G) : ∃ G' : World → Prop, Keep w G' ∧ ∀ w, G' w → G w := ⟨G, h, fun _ h => h⟩
theorem Keep.imp {w : World} {G G' : World → Prop} (h : Keep w G) (k : ∀ w, G w → G' w) : Keep w G' := fun w' hb => k w' (h w' hb)
theorem keepI {w : World} {k : IntKind} {v : Value} {xs : List Int} (h : RdI w k v xs) : Keep w (fun w => RdI w k v xs) := fun _ hb => h.mono hb
theorem keepP {w : World} {v : Value} {V : List (Int × Int)} (h : RdP w v V) : Keep w (fun w => RdP w v V) := fun _ hb => h.mono hb
theorem keepC {w : World} {p : Addr} {v : Value} (h : w.cell? p = some v) : Keep w (fun w => w.cell? p = some v) := fun _ hb => (hb.cell (World.block_lt_of_cell? w _ h)).trans h
theorem keepB {w0 w : World} (h : Below w0.heap.size w0 w) : Keep w (fun w => Below w0.heap.size w0 w) := fun _ hb => btr h hb
theorem keepZ {w : World} {b : Nat} (h : b < w.heap.size) : Keep w (fun w => b < w.heap.size) := fun _ hb => Nat.lt_of_lt_of_le h hb.size
theorem keep_true (w : World) : Keep w (fun _ => True) := fun _ _ => trivial

theorem rdI_new (w : World) (xs : List Int) (t : TypeId) (h : xs.length ≤ 1000) : RdI (w.alloc (.cells (arrI xs) t)) .i64 (.slice (some ⟨w.heap.size, 0, none⟩) xs.length xs.length) xs := by
  refine ⟨_, _, rfl, Nat.le_refl _, by unfold maxLen; omega, fun _ => ⟨w.heap.size, 0, rfl, by simp, fun j u hj => ?_⟩⟩
  exact cnew rfl (by simpa [arrI] using hj)
theorem rdI_at (w : World) (xs : List Int) (t : TypeId) (b : Nat) (hb : b = w.heap.size) (h : xs.length ≤ 1000) : RdI (w.alloc (.cells (arrI xs) t)) .i64 (.slice (some ⟨b, 0, none⟩) xs.length xs.length) xs := by
  subst hb; exact rdI_new w xs t h
theorem RdP.ex {w : World} {v : Value} {V : List (Int × Int)} (h : RdP w v V) (n : Nat) (hn : V.length = n) : ∃ a c, v = .slice a n c := by
  obtain ⟨a, c, h, _⟩ := h; exact ⟨a, c, by rw [h, hn]⟩
theorem RdI.ex {w : World} {k : IntKind} {v : Value} {V : List Int} (h : RdI w k v V) (n : Nat) (hn : V.length = n) : ∃ a c, v = .slice a n c := by
  obtain ⟨a, c, h, _⟩ := h; exact ⟨a, c, by rw [h, hn]⟩
end Go.Proofs.Ytooddicegkiiiaa

