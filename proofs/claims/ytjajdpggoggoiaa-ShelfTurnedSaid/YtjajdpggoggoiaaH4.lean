/- Facts that the laws share. -/
import Derived.Test.YtjajdpggoggoiaaH3
import Derived.Test.YtjajdpggoggoiaaQ11
namespace Go.Proofs.Ytjajdpggoggoiaa
open Go.RowKit Go.Shelf

theorem rdI_pre {w : World} {g o n c : Nat} {W : List Int} (h : RdI w .i64 (.slice (some ⟨g, o, none⟩) n c) W) {k : Nat} (hk : k ≤ W.length) : RdI w .i64 (.slice (some ⟨g, o, none⟩) k c) (W.take k) := by
  obtain ⟨a, cap, e, h1, h2, h3⟩ := h
  simp only [Value.slice.injEq] at e
  obtain ⟨rfl, rfl, rfl⟩ := e
  have hl : (W.take k).length = k := by rw [List.length_take]; omega
  refine ⟨_, _, by rw [hl], by omega, h2, fun hne => ?_⟩
  have hw : W.map (Value.int .i64) ≠ [] := by intro e; rw [List.map_take, e] at hne; simp at hne
  obtain ⟨b, o', e, h4, h5⟩ := h3 hw
  refine ⟨b, o', e, h4, fun j v hj => h5 j v ?_⟩
  rw [List.map_take] at hj
  have hjk : j < k := by have := (List.getElem?_eq_some_iff.1 hj).1; simp at this; omega
  rw [List.getElem?_take_of_lt hjk] at hj
  exact hj
theorem diffN_succ (W : List Int) (k : Nat) : diffN W (k + 1) = diffN W k + if want W k ∈ W.take k then 0 else 1 := rfl
theorem fetR_fetN (R r : Int) (W : List Int) : ((fetR R r W).length : Int) = fetN W (runL R r W) W.length := fetN_len R r W _
theorem fine_yes (R : Int) (x : Value) (W : List Int) (w : World) (hx0 : RdI w .i64 x W) (hc : checkD R W = 0) : Calls Try.prog 35 #[.agg #[.int .i64 R, x]] w fun e w' => e = .returned (.bool true) ∧ Below w.heap.size w w' := by
  have := fine_any R x W w hx0; rwa [show (checkD R W == 0) = true by simp [hc]] at this
theorem fine_no (R : Int) (x : Value) (W : List Int) (w : World) (hx0 : RdI w .i64 x W) (hc : checkD R W ≠ 0) : Calls Try.prog 35 #[.agg #[.int .i64 R, x]] w fun e w' => e = .returned (.bool false) ∧ Below w.heap.size w w' := by
  have := fine_any R x W w hx0; rwa [show (checkD R W == 0) = false by simpa using hc] at this
/-- Fewest of a valid day. -/
def fewN (R : Int) (W : List Int) : Int := aheadD R W W.length 0
theorem fewest_yes (R : Int) (x : Value) (W : List Int) (w : World) (hx0 : RdI w .i64 x W) (hc : checkD R W = 0) :
    Calls Try.prog 26 #[.agg #[.int .i64 R, x]] w fun e w' => e = .returned (.tuple #[.int .i64 (fewN R W), .int .i64 0]) ∧ Below w.heap.size w w' := by
  have := fewest_any R x W w hx0 (by have := (okD_of hc).l16; omega)
  rwa [if_pos hc, hc] at this
theorem wf8 {n : Int} (h : (Lit.int .u8 n).wf = true) : 0 ≤ n ∧ n ≤ 255 := by
  simp [Lit.wf, IntKind.min, IntKind.max, IntKind.signed, IntKind.bits] at h
  omega
theorem wf16 {n : Int} (h : (Lit.int .u16 n).wf = true) : 0 ≤ n ∧ n ≤ 65535 := by
  simp [Lit.wf, IntKind.min, IntKind.max, IntKind.signed, IntKind.bits] at h
  omega
end Go.Proofs.Ytjajdpggoggoiaa
