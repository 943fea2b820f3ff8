/- Which rows are valid: CheckRow of the program and of the reference; rows of at most 1000 valves. -/
import Derived.Test.YtdnaipiiponhpaaV1
namespace Go.Proofs.Ytdnaipiiponhpaa
open Go.RowKit

/-- A valve that a row of p places cannot have. -/
def oddV (p : Int) (v : Int × Int) : Bool := outB 0 (p - 1) v.1 || outB 0 (p - 1) v.2 || decide (v.2 ≤ v.1)

set_option maxRecDepth 100000 in
set_option maxHeartbeats 400000 in
theorem oddf_any (x y p : Int) (br : Nat) (w : World) (h1 : w.cell? ⟨br, 0, none⟩ = some (.int .i64 p)) (hbr : br < w.heap.size) (hp1 : 1 ≤ p) (hp2 : p ≤ 8) :
    Calls Try.prog 61 #[.agg #[.int .i64 x, .int .i64 y], .pointer (some ⟨br, 0, none⟩)] w fun e w' => e = .returned (.bool (oddV p (x, y))) ∧ Below w.heap.size w w' := by
  have hW : ∀ w2 : World, Below (w.alloc (.cells #[.int .i64 x, .int .i64 y] 59)).heap.size (w.alloc (.cells #[.int .i64 x, .int .i64 y] 59)) w2 → RdI w2 .i64 (.slice (some ⟨w.heap.size, 0, none⟩) 2 2) [x, y] := by
    intro w2 hb
    refine RdI.mono (w := w.alloc (.cells #[.int .i64 x, .int .i64 y] 59)) ?_ hb
    refine ⟨_, _, rfl, by simp, by unfold maxLen; omega, fun _ => ⟨_, _, rfl, by simp, fun j u hj => ?_⟩⟩
    match j, hj with
    | 0, hj => simp at hj; simp [← hj]
    | 1, hj => simp at hj; simp [← hj]
  cases hw : [x, y].any (outB 0 (p - 1))
  · have e : oddV p (x, y) = decide (y ≤ x) := by simp at hw; simp [oddV, hw]
    rw [e]; clear e
    have HW := Lib.hid hw; clear hw
    have hL := @Later.cell (w.alloc (.cells #[.int .i64 x, .int .i64 y] 59))
    have HC := Lib.hid (fun l : Later (w.alloc (.cells #[.int .i64 x, .int .i64 y] 59)) => Calls.later (l := l) (within_any _ [x, y] 0 (p - 1) _ (hW _ l.le) (by simp)))
    rw [HW.out] at HC
    have hwr : IntKind.i64.wrap (p - 1) = p - 1 := IntWalk.i64_in _ (by omega)
    go_enter Try.func61, Try.ntmps61
    go_wp2
    refine wp_region_later (by kernel_rfl) (by kernel_rfl) ?_
    repeat (quiet_step ((go_at_call 62; exact HC.out _)))
    refine wpQuiet_nil ?_
    rintro _ ⟨⟨w2, hL2⟩, rfl⟩
    go_wp2
    go_ret
    exact ⟨ret_bool (by simp), btr (bal (bz _) _) hL2⟩
  · have e : oddV p (x, y) = true := by simp at hw; simp [oddV]; rcases hw with h | h <;> simp [h]
    rw [e]; clear e
    have HW := Lib.hid hw; clear hw
    have hL := @Later.cell (w.alloc (.cells #[.int .i64 x, .int .i64 y] 59))
    have HC := Lib.hid (fun l : Later (w.alloc (.cells #[.int .i64 x, .int .i64 y] 59)) => Calls.later (l := l) (within_any _ [x, y] 0 (p - 1) _ (hW _ l.le) (by simp)))
    rw [HW.out] at HC
    have hwr : IntKind.i64.wrap (p - 1) = p - 1 := IntWalk.i64_in _ (by omega)
    go_enter Try.func61, Try.ntmps61
    go_wp2
    refine wp_region_later (by kernel_rfl) (by kernel_rfl) ?_
    repeat (quiet_step ((go_at_call 62; exact HC.out _)))
    refine wpQuiet_nil ?_
    rintro _ ⟨⟨w2, hL2⟩, rfl⟩
    go_wp2
    go_ret
    exact ⟨ret_bool (by simp), btr (bal (bz _) _) hL2⟩
end Go.Proofs.Ytdnaipiiponhpaa
