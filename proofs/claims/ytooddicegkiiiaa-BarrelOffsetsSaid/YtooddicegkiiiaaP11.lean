/- Helpers of the later laws. -/
import Derived.Test.YtooddicegkiiiaaP10
namespace Go.Proofs.Ytooddicegkiiiaa
open Go.RowKit Go.Shelf

theorem wf8 {n : Int} (h : (Lit.int .u8 n).wf = true) : 0 ≤ n ∧ n ≤ 255 := by
  simp [Lit.wf, IntKind.min, IntKind.max, IntKind.signed, IntKind.bits] at h
  omega
theorem wf16 {n : Int} (h : (Lit.int .u16 n).wf = true) : 0 ≤ n ∧ n ≤ 65535 := by
  simp [Lit.wf, IntKind.min, IntKind.max, IntKind.signed, IntKind.bits] at h
  omega
theorem wf64 {n : Int} (h : (Lit.int .u64 n).wf = true) : 0 ≤ n ∧ n < 18446744073709551616 := by
  simp [Lit.wf, IntKind.min, IntKind.max, IntKind.signed, IntKind.bits] at h
  omega
theorem take_map_one (f : Int × Int → Int × Int) (V : List (Int × Int)) (k : Nat) (hk : k < V.length) : (V.take (k + 1)).map f = (V.take k).map f ++ [f (pin V k)] := by
  rw [take_pin V k hk, List.map_append]; rfl
theorem grp_le (V : List (Int × Int)) : (grpN V).length ≤ V.length := by
  unfold grpN
  split
  · exact (gre_inc V V.length [] 0 ⟨List.Pairwise.nil, by simp⟩ (by simp)).len
  · simp
end Go.Proofs.Ytooddicegkiiiaa
