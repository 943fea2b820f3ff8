/- common, and the document's Common: the greatest common divisor; numbers up to 2^62. -/
import Derived.Test.YtooddicegkiiiaaV2
namespace Go.Proofs.Ytooddicegkiiiaa
open Go.RowKit

theorem gcd_step (a b : Nat) : Nat.gcd b (a % b) = Nat.gcd a b := by rw [Nat.gcd_comm a b, Nat.gcd_rec b a, Nat.gcd_comm]
set_option maxRecDepth 100000 in
set_option maxHeartbeats 400000 in
theorem common_n (m : Nat) : ∀ (a b : Nat) (w : World), b ≤ m → a < 4611686018427387904 → b < 4611686018427387904 →
    Calls Try.prog 74 #[.int .i64 a, .int .i64 b] w fun e w' => e = .returned (.int .i64 (Nat.gcd a b : Nat)) ∧ w = w' := by
  induction m with
  | zero =>
    intro a b w hb ha hb2
    obtain rfl : b = 0 := by omega
    go_enter Try.func74, Try.ntmps74
    go_wp2_with fail
    go_ret
    exact ⟨by simp, rfl⟩
  | succ m ih =>
    intro a b w hb ha hb2
    by_cases h0 : b = 0
    · subst h0
      go_enter Try.func74, Try.ntmps74
      go_wp2_with fail
      go_ret
      exact ⟨by simp, rfl⟩
    · have hlt : a % b < b := Nat.mod_lt _ (by omega)
      have hI := ih b (a % b) w (by omega) hb2 (by omega)
      have hm : ((a % b : Nat) : Int) = (a : Int) % (b : Int) := by simp
      rw [gcd_step, hm] at hI
      have HI := Lib.hid hI; clear hI ih hm
      have hbi : ((b : Int) == 0) = false := by simp; omega
      have hb1 : (1 : Int) ≤ b := by omega
      have hw : IntKind.i64.wrap ((a : Int).tmod b) = (a : Int) % b := by
        rw [Int.tmod_eq_emod_of_nonneg (by omega)]
        have := Int.emod_nonneg (a : Int) (b := (b : Int)) (by omega)
        have := Int.emod_lt_of_pos (a : Int) (b := (b : Int)) (by omega)
        exact IntWalk.i64_in _ (by omega)
      have hb0 : b ≠ 0 := h0
      go_enter Try.func74, Try.ntmps74
      go_wp2_with fail
      refine HI.out.mono ?_
      rintro e w2 ⟨rfl, rfl⟩
      go_wp2_with fail
      go_ret
      exact ⟨rfl, rfl⟩
theorem common_any (a b : Nat) (w : World) (ha : a < 4611686018427387904) (hb : b < 4611686018427387904) :
    Calls Try.prog 74 #[.int .i64 a, .int .i64 b] w fun e w' => e = .returned (.int .i64 (Nat.gcd a b : Nat)) ∧ w = w' := common_n b a b w (Nat.le_refl _) ha hb

set_option maxRecDepth 100000 in
set_option maxHeartbeats 400000 in
theorem rcommon_any (a b : Nat) (w : World) (ha : a < 4611686018427387904) (hb : b < 4611686018427387904) :
    Calls Try.prog 48 #[.int .i64 a, .int .i64 b] w fun e w' => e = .returned (.int .i64 (Nat.gcd a b : Nat)) ∧ Below w.heap.size w w' := by
  go_enter Try.func48, Try.ntmps48
  go_wp2_with fail
  go_loopw [0, 1] (fun x y wr => ∃ m n : Nat, x = .int .i64 m ∧ y = .int .i64 n ∧ m < 4611686018427387904 ∧ n < 4611686018427387904 ∧ Nat.gcd m n = Nat.gcd a b ∧ Below w.heap.size w wr) (fun _ y _ => (intOf y).toNat)
  case atStart => exact ⟨a, b, rfl, rfl, ha, hb, rfl, bz _⟩
  case round =>
    obtain ⟨m, n, rfl, rfl, hm, hn, hg, hB⟩ := hrel
    have HG := Lib.hid hg; clear hg
    by_cases h0 : n = 0
    · subst h0
      go_wp2_with fail
      go_ret
      exact ⟨by rw [← HG.out]; simp, hB⟩
    · have hlt : m % n < n := Nat.mod_lt _ (by omega)
      have hb1 : (1 : Int) ≤ n := by omega
      have hw : IntKind.i64.wrap ((m : Int).tmod n) = ((m % n : Nat) : Int) := by
        rw [Int.tmod_eq_emod_of_nonneg (by omega), ← Int.natCast_emod]
        exact IntWalk.i64_in _ (by omega)
      have hbi : ((n : Int) != 0) = true := by simp; omega
      have hn0 := h0
      go_wp2_with fail
      go_quiet (fail)
      go_wp2_with fail
      go_roundw
      case rel => exact ⟨n, m % n, rfl, rfl, hn, by omega, by rw [gcd_step, HG.out], Below.drewN' _ hB⟩
      case measure => simp only [intOf]; omega
end Go.Proofs.Ytooddicegkiiiaa
