/- inverse: a number that, times n, leaves 1; periods up to 200. -/
import Derived.Test.YtooddicegkiiiaaP2
import Derived.Test.YtooddicegkiiiaaV5
namespace Go.Proofs.Ytooddicegkiiiaa
open Go.RowKit Go.Shelf

theorem gcd_mod (X Y : Int) : Int.gcd Y (X % Y) = Int.gcd X Y := by
  have e := Int.mul_ediv_add_emod X Y
  apply Nat.dvd_antisymm
  · refine Int.natCast_dvd_natCast.1 (Int.dvd_coe_gcd ?_ (Int.gcd_dvd_left _ _))
    have := Int.dvd_add (Int.dvd_mul_of_dvd_left (c := X / Y) (Int.gcd_dvd_left Y (X % Y))) (Int.gcd_dvd_right Y (X % Y))
    rwa [e] at this
  · refine Int.natCast_dvd_natCast.1 (Int.dvd_coe_gcd (Int.gcd_dvd_right _ _) ?_)
    have := Int.dvd_sub (Int.gcd_dvd_left X Y) (Int.dvd_mul_of_dvd_left (c := X / Y) (Int.gcd_dvd_right X Y))
    rwa [show X - Y * (X / Y) = X % Y by omega] at this
/-- Euclid's steps under way. -/
structure EI (n s X Y a b : Int) : Prop where
  x0 : 0 ≤ X
  xs : X ≤ s
  y0 : 0 ≤ Y
  ys : Y ≤ s
  pos : 1 ≤ X + Y
  dx : s ∣ X - a * n
  dy : s ∣ Y - b * n
  g : Int.gcd X Y = Int.gcd n s
  sg : ∃ A B σ : Int, (σ = 1 ∨ σ = -1) ∧ a = σ * A ∧ b = -(σ * B) ∧ 0 ≤ A ∧ A ≤ s ∧ 0 ≤ B ∧ B ≤ s ∧ X * B + Y * A = s
theorem EI.bd {n s X Y a b : Int} (h : EI n s X Y a b) : -s ≤ a ∧ a ≤ s ∧ -s ≤ b ∧ b ≤ s := by
  obtain ⟨A, B, σ, hs | hs, h1, h2, h3, h4, h5, h6, _⟩ := h.sg <;> subst hs <;> omega
theorem EI.start {n s : Int} (hs : 1 ≤ s) : EI n s (n % s) s 1 0 := by
  have h1 := Int.emod_nonneg n (b := s) (by omega)
  have h2 := Int.emod_lt_of_pos n (b := s) (by omega)
  refine ⟨h1, by omega, by omega, by omega, by omega, ?_, by simp, ?_, 1, 0, 1, .inl rfl, by omega, by omega, by omega, by omega, by omega, by omega, by omega⟩
  · have := Int.mul_ediv_add_emod n s
    exact ⟨-(n / s), by rw [Int.mul_neg]; omega⟩
  · rw [Int.gcd_comm (n % s) s, gcd_mod]
theorem EI.step {n s X Y a b : Int} (h : EI n s X Y a b) (hy : Y ≠ 0) : EI n s Y (X - X / Y * Y) b (a - X / Y * b) := by
  have y1 : 1 ≤ Y := by have := h.y0; omega
  have e := Int.mul_ediv_add_emod X Y
  have m1 := Int.emod_nonneg X (b := Y) hy
  have m2 := Int.emod_lt_of_pos X (b := Y) (by omega)
  have q0 : 0 ≤ X / Y := Int.ediv_nonneg h.x0 h.y0
  have hYX : X - X / Y * Y = X % Y := by rw [Int.mul_comm]; omega
  have hys := h.ys
  rw [hYX]
  refine ⟨h.y0, h.ys, m1, by omega, by omega, h.dy, ?_, ?_, ?_⟩
  · have := Int.dvd_sub h.dx (Int.dvd_mul_of_dvd_right (b := X / Y) h.dy)
    rwa [show X - a * n - X / Y * (Y - b * n) = X % Y - (a - X / Y * b) * n by
      rw [Int.mul_sub, Int.sub_mul, ← Int.mul_assoc]
      have : X / Y * Y = Y * (X / Y) := Int.mul_comm _ _
      omega] at this
  · rw [← h.g, gcd_mod]
  · obtain ⟨A, B, σ, hs, h1, h2, h3, h4, h5, h6, h7⟩ := h.sg
    have hqB : 0 ≤ X / Y * B := Int.mul_nonneg q0 h5
    have k : Y * (A + X / Y * B) + X % Y * B = s := by
      rw [← hYX, Int.mul_add, Int.sub_mul, ← Int.mul_assoc, Int.mul_comm Y (X / Y)]
      omega
    have hB' : A + X / Y * B ≤ s := by
      have h8 : 0 ≤ X % Y * B := Int.mul_nonneg m1 h5
      have h9 : 1 * (A + X / Y * B) ≤ Y * (A + X / Y * B) := Int.mul_le_mul_of_nonneg_right y1 (by omega)
      omega
    refine ⟨B, A + X / Y * B, -σ, by omega, ?_, ?_, h5, h6, by omega, hB', k⟩
    · rw [h2, Int.neg_mul]
    · rw [h1, h2, Int.mul_neg, Int.neg_mul, Int.neg_neg, Int.mul_add, Int.sub_neg, ← Int.mul_assoc, ← Int.mul_assoc, Int.mul_comm σ (X / Y)]
theorem EI.done {n s X a b : Int} (h : EI n s X 0 a b) (hg : Int.gcd n s = 1) : s ∣ n * ((a % s + s) % s) - 1 := by
  have hX : X = 1 := by
    have h1 := h.g
    rw [hg, Int.gcd_zero_right] at h1
    have := h.x0
    omega
  subst hX
  have h1 := h.dx
  rw [Int.add_emod_right, Int.emod_emod]
  have e := Int.mul_ediv_add_emod a s
  have e2 : n * (a % s) = n * a - s * (n * (a / s)) := by
    rw [← Int.mul_assoc, Int.mul_comm s n, Int.mul_assoc, ← Int.mul_sub]; congr 1; omega
  obtain ⟨k, hk⟩ := h1
  refine ⟨-k - n * (a / s), ?_⟩
  rw [e2, Int.mul_sub, Int.mul_neg, Int.mul_comm n a]
  omega

def InvOk (n s : Int) (w : World) (e : Ending) (w' : World) : Prop := ∃ v, e = .returned (.int .i64 v) ∧ 0 ≤ v ∧ v < s ∧ (Int.gcd n s = 1 → s ∣ n * v - 1) ∧ w = w'
theorem tmod_add (a s : Int) (hs : 1 ≤ s) : (a.tmod s + s).tmod s = (a % s + s) % s := by
  rw [Int.tmod_eq_emod_of_nonneg (by have := tmod_bd a s hs; omega)]
  rw [Int.add_emod_right, Int.add_emod_right, Int.emod_emod]
  rw [Int.tmod_def, Int.sub_mul_emod_self_left]
set_option maxRecDepth 100000 in
set_option maxHeartbeats 1000000 in
theorem inverse_any (n s : Int) (w : World) (hn : 0 ≤ n) (hn2 : n < 4611686018427387904) (hs : 1 ≤ s) (hs2 : s ≤ 200) :
    Calls Try.prog 78 #[.int .i64 n, .int .i64 s] w (InvOk n s w) := by
  have hm1 := Int.emod_nonneg n (b := s) (by omega)
  have hm2 := Int.emod_lt_of_pos n (b := s) (by omega)
  have hw : IntKind.i64.wrap (n.tmod s) = n % s := by
    rw [Int.tmod_eq_emod_of_nonneg hn]; exact IntWalk.i64_in _ (by omega)
  have HS := Lib.hid (EI.start (n := n) hs)
  clear hm1 hm2
  go_enter Try.func78, Try.ntmps78
  go_wp2_with fail
  clear hw
  go_loopw [5, 6, 7, 8] (fun a b x y wr => ∃ A B X Y : Int, EI n s X Y A B ∧ a = .int .i64 A ∧ b = .int .i64 B ∧ x = .int .i64 X ∧ y = .int .i64 Y ∧ w = wr) (fun _ _ _ y _ => (intOf y).toNat)
  case atStart => exact ⟨1, 0, n % s, s, HS.out, rfl, rfl, rfl, rfl, rfl⟩
  case round =>
    obtain ⟨A, B, X, Y, hE, rfl, rfl, rfl, rfl, rfl⟩ := hrel
    have hx0 := hE.x0; have hxs := hE.xs; have hy0 := hE.y0; have hys := hE.ys
    obtain ⟨b1, b2, b3, b4⟩ := hE.bd
    by_cases h0 : Y = 0
    · subst h0
      have hD := Lib.hid (hE.done)
      have hw1 : IntKind.i64.wrap (A.tmod s) = A.tmod s := by have := tmod_bd A s hs; exact IntWalk.i64_in _ (by omega)
      have hw2 : IntKind.i64.wrap (A.tmod s + s) = A.tmod s + s := by have := tmod_bd A s hs; exact IntWalk.i64_in _ (by omega)
      have HT := Lib.hid (tmod_add A s hs)
      have HE := Lib.hid hE; clear hE
      go_wp2_with fail
      go_ret
      have h1 := Int.emod_nonneg (A % s + s) (b := s) (by omega)
      have h2 := Int.emod_lt_of_pos (A % s + s) (b := s) (by omega)
      refine ⟨(A.tmod s + s).tmod s, rfl, ?_⟩
      rw [HT.out]
      exact ⟨h1, h2, hD.out, rfl⟩
    · have y1 : 1 ≤ Y := by omega
      have hN := hE.step h0
      have q0 : 0 ≤ X / Y := Int.ediv_nonneg hx0 hy0
      have q1 : X / Y ≤ X := Int.ediv_le_self _ hx0
      have hyb : (Y != 0) = true := by simpa using h0
      have n1 := hN.x0; have n2 := hN.xs; have n3 := hN.y0; have n4 := hN.ys
      obtain ⟨c1, c2, c3, c4⟩ := hN.bd
      have hw1 : IntKind.i64.wrap (X.tdiv Y) = X / Y := by rw [Int.tdiv_eq_ediv_of_nonneg hx0]; exact IntWalk.i64_in _ (by omega)
      generalize hq : X / Y = q at *
      have hw2 : IntKind.i64.wrap (q * Y) = q * Y := IntWalk.i64_in _ (by omega)
      have hw3 : IntKind.i64.wrap (q * B) = q * B := IntWalk.i64_in _ (by omega)
      have hw4 : IntKind.i64.wrap (X - q * Y) = X - q * Y := IntWalk.i64_in _ (by omega)
      have hw5 : IntKind.i64.wrap (A - q * B) = A - q * B := IntWalk.i64_in _ (by omega)
      have HN := Lib.hid hN; have HE := Lib.hid hE; have HQ := Lib.hid hq
      clear hN hE hq
      go_wp2_with fail
      go_roundw
      case rel => exact ⟨B, A - q * B, Y, X - q * Y, HN.out, rfl, rfl, rfl, rfl, trivial⟩
      case measure =>
        have := Int.emod_lt_of_pos X (b := Y) (by omega)
        have e := Int.mul_ediv_add_emod X Y
        rw [HQ.out, Int.mul_comm] at e
        simp only [intOf]; omega
end Go.Proofs.Ytooddicegkiiiaa
