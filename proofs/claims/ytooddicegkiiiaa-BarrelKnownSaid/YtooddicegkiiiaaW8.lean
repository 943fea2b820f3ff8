/- best of lists, by length; lists of lists; the greatest group as the program finds it. -/
import Derived.Test.YtooddicegkiiiaaW7
namespace Go.Proofs.Ytooddicegkiiiaa
open Go.RowKit Go.Shelf

set_option maxRecDepth 100000 in
theorem longer_any (a b : Option Addr) (m n c d : Nat) (w : World) (_hm : m ≤ 1000) (_hn : n ≤ 1000) :
    Calls Try.prog 81 #[.slice a m c, .slice b n d] w fun e w' => e = .returned (.bool (decide (n < m))) ∧ w = w' := by
  by_cases h : n < m
  · rw [show decide (n < m) = true by simpa using h]
    go_enter Try.func81, Try.ntmps81
    go_wp2_with fail
    go_ret
    exact ⟨by simp, rfl⟩
  · rw [show decide (n < m) = false by simpa using h]
    go_enter Try.func81, Try.ntmps81
    go_wp2_with fail
    go_ret
    exact ⟨by simp, rfl⟩

/-- The index of the first longest of the first k + 1. -/
def bestJ (ls : List Nat) : Nat → Nat
  | 0 => 0
  | k + 1 => if ls[bestJ ls k]?.getD 0 < ls[k + 1]?.getD 0 then k + 1 else bestJ ls k
theorem bestJ_le (ls : List Nat) : ∀ k, bestJ ls k ≤ k
  | 0 => Nat.le_refl _
  | k + 1 => by
    have := bestJ_le ls k
    simp only [bestJ]
    split <;> omega

set_option maxRecDepth 100000 in
set_option maxHeartbeats 1000000 in
theorem bestl_any (x : Value) (ls : List Nat) (vs : List Value) (w : World) (hx0 : RdC w x ls.length vs) (hvl : vs.length = ls.length) (hv : ∀ i, i < ls.length → ∃ a c, vs[i]? = some (.slice a (ls[i]?.getD 0) c)) (hls : ∀ i : Nat, ls[i]?.getD 0 ≤ 1000) (hl : ls.length ≤ 1000) (h1 : 1 ≤ ls.length) :
    Calls Try.prog 80 #[x, .func (.func 81) #[] #[]] w fun e w' => e = .returned (vs[bestJ ls (ls.length - 1)]?.getD (.slice none 0 0)) ∧ w = w' := by
  obtain ⟨a, ca, rfl, hca, hca2, hcell⟩ := hx0
  obtain ⟨bx, ox, rfl, hbx, hcx⟩ := hcell (by intro e; rw [e] at hvl; simp at hvl; omega)
  clear hcell hca2
  obtain ⟨n, hn⟩ : ∃ n, ls.length = n + 1 := ⟨ls.length - 1, by omega⟩
  rw [hn] at hl h1 hca hv ⊢
  rw [Nat.add_sub_cancel]
  clear hn hvl
  have hc : ∀ i, i < n + 1 → ∃ a c, vs[i]? = some (.slice a (ls[i]?.getD 0) c) ∧ w.cell? ⟨bx, ox + i, none⟩ = some (.slice a (ls[i]?.getD 0) c) := by
    intro i hi
    obtain ⟨a, c, h⟩ := hv i hi
    exact ⟨a, c, h, hcx i _ h⟩
  have HC := Lib.hid hc; have HLS := Lib.hid hls
  clear hcx hv hc hls
  obtain ⟨a0, c0, hv0, g0⟩ := HC.out 0 (by omega)
  rw [Nat.add_zero] at g0
  have HV0 := Lib.hid hv0; clear hv0
  generalize hl0 : ls[0]?.getD 0 = l0 at *
  by_cases hc1 : ca = 1
  · have hn0 : n = 0 := by omega
    subst hn0
    subst hc1
    go_enter Try.func80, Try.ntmps80
    go_wp2_with fail
    go_loopw [5, 7, 14] (fun s5 _ i wr => s5 = .slice a0 l0 c0 ∧ i = .int .i64 0 ∧ w = wr) (fun _ _ _ _ => 0)
    case atStart => exact ⟨rfl, rfl, rfl⟩
    case round =>
      obtain ⟨rfl, rfl, rfl⟩ := hrel
      go_wp2_with fail
      go_ret
      exact ⟨by rw [show bestJ ls 0 = 0 from rfl, HV0.out]; rfl, rfl⟩
  · go_enter Try.func80, Try.ntmps80
    go_wp2_with fail
    go_loopw [5, 7, 14] (fun s5 _ i wr => ∃ (k : Nat) (a : Option Addr) (c : Nat), k ≤ n ∧ i = .int .i64 k ∧ vs[bestJ ls k]? = some s5 ∧ s5 = .slice a (ls[bestJ ls k]?.getD 0) c ∧ w = wr) (fun _ _ i _ => n - (intOf i).toNat)
    case atStart => exact ⟨0, a0, c0, Nat.zero_le _, rfl, HV0.out, by rw [show bestJ ls 0 = 0 from rfl, hl0], rfl⟩
    case round =>
      obtain ⟨k, a, c, hk, rfl, hv, rfl, rfl⟩ := hrel
      by_cases hlt : k < n
      · obtain ⟨a1, c1, hv1, g1⟩ := HC.out (k + 1) (by omega)
        have hst : bestJ ls (k + 1) = if ls[bestJ ls k]?.getD 0 < ls[k + 1]?.getD 0 then k + 1 else bestJ ls k := rfl
        have b1 := HLS.out (bestJ ls k)
        have b2 := HLS.out (k + 1)
        have HST := Lib.hid hst; have HV := Lib.hid hv; have HV1 := Lib.hid hv1
        clear hst hv hv1 g0
        rw [show ox + (k + 1) = ox + 1 + k by omega] at g1
        generalize hj : bestJ ls (k + 1) = j' at *
        have HJ := Lib.hid hj; clear hj
        generalize hj : bestJ ls k = j at *
        generalize hm : ls[j]?.getD 0 = m at *
        generalize hm1 : ls[k + 1]?.getD 0 = m1 at *
        have HM := Lib.hid hm; have HM1 := Lib.hid hm1
        clear hj hm hm1 hl0
        have HL := Lib.hid (longer_any a1 a m1 m c1 c w (by omega) (by omega))
        by_cases hlt2 : m < m1
        · rw [if_pos hlt2] at HST
          rw [show decide (m < m1) = true by simpa using hlt2] at HL
          go_wp2_with fail
          refine HL.out.mono ?_
          rintro e w3 ⟨rfl, rfl⟩
          go_wp2_with fail
          go_roundw
          case rel => exact ⟨k + 1, a1, c1, by omega, by go_num, by rw [HJ.out, HST.out, HV1.out], by rw [HJ.out, HST.out, HM1.out], trivial⟩
          case measure => simp [intOf]; omega
        · rw [if_neg hlt2] at HST
          rw [show decide (m < m1) = false by simpa using hlt2] at HL
          go_wp2_with fail
          refine HL.out.mono ?_
          rintro e w3 ⟨rfl, rfl⟩
          go_wp2_with fail
          go_roundw
          case rel => exact ⟨k + 1, a, c, by omega, by go_num, by rw [HJ.out, HST.out, HV.out], by rw [HJ.out, HST.out, HM.out], trivial⟩
          case measure => simp [intOf]; omega
      · have hkn : k = n := by omega
        have HKN := Lib.hid hkn; have HV := Lib.hid hv; clear hkn hv
        go_wp2_with fail
        go_ret
        exact ⟨by rw [← HKN.out, HV.out]; rfl, rfl⟩
end Go.Proofs.Ytooddicegkiiiaa
