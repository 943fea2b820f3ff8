/- The laws' small words: of, longs, great, Same. -/
import Derived.Test.YtdnaipiiponhpaaW8
namespace Go.Proofs.Ytdnaipiiponhpaa
open Go.RowKit Go.Shelf

set_option maxRecDepth 100000 in
set_option maxHeartbeats 400000 in
theorem of_any (x : Value) (w : World) : Calls Try.prog 56 #[x] w fun e w' => e = .returned x ∧ w' = w := by
  go_enter Try.func56, Try.ntmps56
  go_wp2
  go_ret
  exact ⟨rfl, rfl⟩
set_option maxRecDepth 100000 in
set_option maxHeartbeats 400000 in
theorem longsl_any (x : Value) (w : World) : Calls Try.prog 52 #[x] w fun e w' => e = .returned x ∧ w' = w := by
  go_enter Try.func52, Try.ntmps52
  go_wp2
  go_ret
  exact ⟨rfl, rfl⟩

set_option maxRecDepth 100000 in
set_option maxHeartbeats 400000 in
theorem great_any (p : Int) (x : Value) (n cap : Nat) (a : Option Addr) (w : World) (hx : x = .slice a n cap) :
    Calls Try.prog 16 #[.agg #[.int .i64 p, x]] w fun e w' => e = .returned (.bool (decide (50 < n))) ∧ Below w.heap.size w w' := by
  subst hx
  go_enter Try.func16, Try.ntmps16
  go_wp2
  go_ret
  exact ⟨ret_bool (by simp; omega), bal (bz _) _⟩

theorem pair_ne (w : World) (a b c d : Int) : (binOp .neq 59 (.agg #[.int .i64 a, .int .i64 b]) (.agg #[.int .i64 c, .int .i64 d])).run Try.prog w = .ok (.bool (!decide ((a, b) = (c, d)))) w := by
  obtain ⟨i3, hi3, _⟩ := info_parts Try.info3'
  have := run_neq_arr (P := Try.prog) w 59 3 2 .i64 i3 Try.underlying59 hi3 (by kernel_rfl) Try.underlying3 [a, b] [c, d] rfl rfl
  simpa using this

theorem take_eq_stepP (xs ys : List (Int × Int)) (k : Nat) (h1 : k < xs.length) (h2 : k < ys.length) (ht : xs.take k = ys.take k) (he : xs[k]?.getD (0, 0) = ys[k]?.getD (0, 0)) : xs.take (k + 1) = ys.take (k + 1) := by
  rw [List.take_succ_eq_append_getElem h1, List.take_succ_eq_append_getElem h2, ht]
  simp [h1, h2] at he
  rw [he]

set_option maxRecDepth 100000 in
set_option maxHeartbeats 1000000 in
theorem same_any (p q : Int) (x y : Value) (V U : List (Int × Int)) (w : World) (hx0 : RdP w x V) (hy0 : RdP w y U) (hl : V.length ≤ 1000) (hl2 : U.length ≤ 1000) :
    Calls Try.prog 38 #[.agg #[.int .i64 p, x], .agg #[.int .i64 q, y]] w fun e w' => e = .returned (.bool (decide (p = q ∧ V = U))) ∧ Below w.heap.size w w' := by
  obtain ⟨a, ca, rfl, _, _, hx⟩ := hx0.form
  obtain ⟨b, cb, rfl, _, _, hy⟩ := hy0.form
  clear hx0 hy0
  by_cases hpq : p = q
  · subst hpq
    by_cases hll : V.length = U.length
    · have h1 : ((V.length : Int) != (U.length : Int)) = false := by simp [hll]
      have HL := Lib.hid hll; clear hll
      go_enter Try.func38, Try.ntmps38
      go_wp2
      go_loopw [5, 20, 21, 22, 23, 24, 25, 26, 27, 28, 29, 30, 31, 32, 33, 34, 35, 36, 37] (fun i _ _ _ _ _ _ _ _ _ _ _ _ _ _ _ _ _ _ wr => ∃ k : Nat, k ≤ V.length ∧ i = .int .i64 k ∧ V.take k = U.take k ∧ Below w.heap.size w wr ∧ w.heap.size + 2 ≤ wr.heap.size ∧
          wr.cell? ⟨w.heap.size, 1, none⟩ = some (.slice a V.length ca) ∧ wr.cell? ⟨w.heap.size + 1, 1, none⟩ = some (.slice b U.length cb)) (fun i _ _ _ _ _ _ _ _ _ _ _ _ _ _ _ _ _ _ _ => V.length - (intOf i).toNat)
      case atStart => exact ⟨0, Nat.zero_le _, rfl, by simp, bal (bal (bz _) _) _, by simp, cal _ (cnew rfl rfl), cnew (by simp) rfl⟩
      case round =>
        obtain ⟨k, hk, rfl, ht, hB, hzz, e0, e1⟩ := hrel
        have z0 : w.heap.size < wr.heap.size := by omega
        have z1 : w.heap.size + 1 < wr.heap.size := by omega
        have HT := Lib.hid ht; clear ht
        by_cases hlt : k < V.length
        · obtain ⟨bx, ox, rfl, hbx, hcx⟩ := hx (by omega)
          obtain ⟨by', oy, rfl, hby, hcy⟩ := hy (by rw [← HL.out]; omega)
          have hlt2 : k < U.length := by rw [← HL.out]; exact hlt
          have gx := (hB.cell (p := ⟨bx, ox + k * 2, none⟩) hbx).trans (hcx k hlt).1
          have gx2 := (hB.cell (p := ⟨bx, ox + k * 2 + 1, none⟩) hbx).trans (hcx k hlt).2
          have gy := (hB.cell (p := ⟨by', oy + k * 2, none⟩) hby).trans (hcy k hlt2).1
          have gy2 := (hB.cell (p := ⟨by', oy + k * 2 + 1, none⟩) hby).trans (hcy k hlt2).2
          have zx : bx < wr.heap.size := by omega
          have zy : by' < wr.heap.size := by omega
          clear hx hy hcx hcy
          have hne := fun w' => pair_ne w' (V[k]?.getD (0, 0)).1 (V[k]?.getD (0, 0)).2 (U[k]?.getD (0, 0)).1 (U[k]?.getD (0, 0)).2
          by_cases he : V[k]?.getD (0, 0) = U[k]?.getD (0, 0)
          · have HT2 := Lib.hid (take_eq_stepP V U k hlt hlt2 HT.out he)
            rw [he] at gx gx2 hne
            generalize U[k]?.getD (0, 0) = pr at *
            obtain ⟨u1, u2⟩ := pr
            simp only [decide_true, Bool.not_true] at hne gx gx2 gy gy2
            clear he
            go_wp2
            go_quiet (fail)
            go_wp2
            refine ⟨⟨k + 1, by omega, by go_num, HT2.out, Below.drewN' _ hB, hzz, e0, e1⟩, by simp [intOf]; omega⟩
          · have HE : Hid (V ≠ U) := Lib.hid (by rintro rfl; exact he rfl)
            have hf : (decide (((V[k]?.getD (0, 0)).1, (V[k]?.getD (0, 0)).2) = ((U[k]?.getD (0, 0)).1, (U[k]?.getD (0, 0)).2))) = false := by
              rw [decide_eq_false_iff_not]; exact he
            rw [hf] at hne
            clear hf he
            generalize V[k]?.getD (0, 0) = pv at *
            generalize U[k]?.getD (0, 0) = pr at *
            obtain ⟨u1, u2⟩ := pr
            obtain ⟨v1, v2⟩ := pv
            simp only [Bool.not_false] at hne gx gx2 gy gy2
            go_wp2
            go_quiet (fail)
            go_wp2
            go_ret
            exact ⟨ret_bool (by simp [HE.out]), Below.drewN' _ hB⟩
        · go_wp2
          go_ret
          refine ⟨ret_bool ?_, hB⟩
          have h1 := HT.out
          rw [List.take_of_length_le (by omega), List.take_of_length_le (by rw [← HL.out]; omega)] at h1
          simp [h1]
    · have h1 : ((V.length : Int) != (U.length : Int)) = true := by rw [bne_iff_ne]; omega
      have HE : Hid (V ≠ U) := Lib.hid (by rintro rfl; exact hll rfl)
      clear hll
      go_enter Try.func38, Try.ntmps38
      go_wp2
      go_ret
      exact ⟨ret_bool (by simp [HE.out]), bal (bal (bz _) _) _⟩
  · have h1 : (p != q) = true := by simpa using hpq
    go_enter Try.func38, Try.ntmps38
    go_wp2
    go_ret
    exact ⟨ret_bool (by simp [hpq]), bal (bal (bz _) _) _⟩
end Go.Proofs.Ytdnaipiiponhpaa
