/- The document's same: two lists of one length. -/
import Derived.Test.YtdnaipiiponhpaaX7
namespace Go.Proofs.Ytdnaipiiponhpaa
open Go.RowKit Go.Shelf

set_option maxRecDepth 100000 in
set_option maxHeartbeats 400000 in
theorem rsame_any (x y : Value) (xs ys : List Int) (w : World) (hx0 : RdI w .i64 x xs) (hy0 : RdI w .i64 y ys) (hl : xs.length ≤ 1000) (hll : xs.length = ys.length) :
    Calls Try.prog 82 #[x, y] w fun e w' => e = .returned (.bool (decide (xs = ys))) ∧ Below w.heap.size w w' := by
  obtain ⟨a, ca, rfl, _, _, hx⟩ := hx0.form
  obtain ⟨b, cb, rfl, _, _, hy⟩ := hy0.form
  clear hx0 hy0
  have HL := Lib.hid hll; clear hll
  go_enter Try.func82, Try.ntmps82
  go_wp2
  go_loopw [5, 6, 7, 8, 9, 10, 11, 12, 13, 14, 15, 16, 17, 18, 19, 20] (fun i _ _ _ _ _ _ _ _ _ _ _ _ _ _ _ wr => ∃ k : Nat, k ≤ xs.length ∧ i = .int .i64 k ∧ xs.take k = ys.take k ∧ Below w.heap.size w wr) (fun i _ _ _ _ _ _ _ _ _ _ _ _ _ _ _ _ => xs.length - (intOf i).toNat)
  case atStart => exact ⟨0, Nat.zero_le _, rfl, by simp, Below.refl _ _⟩
  case round =>
    obtain ⟨k, hk, rfl, ht, hB⟩ := hrel
    by_cases hlt : k < xs.length
    · obtain ⟨bx, ox, rfl, hbx, hcx⟩ := hx (by omega)
      obtain ⟨by', oy, rfl, hby, hcy⟩ := hy (by rw [← HL.out]; omega)
      have gx := (hB.cell (p := ⟨bx, ox + k, none⟩) hbx).trans (hcx k hlt)
      have hlt2 : k < ys.length := by rw [← HL.out]; exact hlt
      have gy := (hB.cell (p := ⟨by', oy + k, none⟩) hby).trans (hcy k hlt2)
      have HT := Lib.hid ht; clear ht
      clear hx hy hcx hcy
      by_cases he : xs[k]?.getD 0 = ys[k]?.getD 0
      · have hb1 : (xs[k]?.getD 0 != ys[k]?.getD 0) = false := by simp [he]
        have HE := Lib.hid he; clear he
        have HT2 := Lib.hid (take_eq_step xs ys k hlt hlt2 HT.out HE.out)
        generalize xs[k]?.getD 0 = p at *
        generalize ys[k]?.getD 0 = q at *
        go_wp2
        go_quiet (fail)
        go_wp2
        exact ⟨⟨k + 1, by omega, by go_num, HT2.out, Below.drewN' _ hB⟩, by simp [intOf]; omega⟩
      · have hb1 : (xs[k]?.getD 0 != ys[k]?.getD 0) = true := by simpa using he
        have HE := Lib.hid (ne_of_get xs ys k he); clear he
        generalize xs[k]?.getD 0 = p at *
        generalize ys[k]?.getD 0 = q at *
        go_wp2
        go_quiet (fail)
        go_wp2
        go_ret
        exact ⟨ret_bool (by simp [HE.out]), Below.drewN' _ hB⟩
    · have HT := Lib.hid ht; clear ht
      go_wp2
      go_ret
      refine ⟨ret_bool ?_, hB⟩
      have h1 := HT.out
      rw [List.take_of_length_le (by omega), List.take_of_length_le (by rw [← HL.out]; omega)] at h1
      simp [h1]
end Go.Proofs.Ytdnaipiiponhpaa
