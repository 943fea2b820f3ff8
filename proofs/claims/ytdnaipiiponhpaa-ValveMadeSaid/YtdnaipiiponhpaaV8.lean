/- Lists of int from lists of int64, and the pattern with a number. -/
import Derived.Test.YtdnaipiiponhpaaV7
namespace Go.Proofs.Ytdnaipiiponhpaa
open Go.RowKit

theorem Try.info3 : (Try.prog.info? 3).map (fun i => (i.zero, i.size, i.bytes)) = some (some (.int .i64 0), 1, 8) := by kernel_rfl
theorem one_int (k : IntKind) (x : Int) : ∀ u ∈ [Value.int k x], u.oneCell' = true := by intro u hu; simp at hu; subst hu; rfl

set_option maxRecDepth 100000 in
set_option maxHeartbeats 400000 in
theorem rints_any (y : Value) (l : List Int) (w : World) (hy0 : RdI w .i64 y l) (hn' : l.length ≤ 1000) :
    Calls Try.prog 81 #[y] w fun e w' => ∃ v, e = .returned v ∧ w'.ownsRow w.heap.size 3 1 v l.length (l.map (Value.int .i64)) ∧ Below w.heap.size w w' := by
  obtain ⟨b, cb, rfl, hcb, hcb2, hy⟩ := hy0.form
  obtain ⟨i0, hi, hz0, hz1, hz2⟩ := info_parts Try.info3
  clear hy0
  go_enter Try.func81, Try.ntmps81
  go_wp2
  go_loopw [3, 4] (fun v i wr => ∃ k : Nat, k ≤ l.length ∧ i = .int .i64 k ∧ wr.ownsRow w.heap.size 3 1 v k ((l.take k).map (Value.int .i64)) ∧ Below w.heap.size w wr) (fun _ i _ => l.length - (intOf i).toNat)
  case atStart => exact ⟨0, Nat.zero_le _, rfl, World.ownsRow_nil _ _ _ _, bz _⟩
  case round =>
    obtain ⟨k, hk, rfl, hown, hB⟩ := hrel
    by_cases hlt : k < l.length
    · obtain ⟨bx, ox, rfl, hbx, hcx⟩ := hy (by omega)
      have gx := (hB.cell (p := ⟨bx, ox + k, none⟩) hbx).trans (hcx k (by omega))
      have hs : (l.take (k + 1)).map (Value.int .i64) = (l.take k).map (Value.int .i64) ++ [.int .i64 (l[k]?.getD 0)] := by
        rw [List.take_succ_eq_append_getElem hlt, List.map_append]; simp only [hlt, List.getElem?_eq_getElem, Option.getD_some, List.map_cons, List.map_nil]
      generalize l[k]?.getD 0 = x at *
      have HS := Lib.hid hs; clear hs hy hcx
      have hz := hB.size
      go_wp2_with (at_builtin; refine wpList_append_own _ rfl _ _ 34 rfl w.heap.size 3 i0 (.int .i64 0) 1 8 Try.underlying34 hi hz0 hz1 hz2 rfl (by decide) _ _ _ rfl (hown.alloc _) ⟨wr.heap.size, 0, none⟩ 1 1 [.int .i64 x] rfl rfl (cell_one_new _ _ _) (one_int _ _) (by simp only [maxLen]; omega) (by omega) (by simp; omega) ?_)
      intro v' w1 hown' hgrow hnil
      clear hnil
      have hlt' := hown.lt
      have hB1 := bgr (bal hB _) hgrow (fun k h => (hlt' k h).1)
      have HO := Lib.hid hown'; clear hown' hgrow hlt' hown
      go_wp2
      go_roundw
      case rel => exact ⟨k + 1, by omega, by go_num, by rw [HS.out, List.map_take]; exact HO.out, hB1⟩
      case measure => simp [intOf]; omega
    · obtain rfl : k = l.length := by omega
      rw [List.take_length] at hown
      go_wp2
      go_ret
      exact ⟨_, rfl, hown, hB⟩

theorem i64_and1 (n : Int) : bits .and .i64 n 1 = n % 2 := by
  have h1 : (BitVec.ofInt 64 1).toNat = 2 ^ 1 - 1 := by decide
  have key : (BitVec.ofInt 64 n &&& BitVec.ofInt 64 1).toNat = (n % ((2 ^ 64 : Nat) : Int)).toNat % 2 ^ 1 := by
    rw [BitVec.toNat_and, BitVec.toNat_ofInt, h1, Nat.and_two_pow_sub_one_eq_mod]
  show IntKind.i64.wrap ((BitVec.ofInt 64 n &&& BitVec.ofInt 64 1).toNat : Nat) = n % 2
  rw [key, IntKind.wrap_i64]
  omega

/-- The digits of a number by two, in front the greatest. -/
def bitsOf (n : Nat) (t : Nat) : List Int := (List.range n).map fun i => ((t / 2 ^ (n - 1 - i) % 2 : Nat) : Int)

theorem made_zeros (k : IntKind) (n : Nat) : (madeCells #[Value.int k 0] n).toList = (List.replicate n (0 : Int)).map (Value.int k) := by
  apply List.ext_getElem
  · simp [madeCells]
  · intro i h1 h2
    simp [madeCells, Nat.mod_one]

/-- .. of which k are laid, from the end on. -/
def patK (n t k : Nat) : List Int := (List.range n).map fun i => if n - 1 - i < k then ((t / 2 ^ (n - 1 - i) % 2 : Nat) : Int) else 0
theorem patK_zero (n t : Nat) : patK n t 0 = List.replicate n 0 := by
  apply List.ext_getElem
  · simp [patK]
  · intro i h1 h2; simp [patK]
theorem patK_all (n t : Nat) : patK n t n = bitsOf n t := by
  unfold patK bitsOf
  apply List.map_congr_left
  intro i hi
  rw [List.mem_range] at hi
  rw [if_pos (by omega)]
theorem patK_length (n t k : Nat) : (patK n t k).length = n := by simp [patK]
theorem patK_step (n t k : Nat) (hk : k < n) : (patK n t k).set (n - 1 - k) ((t / 2 ^ k % 2 : Nat) : Int) = patK n t (k + 1) := by
  apply List.ext_getElem
  · simp [patK]
  · intro i h1 h2
    simp only [List.getElem_set, patK, List.getElem_map, List.getElem_range]
    have h3 : i < n := by simpa [patK] using h2
    by_cases e : n - 1 - k = i
    · rw [if_pos e, if_pos (by omega)]
      have : n - 1 - i = k := by omega
      rw [this]
    · rw [if_neg e]
      by_cases h4 : n - 1 - i < k
      · rw [if_pos h4, if_pos (by omega)]
      · rw [if_neg h4, if_neg (by omega)]

set_option maxRecDepth 100000 in
set_option maxHeartbeats 400000 in
theorem patterned_any (n t : Nat) (w : World) (hn : n ≤ 8) (_ht : t ≤ 255) :
    Calls Try.prog 74 #[.int .i64 n, .int .i64 t] w fun e w' => ∃ v, e = .returned v ∧ w'.ownsRow w.heap.size 2 1 v n ((bitsOf n t).map (Value.int .i64)) ∧ Below w.heap.size w w' := by
  obtain ⟨i0, hi, hz0, hz1, hz2⟩ := info_parts Try.info2
  go_enter Try.func74, Try.ntmps74
  go_wp2_with (at_make; refine wpList_make_full _ rfl _ _ 25 rfl w.heap.size 2 i0 (.int .i64 0) 1 Try.underlying25 hi hz0 hz1 _ _ _ _ n rfl rfl rfl rfl (by rw [hz2]; omega) (by simp only [maxLen]; omega) (Nat.le_refl _) ?_)
  intro w1 hown hgrow
  have hB1 := bgr (bz _) hgrow (fun k h => by cases h)
  rw [made_zeros, ← patK_zero n t] at hown
  clear hgrow
  go_wp2
  go_loopw [6] (fun i wr => ∃ k : Nat, k ≤ n ∧ i = .int .i64 k ∧ wr.ownsRow w.heap.size 2 1 (.slice (some ⟨w.heap.size, 0, none⟩) n n) n ((patK n t k).map (Value.int .i64)) ∧ Below w.heap.size w wr) (fun i _ => n - (intOf i).toNat)
  case atStart => exact ⟨0, Nat.zero_le _, rfl, hown, hB1⟩
  case round =>
    obtain ⟨k, hk, rfl, hown, hB⟩ := hrel
    by_cases hlt : k < n
    · have cf := hown.frozenAt (n - 1 - k)
      have cc := hown.cellAt (n - 1 - k) (by omega)
      rw [List.getElem?_map, List.getElem?_eq_getElem (by rw [patK_length]; omega), Option.map_some] at cc
      generalize (patK n t k)[n - 1 - k]'(by rw [patK_length]; omega) = old at *
      have HO := Lib.hid hown; clear hown
      go_wp2
      refine ⟨⟨k + 1, by omega, by go_num, ?_, bset hB (Nat.le_refl _) _⟩, by simp [intOf]; omega⟩
      rw [i64_and1, ← patK_step n t k hlt]
      have e : ((t : Int) / 2 ^ k % 2) = ((t / 2 ^ k % 2 : Nat) : Int) := by simp
      rw [e]
      have := (HO.out.stored (n - 1 - k) (.int .i64 ((t / 2 ^ k % 2 : Nat) : Int))).1
      rw [← List.map_set] at this
      exact this
    · obtain rfl : k = n := by omega
      go_wp2
      go_ret
      exact ⟨_, rfl, by rw [← patK_all]; exact hown, hB⟩
end Go.Proofs.Ytdnaipiiponhpaa
