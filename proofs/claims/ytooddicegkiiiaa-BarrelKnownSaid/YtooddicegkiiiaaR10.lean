/- The document's Listed, before. -/
import Derived.Test.YtooddicegkiiiaaR9
namespace Go.Proofs.Ytooddicegkiiiaa
open Go.RowKit Go.Shelf

theorem i64_and1 (n : Int) : bits .and .i64 n 1 = n % 2 := by
  have h1 : (BitVec.ofInt 64 1).toNat = 2 ^ 1 - 1 := by decide
  have key : (BitVec.ofInt 64 n &&& BitVec.ofInt 64 1).toNat = (n % ((2 ^ 64 : Nat) : Int)).toNat % 2 ^ 1 := by
    rw [BitVec.toNat_and, BitVec.toNat_ofInt, h1, Nat.and_two_pow_sub_one_eq_mod]
  show IntKind.i64.wrap ((BitVec.ofInt 64 n &&& BitVec.ofInt 64 1).toNat : Nat) = n % 2
  rw [key, IntKind.wrap_i64]
  omega
/-- The numbers of the bits that are set. -/
def bitB (b i : Nat) : Bool := b / 2 ^ i % 2 == 1
def lst (b n : Nat) : List Nat := (List.range n).filter (bitB b)
theorem lst_succ (b n : Nat) : lst b (n + 1) = if bitB b n then lst b n ++ [n] else lst b n := by
  unfold lst
  rw [List.range_succ, List.filter_append]
  cases h : bitB b n <;> simp [h]
theorem lst_le (b n : Nat) : (lst b n).length ≤ n := by
  have := List.length_filter_le (bitB b) (List.range n)
  rw [List.length_range] at this
  exact this
set_option maxRecDepth 100000 in
set_option maxHeartbeats 2000000 in
theorem listed_any (b n : Nat) (w : World) (hn : n ≤ 60) :
    Calls Try.prog 51 #[.int .i64 b, .int .i64 n] w fun e w' => ∃ v, e = .returned v ∧ RdI w' .i64 v (natL (lst b n)) ∧ Below w.heap.size w w' := by
  go_enter Try.func51, Try.ntmps51
  go_wp2_with fail
  go_loopw [5, 6] (fun s5 i wr => ∃ (k : Nat) (v : Value), k ≤ n ∧ v = s5 ∧ i = .int .i64 k ∧ wr.ownsRow w.heap.size 3 1 v (lst b k).length ((natL (lst b k)).map (Value.int .i64)) ∧ Below w.heap.size w wr) (fun _ i _ => n - (intOf i).toNat)
  case atStart => exact ⟨0, _, Nat.zero_le _, rfl, rfl, World.ownsRow_nil _ _ _ _, bz _⟩
  case round =>
    obtain ⟨k, v, hk, rfl, rfl, hor, hB⟩ := hrel
    obtain ⟨av, cv, rfl⟩ := owns_form hor
    have hll := lst_le b k
    have HOR := Lib.hid hor; have HB := Lib.hid hB
    clear hor hB
    by_cases hlt : k < n
    · have HS := Lib.hid (lst_succ b k)
      have hand := i64_and1 ((b : Int) / 2 ^ k)
      have hbit : ((b : Int) / 2 ^ k % 2 == 1) = bitB b k := by
        unfold bitB
        rw [Bool.eq_iff_iff]
        simp only [beq_iff_eq]
        rw [show (2 : Int) ^ k = ((2 ^ k : Nat) : Int) by simp, ← Int.natCast_ediv]
        omega
      generalize bitB b k = bb at *
      generalize lst b k = g at *
      cases bb
      · go_wp2_with fail
        go_roundw
        case rel => exact ⟨k + 1, _, by omega, rfl, by go_num, by rw [HS.out]; exact HOR.out, HB.out⟩
        case measure => simp [intOf]; omega
      · have hbz : w.heap.size ≤ wr.heap.size := HB.out.size
        have hl1 : (natL g).length ≤ 1000 := by rw [natL_len]; omega
        have hor2 : wr.ownsRow w.heap.size 3 1 (.slice av g.length cv) (natL g).length ((natL g).map (Value.int .i64)) := by rw [natL_len]; exact HOR.out
        have HOR2 := Lib.hid hor2
        clear hor2
        go_wp2_with (at_builtin; refine wpList_append_num rfl _ _ rfl Try.underlying25 num3 HOR2.out (k : Int) rfl rfl rfl hl1 hbz ?_)
        intro v' w' hown hgrow
        have HBN := Lib.hid (append_below (bal HB.out _) (HOR2.out.alloc _) hgrow (Nat.le_refl _))
        have HOWN := Lib.hid hown
        clear hown hgrow
        go_wp2_with fail
        go_roundw
        case rel =>
          refine ⟨k + 1, v', by omega, rfl, by go_num, ?_, HBN.out⟩
          have h := HS.out
          simp only [if_true] at h
          have h2 := HOWN.out
          rw [h, show natL (g ++ [k]) = natL g ++ [(k : Int)] by simp [natL], List.length_append]
          simpa [natL_len] using h2
        case measure => simp [intOf]; omega
    · have hkl : k = n := by omega
      have hor := HOR.out
      rw [hkl, ← natL_len (lst b n)] at hor
      have hrd := RdI.of_owns hor
      rw [natL_len] at hrd
      rw [← hkl] at hrd
      have HORF := Lib.hid hrd
      clear hrd
      clear hor hkl
      go_wp2_with fail
      go_ret
      exact ⟨_, rfl, by have h := HORF.out; rw [show k = n by omega] at h ⊢; exact h, HB.out⟩

/-- Whether one list of numbers comes before another as long. -/
def befB : List Int → List Int → Bool
  | a :: r, b :: s => if a = b then befB r s else decide (a < b)
  | _, _ => false
set_option maxRecDepth 100000 in
set_option maxHeartbeats 2000000 in
theorem before_any (x y : Value) (g h : List Int) (w : World) (hx0 : RdI w .i64 x g) (hy0 : RdI w .i64 y h) (hl : g.length = h.length) (hle : g.length ≤ 1000) :
    Calls Try.prog 69 #[x, y] w fun e w' => e = .returned (.bool (befB g h)) ∧ Below w.heap.size w w' := by
  obtain ⟨ax, cx, rfl, hcx, hcx2, hx⟩ := hx0.form
  obtain ⟨ay, cy, rfl, hcy, hcy2, hy⟩ := hy0.form
  clear hcx2 hcy2 hx0 hy0
  have HL := Lib.hid hl
  rw [← hl] at hcy hy ⊢
  clear hl
  go_enter Try.func69, Try.ntmps69
  go_wp2_with fail
  go_loopw [5] (fun i wr => ∃ k : Nat, k ≤ g.length ∧ i = .int .i64 k ∧ befB g h = befB (g.drop k) (h.drop k) ∧ Below w.heap.size w wr) (fun i _ => g.length - (intOf i).toNat)
  case atStart => exact ⟨0, Nat.zero_le _, rfl, rfl, bz _⟩
  case round =>
    obtain ⟨k, hk, rfl, hb, hB⟩ := hrel
    by_cases hlt : k < g.length
    · obtain ⟨bx, ox, rfl, hbx, hcellx⟩ := hx (by omega)
      obtain ⟨by', oy, rfl, hby, hcelly⟩ := hy (by omega)
      have gx := (hB.cell (p := ⟨bx, ox + k, none⟩) hbx).trans (hcellx k hlt)
      have gy := (hB.cell (p := ⟨by', oy + k, none⟩) hby).trans (hcelly k hlt)
      have hlt2 : k < h.length := by rw [← HL.out]; exact hlt
      rw [List.drop_eq_getElem_cons hlt, List.drop_eq_getElem_cons hlt2, show g[k] = g[k]?.getD 0 by simp [hlt], show h[k] = h[k]?.getD 0 by simp [hlt2]] at hb
      have HB := Lib.hid hB; have HBB := Lib.hid hb
      have z1 : bx < wr.heap.size := Nat.lt_of_lt_of_le hbx hB.size
      have z2 : by' < wr.heap.size := Nat.lt_of_lt_of_le hby hB.size
      clear hx hy hcellx hcelly hB hb hlt2
      generalize g[k]?.getD 0 = p at *
      generalize h[k]?.getD 0 = q at *
      by_cases he : p = q
      · subst he
        have hb1 : (p != p) = false := by simp
        go_wp2_with fail
        go_quiet (fail)
        go_wp2_with fail
        go_roundw
        case rel => exact ⟨k + 1, by omega, by go_num, by rw [HBB.out]; simp [befB], Below.drewN' _ HB.out⟩
        case measure => simp [intOf]; omega
      · have hb1 : (p != q) = true := by simpa using he
        go_wp2_with fail
        go_quiet (fail)
        go_wp2_with fail
        go_quiet (fail)
        go_wp2_with fail
        go_ret
        refine ⟨ret_bool ?_, Below.drewN' _ (Below.drewN' _ HB.out)⟩
        rw [HBB.out, befB, if_neg he]
    · have hkl : k = g.length := by omega
      have hb2 : befB g h = false := by
        rw [hb, hkl, List.drop_length]
        simp [befB]
      have HBB := Lib.hid hb2
      clear hb hb2 hkl
      go_wp2_with fail
      go_ret
      exact ⟨ret_bool (by rw [HBB.out]), hB⟩
end Go.Proofs.Ytooddicegkiiiaa
