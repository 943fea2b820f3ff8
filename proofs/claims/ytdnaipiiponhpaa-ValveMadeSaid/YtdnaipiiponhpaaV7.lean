/- slices.Clone, and whether a lane is sorted. -/
import Derived.Test.YtdnaipiiponhpaaV6
namespace Go.Proofs.Ytdnaipiiponhpaa
open Go.RowKit

set_option maxRecDepth 100000 in
/-- slices.Clone at []int64, of a slice that is not empty. -/
theorem cloneI_any (y : Value) (l : List Int) (w : World) (hy0 : RdI w .i64 y l) (hn : 0 < l.length) (hn' : l.length ≤ 1000) :
    Calls Try.prog 59 #[y] w fun e w' => ∃ v, e = .returned v ∧ w'.ownsRow w.heap.size 2 1 v l.length (l.map (Value.int .i64)) ∧ Below w.heap.size w w' := by
  obtain ⟨b, cb, rfl, hcb, hcb2, _⟩ := hy0.form
  obtain ⟨i0, hi, hz0, hz1, hz2⟩ := info_parts Try.info2
  obtain ⟨ad, rfl, hsp, hbd, hnews⟩ := RdC.news hy0 (by intro e; simp at e; subst e; simp at hn)
  have HY := Lib.hid hy0; clear hy0
  have hll : (l.map (Value.int .i64)).length = l.length * 1 := by simp
  have HLL := Lib.hid hll; clear hll
  have hc2 : ∀ u ∈ l.map (Value.int .i64), u.oneCell' = true := by intro u hu; simp at hu; obtain ⟨_, _, rfl⟩ := hu; rfl
  have HC2 := Lib.hid hc2; clear hc2
  have hnw : ∀ j u, (l.map (Value.int .i64))[j]? = some u → (w.alloc (.cells #[] 2)).cell? (ad.add j) = some u := by
    intro j u hj
    have := hnews j u hj
    have e : (ad.add j).block = ad.block := by unfold Addr.add; split <;> rfl
    exact (World.cell?_of_block (w := w) (by rw [e]; exact Below.heap_alloc _ _ _ hbd)).trans this
  have HNW := Lib.hid hnw; clear hnw hnews
  have hnl := fun (w : World) (a : Option Addr) (n c : Nat) => Lib.run_eql_slice_nil (P := Try.prog) w 25 2 a n c 0 0 Try.underlying25
  go_enter Try.func59, Try.ntmps59
  go_wp2_with (at_builtin; refine wpList_append_own _ rfl _ _ 25 rfl w.heap.size 2 i0 (.int .i64 0) 1 8 Try.underlying25 hi hz0 hz1 hz2 rfl (by decide) _ 0 [] rfl (World.ownsRow_made w #[] 0 (Nat.le_refl _) (by simp) (by simp)) ad l.length cb (l.map (Value.int .i64)) rfl HLL.out HNW.out HC2.out (by simp only [maxLen]; omega) (by omega) (by simp) ?_)
  intro v' w1 hown hgrow hnil
  clear hnil
  have hB1 : Below w.heap.size w w1 := bgr (bal (bz _) _) hgrow (by intro k h; simp [Value.ownBlock] at h; omega)
  clear hgrow
  go_wp2
  go_ret
  exact ⟨_, rfl, hown, hB1⟩

set_option maxRecDepth 100000 in
set_option maxHeartbeats 400000 in
theorem bsorted_any (bb : Nat) (p : Int) (x : Value) (l : List Int) (w : World) (hb : IsBench w bb p x) (hp1 : 1 ≤ p) (hp2 : p ≤ 8) (hl : l.length = 8) :
    Calls Try.prog 64 #[.pointer (some ⟨bb, 0, none⟩), .agg (l.map (Value.int .i64)).toArray] w fun e w' => e = .returned (.bool (sortedB (l.take p.toNat))) ∧ Below w.heap.size w w' := by
  obtain ⟨hb0, hb1, hb2⟩ := hb
  obtain ⟨n, rfl⟩ : ∃ n : Nat, p = n + 1 := ⟨(p - 1).toNat, by omega⟩
  have e : ((n : Int) + 1).toNat = n + 1 := by omega
  rw [e]; clear e
  have hso := sortedB_iff (l.take (n + 1))
  have HSO := Lib.hid hso; clear hso
  generalize hsb : sortedB (l.take (n + 1)) = sb at *
  have HL := Lib.hid hl; clear hl
  have HSB := Lib.hid hsb; clear hsb
  go_enter Try.func64, Try.ntmps64
  go_wp2
  go_loopw [5, 12] (fun _ i wr => ∃ k : Nat, k ≤ n ∧ i = .int .i64 k ∧ (∀ i, 0 < i → i < k + 1 → l[i-1]?.getD 0 ≤ l[i]?.getD 0) ∧ wr.heap[w.heap.size]? = some (.cells (l.map (Value.int .i64)).toArray 75 (0, 0)) ∧ Below w.heap.size w wr) (fun _ i _ => n - (intOf i).toNat)
  case atStart => exact ⟨0, Nat.zero_le _, rfl, by intro i h1 h2; omega, heap_alloc_new w _, bal (bz _) _⟩
  case round =>
    obtain ⟨k, hk, rfl, ht, hr, hB⟩ := hrel
    have HT := Lib.hid ht; clear ht
    by_cases hlt : k < n
    · have c1 : wr.cell? ⟨w.heap.size, k, none⟩ = some (.int .i64 (l[k]?.getD 0)) := (cell_of_row wr w.heap.size k _ _ _ hr).trans (by have := HL.out; simp [show k < l.length by omega])
      have c2 : wr.cell? ⟨w.heap.size, k + 1, none⟩ = some (.int .i64 (l[k+1]?.getD 0)) := (cell_of_row wr w.heap.size (k + 1) _ _ _ hr).trans (by have := HL.out; simp [show k + 1 < l.length by omega])
      have hk8 : (k : Int) + 1 < 8 := by omega
      have hk9 : (k : Int) < 8 := by omega
      have hw1 : IntKind.i64.wrap ((k : Int) + 1) = (k : Int) + 1 := IntWalk.i64_in _ (by omega)
      have hw2 : (0 : Int) ≤ (k : Int) + 1 := by omega
      have hw3 : ((k : Int) + 1).toNat = k + 1 := by omega
      have HR := Lib.hid hr; clear hr
      by_cases he : l[k+1]?.getD 0 < l[k]?.getD 0
      · have fin : sb = false := by
          rw [← Bool.not_eq_true, HSO.out]
          intro h
          have hlen := HL.out
          have := h (k+1) (by omega) (by simp; omega)
          simp only [Nat.add_sub_cancel, List.getElem?_take, if_pos (show k < n + 1 by omega), if_pos (show k + 1 < n + 1 by omega)] at this
          omega
        have FIN := Lib.hid fin; clear fin
        generalize l[k+1]?.getD 0 = p at *
        generalize l[k]?.getD 0 = q at *
        go_wp2
        go_quiet (fail)
        clear hw1 hw2 hw3
        go_wp2
        go_ret
        exact ⟨ret_bool FIN.out.symm, Below.drewN' _ hB⟩
      · generalize hp : l[k+1]?.getD 0 = p at *
        generalize hq : l[k]?.getD 0 = q at *
        have HP := Lib.hid hp; have HQ := Lib.hid hq; clear hp hq
        go_wp2
        go_quiet (fail)
        clear hw1 hw2 hw3
        go_wp2
        go_roundw
        case rel =>
          refine ⟨k + 1, by omega, by go_num, fun i h1 h2 => ?_, HR.out, Below.drewN' _ hB⟩
          by_cases e : i = k + 1
          · subst e; simp only [Nat.add_sub_cancel, HP.out, HQ.out]; omega
          · exact HT.out i h1 (by omega)
        case measure => simp [intOf]; omega
    · go_wp2
      go_ret
      refine ⟨ret_bool ?_, hB⟩
      symm
      rw [HSO.out]
      intro i h1 h2
      simp at h2
      simp only [List.getElem?_take, if_pos (show i - 1 < n + 1 by omega), if_pos (show i < n + 1 by omega)]
      exact HT.out i h1 (by omega)
end Go.Proofs.Ytdnaipiiponhpaa
