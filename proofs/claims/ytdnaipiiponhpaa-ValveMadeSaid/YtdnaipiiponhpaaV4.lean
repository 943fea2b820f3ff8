/- The reference's CheckRow; rows of at most 1000 valves. -/
import Derived.Test.YtdnaipiiponhpaaV3
namespace Go.Proofs.Ytdnaipiiponhpaa
open Go.RowKit

theorem oddV_iff {p : Int} {v : Int × Int} : oddV p v = decide (v.1 < 0 ∨ v.2 ≤ v.1 ∨ p ≤ v.2) := by
  rw [Bool.eq_iff_iff]; simp [oddV, outB]; omega

set_option maxRecDepth 100000 in
set_option maxHeartbeats 400000 in
theorem rcheck_any (p : Int) (x : Value) (V : List (Int × Int)) (w : World) (hx0 : RdP w x V) (hl : V.length ≤ 1000) :
    Calls Try.prog 21 #[.agg #[.int .i64 p, x]] w fun e w' => e = .returned (.int .i64 (checkR p V)) ∧ Below w.heap.size w w' := by
  obtain ⟨a, ca, rfl, _, _, hx⟩ := hx0.form
  clear hx0
  by_cases hp : p < 1 ∨ 8 < p ∨ 40 < V.length
  · have e : checkR p V = 6 := by unfold checkR; rw [if_pos (by omega)]
    rw [e]; clear e
    by_cases h1 : p < 1
    · go_enter Try.func21, Try.ntmps21
      go_wp2
      go_ret
      exact ⟨rfl, bal (bz _) _⟩
    · by_cases h2 : 8 < p
      · go_enter Try.func21, Try.ntmps21
        go_wp2
        go_ret
        exact ⟨rfl, bal (bz _) _⟩
      · have h3 : 40 < V.length := by omega
        go_enter Try.func21, Try.ntmps21
        go_wp2
        go_ret
        exact ⟨rfl, bal (bz _) _⟩
  · have e : checkR p V = if V.any (oddV p) then 2 else 0 := by unfold checkR; rw [if_neg (by omega)]
    rw [e]; clear e
    have hp1 : 1 ≤ p := by omega
    have hp2 : p ≤ 8 := by omega
    have hp3 : V.length ≤ 40 := by omega
    clear hp
    have d1 : decide (p < 1) = false := by simp; omega
    have d2 : decide (8 < p) = false := by simp; omega
    have d3 : decide ((40 : Int) < V.length) = false := by simp; omega
    generalize hr : (if V.any (oddV p) then (2 : Int) else 0) = r
    have HR := Lib.hid hr; clear hr
    go_enter Try.func21, Try.ntmps21
    go_wp2
    go_loopw [3, 4] (fun i v wr => ∃ k : Nat, k ≤ V.length ∧ i = .int .i64 k ∧ (∀ i, i < k → oddV p (V[i]?.getD (0, 0)) = false) ∧ Below w.heap.size w wr ∧ wr.cell? ⟨w.heap.size, 0, none⟩ = some (.int .i64 p) ∧ wr.cell? ⟨w.heap.size, 1, none⟩ = some (.slice a V.length ca) ∧ w.heap.size < wr.heap.size) (fun i _ _ => V.length - (intOf i).toNat)
    case atStart => exact ⟨0, Nat.zero_le _, rfl, by intro i h1; omega, bal (bz _) _, by simp, by simp, by simp⟩
    case round =>
      obtain ⟨k, hk, rfl, ht, hB, hc0, hc1, hwz⟩ := hrel
      have HT := Lib.hid ht; clear ht
      by_cases hlt : k < V.length
      · obtain ⟨bx, ox, rfl, hbx, hcx⟩ := hx (by omega)
        have gx := (hB.cell (p := ⟨bx, ox + k * 2, none⟩) hbx).trans (hcx k hlt).1
        have gy := (hB.cell (p := ⟨bx, ox + k * 2 + 1, none⟩) hbx).trans (hcx k hlt).2
        clear hx hcx
        generalize hp : V[k]?.getD (0, 0) = q at *
        have HP := Lib.hid hp; clear hp
        obtain ⟨q1, q2⟩ := q
        have HO := Lib.hid (oddV_iff (p := p) (v := (q1, q2)))
        have fin : oddV p (q1, q2) = true → (2 : Int) = r := fun h => by
          rw [← HR.out, if_pos]
          rw [List.any_eq_true]
          exact ⟨_, List.getElem_mem hlt, by have := HP.out; simp [hlt] at this; rw [this]; exact h⟩
        have FIN := Lib.hid fin; clear fin
        by_cases b1 : q1 < 0
        · go_wp2
          go_ret
          exact ⟨ret_int (FIN.out (by rw [HO.out]; simp; omega)), bal hB _⟩
        · by_cases b2 : q2 ≤ q1
          · go_wp2
            go_ret
            exact ⟨ret_int (FIN.out (by rw [HO.out]; simp; omega)), bal hB _⟩
          · by_cases b3 : p ≤ q2
            · go_wp2
              go_ret
              exact ⟨ret_int (FIN.out (by rw [HO.out]; simp; omega)), bal hB _⟩
            · go_wp2
              go_roundw
              case rel =>
                refine ⟨k + 1, by omega, by go_num, fun i h1 => ?_, bal hB _, ?_, ?_, ?_⟩
                · by_cases e : i = k
                  · subst e; rw [HP.out, HO.out]; simp; omega
                  · exact HT.out i (by omega)
                · exact (World.cell?_of_block (w := wr) (Below.heap_alloc wr _ _ hwz)).trans hc0
                · exact (World.cell?_of_block (w := wr) (Below.heap_alloc wr _ _ hwz)).trans hc1
                · simp; omega
              case measure => simp [intOf]; omega
      · go_wp2
        go_ret
        refine ⟨ret_int ?_, hB⟩
        rw [← HR.out, if_neg]
        rw [Bool.not_eq_true, List.any_eq_false]
        intro v hv
        obtain ⟨i, hi, rfl⟩ := List.getElem_of_mem hv
        have := HT.out i (by omega)
        simpa [hi] using this
end Go.Proofs.Ytdnaipiiponhpaa
