/- Plain facts: where a value can be is what the document says. -/
import Derived.Test.YtdnaipiiponhpaaP3
import Derived.Test.YtdnaipiiponhpaaZ9
namespace Go.Proofs.Ytdnaipiiponhpaa

theorem middled_eq {p place : Nat} (hp : p ≤ 8) (hpl : place < p) (t : Nat) : middled p place (laneOf p t) = (((bitsOf p t).map fun x => 2 * x).set place 1).map (fun x => x + 1) ++ List.replicate (8 - p) 0 := by
  apply ext_getD
  · simp [middled_length, laneOf_length, bitsOf_len]; omega
  · intro i hi
    have h8 : i < 8 := by rw [middled_length, laneOf_length] at hi; exact hi
    unfold middled
    rw [getD_set _ _ _ _ (by rw [oddly_length, laneOf_length]; omega)]
    rw [lane_eq p t hp]
    by_cases hip : i < p
    · rw [List.getElem?_append_left (by simpa [bitsOf_len] using hip), getD_map _ _ _ (by simpa [bitsOf_len] using hip), getD_set _ _ _ _ (by simpa [bitsOf_len] using hpl)]
      by_cases e : place = i
      · rw [if_pos e, if_pos e]; rfl
      · rw [if_neg e, if_neg e, getD_map _ _ _ (by rw [bitsOf_len]; exact hip)]
        unfold oddly
        rw [List.getElem?_mapIdx, List.getElem?_append_left (by rw [bitsOf_len]; exact hip), List.getElem?_eq_getElem (by rw [bitsOf_len]; exact hip)]
        simp [hip]; omega
    · rw [if_neg (by omega), List.getElem?_append_right (by simp [bitsOf_len]; omega)]
      unfold oddly
      rw [List.getElem?_mapIdx, List.getElem?_append_right (by rw [bitsOf_len]; omega)]
      simp only [List.getElem?_replicate, List.length_map, List.length_set, bitsOf_len]
      split <;> first | (rename_i h; exact absurd h hip) | (split <;> simp)
theorem endsB_eq {p place i : Nat} {V : List (Int × Int)} (hp : p ≤ 8) (h : OkV p V) (hpl : place < p) (hi : i < p) : endsB p V place i = rendsB p V place i := by
  unfold endsB rendsB lanes
  rw [List.any_map]
  congr 1
  funext t
  simp only [Function.comp_apply]
  have hl : (((bitsOf p t).map fun x => 2 * x).set place 1).length = p := by simp [bitsOf_len]
  have hl2 : ((((bitsOf p t).map fun x => 2 * x).set place 1).map (fun x => x + 1)).length = p := by rw [List.length_map, hl]
  rw [middled_eq hp hpl, runV_pad V _ _ (fun v hv => by have := h v hv; omega), runV_map (fun x => x + 1) (fun x y h => by show x + 1 ≤ y + 1; omega) V _ (by rw [hl]; exact h)]
  unfold hitB endX
  rw [List.getElem?_append_left (by rw [List.length_map, runV_length, hl]; exact hi), getD_map _ _ _ (by rw [runV_length, hl]; exact hi)]
  rw [Bool.eq_iff_iff]
  simp only [beq_iff_eq, decide_eq_true_eq]
  omega
theorem outB_eq (p place : Int) : outB 0 (p - 1) place = decide (place < 0 ∨ p ≤ place) := by
  unfold outB; rw [Bool.eq_iff_iff]; simp only [decide_eq_true_eq]; omega
theorem endsE_eq (p place : Int) (V : List (Int × Int)) : endsE p V place = rendsE p V place := by
  unfold endsE rendsE
  rw [outB_eq]
  simp only [decide_eq_true_eq]
theorem endsL_eq (p place : Int) (V : List (Int × Int)) : endsL p V place = rendsR p V place := by
  unfold endsL rendsR
  rw [outB_eq]
  simp only [decide_eq_true_eq]
  split
  · rfl
  · rename_i h
    have h0 := row_ok (show checkR p V = 0 by simpa using h)
    split
    · rfl
    · rename_i h2
      unfold endsK rendsK
      congr 1
      apply List.filter_congr
      intro k hk
      exact endsB_eq h0.1 h0.2 (by omega) (List.mem_range.1 hk)
theorem rendsR_len (p place : Int) (V : List (Int × Int)) : (rendsR p V place).length ≤ 8 := by
  unfold rendsR
  split
  · simp
  · rename_i h
    have h0 := row_ok (show checkR p V = 0 by simpa using h)
    split
    · simp
    · have := rendsK_le p.toNat V place.toNat p.toNat; omega
theorem rneedR_len (p : Int) (V : List (Int × Int)) : (rneedR p V).length ≤ V.length := by
  unfold rneedR; split
  · exact rneedL_le _ _ _
  · simp
theorem rcutL_len (p : Int) (V : List (Int × Int)) : (rcutL p V).length ≤ V.length := by
  unfold rcutL; split
  · exact rcutK_le _ _ _
  · simp
theorem rrR_len (p : Int) (V : List (Int × Int)) : (rrR p V).length ≤ V.length := by
  unfold rrR; split
  · rw [rrL_len]; exact Nat.le_refl _
  · simp
theorem mirrorL_len (p : Int) (V : List (Int × Int)) : (mirrorL p V).length ≤ V.length := by
  unfold mirrorL; split
  · simp
  · simp
end Go.Proofs.Ytdnaipiiponhpaa
