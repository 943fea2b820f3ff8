/- bench.add: valves for places and those that are so far behind them. -/
import Derived.Test.YtdnaipiiponhpaaW8
namespace Go.Proofs.Ytdnaipiiponhpaa
open Go.RowKit Go.Shelf

/-- The valves that are added, up to a place. -/
def addK (p far odd k : Nat) : List (Int × Int) := ((List.range k).filter fun i => i / p % 2 == odd).map fun i => (((i : Nat) : Int), ((i + far : Nat) : Int))
theorem addK_succ (p far odd k : Nat) : addK p far odd (k + 1) = if k / p % 2 == odd then addK p far odd k ++ [(((k : Nat) : Int), ((k + far : Nat) : Int))] else addK p far odd k := by
  unfold addK
  rw [List.range_succ, List.filter_append]
  cases h : (k / p % 2 == odd) <;> simp [h]
theorem addK_le (p far odd k : Nat) : (addK p far odd k).length ≤ k := by
  unfold addK
  have := List.length_filter_le (fun i => i / p % 2 == odd) (List.range k)
  simp at this ⊢
  exact this

set_option maxRecDepth 100000 in
set_option maxHeartbeats 1000000 in
theorem add_any (g base n p far odd : Nat) (v : Value) (W : List (Int × Int)) (w : World) (hg : g < base) (hbw : base ≤ w.heap.size) (hrow : w.heap[g]? = some (.cells #[.int .i64 n, v] 73 (0, 0)))
    (hown : w.ownsRow base 59 2 v W.length (prs W)) (hn : n ≤ 8) (hp : 1 ≤ p) (hp8 : p ≤ 8) (hf : far ≤ 8) (ho : odd ≤ 1) (hW : W.length ≤ 1000) :
    Calls Try.prog 76 #[.pointer (some ⟨g, 0, none⟩), .int .i64 p, .int .i64 far, .int .i64 odd] w fun e w' => e = .returned (.tuple #[]) ∧ ∃ v', w'.heap[g]? = some (.cells #[.int .i64 n, v'] 73 (0, 0)) ∧
      w'.ownsRow base 59 2 v' (W ++ addK p far odd (n - far)).length (prs (W ++ addK p far odd (n - far))) ∧ Below g w w' := by
  obtain ⟨i0, hi, hz0, hz1, hz2⟩ := info_parts Try.info59
  have HR := Lib.hid hrow; have HO := Lib.hid hown
  have gl := (Array.getElem?_eq_some_iff.1 hrow).1
  have c0 : w.cell? ⟨g, 0, none⟩ = some (.int .i64 n) := by rw [cell_of_row w g 0 _ _ _ hrow]; rfl
  have hw0 : IntKind.i64.wrap ((n : Int) - (far : Int)) = (n : Int) - far := IntWalk.i64_in _ (by omega)
  clear hrow hown
  go_enter Try.func76, Try.ntmps76
  go_wp2
  go_loopw [8, 16, 17, 18, 19, 20, 21, 22, 23, 24, 25, 26, 27, 28, 29, 30, 31, 32, 33, 34, 35, 36, 37, 38, 39, 40, 41] (fun _ i _ _ _ _ _ _ _ _ _ _ _ _ _ _ _ _ _ _ _ _ _ _ _ _ _ wr => ∃ k v, k ≤ n - far ∧ i = .int .i64 (k : Nat) ∧ Below g w wr ∧ wr.heap[g]? = some (.cells #[.int .i64 n, v] 73 (0, 0)) ∧ wr.ownsRow base 59 2 v (W ++ addK p far odd k).length (prs (W ++ addK p far odd k)))
    (fun _ i _ _ _ _ _ _ _ _ _ _ _ _ _ _ _ _ _ _ _ _ _ _ _ _ _ _ => ((n : Int) - intOf i).toNat)
  case atStart => exact ⟨0, v, Nat.zero_le _, rfl, Below.refl _ _, HR.out, by simpa [addK] using HO.out⟩
  case round =>
    obtain ⟨k, v2, hk, rfl, hbr, hrow, hor⟩ := hrel
    have hwz := hbr.size
    by_cases hkp : (k : Int) < (n : Int) - far
    · have hst := addK_succ p far odd k
      have hkl := addK_le p far odd k
      have hln : (W ++ addK p far odd k).length ≤ 1010 := by rw [List.length_append]; omega
      have c1 : wr.cell? ⟨g, 1, none⟩ = some v2 := by rw [cell_of_row wr g 1 _ _ _ hrow]; rfl
      have f1 := frozen_of_row wr g 1 _ _ hrow
      have hgl := (Array.getElem?_eq_some_iff.1 hrow).1
      have hq : wrap64 ((k : Int) / (p : Int)) = ((k / p : Nat) : Int) := by
        rw [← Int.natCast_ediv]
        have h1 := Nat.div_le_self k p
        generalize k / p = d at h1 ⊢
        unfold wrap64
        omega
      have hq2 : (wrap64 ((k : Int) / (p : Int))).tmod 2 = ((k / p % 2 : Nat) : Int) := by
        rw [hq]
        have := (Int.ofNat_tmod (k / p) 2).symm
        simpa using this
      clear hq
      generalize k / p % 2 = r at *
      have hpz : ((p : Int) == 0) = false := by simp; omega
      have hROW := Lib.hid hrow; have hO := Lib.hid hor; have HLN := Lib.hid hln
      clear hrow hor hln
      by_cases hro : r = odd
      · subst hro
        rw [if_pos (by simp)] at hst
        have HST := Lib.hid hst; clear hst
        go_wp2_with (at_builtin; refine wpList_append_own _ rfl _ _ 22 rfl base 59 i0 (.agg #[.int .i64 0, .int .i64 0]) 2 16 Try.underlying22 hi hz0 hz1 hz2 rfl (by decide) _ _ _ rfl (hO.out.alloc _) ⟨wr.heap.size, 0, none⟩ 1 1 [.int .i64 k, .int .i64 ((k : Int) + far)] rfl rfl (cell_two_new _ _ _ _) (two_int _ _) (by have := HLN.out; simp only [maxLen]; omega) (by have := HLN.out; omega) (by simp; omega) ?_)
        intro v' w' hown' hgrow hnil
        have hra := (append_keep (hO.out.alloc _) hgrow hg (by simp; omega)).trans ((Below.heap_alloc _ _ _ hgl).trans hROW.out)
        have hB6 : Below g w w' := Below.grown (hbr.alloc (by omega) (.cells #[.int .i64 k, .int .i64 ((k : Int) + far)] 59)) hgrow (by simp; omega) (fun k' e => by have := ((hO.out.alloc (.cells #[.int .i64 k, .int .i64 ((k : Int) + far)] 59)).lt k' e).1; omega)
        have c1' : w'.cell? ⟨g, 1, none⟩ = some v2 := by rw [cell_of_row w' _ 1 _ _ _ hra]; rfl
        have f1' := frozen_of_row w' g 1 _ _ hra
        have hnew := heap_setCell_same w' g 1 _ _ v' hra
        have hkeep := (hown'.kept (w' := w'.setCell ⟨g, 1, none⟩ v') (grownBy_set w' _ _) (by
          cases hvv : v'.ownBlock with
          | none => exact .inl rfl
          | some q => exact .inr (by intro e; cases e; have := (hown'.lt _ hvv).1; simp only at this; omega)))
        have HNEW := Lib.hid hnew; have HKEEP := Lib.hid hkeep
        obtain ⟨a9, c9, hv9⟩ := owns_form hown'
        subst hv9
        have hgl' : g < w'.heap.size := (Array.getElem?_eq_some_iff.1 hra).1
        clear hown' hgrow hnil hra hnew hkeep c1 f1
        go_wp2
        refine ⟨⟨k + 1, _, by omega, by simp, Below.setCell hB6 (by simp) _, HNEW.out, ?_⟩, by simp [intOf]; omega⟩
        rw [HST.out, ← List.append_assoc, List.length_append, List.length_append, prs_append, Int.natCast_add]
        exact HKEEP.out
      · rw [if_neg (by simpa using hro)] at hst
        have hne : ((r : Int) == (odd : Int)) = false := by simp; omega
        have HST := Lib.hid hst; clear hst
        go_wp2
        exact ⟨⟨k + 1, v2, by omega, by simp, hbr, hROW.out, by rw [HST.out]; exact hO.out⟩, by simp [intOf]; omega⟩
    · have hkk : addK p far odd k = addK p far odd (n - far) := by
        rw [show k = n - far by omega]
      rw [hkk] at hor
      have hO := Lib.hid hor; have hROW := Lib.hid hrow
      clear hor hrow
      go_wp2
      refine bodyPost_end (results_none rfl _ _ _) rfl ⟨rfl, v2, hROW.out, by have := hO.out; rw [List.length_append] at this; exact this, hbr⟩
end Go.Proofs.Ytdnaipiiponhpaa
