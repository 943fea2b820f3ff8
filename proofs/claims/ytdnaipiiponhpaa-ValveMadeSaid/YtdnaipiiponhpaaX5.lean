/- Bricks: the bricks of so many places; every number. -/
import Derived.Test.YtdnaipiiponhpaaX4
namespace Go.Proofs.Ytdnaipiiponhpaa
open Go.RowKit Go.Shelf

/-- The bricks of the first rounds. -/
def bricksK (p m : Nat) : List (Int × Int) := (List.range m).flatMap fun i => addK 1 1 (i % 2) (p - 1)
theorem bricksK_succ (p m : Nat) : bricksK p (m + 1) = bricksK p m ++ addK 1 1 (m % 2) (p - 1) := by
  unfold bricksK
  rw [List.range_succ, List.flatMap_append]
  simp
theorem bricksK_le (p m : Nat) : (bricksK p m).length ≤ m * (p - 1) := by
  induction m with
  | zero => simp [bricksK]
  | succ m ih =>
    rw [bricksK_succ, List.length_append, Nat.succ_mul]
    have := addK_le 1 1 (m % 2) (p - 1)
    omega
def bricksE (p : Int) : Int := if p < 1 ∨ 8 < p then 6 else 0
def bricksP (p : Int) : Int := if p < 1 ∨ 8 < p then 0 else p
def bricksL (p : Int) : List (Int × Int) := if p < 1 ∨ 8 < p then [] else bricksK p.toNat p.toNat

theorem within18 (p : Int) (w2 : World) (b : Nat) (hb : b = w2.heap.size) : Calls Try.prog 62 #[.int .i64 1, .int .i64 8, .slice (some ⟨b, 0, none⟩) 1 1] (w2.alloc (.cells #[.int .i64 p] 3)) fun e w' => e = .returned (.bool (!decide (p < 1 ∨ 8 < p))) ∧ Below (w2.alloc (.cells #[.int .i64 p] 3)).heap.size (w2.alloc (.cells #[.int .i64 p] 3)) w' := by
  subst hb
  have := within_any (.slice (some ⟨w2.heap.size, 0, none⟩) 1 1) [p] 1 8 (w2.alloc (.cells #[.int .i64 p] 3)) (one_slice (cnew rfl rfl) (by simp)) (by simp)
  simp only [List.any_cons, List.any_nil, Bool.or_false, outB] at this
  exact this

set_option maxRecDepth 100000 in
set_option maxHeartbeats 1000000 in
theorem bricks_any (p : Int) (w : World) :
    Calls Try.prog 43 #[.int .i64 p] w fun e w' => ∃ v, e = .returned (.tuple #[.agg #[.int .i64 (bricksP p), v], .int .i64 (bricksE p)]) ∧ RdP w' v (bricksL p) ∧ Below w.heap.size w w' := by
  have hsz : (Try.prog.info? 24).map (·.size) = some 2 := by kernel_rfl
  have HSZ := Lib.hid hsz; clear hsz
  unfold bricksP bricksE bricksL
  by_cases h : p < 1 ∨ 8 < p
  · simp only [if_pos h]
    have H0 := Lib.hid fun w2 b hb => within18 p w2 b hb
    have hd : (!decide (p < 1 ∨ 8 < p)) = false := by simp [h]
    rw [hd] at H0
    clear hd
    go_enter Try.func43, Try.ntmps43
    go_wp2_with fail
    refine (H0.out (w.alloc (.cells #[.int .i64 0, .slice none 0 0] 24)) _ (by simp)).mono ?_
    rintro e w2 ⟨rfl, hB2⟩
    have hB3 : Below w.heap.size w w2 := btr (bal (bal (bz _) _) _) hB2
    have hr : w2.heap[w.heap.size]? = some (.cells #[.int .i64 0, .slice none 0 0] 24 (0, 0)) := by
      refine (hB2.block _ (by simp; omega)).trans ((Below.heap_alloc _ _ _ (by simp)).trans (heap_alloc_new _ _))
    have HR := Lib.hid hr; clear hr
    have c0 : w2.cell? ⟨w.heap.size, 0, none⟩ = some (.int .i64 0) := by rw [cell_of_row w2 _ 0 _ _ _ HR.out]; rfl
    have c1 : w2.cell? ⟨w.heap.size, 1, none⟩ = some (.slice none 0 0) := by rw [cell_of_row w2 _ 1 _ _ _ HR.out]; rfl
    have f0 := frozen_of_row w2 w.heap.size 0 _ _ HR.out
    have f1 := frozen_of_row w2 w.heap.size 1 _ _ HR.out
    have hn2 := heap_setCell_same _ _ 1 _ _ (.slice none 0 0) (heap_setCell_same w2 w.heap.size 0 _ _ (.int .i64 0) HR.out)
    have HN2 := Lib.hid hn2; clear hn2
    go_wp2
    (try simp only [Exit.inBlock, Exit.then])
    refine bodyPost_ret (v := .tuple #[.agg #[.int .i64 0, .slice none 0 0], .int .i64 6]) ?_ ?_ ?_
    · exact results_row_tmp rfl rfl rfl HN2.out Try.underlying24 rfl HSZ.out
    · rfl
    · exact ⟨.slice none 0 0, rfl, rdP_nil _, bset (bset hB3 (by simp) _) (by simp) _⟩
  · simp only [if_neg h]
    obtain ⟨n, rfl⟩ : ∃ n : Nat, p = n := ⟨p.toNat, by omega⟩
    rw [show ((n : Nat) : Int).toNat = n by omega]
    have hp1 : 1 ≤ n := by omega
    have hp8 : n ≤ 8 := by omega
    have H0 := Lib.hid fun w2 b hb => within18 n w2 b hb
    have hd : (!decide ((n : Int) < 1 ∨ 8 < (n : Int))) = true := by simp; omega
    rw [hd] at H0
    clear hd h
    obtain ⟨i0, hi, hz0, hz1, hz2⟩ := info_parts Try.info59
    have hw0 : IntKind.i64.wrap ((n : Int) - 1) = (n : Int) - 1 := IntWalk.i64_in _ (by omega)
    go_enter Try.func43, Try.ntmps43
    go_wp2_with fail
    refine (H0.out (w.alloc (.cells #[.int .i64 0, .slice none 0 0] 24)) _ (by simp)).mono ?_
    rintro e w2 ⟨rfl, hB2⟩
    have hB3 : Below w.heap.size w w2 := btr (bal (bal (bz _) _) _) hB2
    have hr : w2.heap[w.heap.size]? = some (.cells #[.int .i64 0, .slice none 0 0] 24 (0, 0)) := by
      refine (hB2.block _ (by simp; omega)).trans ((Below.heap_alloc _ _ _ (by simp)).trans (heap_alloc_new _ _))
    have HR := Lib.hid hr; clear hr
    have hzz := hB2.size
    simp only [World.size_alloc] at hzz
    go_wp2
    go_loopw [5, 6, 15, 16, 17, 18, 19, 20, 21, 22, 23, 24, 25, 26, 27, 28, 29, 30, 31, 32, 33, 34, 35, 36, 37, 38] (fun _ _ i _ _ _ _ _ _ _ _ _ _ _ _ _ _ _ _ _ _ _ _ _ _ _ wr => ∃ m v, m ≤ n ∧ i = .int .i64 (m : Nat) ∧ Below w2.heap.size w2 wr ∧ wr.heap[w2.heap.size]? = some (.cells #[.int .i64 n, v] 24 (0, 0)) ∧ wr.ownsRow (w2.heap.size + 1) 59 2 v (bricksK n m).length (prs (bricksK n m)))
      (fun _ _ i _ _ _ _ _ _ _ _ _ _ _ _ _ _ _ _ _ _ _ _ _ _ _ _ => ((n : Int) - intOf i).toNat)
    case atStart => exact ⟨0, .slice none 0 0, Nat.zero_le _, rfl, bal (bz _) _, heap_alloc_new _ _, World.ownsRow_nil _ _ _ _⟩
    case round =>
      obtain ⟨m, v, hm, rfl, hbr, hrow, hor⟩ := hrel
      have hO := Lib.hid hor; have hROW := Lib.hid hrow; clear hor hrow
      by_cases hmn : m < n
      · have hbl := bricksK_le n m
        have hbl2 : m * (n - 1) ≤ 8 * 7 := Nat.mul_le_mul (by omega) (by omega)
        have hst := bricksK_succ n m
        have HST := Lib.hid hst; clear hst
        have hmr : (m : Int).tmod 2 = ((m % 2 : Nat) : Int) := by have := (Int.ofNat_tmod m 2).symm; simpa using this
        generalize m % 2 = r at *
        go_wp2
        go_loopw [6, 20, 21, 22, 23, 24, 25, 26, 27, 28, 29, 30, 31, 32, 33, 34, 35, 36, 37] (fun _ i _ _ _ _ _ _ _ _ _ _ _ _ _ _ _ _ _ wr => ∃ k v, k ≤ n - 1 ∧ i = .int .i64 (k : Nat) ∧ Below w2.heap.size w2 wr ∧ wr.heap[w2.heap.size]? = some (.cells #[.int .i64 n, v] 24 (0, 0)) ∧ wr.ownsRow (w2.heap.size + 1) 59 2 v (bricksK n m ++ addK 1 1 r k).length (prs (bricksK n m ++ addK 1 1 r k)))
          (fun _ i _ _ _ _ _ _ _ _ _ _ _ _ _ _ _ _ _ _ => ((n : Int) - intOf i).toNat)
        case atStart => exact ⟨0, v, Nat.zero_le _, rfl, hbr, hROW.out, by simpa [addK] using hO.out⟩
        case round =>
          obtain ⟨k, v2, hk, rfl, hbr2, hrow, hor⟩ := hrel
          clear hO hROW
          have hO := Lib.hid hor; have hROW := Lib.hid hrow; clear hor hrow
          have hwz := hbr2.size
          have hak := addK_le 1 1 r k
          have hgl := (Array.getElem?_eq_some_iff.1 hROW.out).1
          have HLN : Hid ((bricksK n m ++ addK 1 1 r k).length ≤ 100) := Lib.hid (by rw [List.length_append]; omega)
          by_cases hkn : (k : Int) < (n : Int) - 1
          · have hst := addK_succ 1 1 r k
            rw [Nat.div_one] at hst
            have hkr : (k : Int).tmod 2 = ((k % 2 : Nat) : Int) := by have := (Int.ofNat_tmod k 2).symm; simpa using this
            generalize k % 2 = r2 at *
            have c1 : wr.cell? ⟨w2.heap.size, 1, none⟩ = some v2 := by rw [cell_of_row wr _ 1 _ _ _ hROW.out]; rfl
            have f1 := frozen_of_row wr w2.heap.size 1 _ _ hROW.out
            have hw1 : IntKind.i64.wrap ((k : Int) + 1) = (k : Int) + 1 := IntWalk.i64_in _ (by omega)
            by_cases hrr : r2 = r
            · subst hrr
              rw [if_pos (by simp)] at hst
              have HS2 := Lib.hid hst; clear hst
              go_wp2_with (at_builtin; refine wpList_append_own _ rfl _ _ 22 rfl (w2.heap.size + 1) 59 i0 (.agg #[.int .i64 0, .int .i64 0]) 2 16 Try.underlying22 hi hz0 hz1 hz2 rfl (by decide) _ _ _ rfl (hO.out.alloc _) ⟨wr.heap.size, 0, none⟩ 1 1 [.int .i64 k, .int .i64 ((k : Int) + 1)] rfl rfl (cell_two_new _ _ _ _) (two_int _ _) (by have := HLN.out; simp only [maxLen]; omega) (by have := HLN.out; omega) (by simp; omega) ?_)
              intro v' w' hown' hgrow hnil
              have hra := (append_keep (hO.out.alloc _) hgrow (Nat.lt_succ_self _) (by simp; omega)).trans ((Below.heap_alloc _ _ _ hgl).trans hROW.out)
              have hB6 : Below w2.heap.size w2 w' := append_below (bal hbr2 _) (hO.out.alloc _) hgrow (by omega)
              have c1' : w'.cell? ⟨w2.heap.size, 1, none⟩ = some v2 := by rw [cell_of_row w' _ 1 _ _ _ hra]; rfl
              have f1' := frozen_of_row w' w2.heap.size 1 _ _ hra
              have hnew := heap_setCell_same w' w2.heap.size 1 _ _ v' hra
              have hkeep := (hown'.kept (w' := w'.setCell ⟨w2.heap.size, 1, none⟩ v') (grownBy_set w' _ _) (by
                cases hvv : v'.ownBlock with
                | none => exact .inl rfl
                | some q => exact .inr (by intro e; cases e; have := (hown'.lt _ hvv).1; simp only at this; omega)))
              have HNEW := Lib.hid hnew; have HKEEP := Lib.hid hkeep
              obtain ⟨a9, c9, hv9⟩ := owns_form hown'
              subst hv9
              clear hown' hgrow hnil hra hnew hkeep c1 f1
              go_wp2
              refine ⟨⟨k + 1, _, by omega, by simp, bset hB6 (by simp) _, HNEW.out, ?_⟩, by simp [intOf]; omega⟩
              rw [HS2.out, ← List.append_assoc, List.length_append, List.length_append, prs_append, Int.natCast_add]
              exact HKEEP.out
            · rw [if_neg (by simpa using hrr)] at hst
              have hne : ((r2 : Int) == (r : Int)) = false := by simp; omega
              have HS2 := Lib.hid hst; clear hst
              go_wp2
              exact ⟨⟨k + 1, v2, by omega, by simp, hbr2, hROW.out, by rw [HS2.out]; exact hO.out⟩, by simp [intOf]; omega⟩
          · have hkk : bricksK n m ++ addK 1 1 r k = bricksK n (m + 1) := by rw [HST.out, show k = n - 1 by omega]
            have hO2 := hO.out
            rw [hkk] at hO2
            have HO2 := Lib.hid hO2; clear hO2 hO
            go_wp2
            exact ⟨⟨m + 1, v2, by omega, by simp, hbr2, hROW.out, HO2.out⟩, by simp [intOf]; omega⟩
      · obtain rfl : m = n := by omega
        have hr1 := (hbr.block _ (by omega)).trans HR.out
        have HR1 := Lib.hid hr1; clear hr1
        obtain ⟨a9, c9, hv9⟩ := owns_form hO.out
        subst hv9
        have hB9 := btr hB3 hbr
        have hz9 := hbr.size
        have c0 : wr.cell? ⟨w.heap.size, 0, none⟩ = some (.int .i64 0) := by rw [cell_of_row wr _ 0 _ _ _ HR1.out]; rfl
        have c1 : wr.cell? ⟨w.heap.size, 1, none⟩ = some (.slice none 0 0) := by rw [cell_of_row wr _ 1 _ _ _ HR1.out]; rfl
        have f0 := frozen_of_row wr w.heap.size 0 _ _ HR1.out
        have f1 := frozen_of_row wr w.heap.size 1 _ _ HR1.out
        have d0 : wr.cell? ⟨w2.heap.size, 0, none⟩ = some (.int .i64 m) := by rw [cell_of_row wr _ 0 _ _ _ hROW.out]; rfl
        have d1 : wr.cell? ⟨w2.heap.size, 1, none⟩ = some (.slice a9 (bricksK m m).length c9) := by rw [cell_of_row wr _ 1 _ _ _ hROW.out]; rfl
        have hn2 := heap_setCell_same _ _ 1 _ _ (.slice a9 (bricksK m m).length c9) (heap_setCell_same wr w.heap.size 0 _ _ (.int .i64 m) HR1.out)
        have HN2 := Lib.hid hn2; clear hn2
        have hkeep := (hO.out.kept (w' := wr.setCell ⟨w.heap.size, 0, none⟩ (.int .i64 m)) (grownBy_set wr _ _) (by
            cases hvv : (Value.slice a9 (bricksK m m).length c9).ownBlock with
            | none => exact .inl rfl
            | some q => exact .inr (by intro e; cases e; have := (hO.out.lt _ hvv).1; simp only at this; omega)))
        have hkeep2 := (hkeep.kept (w' := (wr.setCell ⟨w.heap.size, 0, none⟩ (.int .i64 m)).setCell ⟨w.heap.size, 1, none⟩ (.slice a9 (bricksK m m).length c9)) (grownBy_set _ _ _) (by
            cases hvv : (Value.slice a9 (bricksK m m).length c9).ownBlock with
            | none => exact .inl rfl
            | some q => exact .inr (by intro e; cases e; have := (hkeep.lt _ hvv).1; simp only at this; omega)))
        have HK2 := Lib.hid hkeep2; clear hkeep hkeep2
        go_wp2
        (try simp only [Exit.inBlock, Exit.then])
        refine bodyPost_ret (v := .tuple #[.agg #[.int .i64 m, .slice a9 (bricksK m m).length c9], .int .i64 0]) ?_ ?_ ?_
        · exact results_row_tmp rfl rfl rfl HN2.out Try.underlying24 rfl HSZ.out
        · rfl
        · exact ⟨_, rfl, RdP.of_owns HK2.out, bset (bset hB9 (by simp) _) (by simp) _⟩
end Go.Proofs.Ytdnaipiiponhpaa
