/- Merge: the merge of so many places; every number. -/
import Derived.Test.YtdnaipiiponhpaaX5
namespace Go.Proofs.Ytdnaipiiponhpaa
open Go.RowKit Go.Shelf

def innerM (n p : Nat) : Nat → Nat → List (Int × Int)
  | 0, _ => []
  | f + 1, q => if p < q then addK p (q - p) 1 (n - (q - p)) ++ innerM n p f (q / 2) else []
def outerM (n t : Nat) : Nat → Nat → List (Int × Int)
  | 0, _ => []
  | f + 1, p => if 0 < p then addK p p 0 (n - p) ++ (innerM n p 4 (t / 2) ++ outerM n t f (p / 2)) else []
def topOf (n : Nat) : Nat := if n ≤ 1 then 1 else if n ≤ 2 then 2 else if n ≤ 4 then 4 else 8
/-- The merge of so many places. -/
def mergeN (n : Nat) : List (Int × Int) := outerM n (topOf n) 4 (topOf n / 2)
def mergeL (p : Int) : List (Int × Int) := if p < 1 ∨ 8 < p then [] else mergeN p.toNat
theorem mergeN_le : ∀ n, n ≤ 8 → (mergeN n).length ≤ 100 := by decide +kernel
theorem outerM_zero (n t f : Nat) : outerM n t f 0 = [] := by cases f <;> rfl
theorem innerM_stop (n p f q : Nat) (h : ¬ p < q) : innerM n p f q = [] := by
  cases f
  · rfl
  · simp [innerM, h]

set_option maxRecDepth 100000 in
set_option maxHeartbeats 1000000 in
theorem merge_any (p : Int) (w : World) :
    Calls Try.prog 45 #[.int .i64 p] w fun e w' => ∃ v, e = .returned (.tuple #[.agg #[.int .i64 (bricksP p), v], .int .i64 (bricksE p)]) ∧ RdP w' v (mergeL p) ∧ Below w.heap.size w w' := by
  have hsz : (Try.prog.info? 24).map (·.size) = some 2 := by kernel_rfl
  have HSZ := Lib.hid hsz; clear hsz
  unfold bricksP bricksE mergeL
  by_cases h : p < 1 ∨ 8 < p
  · simp only [if_pos h]
    have H0 := Lib.hid fun w2 b hb => within18 p w2 b hb
    have hd : (!decide (p < 1 ∨ 8 < p)) = false := by simp [h]
    rw [hd] at H0
    clear hd
    go_enter Try.func45, Try.ntmps45
    go_wp2_with fail
    refine (H0.out (w.alloc (.cells #[.int .i64 0, .slice none 0 0] 24)) _ (by simp)).mono ?_
    rintro e w2 ⟨rfl, hB2⟩
    have hB3 : Below w.heap.size w w2 := btr (bal (bal (bz _) _) _) hB2
    have hr : w2.heap[w.heap.size]? = some (.cells #[.int .i64 0, .slice none 0 0] 24 (0, 0)) := by
      refine (hB2.block _ (by simp; omega)).trans ((Below.heap_alloc _ _ _ (by simp)).trans (heap_alloc_new _ _))
    have HR := Lib.hid hr; clear hr
    have c0 : w2.cell? ⟨w.heap.size, 0, none⟩ = some (.int .i64 0) := by rw [cell_of_row w2 _ 0 _ _ _ HR.out]; rfl
    have c1 : w2.cell? ⟨w.heap.size, 1, none⟩ = some (.slice none 0 0) := by rw [cell_of_row w2 _ 1 _ _ _ HR.out]; rfl
    have f0 := frozen_of_row w2 w.heap.size 0 _ _ HR.out
    have f1 := frozen_of_row w2 w.heap.size 1 _ _ HR.out
    have hn2 := heap_setCell_same _ _ 1 _ _ (.slice none 0 0) (heap_setCell_same w2 w.heap.size 0 _ _ (.int .i64 0) HR.out)
    have HN2 := Lib.hid hn2; clear hn2
    go_wp2
    (try simp only [Exit.inBlock, Exit.then])
    refine bodyPost_ret (v := .tuple #[.agg #[.int .i64 0, .slice none 0 0], .int .i64 6]) ?_ ?_ ?_
    · exact results_row_tmp rfl rfl rfl HN2.out Try.underlying24 rfl HSZ.out
    · rfl
    · exact ⟨.slice none 0 0, rfl, rdP_nil _, bset (bset hB3 (by simp) _) (by simp) _⟩
  · simp only [if_neg h]
    obtain ⟨n, rfl⟩ : ∃ n : Nat, p = n := ⟨p.toNat, by omega⟩
    rw [show ((n : Nat) : Int).toNat = n by omega]
    have hp1 : 1 ≤ n := by omega
    have hp8 : n ≤ 8 := by omega
    have H0 := Lib.hid fun w2 b hb => within18 n w2 b hb
    have hd : (!decide ((n : Int) < 1 ∨ 8 < (n : Int))) = true := by simp; omega
    rw [hd] at H0
    clear hd h
    have HML := Lib.hid (mergeN_le n hp8)
    go_enter Try.func45, Try.ntmps45
    go_wp2_with fail
    refine (H0.out (w.alloc (.cells #[.int .i64 0, .slice none 0 0] 24)) _ (by simp)).mono ?_
    rintro e w2 ⟨rfl, hB2⟩
    have hB3 : Below w.heap.size w w2 := btr (bal (bal (bz _) _) _) hB2
    have hr : w2.heap[w.heap.size]? = some (.cells #[.int .i64 0, .slice none 0 0] 24 (0, 0)) := by
      refine (hB2.block _ (by simp; omega)).trans ((Below.heap_alloc _ _ _ (by simp)).trans (heap_alloc_new _ _))
    have HR := Lib.hid hr; clear hr
    have hzz := hB2.size
    simp only [World.size_alloc] at hzz
    go_wp2
    go_loopw [4, 13, 14, 15, 16, 17] (fun i _ _ _ _ _ wr => wr = w2 ∧ ∃ t : Nat, i = .int .i64 t ∧ (t = 1 ∨ t = 2 ∧ 1 < n ∨ t = 4 ∧ 2 < n ∨ t = 8 ∧ 4 < n)) (fun i _ _ _ _ _ _ => ((n : Int) - intOf i).toNat)
    case atStart => exact ⟨rfl, 1, rfl, .inl rfl⟩
    case round =>
      obtain ⟨hww, t, rfl, ht⟩ := hrel
      have hww' := hww.symm
      clear hww
      subst hww'
      by_cases htn : t < n
      · have hw : IntKind.i64.wrap ((t : Int) * 2) = (t : Int) * 2 := IntWalk.i64_in _ (by omega)
        go_wp2
        exact ⟨⟨trivial, t * 2, by simp, by omega⟩, by simp [intOf]; omega⟩
      · have htt : t = topOf n := by unfold topOf; split <;> (try split) <;> (try split) <;> omega
        have ht8 : t ≤ 8 := by omega
        have ht1 : 1 ≤ t := by omega
        have hm0 : mergeN n = outerM n t 4 (t / 2) := by rw [htt]; rfl
        have HM0 := Lib.hid hm0; clear hm0
        clear htt ht
        go_wp2
        go_loopw [6, 7, 24, 25, 26, 27, 28, 29, 30, 31, 32, 33, 34, 35, 36, 37, 38, 39, 40, 41, 42, 43, 44] (fun i _ _ _ _ _ _ _ _ _ _ _ _ _ _ _ _ _ _ _ _ _ _ wx => ∃ p f v acc, i = .int .i64 (p : Nat) ∧ p ≤ 4 ∧ p < 2 ^ f ∧ acc ++ outerM n t f p = mergeN n ∧ Below w2.heap.size w2 wx ∧ wx.heap[w2.heap.size]? = some (.cells #[.int .i64 n, v] 73 (0, 0)) ∧ wx.ownsRow (w2.heap.size + 1) 59 2 v acc.length (prs acc))
          (fun i _ _ _ _ _ _ _ _ _ _ _ _ _ _ _ _ _ _ _ _ _ _ _ => (intOf i).toNat)
        case atStart => exact ⟨t / 2, 4, .slice none 0 0, [], by congr 1, by omega, by omega, HM0.out.symm, bal (bz _) _, heap_alloc_new _ _, World.ownsRow_nil _ _ _ _⟩
        case round =>
          obtain ⟨p, f, v, acc, rfl, hp4, hpf, hacc, hbx, hrow, hor⟩ := hrel
          have hO := Lib.hid hor; have hROW := Lib.hid hrow; clear hor hrow
          have hzx := hbx.size
          have hgx := (Array.getElem?_eq_some_iff.1 hROW.out).1
          by_cases hp0 : 0 < p
          · obtain ⟨f, rfl⟩ : ∃ f', f = f' + 1 := ⟨f - 1, by cases f with | zero => simp at hpf; omega | succ f => rfl⟩
            have hpf2 : p / 2 < 2 ^ f := by rw [Nat.pow_succ] at hpf; omega
            have hac : acc ++ (addK p p 0 (n - p) ++ (innerM n p 4 (t / 2) ++ outerM n t f (p / 2))) = mergeN n := by
              have := hacc; unfold outerM at this; rw [if_pos hp0] at this; exact this
            have hl1 : acc.length ≤ 100 := by have := congrArg List.length hac; rw [List.length_append] at this; have := HML.out; omega
            have HAC := Lib.hid hac
            clear hacc hac hpf
            go_wp2_with fail
            refine (add_any w2.heap.size (w2.heap.size + 1) n p p 0 v acc wr (by omega) (by omega) hROW.out hO.out hp8 hp0 (by omega) (by omega) (by omega) (by omega)).mono ?_
            rintro e w5 ⟨rfl, v5, hrow5, hown5, hB5⟩
            have hO5 := Lib.hid hown5; have hROW5 := Lib.hid hrow5; clear hown5 hrow5 hO hROW
            have hb5 : Below w2.heap.size w2 w5 := hbx.trans hB5
            go_wp2
            go_loopw [7, 34, 35, 36, 37, 38, 39, 40, 41, 42, 43, 44] (fun i _ _ _ _ _ _ _ _ _ _ _ wx => ∃ q f2 v acc2, i = .int .i64 (q : Nat) ∧ q ≤ 4 ∧ q < 2 ^ f2 ∧ acc2 ++ (innerM n p f2 q ++ outerM n t f (p / 2)) = mergeN n ∧ Below w2.heap.size w2 wx ∧ wx.heap[w2.heap.size]? = some (.cells #[.int .i64 n, v] 73 (0, 0)) ∧ wx.ownsRow (w2.heap.size + 1) 59 2 v acc2.length (prs acc2))
              (fun i _ _ _ _ _ _ _ _ _ _ _ _ => (intOf i).toNat)
            case atStart => exact ⟨t / 2, 4, v5, acc ++ addK p p 0 (n - p), by congr 1, by omega, by omega, by rw [List.append_assoc]; exact HAC.out, hb5, hROW5.out, hO5.out⟩
            case round =>
              obtain ⟨q, f2, v6, acc2, rfl, hq4, hqf, hacc2, hbq, hrow6, hor6⟩ := hrel
              have hO6 := Lib.hid hor6; have hROW6 := Lib.hid hrow6; clear hor6 hrow6 hO5 hROW5
              have hzq := hbq.size
              have hgq := (Array.getElem?_eq_some_iff.1 hROW6.out).1
              by_cases hpq : p < q
              · obtain ⟨f2, rfl⟩ : ∃ f', f2 = f' + 1 := ⟨f2 - 1, by cases f2 with | zero => simp at hqf; omega | succ f => rfl⟩
                have hqf2 : q / 2 < 2 ^ f2 := by rw [Nat.pow_succ] at hqf; omega
                have hac2 : (acc2 ++ addK p (q - p) 1 (n - (q - p))) ++ (innerM n p f2 (q / 2) ++ outerM n t f (p / 2)) = mergeN n := by
                  have := hacc2; unfold innerM at this; rw [if_pos hpq, List.append_assoc] at this; rw [List.append_assoc]; exact this
                have hl2 : acc2.length ≤ 100 := by have := congrArg List.length hacc2; rw [List.length_append] at this; have := HML.out; omega
                have HAC2 := Lib.hid hac2
                clear hacc2 hac2 hqf
                have hwq : IntKind.i64.wrap ((q : Int) - (p : Int)) = ((q - p : Nat) : Int) := by rw [IntWalk.i64_in _ (by omega)]; omega
                go_wp2_with fail
                refine (add_any w2.heap.size (w2.heap.size + 1) n p (q - p) 1 v6 acc2 wr (by omega) (by omega) hROW6.out hO6.out hp8 hp0 (by omega) (by omega) (by omega) (by omega)).mono ?_
                rintro e w7 ⟨rfl, v7, hrow7, hown7, hB7⟩
                have hO7 := Lib.hid hown7; have hROW7 := Lib.hid hrow7; clear hown7 hrow7
                have hb7 : Below w2.heap.size w2 w7 := hbq.trans hB7
                go_wp2
                exact ⟨⟨q / 2, f2, v7, _, by congr 1, by omega, hqf2, HAC2.out, hb7, hROW7.out, hO7.out⟩, by simp [intOf]; omega⟩
              · rw [innerM_stop n p f2 q hpq, List.nil_append] at hacc2
                have HAC2 := Lib.hid hacc2; clear hacc2 hqf
                go_wp2
                exact ⟨⟨p / 2, f, v6, acc2, by congr 1, by omega, hpf2, HAC2.out, hbq, hROW6.out, hO6.out⟩, by simp [intOf]; omega⟩
          · obtain rfl : p = 0 := by omega
            rw [outerM_zero, List.append_nil] at hacc
            subst hacc
            clear hpf
            have hr1 := (hbx.block _ (by omega)).trans HR.out
            have HR1 := Lib.hid hr1; clear hr1
            obtain ⟨a9, c9, hv9⟩ := owns_form hO.out
            subst hv9
            have hB9 := btr hB3 hbx
            have c0 : wr.cell? ⟨w.heap.size, 0, none⟩ = some (.int .i64 0) := by rw [cell_of_row wr _ 0 _ _ _ HR1.out]; rfl
            have c1 : wr.cell? ⟨w.heap.size, 1, none⟩ = some (.slice none 0 0) := by rw [cell_of_row wr _ 1 _ _ _ HR1.out]; rfl
            have f0 := frozen_of_row wr w.heap.size 0 _ _ HR1.out
            have f1 := frozen_of_row wr w.heap.size 1 _ _ HR1.out
            have d0 : wr.cell? ⟨w2.heap.size, 0, none⟩ = some (.int .i64 n) := by rw [cell_of_row wr _ 0 _ _ _ hROW.out]; rfl
            have d1 : wr.cell? ⟨w2.heap.size, 1, none⟩ = some (.slice a9 (mergeN n).length c9) := by rw [cell_of_row wr _ 1 _ _ _ hROW.out]; rfl
            have hn2 := heap_setCell_same _ _ 1 _ _ (.slice a9 (mergeN n).length c9) (heap_setCell_same wr w.heap.size 0 _ _ (.int .i64 n) HR1.out)
            have HN2 := Lib.hid hn2; clear hn2
            have hkeep := (hO.out.kept (w' := wr.setCell ⟨w.heap.size, 0, none⟩ (.int .i64 n)) (grownBy_set wr _ _) (by
                cases hvv : (Value.slice a9 (mergeN n).length c9).ownBlock with
                | none => exact .inl rfl
                | some q => exact .inr (by intro e; cases e; have := (hO.out.lt _ hvv).1; simp only at this; omega)))
            have hkeep2 := (hkeep.kept (w' := (wr.setCell ⟨w.heap.size, 0, none⟩ (.int .i64 n)).setCell ⟨w.heap.size, 1, none⟩ (.slice a9 (mergeN n).length c9)) (grownBy_set _ _ _) (by
                cases hvv : (Value.slice a9 (mergeN n).length c9).ownBlock with
                | none => exact .inl rfl
                | some q => exact .inr (by intro e; cases e; have := (hkeep.lt _ hvv).1; simp only at this; omega)))
            have HK2 := Lib.hid hkeep2; clear hkeep hkeep2
            go_wp2
            (try simp only [Exit.inBlock, Exit.then])
            refine bodyPost_ret (v := .tuple #[.agg #[.int .i64 n, .slice a9 (mergeN n).length c9], .int .i64 0]) ?_ ?_ ?_
            · exact results_row_tmp rfl rfl rfl HN2.out Try.underlying24 rfl HSZ.out
            · rfl
            · exact ⟨_, rfl, RdP.of_owns HK2.out, bset (bset hB9 (by simp) _) (by simp) _⟩
end Go.Proofs.Ytdnaipiiponhpaa
