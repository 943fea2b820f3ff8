/- Merged texts: the document's Bricks, Merge, Images, Needless, Cut, Mirror, Rounds, Ends. -/
import Derived.Test.YtdnaipiiponhpaaGD
namespace Go.Proofs.Ytdnaipiiponhpaa
open Go.RowKit Go.Shelf

def rin (r k : Nat) : List (Int × Int) := (List.range k).map fun j => (((r + 2 * j : Nat) : Int), ((r + 2 * j : Nat) : Int) + 1)
theorem rin_succ (r k : Nat) : rin r (k + 1) = rin r k ++ [(((r + 2 * k : Nat) : Int), ((r + 2 * k : Nat) : Int) + 1)] := by simp [rin, List.range_succ]
theorem rin_len (r k : Nat) : (rin r k).length = k := by simp [rin]
def rout (n m : Nat) : List (Int × Int) := (List.range m).flatMap fun i => rin (i % 2) ((n - i % 2) / 2)
theorem rout_succ (n m : Nat) : rout n (m + 1) = rout n m ++ rin (m % 2) ((n - m % 2) / 2) := by simp [rout, List.range_succ]
theorem rout_le (n m : Nat) (h : n ≤ 8) : (rout n m).length ≤ m * 4 := by
  induction m with
  | zero => simp [rout]
  | succ m ih => rw [rout_succ, List.length_append, rin_len]; omega
theorem rout_eq : ∀ n, n ≤ 8 → rout n n = bricksK n n := by decide +kernel

set_option maxRecDepth 100000 in
set_option maxHeartbeats 2000000 in
theorem rbricks_any (p : Int) (w : World) :
    Calls Try.prog 44 #[.int .i64 p] w fun e w' => ∃ v, e = .returned (.tuple #[.agg #[.int .i64 (bricksP p), v], .int .i64 (bricksE p)]) ∧ RdP w' v (bricksL p) ∧ Below w.heap.size w w' := by
  have hsz : (Try.prog.info? 24).map (·.size) = some 2 := by kernel_rfl
  have HSZ := Lib.hid hsz; clear hsz
  unfold bricksP bricksE bricksL
  have key0 : ∀ h : p < 1 ∨ 8 < p, Calls Try.prog 44 #[.int .i64 p] w fun e w' => ∃ v, e = .returned (.tuple #[.agg #[.int .i64 0, v], .int .i64 6]) ∧ RdP w' v [] ∧ Below w.heap.size w w' := by
    intro h
    rcases h with h | h
    all_goals
      go_enter Try.func44, Try.ntmps44
      go_wp2
      refine bodyPost_ret (v := .tuple #[.agg #[.int .i64 0, .slice none 0 0], .int .i64 6]) (results_row_tmp rfl rfl rfl (heap_alloc_new _ _) Try.underlying24 rfl HSZ.out) rfl ⟨.slice none 0 0, rfl, rdP_nil _, bal (bz _) _⟩
  by_cases h : p < 1 ∨ 8 < p
  · simp only [if_pos h]
    exact key0 h
  · simp only [if_neg h]
    clear key0
    obtain ⟨n, rfl⟩ : ∃ n : Nat, p = n := ⟨p.toNat, by omega⟩
    rw [show ((n : Nat) : Int).toNat = n by omega]
    have hp1 : 1 ≤ n := by omega
    have hp8 : n ≤ 8 := by omega
    rw [← rout_eq n hp8]
    clear h
    go_enter Try.func44, Try.ntmps44
    go_wp2
    go_loopw [5, 6, 16, 17, 18, 19, 20, 21, 22, 23, 24, 25, 26, 27, 28, 29, 30, 31, 32, 33, 34, 35, 36, 37] (fun i _ _ _ _ _ _ _ _ _ _ _ _ _ _ _ _ _ _ _ _ _ _ _ wr => ∃ m v, m ≤ n ∧ i = .int .i64 (m : Nat) ∧ Below w.heap.size w wr ∧ wr.heap[w.heap.size]? = some (.cells #[.int .i64 0, .slice none 0 0] 24 (0, 0)) ∧ SOwn wr (w.heap.size + 1) (w.heap.size + 1 + 1) 24 n v (rout n m)) (fun i _ _ _ _ _ _ _ _ _ _ _ _ _ _ _ _ _ _ _ _ _ _ _ _ => ((n : Int) - intOf i).toNat)
    case atStart => exact ⟨0, .slice none 0 0, Nat.zero_le _, rfl, bal (bal (bz _) _) _, (Below.heap_alloc _ _ _ (by simp)).trans (heap_alloc_new _ _), by have := SOwn.new (w.alloc (.cells #[.int .i64 0, .slice none 0 0] 24)) 24 n; simpa [rout] using this⟩
    case round =>
      obtain ⟨m, v, hm, rfl, hB, hr0, hS⟩ := hrel
      by_cases hmn : m < n
      · have hmr : (m : Int).tmod 2 = ((m % 2 : Nat) : Int) := by have := (Int.ofNat_tmod m 2).symm; simpa using this
        have HST := Lib.hid (rout_succ n m)
        have hle := rout_le n m hp8
        have hr1 : m % 2 ≤ 1 := by omega
        generalize m % 2 = r at *
        have HS := Lib.hid hS; have HR := Lib.hid hr0; have HB := Lib.hid hB
        clear hS hr0 hB
        obtain ⟨wo, rfl⟩ : ∃ wo : World, wo = wr := ⟨_, rfl⟩
        go_wp2
        go_loopw [6, 23, 24, 25, 26, 27, 28, 29, 30, 31, 32, 33, 34, 35, 36, 37] (fun i _ _ _ _ _ _ _ _ _ _ _ _ _ _ _ wr => ∃ k v, k ≤ (n - r) / 2 ∧ i = .int .i64 ((r + 2 * k : Nat) : Int) ∧ Below w.heap.size w wr ∧ wr.heap[w.heap.size]? = some (.cells #[.int .i64 0, .slice none 0 0] 24 (0, 0)) ∧ SOwn wr (w.heap.size + 1) (w.heap.size + 1 + 1) 24 n v (rout n m ++ rin r k)) (fun i _ _ _ _ _ _ _ _ _ _ _ _ _ _ _ _ => ((n : Int) - intOf i).toNat)
        case atStart => exact ⟨0, v, Nat.zero_le _, by simp, HB.out, HR.out, by simpa [rin] using HS.out⟩
        case round =>
          obtain ⟨k, v2, hk, rfl, hB2, hr2, hS2⟩ := hrel
          have HLN : Hid ((rout n m ++ rin r k).length ≤ 100) := Lib.hid (by rw [List.length_append, rin_len]; omega)
          generalize hL : rout n m ++ rin r k = L at *
          have HL := Lib.hid hL; clear hL
          have c1 := hS2.c1; have f1 := hS2.f1; have z1 := hS2.z
          have zr := (Array.getElem?_eq_some_iff.1 hr2).1
          have HS2 := Lib.hid hS2; have HR2 := Lib.hid hr2; have HB2 := Lib.hid hB2
          clear HS HR HB hS2 hr2 hB2
          by_cases hkn : r + 2 * k + 1 < n
          · have hkn2 : ((r + 2 * k : Nat) : Int) + 1 < (n : Int) := by omega
            have hj8 : r + 2 * k < 8 := by omega
            have HSU := Lib.hid (rin_succ r k)
            generalize hj : r + 2 * k = j at *
            go_wp2_with (at_builtin; refine wpList_append_pair rfl _ _ rfl HS2.out _ _ rfl rfl (by have := HLN.out; omega) ?_)
            intro v' w' hown' hgrow
            obtain ⟨c1', f1', z', hS', hB', a9, c9, hv9⟩ := HS2.out.done hown' hgrow
            have h0 := (heap_setCell_other w' ⟨w.heap.size + 1, 1, none⟩ w.heap.size v' (by simp)).trans ((append_keep (HS2.out.own.alloc _) hgrow (by omega) (by simp; omega)).trans ((Below.heap_alloc _ _ _ zr).trans HR2.out))
            have hB3 := hB' w HB2.out (by omega)
            subst hv9
            have HS3 := Lib.hid hS'; have H03 := Lib.hid h0; have HB3 := Lib.hid hB3
            clear hown' hgrow hS' hB' h0 hB3 c1 f1
            go_wp2
            refine ⟨⟨k + 1, .slice a9 (L.length + 1) c9, by omega, by rw [show r + 2 * (k + 1) = j + 2 by omega]; go_num, HB3.out, H03.out, ?_⟩, by simp [intOf]; omega⟩
            rw [HSU.out, ← List.append_assoc, HL.out]
            exact HS3.out
          · have hkn2 : ¬ (((r + 2 * k : Nat) : Int) + 1 < (n : Int)) := by omega
            obtain rfl : k = (n - r) / 2 := by omega
            have hj8 : ((r + 2 * ((n - r) / 2) : Nat) : Int) < 20 := by omega
            generalize ((r + 2 * ((n - r) / 2) : Nat) : Int) = jj at *
            go_wp2
            refine ⟨⟨m + 1, v2, by omega, by simp, HB2.out, HR2.out, by rw [HST.out, HL.out]; exact HS2.out⟩, by simp [intOf]; omega⟩
      · obtain rfl : m = n := by omega
        obtain ⟨a9, c9, hv9⟩ := hS.form
        subst hv9
        have c0 := hS.c0; have c1 := hS.c1
        have zr := (Array.getElem?_eq_some_iff.1 hr0).1
        have e0 : wr.cell? ⟨w.heap.size, 0, none⟩ = some (.int .i64 0) := by rw [cell_of_row wr _ 0 _ _ _ hr0]; rfl
        have e1 : wr.cell? ⟨w.heap.size, 1, none⟩ = some (.slice none 0 0) := by rw [cell_of_row wr _ 1 _ _ _ hr0]; rfl
        have f0 := frozen_of_row wr w.heap.size 0 _ _ hr0
        have f1 := frozen_of_row wr w.heap.size 1 _ _ hr0
        have z1 := hS.z
        obtain ⟨hn2, hrd⟩ := hS.out w.heap.size hr0 (by omega)
        have HN2 := Lib.hid hn2; have HRD := Lib.hid hrd; have HB := Lib.hid hB
        clear hS hr0 hn2 hrd hB
        go_wp2
        (try simp only [Exit.inBlock, Exit.then])
        refine bodyPost_ret (v := .tuple #[.agg #[.int .i64 m, .slice a9 (rout m m).length c9], .int .i64 0]) (results_row_tmp rfl rfl rfl HN2.out Try.underlying24 rfl HSZ.out) rfl ⟨_, rfl, HRD.out, bset (bset HB.out (by simp) _) (by simp) _⟩
end Go.Proofs.Ytdnaipiiponhpaa

namespace Go.Proofs.Ytdnaipiiponhpaa
open Go.RowKit Go.Shelf

set_option maxRecDepth 100000 in
set_option maxHeartbeats 4000000 in
theorem rmerge_any (p : Int) (w : World) :
    Calls Try.prog 46 #[.int .i64 p] w fun e w' => ∃ v, e = .returned (.tuple #[.agg #[.int .i64 (bricksP p), v], .int .i64 (bricksE p)]) ∧ RdP w' v (mergeL p) ∧ Below w.heap.size w w' := by
  have hsz : (Try.prog.info? 24).map (·.size) = some 2 := by kernel_rfl
  have HSZ := Lib.hid hsz; clear hsz
  unfold bricksP bricksE mergeL
  have key0 : ∀ h : p < 1 ∨ 8 < p, Calls Try.prog 46 #[.int .i64 p] w fun e w' => ∃ v, e = .returned (.tuple #[.agg #[.int .i64 0, v], .int .i64 6]) ∧ RdP w' v [] ∧ Below w.heap.size w w' := by
    intro h
    rcases h with h | h
    all_goals
      go_enter Try.func46, Try.ntmps46
      go_wp2
      refine bodyPost_ret (v := .tuple #[.agg #[.int .i64 0, .slice none 0 0], .int .i64 6]) (results_row_tmp rfl rfl rfl (heap_alloc_new _ _) Try.underlying24 rfl HSZ.out) rfl ⟨.slice none 0 0, rfl, rdP_nil _, bal (bz _) _⟩
  by_cases h : p < 1 ∨ 8 < p
  · simp only [if_pos h]
    exact key0 h
  · simp only [if_neg h]
    clear key0
    obtain ⟨n, rfl⟩ : ∃ n : Nat, p = n := ⟨p.toNat, by omega⟩
    rw [show ((n : Nat) : Int).toNat = n by omega]
    have hp1 : 1 ≤ n := by omega
    have hp8 : n ≤ 8 := by omega
    clear h
    have HML := Lib.hid (mergeN_le n hp8)
    go_enter Try.func46, Try.ntmps46
    go_wp2
    go_loopw [4, 17, 18, 19, 20, 21] (fun i _ _ _ _ _ wr => wr = w.alloc (.cells #[.int .i64 0, .slice none 0 0] 24) ∧ ∃ t : Nat, i = .int .i64 t ∧ (t = 1 ∨ t = 2 ∧ 1 < n ∨ t = 4 ∧ 2 < n ∨ t = 8 ∧ 4 < n)) (fun i _ _ _ _ _ _ => ((n : Int) - intOf i).toNat)
    case atStart => exact ⟨rfl, 1, rfl, .inl rfl⟩
    case round =>
      obtain ⟨hww, t, rfl, ht⟩ := hrel
      subst hww
      by_cases htn : t < n
      · have hw : IntKind.i64.wrap (2 * (t : Int)) = 2 * (t : Int) := IntWalk.i64_in _ (by omega)
        go_wp2
        exact ⟨⟨trivial, 2 * t, by simp, by omega⟩, by simp [intOf]; omega⟩
      · have htt : t = topOf n := by unfold topOf; split <;> (try split) <;> (try split) <;> omega
        have ht8 : t ≤ 8 := by omega
        have ht1 : 1 ≤ t := by omega
        have hm0 : mergeN n = outerM n t 4 (t / 2) := by rw [htt]; rfl
        have HM0 := Lib.hid hm0; clear hm0
        clear htt ht
        go_wp2
        go_loopw [6, 7, 8, 9, 26, 27, 28, 29, 30, 31, 32, 33, 34, 35, 36, 37, 38, 39, 40, 41, 42, 43, 44, 45, 46, 47, 48, 49, 50, 51, 52, 53, 54, 55, 56, 57, 58, 59, 60, 61, 62, 63, 64, 65, 66, 67, 68, 69, 70, 71, 72, 73, 74, 75, 76, 77, 78, 79, 80, 81, 82, 83, 84] (fun i _ _ _ _ _ _ _ _ _ _ _ _ _ _ _ _ _ _ _ _ _ _ _ _ _ _ _ _ _ _ _ _ _ _ _ _ _ _ _ _ _ _ _ _ _ _ _ _ _ _ _ _ _ _ _ _ _ _ _ _ _ _ wr => ∃ p f v acc, i = .int .i64 (p : Nat) ∧ p ≤ 4 ∧ p < 2 ^ f ∧ acc ++ outerM n t f p = mergeN n ∧ Below w.heap.size w wr ∧ wr.heap[w.heap.size]? = some (.cells #[.int .i64 0, .slice none 0 0] 24 (0, 0)) ∧ SOwn wr (w.heap.size + 1) (w.heap.size + 1 + 1) 24 n v (acc)) (fun i _ _ _ _ _ _ _ _ _ _ _ _ _ _ _ _ _ _ _ _ _ _ _ _ _ _ _ _ _ _ _ _ _ _ _ _ _ _ _ _ _ _ _ _ _ _ _ _ _ _ _ _ _ _ _ _ _ _ _ _ _ _ _ => (intOf i).toNat)
        case atStart => exact ⟨t / 2, 4, .slice none 0 0, [], by congr 1, by omega, by omega, HM0.out.symm, bal (bal (bz _) _) _, (Below.heap_alloc _ _ _ (by simp)).trans (heap_alloc_new _ _), by have := SOwn.new (w.alloc (.cells #[.int .i64 0, .slice none 0 0] 24)) 24 n; simpa using this⟩
        case round =>
          obtain ⟨p, f, v, acc, rfl, hp4, hpf, hacc, hB, hr0, hS⟩ := hrel
          have HS := Lib.hid hS; have HR := Lib.hid hr0; have HB := Lib.hid hB
          clear hS hr0 hB
          by_cases hp0 : 0 < p
          · obtain ⟨f, rfl⟩ : ∃ f', f = f' + 1 := ⟨f - 1, by cases f with | zero => simp at hpf; omega | succ f => rfl⟩
            have hpf2 : p / 2 < 2 ^ f := by rw [Nat.pow_succ] at hpf; omega
            have hac : acc ++ (addK p p 0 (n - p) ++ (innerM n p 4 (t / 2) ++ outerM n t f (p / 2))) = mergeN n := by
              have := hacc; unfold outerM at this; rw [if_pos hp0] at this; exact this
            have hl1 : acc.length ≤ 100 := by have := congrArg List.length hac; rw [List.length_append] at this; have := HML.out; omega
            have HAC := Lib.hid hac
            have hpz : ((p : Int) == 0) = false := by simp; omega
            have hp0i : (1 : Int) ≤ (p : Int) := by omega
            clear hacc hac hpf
            obtain ⟨wo, rfl⟩ : ∃ wo : World, wo = wr := ⟨_, rfl⟩
            go_wp2
            go_loopw [7, 30, 31, 32, 33, 34, 35, 36, 37, 38, 39, 40, 41, 42, 43, 44, 45, 46, 47, 48, 49, 50, 51] (fun i _ _ _ _ _ _ _ _ _ _ _ _ _ _ _ _ _ _ _ _ _ _ wr => ∃ k v, k ≤ n - p ∧ i = .int .i64 (k : Nat) ∧ Below w.heap.size w wr ∧ wr.heap[w.heap.size]? = some (.cells #[.int .i64 0, .slice none 0 0] 24 (0, 0)) ∧ SOwn wr (w.heap.size + 1) (w.heap.size + 1 + 1) 24 n v (acc ++ addK p p 0 k)) (fun i _ _ _ _ _ _ _ _ _ _ _ _ _ _ _ _ _ _ _ _ _ _ _ => ((n : Int) - intOf i).toNat)
            case atStart => exact ⟨0, v, Nat.zero_le _, rfl, HB.out, HR.out, by simpa [addK] using HS.out⟩
            case round =>
              obtain ⟨k, v2, hk, rfl, hB2, hr2, hS2⟩ := hrel
              have hakl := addK_le p (p) 0 k
              have HLN : Hid ((acc ++ addK p (p) 0 k).length ≤ 200) := Lib.hid (by rw [List.length_append]; omega)
              generalize hL : acc ++ addK p (p) 0 k = L at *
              have HL := Lib.hid hL; clear hL
              have c1 := hS2.c1; have f1 := hS2.f1; have z1 := hS2.z
              have zr := (Array.getElem?_eq_some_iff.1 hr2).1
              have HS2 := Lib.hid hS2; have HR2 := Lib.hid hr2; have HB2 := Lib.hid hB2
              clear HS HB HR hS2 hr2 hB2
              by_cases hkn : k < n - (p)
              · have hkn2 : (k : Int) + (p : Int) < (n : Int) := by omega
                have hst := addK_succ p (p) 0 k
                have hq : wrap64 ((k : Int) / (p : Int)) = ((k / p : Nat) : Int) := by
                  rw [← Int.natCast_ediv]
                  have h1 := Nat.div_le_self k p
                  generalize k / p = d at h1 ⊢
                  unfold wrap64
                  omega
                have hq2 : (wrap64 ((k : Int) / (p : Int))).tmod 2 = ((k / p % 2 : Nat) : Int) := by
                  rw [hq]
                  have := (Int.ofNat_tmod (k / p) 2).symm
                  simpa using this
                clear hq
                have hrb : k / p % 2 ≤ 1 := by omega
                generalize k / p % 2 = r at *
                by_cases hro : r = 0
                · subst hro
                  rw [if_pos (by simp), show ((k + p : Nat) : Int) = (k : Int) + (p : Int) by omega] at hst
                  have HST := Lib.hid hst; clear hst
                  go_wp2_with (at_builtin; refine wpList_append_pair rfl _ _ rfl HS2.out _ _ rfl rfl (by have := HLN.out; omega) ?_)
                  intro v' w' hown' hgrow
                  obtain ⟨c1', f1', z', hS', hB', a9, c9, hv9⟩ := HS2.out.done hown' hgrow
                  have h0 := (heap_setCell_other w' ⟨w.heap.size + 1, 1, none⟩ w.heap.size v' (by simp)).trans ((append_keep (HS2.out.own.alloc _) hgrow (by omega) (by simp; omega)).trans ((Below.heap_alloc _ _ _ zr).trans HR2.out))
                  have hB3 := hB' w HB2.out (by omega)
                  subst hv9
                  have HS3 := Lib.hid hS'; have H03 := Lib.hid h0; have HB3 := Lib.hid hB3
                  clear hown' hgrow hS' hB' h0 hB3 c1 f1
                  go_wp2
                  refine ⟨⟨k + 1, .slice a9 (L.length + 1) c9, by omega, by simp, HB3.out, H03.out, ?_⟩, by simp [intOf]; omega⟩
                  rw [HST.out, ← List.append_assoc, HL.out]
                  exact HS3.out
                · rw [if_neg (by simpa using hro)] at hst
                  have HST := Lib.hid hst; clear hst
                  have hr2 : ((r : Int) == 0) = false := by simp; omega
                  go_wp2
                  exact ⟨⟨k + 1, v2, by omega, by simp, HB2.out, HR2.out, by rw [HST.out, HL.out]; exact HS2.out⟩, by simp [intOf]; omega⟩
              · have hkn2 : ¬ ((k : Int) + (p : Int) < (n : Int)) := by omega
                obtain rfl : k = n - (p) := by omega
                have HLE := Lib.hid HL.out
                have hac3 : L ++ (innerM n p 4 (t / 2) ++ outerM n t f (p / 2)) = mergeN n := by rw [← HL.out, List.append_assoc]; exact HAC.out
                have HAC3 := Lib.hid hac3; clear hac3
                have hkb : ((n - p : Nat) : Int) ≤ 8 := by omega
                have hkb2 : 0 ≤ ((n - p : Nat) : Int) := by omega
                generalize ((n - p : Nat) : Int) = kk at *
                obtain ⟨wo2, rfl⟩ : ∃ wo2 : World, wo2 = wr := ⟨_, rfl⟩
                go_wp2
                go_loopw [8, 9, 54, 55, 56, 57, 58, 59, 60, 61, 62, 63, 64, 65, 66, 67, 68, 69, 70, 71, 72, 73, 74, 75, 76, 77, 78, 79, 80, 81, 82, 83, 84] (fun i _ _ _ _ _ _ _ _ _ _ _ _ _ _ _ _ _ _ _ _ _ _ _ _ _ _ _ _ _ _ _ _ wr => ∃ q f2 v acc2, i = .int .i64 (q : Nat) ∧ q ≤ 4 ∧ q < 2 ^ f2 ∧ acc2 ++ (innerM n p f2 q ++ outerM n t f (p / 2)) = mergeN n ∧ Below w.heap.size w wr ∧ wr.heap[w.heap.size]? = some (.cells #[.int .i64 0, .slice none 0 0] 24 (0, 0)) ∧ SOwn wr (w.heap.size + 1) (w.heap.size + 1 + 1) 24 n v (acc2)) (fun i _ _ _ _ _ _ _ _ _ _ _ _ _ _ _ _ _ _ _ _ _ _ _ _ _ _ _ _ _ _ _ _ _ => (intOf i).toNat)
                case atStart => exact ⟨t / 2, 4, v2, L, by congr 1, by omega, by omega, HAC3.out, HB2.out, HR2.out, HS2.out⟩
                case round =>
                  obtain ⟨q, f2, v6, acc2, rfl, hq4, hqf, hacc2, hB6, hr6, hS6⟩ := hrel
                  have HS6 := Lib.hid hS6; have HR6 := Lib.hid hr6; have HB6 := Lib.hid hB6
                  clear hS6 hr6 hB6 HS2 HR2 HB2 c1 f1 z1 zr
                  by_cases hpq : p < q
                  · obtain ⟨f2, rfl⟩ : ∃ f', f2 = f' + 1 := ⟨f2 - 1, by cases f2 with | zero => simp at hqf; omega | succ f => rfl⟩
                    have hqf2 : q / 2 < 2 ^ f2 := by rw [Nat.pow_succ] at hqf; omega
                    have hac2 : (acc2 ++ addK p (q - p) 1 (n - (q - p))) ++ (innerM n p f2 (q / 2) ++ outerM n t f (p / 2)) = mergeN n := by
                      have := hacc2; unfold innerM at this; rw [if_pos hpq, List.append_assoc] at this; rw [List.append_assoc]; exact this
                    have hl2 : acc2.length ≤ 100 := by have := congrArg List.length hacc2; rw [List.length_append] at this; have := HML.out; omega
                    have HAC2 := Lib.hid hac2
                    clear hacc2 hac2 hqf hakl HLN HL HLE hk hkn hkn2
                    obtain ⟨wo3, rfl⟩ : ∃ wo3 : World, wo3 = wr := ⟨_, rfl⟩
                    go_wp2
                    go_loopw [9, 59, 60, 61, 62, 63, 64, 65, 66, 67, 68, 69, 70, 71, 72, 73, 74, 75, 76, 77, 78, 79, 80, 81, 82, 83, 84] (fun i _ _ _ _ _ _ _ _ _ _ _ _ _ _ _ _ _ _ _ _ _ _ _ _ _ _ wr => ∃ k v, k ≤ n - (q - p) ∧ i = .int .i64 (k : Nat) ∧ Below w.heap.size w wr ∧ wr.heap[w.heap.size]? = some (.cells #[.int .i64 0, .slice none 0 0] 24 (0, 0)) ∧ SOwn wr (w.heap.size + 1) (w.heap.size + 1 + 1) 24 n v (acc2 ++ addK p (q - p) 1 k)) (fun i _ _ _ _ _ _ _ _ _ _ _ _ _ _ _ _ _ _ _ _ _ _ _ _ _ _ _ => ((n : Int) - intOf i).toNat)
                    case atStart => exact ⟨0, v6, Nat.zero_le _, rfl, HB6.out, HR6.out, by simpa [addK] using HS6.out⟩
                    case round =>
                      obtain ⟨k, v2, hk, rfl, hB2, hr2, hS2⟩ := hrel
                      have hakl := addK_le p ((q - p)) 1 k
                      have HLN : Hid ((acc2 ++ addK p ((q - p)) 1 k).length ≤ 200) := Lib.hid (by rw [List.length_append]; omega)
                      generalize hL : acc2 ++ addK p ((q - p)) 1 k = L at *
                      have HL := Lib.hid hL; clear hL
                      have c1 := hS2.c1; have f1 := hS2.f1; have z1 := hS2.z
                      have zr := (Array.getElem?_eq_some_iff.1 hr2).1
                      have HS2 := Lib.hid hS2; have HR2 := Lib.hid hr2; have HB2 := Lib.hid hB2
                      clear HS6 HB6 HR6 hS2 hr2 hB2
                      by_cases hkn : k < n - ((q - p))
                      · have hkn2 : (k : Int) + (q : Int) - (p : Int) < (n : Int) := by omega
                        have hst := addK_succ p ((q - p)) 1 k
                        have hq : wrap64 ((k : Int) / (p : Int)) = ((k / p : Nat) : Int) := by
                          rw [← Int.natCast_ediv]
                          have h1 := Nat.div_le_self k p
                          generalize k / p = d at h1 ⊢
                          unfold wrap64
                          omega
                        have hq2 : (wrap64 ((k : Int) / (p : Int))).tmod 2 = ((k / p % 2 : Nat) : Int) := by
                          rw [hq]
                          have := (Int.ofNat_tmod (k / p) 2).symm
                          simpa using this
                        clear hq
                        have hrb : k / p % 2 ≤ 1 := by omega
                        generalize k / p % 2 = r at *
                        by_cases hro : r = 1
                        · subst hro
                          rw [if_pos (by simp), show ((k + (q - p) : Nat) : Int) = (k : Int) + (q : Int) - (p : Int) by omega] at hst
                          have HST := Lib.hid hst; clear hst
                          go_wp2_with (at_builtin; refine wpList_append_pair rfl _ _ rfl HS2.out _ _ rfl rfl (by have := HLN.out; omega) ?_)
                          intro v' w' hown' hgrow
                          obtain ⟨c1', f1', z', hS', hB', a9, c9, hv9⟩ := HS2.out.done hown' hgrow
                          have h0 := (heap_setCell_other w' ⟨w.heap.size + 1, 1, none⟩ w.heap.size v' (by simp)).trans ((append_keep (HS2.out.own.alloc _) hgrow (by omega) (by simp; omega)).trans ((Below.heap_alloc _ _ _ zr).trans HR2.out))
                          have hB3 := hB' w HB2.out (by omega)
                          subst hv9
                          have HS3 := Lib.hid hS'; have H03 := Lib.hid h0; have HB3 := Lib.hid hB3
                          clear hown' hgrow hS' hB' h0 hB3 c1 f1
                          go_wp2
                          refine ⟨⟨k + 1, .slice a9 (L.length + 1) c9, by omega, by simp, HB3.out, H03.out, ?_⟩, by simp [intOf]; omega⟩
                          rw [HST.out, ← List.append_assoc, HL.out]
                          exact HS3.out
                        · rw [if_neg (by simpa using hro)] at hst
                          have HST := Lib.hid hst; clear hst
                          have hr2 : ((r : Int) == 1) = false := by simp; omega
                          go_wp2
                          exact ⟨⟨k + 1, v2, by omega, by simp, HB2.out, HR2.out, by rw [HST.out, HL.out]; exact HS2.out⟩, by simp [intOf]; omega⟩
                      · have hkn2 : ¬ ((k : Int) + (q : Int) - (p : Int) < (n : Int)) := by omega
                        obtain rfl : k = n - ((q - p)) := by omega
                        have HLE := Lib.hid HL.out
                        have hac3 : L ++ (innerM n p f2 (q / 2) ++ outerM n t f (p / 2)) = mergeN n := by rw [← HL.out]; exact HAC2.out
                        have HAC3 := Lib.hid hac3; clear hac3
                        have hkb : ((n - (q - p) : Nat) : Int) ≤ 8 := by omega
                        have hkb2 : 0 ≤ ((n - (q - p) : Nat) : Int) := by omega
                        generalize ((n - (q - p) : Nat) : Int) = kk at *
                        go_wp2
                        exact ⟨⟨q / 2, f2, v2, L, by congr 1, by omega, hqf2, HAC3.out, HB2.out, HR2.out, HS2.out⟩, by simp [intOf]; omega⟩
                  · rw [innerM_stop n p f2 q hpq, List.nil_append] at hacc2
                    have HAC2 := Lib.hid hacc2; clear hacc2 hqf
                    go_wp2
                    exact ⟨⟨p / 2, f, v6, acc2, by congr 1, by omega, hpf2, HAC2.out, HB6.out, HR6.out, HS6.out⟩, by simp [intOf]; omega⟩
          · obtain rfl : p = 0 := by omega
            rw [outerM_zero, List.append_nil] at hacc
            subst hacc
            clear hpf
            have hS := HS.out; have hr0 := HR.out
            obtain ⟨a9, c9, hv9⟩ := hS.form
            subst hv9
            have c0 := hS.c0; have c1 := hS.c1
            have zr := (Array.getElem?_eq_some_iff.1 hr0).1
            have e0 : wr.cell? ⟨w.heap.size, 0, none⟩ = some (.int .i64 0) := by rw [cell_of_row wr _ 0 _ _ _ hr0]; rfl
            have e1 : wr.cell? ⟨w.heap.size, 1, none⟩ = some (.slice none 0 0) := by rw [cell_of_row wr _ 1 _ _ _ hr0]; rfl
            have f0 := frozen_of_row wr w.heap.size 0 _ _ hr0
            have f1 := frozen_of_row wr w.heap.size 1 _ _ hr0
            have z1 := hS.z
            obtain ⟨hn2, hrd⟩ := hS.out w.heap.size hr0 (by omega)
            have HN2 := Lib.hid hn2; have HRD := Lib.hid hrd
            clear hS hr0 hn2 hrd HS HR
            go_wp2
            (try simp only [Exit.inBlock, Exit.then])
            refine bodyPost_ret (v := .tuple #[.agg #[.int .i64 n, .slice a9 (mergeN n).length c9], .int .i64 0]) (results_row_tmp rfl rfl rfl HN2.out Try.underlying24 rfl HSZ.out) rfl ⟨_, rfl, HRD.out, bset (bset HB.out (by simp) _) (by simp) _⟩
end Go.Proofs.Ytdnaipiiponhpaa

namespace Go.Proofs.Ytdnaipiiponhpaa
open Go.RowKit Go.Shelf

/-- What comes out of the first t patterns, each once. -/
def rimgs (p : Nat) (V : List (Int × Int)) (t : Nat) : List (List Int) := once ((List.range t).map fun s => runV V (bitsOf p s))
theorem rimgs_succ (p : Nat) (V : List (Int × Int)) (t : Nat) : rimgs p V (t + 1) = if runV V (bitsOf p t) ∈ rimgs p V t then rimgs p V t else rimgs p V t ++ [runV V (bitsOf p t)] := by
  unfold rimgs; rw [List.range_succ, List.map_append, List.map_cons, List.map_nil, once_snoc]
theorem rimgs_le (p : Nat) (V : List (Int × Int)) (t : Nat) : (rimgs p V t).length ≤ t := by
  have := once_le ((List.range t).map fun s => runV V (bitsOf p s)); simpa [rimgs] using this
theorem rimgs_len (p : Nat) (V : List (Int × Int)) (t : Nat) : ∀ l ∈ rimgs p V t, l.length = p := by
  intro l hl
  unfold rimgs at hl
  rw [mem_once] at hl
  obtain ⟨s, _, rfl⟩ := List.mem_map.1 hl
  rw [runV_length]; simp [bitsOf]
theorem any_take (Os : List (List Int)) (x : List Int) (k : Nat) (hk : k < Os.length) : ((Os.take (k + 1)).any fun o => decide (o = x)) = (((Os.take k).any fun o => decide (o = x)) || decide (Os[k]?.getD [] = x)) := by
  rw [List.take_succ_eq_append_getElem hk, List.any_append, List.getElem?_eq_getElem hk]; simp only [List.any_cons, List.any_nil, Bool.or_false, Option.getD_some]

set_option maxRecDepth 100000 in
set_option maxHeartbeats 4000000 in
theorem imagesof_any (p : Nat) (x : Value) (V : List (Int × Int)) (w : World) (hx0 : RdP w x V) (hV : OkRow p V) :
    Calls Try.prog 67 #[.agg #[.int .i64 p, x]] w fun e w' => e = .returned (.int .i64 ((rimgs p V (2 ^ p)).length : Nat)) ∧ Below w.heap.size w w' := by
  have hp1 := hV.p1; have hp8 := hV.p8; have h40 := hV.len
  obtain ⟨a, ca, rfl, _, _, _⟩ := hx0.form
  have h256 := pow_le_8 p (by omega)
  obtain ⟨m, hm⟩ : ∃ m, m = 2 ^ p := ⟨_, rfl⟩
  have hwp : wrap64 ((2 : Int) ^ p) = (m : Int) := by
    have e : (2 : Int) ^ p = ((2 ^ p : Nat) : Int) := by simp
    rw [e, ← hm]
    unfold wrap64
    omega
  rw [← hm] at h256 ⊢
  have HM := Lib.hid hm; clear hm
  go_enter Try.func67, Try.ntmps67
  go_wp2
  go_loopw [3, 4, 5, 6, 7, 8, 9, 10, 11, 12, 13, 14, 15, 16, 17, 18, 19, 20, 21, 22, 23, 24, 25, 26, 27, 28, 29, 30, 31, 32, 33, 34, 35, 36, 37, 38, 39, 40, 41, 42] (fun v i _ _ _ _ _ _ _ _ _ _ _ _ _ _ _ _ _ _ _ _ _ _ _ _ _ _ _ _ _ _ _ _ _ _ _ _ _ _ wr => ∃ t vs, t ≤ m ∧ i = .int .i64 (t : Nat) ∧ Below w.heap.size w wr ∧ w.heap.size < wr.heap.size ∧ wr.cell? ⟨w.heap.size, 0, none⟩ = some (.int .i64 p) ∧ wr.cell? ⟨w.heap.size, 1, none⟩ = some (.slice a V.length ca) ∧ OwnLL wr (w.heap.size + 1) v p (rimgs p V t) vs) (fun v i _ _ _ _ _ _ _ _ _ _ _ _ _ _ _ _ _ _ _ _ _ _ _ _ _ _ _ _ _ _ _ _ _ _ _ _ _ _ _ => m - (intOf i).toNat)
  case atStart => exact ⟨0, [], Nat.zero_le _, rfl, bal (bz _) _, by simp, cnew rfl rfl, cnew rfl rfl, ⟨World.ownsRow_nil _ _ _ _, fun i e h => by simp at h⟩⟩
  case round =>
    obtain ⟨t, vs, ht, rfl, hB, hz, c0, c1, hO⟩ := hrel
    have HO := Lib.hid hO; clear hO
    have hle := rimgs_le p V t
    by_cases htp : t < m
    · have htp2 : (t : Int) < (m : Int) := by omega
      go_wp2
      refine wp_region_flow [] [([0, 1, 2, 3, 4], 5, true), ([], 6, true)] [7] (by kernel_rfl) (by kernel_rfl) ?_
      intro wc hBc hh
      clear hh
      have d0 := (hBc.cell (p := ⟨w.heap.size, 0, none⟩) hz).trans c0
      have d1 := (hBc.cell (p := ⟨w.heap.size, 1, none⟩) hz).trans c1
      have hzc : w.heap.size < wc.heap.size := Nat.lt_of_lt_of_le hz hBc.size
      have hL := @Later.cell wc
      have HB := Lib.hid (btr hB hBc)
      have HO2 := Lib.hid (HO.out.later hBc)
      clear c0 c1 HO hBc hB
      simp only [flowP, flow, pickL, List.getElem?_cons_succ, List.getElem?_cons_zero]
      refine wpQuiet_nil ?_
      repeat (go_big_quiet_step (fail))
      refine wpQuiet_nil ?_
      go_wp2_with fail
      refine (patterned_any p t wc (by omega) (by omega)).mono ?_
      rintro e w2 ⟨v2, rfl, hown, hB2⟩
      have hbl : (bitsOf p t).length = p := by simp [bitsOf]
      have HRD := Lib.hid (RdI.of_owns (w := w2) (k := .i64) (xs := bitsOf p t) hown)
      have HB2 := Lib.hid hB2
      clear hown hB2
      go_wp2
      refine seg_grow ⟨⟨_, HB2.out⟩, rfl⟩ ?_
      refine wpQuiet_nil ?_
      go_wp2_with fail
      refine (runof_any _ _ V (bitsOf p t) w2 (hx0.mono (btr HB.out HB2.out)) HRD.out (by omega) (by omega) (by omega) (fun v hv => by obtain ⟨h1, h2, h3⟩ := hV.ok v hv; omega)).mono ?_
      rintro e w3 ⟨v3, rfl, hown3, hB3⟩
      have hlr : (runV V (bitsOf p t)).length = p := by rw [runV_length]; exact hbl
      rw [hbl] at hown3
      have hO3 := HO2.out.later (btr HB2.out hB3)
      have hB4 := btr HB2.out hB3
      have hown4 : w3.ownsRow (w.heap.size + 1) 2 1 v3 p ((runV V (bitsOf p t)).map (Value.int .i64)) := by
        refine ⟨hown3.1, ?_⟩
        rcases hown3.2 with h | ⟨g, cap, cur, h1, h2, h3⟩
        · exact .inl h
        · exact .inr ⟨g, cap, cur, h1, by have := HB2.out.size; omega, h3⟩
      obtain ⟨a3, d3, hv3⟩ := owns_form hown4
      subst hv3
      have HW4 := Lib.hid hown4; have HB4 := Lib.hid hB4; have HO4 := Lib.hid hO3
      clear hown3 hB3 hO3 hB4 hown4 HO2 HRD
      go_wp2
      refine seg_grow ⟨⟨_, HB4.out⟩, rfl⟩ ?_
      repeat (go_big_quiet_step (fail))
      refine wpQuiet_nil ?_
      refine only_done ?_
      have g0 := (HB4.out.cell (p := ⟨w.heap.size, 0, none⟩) hzc).trans d0
      have g1 := (HB4.out.cell (p := ⟨w.heap.size, 1, none⟩) hzc).trans d1
      have z3 : w.heap.size < w3.heap.size := Nat.lt_of_lt_of_le hzc HB4.out.size
      have HB5 := Lib.hid (btr HB.out HB4.out)
      have HST := Lib.hid (rimgs_succ p V t)
      have HLL := Lib.hid (rimgs_len p V t)
      clear hL d0 d1 hzc HB2 HB4 HB
      generalize hX : runV V (bitsOf p t) = X at *
      generalize hOs : rimgs p V t = Os at *
      have HX := Lib.hid hX; have HOS := Lib.hid hOs
      clear hX hOs
      obtain ⟨a9, c9, hv9⟩ := owns_form HO4.out.own
      subst hv9
      go_wp2
      go_loopw [6, 7, 22, 23, 24, 25, 26, 27, 28, 29, 30, 31, 32, 33, 34, 35, 36] (fun f i _ _ _ _ _ _ _ _ _ _ _ _ _ _ _ wr => ∃ k, k ≤ Os.length ∧ i = .int .i64 (k : Nat) ∧ f = .bool ((Os.take k).any fun o => decide (o = X)) ∧ Below w3.heap.size w3 wr) (fun f i _ _ _ _ _ _ _ _ _ _ _ _ _ _ _ _ => Os.length - (intOf i).toNat)
      case atStart => exact ⟨0, Nat.zero_le _, rfl, by simp, bz _⟩
      case round =>
        obtain ⟨k, hk, rfl, rfl, hBr⟩ := hrel
        have HBR := Lib.hid hBr
        by_cases hkO : k < Os.length
        · obtain ⟨g, c, e, ae, de, hve, hg, hce, hee, hoe⟩ := (HO4.out.later hBr).get k hkO
          simp only [Value.slice.injEq, true_and] at hve
          obtain ⟨rfl, rfl⟩ := hve
          subst hee
          have HEL := Lib.hid (RdI.of_owns hoe)
          have HST2 := Lib.hid (any_take Os X k hkO)
          have hel : (Os[k]?.getD []).length = p := HLL.out _ (by simp [hkO])
          have HXR := Lib.hid (RdI.of_owns (owns_kept HW4.out hBr))
          clear hoe hBr
          generalize Os[k]?.getD [] = ek at *
          generalize hb : ((Os.take k).any fun o => decide (o = X)) = b at *
          have HBB := Lib.hid hb; clear hb
          cases b
          · go_wp2_with fail
            refine (rsame_any _ _ _ _ _ HEL.out HXR.out (by omega) (by omega)).mono ?_
            rintro e w5 ⟨rfl, hB5⟩
            have HB6 := Lib.hid (btr HBR.out hB5)
            clear hB5
            go_wp2
            refine ⟨⟨k + 1, by omega, by go_num, by rw [HST2.out]; simp, HB6.out⟩, by simp [intOf]; omega⟩
          · go_wp2
            refine ⟨⟨k + 1, by omega, by go_num, by rw [HST2.out]; simp, HBR.out⟩, by simp [intOf]; omega⟩
        · obtain rfl : k = Os.length := by omega
          have hO6 := HO4.out.later hBr
          have hW6 := owns_kept HW4.out hBr
          have y0 := (hBr.cell (p := ⟨w.heap.size, 0, none⟩) z3).trans g0
          have y1 := (hBr.cell (p := ⟨w.heap.size, 1, none⟩) z3).trans g1
          have z6 : w.heap.size < wr.heap.size := Nat.lt_of_lt_of_le z3 hBr.size
          have HB7 := Lib.hid (btr HB5.out hBr)
          have HO6 := Lib.hid hO6; have HW6 := Lib.hid hW6
          clear hO6 hW6 hBr HBR HO4 HW4 g0 g1
          rw [List.take_length]
          have hmem : (Os.any fun o => decide (o = X)) = decide (X ∈ Os) := by
            rw [Bool.eq_iff_iff]; simp
          rw [hmem]
          clear hmem
          by_cases hin : X ∈ Os
          · have HS2 : Hid (rimgs p V (t + 1) = Os) := Lib.hid (by rw [HST.out, if_pos hin])
            rw [decide_eq_true hin]
            clear hin
            go_wp2
            refine ⟨⟨t + 1, vs, by omega, by go_num, HB7.out, z6, y0, y1, by rw [HS2.out]; exact HO6.out⟩, by simp [intOf]; omega⟩
          · have HS2 : Hid (rimgs p V (t + 1) = Os ++ [X]) := Lib.hid (by rw [HST.out, if_neg hin])
            rw [decide_eq_false hin]
            clear hin
            go_wp2_with (at_builtin; refine wpList_append_list rfl _ _ rfl HO6.out _ rfl rfl rfl (by omega) (by omega) ?_)
            intro v' w' hown' hgrow
            have hP := HO6.out.push HW6.out hown' hgrow
            have hB8 : Below w.heap.size w w' := append_below (bal HB7.out _) (HO6.out.own.alloc _) hgrow (by omega)
            have hz8 : wr.heap.size ≤ w'.heap.size := by have := hgrow.size; simp at this; omega
            have hne : ∀ r, r < w.heap.size + 1 → w'.heap[r]? = wr.heap[r]? := fun r hr => (append_keep (HO6.out.own.alloc _) hgrow hr (by simp; omega)).trans (Below.heap_alloc _ _ _ (by omega))
            have y0' : w'.cell? ⟨w.heap.size, 0, none⟩ = some (.int .i64 p) := (World.cell?_of_block (hne _ (by simp))).trans y0
            have y1' : w'.cell? ⟨w.heap.size, 1, none⟩ = some (.slice a V.length ca) := (World.cell?_of_block (hne _ (by simp))).trans y1
            have HP := Lib.hid hP; have HB8 := Lib.hid hB8
            clear hown' hgrow hP hB8 hne y0 y1
            go_wp2
            refine ⟨⟨t + 1, _, by omega, by go_num, HB8.out, by omega, y0', y1', by rw [HS2.out]; exact HP.out⟩, by simp [intOf]; omega⟩
    · obtain rfl : t = m := by omega
      have HB := Lib.hid hB
      have hO := HO.out
      obtain ⟨a9, c9, hv9⟩ := owns_form hO.own
      subst hv9
      clear hO
      go_wp2
      go_ret
      exact ⟨rfl, HB.out⟩

def rimgE (p : Int) (V : List (Int × Int)) : Int := if checkR p V = 0 then ((rimgs p.toNat V (2 ^ p.toNat)).length : Nat) else 0
set_option maxRecDepth 100000 in
set_option maxHeartbeats 1000000 in
theorem rimages_any (p : Int) (x : Value) (V : List (Int × Int)) (w : World) (hx0 : RdP w x V) (hl : V.length ≤ 1000) :
    Calls Try.prog 26 #[.agg #[.int .i64 p, x]] w fun e w' => e = .returned (.tuple #[.int .i64 (rimgE p V), .int .i64 (checkR p V)]) ∧ Below w.heap.size w w' := by
  obtain ⟨a, ca, rfl, _, _, _⟩ := hx0.form
  unfold rimgE
  have H0 := Lib.hid fun w1 (hB : Below w.heap.size w w1) => rcheck_any p _ V w1 (hx0.mono hB) hl
  by_cases h : checkR p V = 0
  · obtain ⟨n, rfl, hV⟩ := cond_row h
    rw [if_pos h, h, show ((n : Nat) : Int).toNat = n by omega]
    rw [h] at H0
    clear h
    go_enter Try.func26, Try.ntmps26
    go_wp2_with fail
    refine (H0.out _ (bal (bz _) _)).mono ?_
    rintro e w2 ⟨rfl, hB2⟩
    have c0 : w2.cell? ⟨w.heap.size, 0, none⟩ = some (.int .i64 n) := (hB2.cell (by simp)).trans (cnew rfl rfl)
    have c1 : w2.cell? ⟨w.heap.size, 1, none⟩ = some (.slice a V.length ca) := (hB2.cell (by simp)).trans (cnew rfl rfl)
    have hB3 := btr (bal (bz w) _) hB2
    go_wp2_with fail
    refine (imagesof_any n _ V w2 (hx0.mono hB3) hV).mono ?_
    rintro e w3 ⟨rfl, hB4⟩
    go_wp2
    go_ret2
    exact ⟨rfl, btr hB3 hB4⟩
  · rw [if_neg h]
    generalize checkR p V = c at *
    have e0 : (c != 0) = true := by simpa using h
    clear h
    go_enter Try.func26, Try.ntmps26
    go_wp2_with fail
    refine (H0.out _ (bal (bz _) _)).mono ?_
    rintro e w2 ⟨rfl, hB2⟩
    have hB3 := btr (bal (bz w) _) hB2
    have c0 : w2.cell? ⟨w.heap.size, 0, none⟩ = some (.int .i64 p) := (hB2.cell (by simp)).trans (cnew rfl rfl)
    have c1 : w2.cell? ⟨w.heap.size, 1, none⟩ = some (.slice a V.length ca) := (hB2.cell (by simp)).trans (cnew rfl rfl)
    go_wp2_with fail
    refine (H0.out _ hB3).mono ?_
    rintro e w3 ⟨rfl, hB4⟩
    go_wp2
    go_ret2
    exact ⟨rfl, btr hB3 hB4⟩
end Go.Proofs.Ytdnaipiiponhpaa

namespace Go.Proofs.Ytdnaipiiponhpaa
open Go.RowKit Go.Shelf

theorem RdP.take {w : World} {a : Option Addr} {n c : Nat} {V : List (Int × Int)} (h : RdP w (.slice a n c) V) (k : Nat) (hk : k ≤ V.length) : RdP w (.slice a k c) (V.take k) := by
  obtain ⟨a', cap, he, h1, h2, h3⟩ := h
  simp only [Value.slice.injEq] at he
  obtain ⟨rfl, rfl, rfl⟩ := he
  have hl : (V.take k).length = k := by rw [List.length_take]; omega
  refine ⟨a, c, by rw [hl], by rw [hl]; omega, h2, fun hne => ?_⟩
  have hpt : prs (V.take k) = (prs V).take (k * 2) := by
    have := prs_append (V.take k) (V.drop k)
    rw [List.take_append_drop] at this
    rw [this, List.take_append_of_le_length (by rw [prs_length, hl]; exact Nat.le_refl _)]
    exact (List.take_of_length_le (by rw [prs_length, hl]; exact Nat.le_refl _)).symm
  rw [hpt] at hne ⊢
  obtain ⟨b, off, e, hb, hc⟩ := h3 (by intro e; rw [e] at hne; simp at hne)
  exact ⟨b, off, e, hb, fun j u hj => hc j u (by rw [List.getElem?_take] at hj; split at hj; exact hj; cases hj)⟩
theorem okRow_at {p : Nat} {V : List (Int × Int)} (hV : OkRow p V) (k : Nat) (hk : k < V.length) : ∃ n1 n2 : Nat, V[k]?.getD (0, 0) = ((n1 : Int), (n2 : Int)) ∧ n1 < n2 ∧ n2 < p := by
  have hm : V[k] ∈ V := List.getElem_mem hk
  obtain ⟨h1, h2, h3⟩ := hV.ok _ hm
  refine ⟨V[k].1.toNat, V[k].2.toNat, ?_, by omega, by omega⟩
  rw [List.getElem?_eq_getElem hk, Option.getD_some]
  exact Prod.ext (by simp; omega) (by simp; omega)

def meetB (u v : Int × Int) : Bool := decide (u.1 = v.1 ∨ u.1 = v.2 ∨ u.2 = v.1 ∨ u.2 = v.2)
set_option maxRecDepth 100000 in
set_option maxHeartbeats 1000000 in
theorem meet_any (a b c d : Int) (w : World) : Calls Try.prog 53 #[.agg #[.int .i64 a, .int .i64 b], .agg #[.int .i64 c, .int .i64 d]] w fun e w' => e = .returned (.bool (meetB (a, b) (c, d))) ∧ Below w.heap.size w w' := by
  by_cases h1 : a = c
  · subst h1
    go_enter Try.func53, Try.ntmps53
    go_wp2
    go_ret
    exact ⟨ret_bool (by simp [meetB]), bal (bal (bz _) _) _⟩
  · have e1 : (a == c) = false := by simpa using h1
    by_cases h2 : a = d
    · subst h2
      go_enter Try.func53, Try.ntmps53
      go_wp2
      go_ret
      exact ⟨ret_bool (by simp [meetB]), bal (bal (bz _) _) _⟩
    · have e2 : (a == d) = false := by simpa using h2
      by_cases h3 : b = c
      · subst h3
        go_enter Try.func53, Try.ntmps53
        go_wp2
        go_ret
        exact ⟨ret_bool (by simp [meetB]), bal (bal (bz _) _) _⟩
      · have e3 : (b == c) = false := by simpa using h3
        go_enter Try.func53, Try.ntmps53
        go_wp2
        go_ret
        exact ⟨ret_bool (by simp [meetB, h1, h2, h3]; try rfl), bal (bal (bz _) _) _⟩

/-- A 1 and a 0 meet there. -/
def meetsB (p : Nat) (V : List (Int × Int)) (k t : Nat) : Bool := decide ((runV (V.take k) (bitsOf p t))[(V[k]?.getD (0, 0)).2.toNat]?.getD 0 < (runV (V.take k) (bitsOf p t))[(V[k]?.getD (0, 0)).1.toNat]?.getD 0)
def rneedB (p : Nat) (V : List (Int × Int)) (k : Nat) : Bool := (List.range (2 ^ p)).all fun t => !meetsB p V k t
theorem rneed_yes {p : Nat} {V : List (Int × Int)} {k m : Nat} (hm : m = 2 ^ p) (h : ∀ t, t < m → meetsB p V k t = false) : rneedB p V k = true := by
  unfold rneedB; rw [List.all_eq_true]; intro t ht; rw [h t (by rw [hm]; exact List.mem_range.1 ht)]; rfl
theorem rneed_no {p : Nat} {V : List (Int × Int)} {k m t : Nat} (hm : m = 2 ^ p) (ht : t < m) (h : meetsB p V k t = true) : rneedB p V k = false := by
  unfold rneedB; rw [List.all_eq_false]; exact ⟨t, by rw [List.mem_range, ← hm]; exact ht, by rw [h]; simp⟩

set_option maxRecDepth 100000 in
set_option maxHeartbeats 4000000 in
theorem isneedless_any (p k : Nat) (x : Value) (V : List (Int × Int)) (w : World) (hx0 : RdP w x V) (hV : OkRow p V) (hk : k < V.length) :
    Calls Try.prog 69 #[.agg #[.int .i64 p, x], .int .i64 k] w fun e w' => e = .returned (.bool (rneedB p V k)) ∧ Below w.heap.size w w' := by
  have hp1 := hV.p1; have hp8 := hV.p8; have h40 := hV.len
  obtain ⟨a, ca, rfl, hca, hca2, hxf⟩ := hx0.form
  obtain ⟨bx, ox, rfl, hbx, hcx⟩ := hxf (by omega)
  obtain ⟨n1, n2, hpr, h12, h2p⟩ := okRow_at hV k hk
  have gx := (hcx k hk).1
  have gy := (hcx k hk).2
  rw [hpr] at gx gy
  simp only at gx gy
  have HPR := Lib.hid hpr
  clear hxf hcx hpr hca2
  have h256 := pow_le_8 p (by omega)
  obtain ⟨m, hm⟩ : ∃ m, m = 2 ^ p := ⟨_, rfl⟩
  have hwp : wrap64 ((2 : Int) ^ p) = (m : Int) := by
    have e : (2 : Int) ^ p = ((2 ^ p : Nat) : Int) := by simp
    rw [e, ← hm]
    unfold wrap64
    omega
  rw [← hm] at h256
  have HM := Lib.hid hm; clear hm
  go_enter Try.func69, Try.ntmps69
  go_wp2
  go_loopw [5, 6, 7, 8, 9, 10, 11, 12, 13, 14, 15, 16, 17, 18, 19, 20, 21, 22, 23, 24, 25, 26, 27, 28, 29, 30, 31, 32, 33, 34, 35, 36, 37, 38, 39, 40, 41] (fun i _ _ _ _ _ _ _ _ _ _ _ _ _ _ _ _ _ _ _ _ _ _ _ _ _ _ _ _ _ _ _ _ _ _ _ _ wr => ∃ t : Nat, t ≤ m ∧ i = .int .i64 t ∧ Below w.heap.size w wr ∧ w.heap.size < wr.heap.size ∧ wr.cell? ⟨w.heap.size, 0, none⟩ = some (.int .i64 p) ∧ wr.cell? ⟨w.heap.size, 1, none⟩ = some (.slice (some ⟨bx, ox, none⟩) V.length ca) ∧ (∀ s, s < t → meetsB p V k s = false)) (fun i _ _ _ _ _ _ _ _ _ _ _ _ _ _ _ _ _ _ _ _ _ _ _ _ _ _ _ _ _ _ _ _ _ _ _ _ _ => m - (intOf i).toNat)
  case atStart => exact ⟨0, Nat.zero_le _, rfl, bal (bz _) _, by simp, cnew rfl rfl, cnew rfl rfl, fun s hs => by omega⟩
  case round =>
    obtain ⟨t, ht, rfl, hB, hz, c0, c1, hall⟩ := hrel
    have HA := Lib.hid hall; clear hall
    by_cases htp : t < m
    · have htp2 : (t : Int) < (m : Int) := by omega
      go_wp2
      refine wp_region_flow [] [([0, 1, 2, 3, 4, 5, 6], 7, true), ([], 8, true)] [9] (by kernel_rfl) (by kernel_rfl) ?_
      intro wc hBc hh
      clear hh
      have d0 := (hBc.cell (p := ⟨w.heap.size, 0, none⟩) hz).trans c0
      have d1 := (hBc.cell (p := ⟨w.heap.size, 1, none⟩) hz).trans c1
      have hzc : w.heap.size < wc.heap.size := Nat.lt_of_lt_of_le hz hBc.size
      have hL := @Later.cell wc
      have HB := Lib.hid (btr hB hBc)
      clear c0 c1 hBc hB
      simp only [flowP, flow, pickL, List.getElem?_cons_succ, List.getElem?_cons_zero]
      refine wpQuiet_nil ?_
      repeat (go_big_quiet_step (fail))
      refine wpQuiet_nil ?_
      go_wp2_with fail
      refine (patterned_any p t wc (by omega) (by omega)).mono ?_
      rintro e w2 ⟨v2, rfl, hown, hB2⟩
      have hbl : (bitsOf p t).length = p := by simp [bitsOf]
      have HRD := Lib.hid (RdI.of_owns (w := w2) (k := .i64) (xs := bitsOf p t) hown)
      have HB2 := Lib.hid hB2
      clear hown hB2
      go_wp2
      refine seg_grow ⟨⟨_, HB2.out⟩, rfl⟩ ?_
      refine wpQuiet_nil ?_
      go_wp2_with fail
      have hlk : (V.take k).length = k := by rw [List.length_take]; omega
      refine (runof_any _ _ (V.take k) (bitsOf p t) w2 ((hx0.mono (btr HB.out HB2.out)).take k (by omega)) HRD.out (by omega) (by omega) (by omega) (fun v hv => by obtain ⟨h1, h2, h3⟩ := hV.ok v (List.mem_of_mem_take hv); omega)).mono ?_
      rintro e w3 ⟨v3, rfl, hown3, hB3⟩
      have hlr : (runV (V.take k) (bitsOf p t)).length = p := by rw [runV_length]; exact hbl
      rw [hbl] at hown3
      have hB4 := btr HB2.out hB3
      have hrd3 : RdI w3 .i64 v3 (runV (V.take k) (bitsOf p t)) := RdI.of_owns hown3
      obtain ⟨a3, c3, hv3, hca3, hcb3, hx3⟩ := hrd3.form
      subst hv3
      obtain ⟨b3, o3, rfl, hb3, hcx3⟩ := hx3 (by omega)
      have k1 := hcx3 n1 (by omega)
      have k2 := hcx3 n2 (by omega)
      have HB4 := Lib.hid hB4
      have HME : Hid (meetsB p V k t = decide ((runV (V.take k) (bitsOf p t))[n2]?.getD 0 < (runV (V.take k) (bitsOf p t))[n1]?.getD 0)) := Lib.hid (by
        unfold meetsB; rw [HPR.out]; rfl)
      clear hown3 hB3 hrd3 hB4 hx3 hcx3 HRD
      rw [hlr] at hca3 ⊢
      clear hlr
      generalize (runV (V.take k) (bitsOf p t))[n1]?.getD 0 = y1 at *
      generalize (runV (V.take k) (bitsOf p t))[n2]?.getD 0 = y2 at *
      go_wp2
      refine seg_grow ⟨⟨_, HB4.out⟩, rfl⟩ ?_
      repeat (go_big_quiet_step (fail))
      refine wpQuiet_nil ?_
      refine only_done ?_
      have g0 := (HB4.out.cell (p := ⟨w.heap.size, 0, none⟩) hzc).trans d0
      have g1 := (HB4.out.cell (p := ⟨w.heap.size, 1, none⟩) hzc).trans d1
      have z3 : w.heap.size < w3.heap.size := Nat.lt_of_lt_of_le hzc HB4.out.size
      have HB5 := Lib.hid (btr HB.out HB4.out)
      have gx3 := (HB5.out.cell hbx).trans gx
      have gy3 := (HB5.out.cell hbx).trans gy
      have hbx3 : bx < w3.heap.size := Nat.lt_of_lt_of_le hbx HB5.out.size
      clear hL d0 d1 hzc HB2 HB4 HB
      by_cases hy : y2 < y1
      · have HN : Hid (rneedB p V k = false) := Lib.hid (rneed_no HM.out htp (by rw [HME.out, decide_eq_true hy]))
        go_wp2
        go_quiet (fail)
        go_wp2
        go_ret
        exact ⟨ret_bool HN.out.symm, Below.drewN' _ HB5.out⟩
      · have hy2 : decide (y2 < y1) = false := by simpa using hy
        go_wp2
        go_quiet (fail)
        go_wp2
        refine ⟨⟨t + 1, by omega, by go_num, Below.drewN' _ HB5.out, z3, g0, g1, fun s hs => ?_⟩, by simp [intOf]; omega⟩
        by_cases e : s = t
        · subst e; rw [HME.out]; exact hy2
        · exact HA.out s (by omega)
    · obtain rfl : t = m := by omega
      have HB := Lib.hid hB
      have HN : Hid (rneedB p V k = true) := Lib.hid (rneed_yes HM.out HA.out)
      clear hB
      go_wp2
      go_ret
      exact ⟨ret_bool HN.out.symm, HB.out⟩
end Go.Proofs.Ytdnaipiiponhpaa

namespace Go.Proofs.Ytdnaipiiponhpaa
open Go.RowKit Go.Shelf

/-- 'append' of one number to a list of the call's own. -/
theorem wpList_append_num {w : World} {base : Nat} {t e : TypeId} {v : Value} {xs : List Int} {ops : Array Oper} {rest : List Oper} {o : Oper} {a : Act} {Q : Exit → Act → World → Prop} (hgd : o.guard = none) (s x : Operand)
    (ho : o.op = .call { callee := .builtin .append, args := #[s, x], argTypes := #[t, t] }) (ht : Try.prog.underlying t = some (.slice e)) (hie : (Try.prog.info? e).map (fun i => (i.zero, i.size, i.bytes)) = some (some (.int .i64 0), 1, 8))
    (h : w.ownsRow base e 1 v xs.length (xs.map (Value.int .i64))) (q : Int) (hs : a.eval s = v) (hx : a.eval x = .slice (some ⟨w.heap.size, 0, none⟩) 1 1) (hl : xs.length ≤ 1000) (hb : base ≤ w.heap.size)
    (H : ∀ v' w', w'.ownsRow base e 1 v' (xs ++ [q]).length ((xs ++ [q]).map (Value.int .i64)) → (w.alloc (.cells #[.int .i64 q] e)).grownBy w' v.ownBlock → wpList Try.prog ops Q rest (a.put o.dst v') w') :
    wpList Try.prog ops Q (o :: rest) a (w.alloc (.cells #[.int .i64 q] e)) := by
  obtain ⟨i0, hi, hz0, hz1, hz2⟩ := info_parts hie
  refine wpList_append_own _ hgd s x t ho base e i0 (.int .i64 0) 1 8 ht hi hz0 hz1 hz2 rfl (by decide) _ _ _ hs (h.alloc _) ⟨w.heap.size, 0, none⟩ 1 1 [.int .i64 q] hx rfl (fun j u hj => ?_) (fun u hu => by simp at hu; subst hu; rfl)
    (by simp only [maxLen]; omega) (by omega) (by simp; omega) ?_
  · match j, hj with
    | 0, hj => simp at hj; subst hj; rw [Go.WideShapes.add_plain]; simp
  · intro v' w' h1 h2 _
    refine H v' w' ?_ h2
    rw [List.map_append, List.length_append]
    exact h1
theorem num3 : (Try.prog.info? 3).map (fun i => (i.zero, i.size, i.bytes)) = some (some (.int .i64 0), 1, 8) := by kernel_rfl
theorem num2 : (Try.prog.info? 2).map (fun i => (i.zero, i.size, i.bytes)) = some (some (.int .i64 0), 1, 8) := by kernel_rfl

def rneedL (p : Nat) (V : List (Int × Int)) (k : Nat) : List Int := ((List.range k).filter (rneedB p V)).map fun i => ((i : Nat) : Int)
theorem rneedL_succ (p : Nat) (V : List (Int × Int)) (k : Nat) : rneedL p V (k + 1) = if rneedB p V k then rneedL p V k ++ [(k : Int)] else rneedL p V k := by
  unfold rneedL
  rw [List.range_succ, List.filter_append, List.map_append]
  cases h : rneedB p V k <;> simp [h]
theorem rneedL_le (p : Nat) (V : List (Int × Int)) (k : Nat) : (rneedL p V k).length ≤ k := by
  unfold rneedL; rw [List.length_map]; have := List.length_filter_le (rneedB p V) (List.range k); simpa using this
def rneedR (p : Int) (V : List (Int × Int)) : List Int := if checkR p V = 0 then rneedL p.toNat V V.length else []

set_option maxRecDepth 100000 in
set_option maxHeartbeats 4000000 in
theorem rneedless_any (p : Int) (x : Value) (V : List (Int × Int)) (w : World) (hx0 : RdP w x V) (hl : V.length ≤ 1000) :
    Calls Try.prog 33 #[.agg #[.int .i64 p, x]] w fun e w' => ∃ v, e = .returned (.tuple #[v, .int .i64 (checkR p V)]) ∧ RdI w' .i64 v (rneedR p V) ∧ Below w.heap.size w w' := by
  obtain ⟨a, ca, rfl, _, _, _⟩ := hx0.form
  unfold rneedR
  have H0 := Lib.hid fun w1 (hB : Below w.heap.size w w1) => rcheck_any p _ V w1 (hx0.mono hB) hl
  by_cases h : checkR p V = 0
  · obtain ⟨n, rfl, hV⟩ := cond_row h
    rw [if_pos h, h, show ((n : Nat) : Int).toNat = n by omega]
    rw [h] at H0
    clear h
    have h40 := hV.len
    go_enter Try.func33, Try.ntmps33
    go_wp2_with fail
    refine (H0.out _ (bal (bz _) _)).mono ?_
    rintro e w2 ⟨rfl, hB2⟩
    have c0 : w2.cell? ⟨w.heap.size, 0, none⟩ = some (.int .i64 n) := (hB2.cell (by simp)).trans (cnew rfl rfl)
    have c1 : w2.cell? ⟨w.heap.size, 1, none⟩ = some (.slice a V.length ca) := (hB2.cell (by simp)).trans (cnew rfl rfl)
    have z2 := World.block_lt_of_cell? w2 _ c0
    simp only at z2
    have HB3 := Lib.hid (btr (bal (bz w) _) hB2)
    clear hB2
    go_wp2
    go_loopw [4, 5, 11, 12, 13, 14, 15, 16, 17, 18, 19, 20, 21, 22, 23, 24] (fun v i _ _ _ _ _ _ _ _ _ _ _ _ _ _ wr => ∃ k : Nat, k ≤ V.length ∧ i = .int .i64 k ∧ Below w.heap.size w wr ∧ w.heap.size < wr.heap.size ∧ wr.cell? ⟨w.heap.size, 0, none⟩ = some (.int .i64 n) ∧ wr.cell? ⟨w.heap.size, 1, none⟩ = some (.slice a V.length ca) ∧ wr.ownsRow (w.heap.size + 1) 3 1 v (rneedL n V k).length ((rneedL n V k).map (Value.int .i64))) (fun v i _ _ _ _ _ _ _ _ _ _ _ _ _ _ _ => V.length - (intOf i).toNat)
    case atStart => exact ⟨0, Nat.zero_le _, rfl, HB3.out, z2, c0, c1, World.ownsRow_nil _ _ _ _⟩
    case round =>
      obtain ⟨k, hk, rfl, hB, hz, d0, d1, hO⟩ := hrel
      have HO := Lib.hid hO; have HB := Lib.hid hB; clear hO hB c0 c1
      have HLE := Lib.hid (rneedL_le n V k)
      by_cases hlt : k < V.length
      · have HST := Lib.hid (rneedL_succ n V k)
        go_wp2_with fail
        refine (isneedless_any n k _ V _ (hx0.mono HB.out) hV hlt).mono ?_
        rintro e w4 ⟨rfl, hB4⟩
        have g0 := (hB4.cell (p := ⟨w.heap.size, 0, none⟩) hz).trans d0
        have g1 := (hB4.cell (p := ⟨w.heap.size, 1, none⟩) hz).trans d1
        have z4 : w.heap.size < w4.heap.size := Nat.lt_of_lt_of_le hz hB4.size
        have HO4 := Lib.hid (owns_kept HO.out hB4); have HB4 := Lib.hid (btr HB.out hB4)
        clear hB4 HO HB d0 d1
        generalize rneedB n V k = b at *
        cases b
        · go_wp2
          exact ⟨⟨k + 1, by omega, by go_num, HB4.out, z4, g0, g1, by rw [HST.out]; exact HO4.out⟩, by simp [intOf]; omega⟩
        · go_wp2_with (at_builtin; refine wpList_append_num rfl _ _ rfl Try.underlying34 num3 HO4.out _ rfl rfl (by have := HLE.out; omega) (by omega) ?_)
          intro v' w' hown' hgrow
          have hB8 : Below w.heap.size w w' := append_below (bal HB4.out _) (HO4.out.alloc _) hgrow (by omega)
          have hz8 : w4.heap.size ≤ w'.heap.size := by have := hgrow.size; simp at this; omega
          have hne : ∀ r, r < w.heap.size + 1 → w'.heap[r]? = w4.heap[r]? := fun r hr => (append_keep (HO4.out.alloc _) hgrow hr (by simp; omega)).trans (Below.heap_alloc _ _ _ (by omega))
          have y0 := (World.cell?_of_block (hne _ (by simp))).trans g0
          have y1 := (World.cell?_of_block (hne _ (by simp))).trans g1
          have HP := Lib.hid hown'; have HB8 := Lib.hid hB8
          clear hown' hgrow hB8 hne g0 g1
          go_wp2
          refine ⟨⟨k + 1, by omega, by go_num, HB8.out, by omega, y0, y1, by rw [HST.out, if_pos trivial, List.length_append, List.map_append]; exact HP.out⟩, by simp [intOf]; omega⟩
      · obtain rfl : k = V.length := by omega
        go_wp2
        go_ret2
        exact ⟨_, rfl, RdI.of_owns (by simpa using HO.out), HB.out⟩
  · rw [if_neg h]
    generalize checkR p V = c at *
    have e0 : (c != 0) = true := by simpa using h
    clear h
    go_enter Try.func33, Try.ntmps33
    go_wp2_with fail
    refine (H0.out _ (bal (bz _) _)).mono ?_
    rintro e w2 ⟨rfl, hB2⟩
    have hB3 := btr (bal (bz w) _) hB2
    have c0 : w2.cell? ⟨w.heap.size, 0, none⟩ = some (.int .i64 p) := (hB2.cell (by simp)).trans (cnew rfl rfl)
    have c1 : w2.cell? ⟨w.heap.size, 1, none⟩ = some (.slice a V.length ca) := (hB2.cell (by simp)).trans (cnew rfl rfl)
    go_wp2_with fail
    refine (H0.out _ hB3).mono ?_
    rintro e w3 ⟨rfl, hB4⟩
    go_wp2
    go_ret2
    exact ⟨_, rfl, rdI_nil _ _, btr hB3 hB4⟩
end Go.Proofs.Ytdnaipiiponhpaa

namespace Go.Proofs.Ytdnaipiiponhpaa
open Go.RowKit Go.Shelf

def rcutK (p : Nat) (V : List (Int × Int)) (k : Nat) : List (Int × Int) := ((List.range k).filter fun i => !rneedB p V i).map fun i => V[i]?.getD (0, 0)
theorem rcutK_succ (p : Nat) (V : List (Int × Int)) (k : Nat) : rcutK p V (k + 1) = if rneedB p V k then rcutK p V k else rcutK p V k ++ [V[k]?.getD (0, 0)] := by
  unfold rcutK
  rw [List.range_succ, List.filter_append, List.map_append]
  cases h : rneedB p V k <;> simp [h]
theorem rcutK_le (p : Nat) (V : List (Int × Int)) (k : Nat) : (rcutK p V k).length ≤ k := by
  unfold rcutK; rw [List.length_map]; have := List.length_filter_le (fun i => !rneedB p V i) (List.range k); simpa using this
def rcutL (p : Int) (V : List (Int × Int)) : List (Int × Int) := if checkR p V = 0 then rcutK p.toNat V V.length else []

theorem owns_set {w : World} {base e size n : Nat} {v : Value} {xs : List Value} (h : w.ownsRow base e size v n xs) {r : Nat} (hr : r < base) (i : Nat) (u : Value) : (w.setCell ⟨r, i, none⟩ u).ownsRow base e size v n xs :=
  h.kept (grownBy_set w _ _) (by
    cases hvv : v.ownBlock with
    | none => exact .inl rfl
    | some q => exact .inr (by intro e; cases e; have := (h.lt _ hvv).1; simp only at this; omega))
theorem owns_base {w : World} {b1 b2 e size n : Nat} {v : Value} {xs : List Value} (h : w.ownsRow b1 e size v n xs) (hb : b2 ≤ b1) : w.ownsRow b2 e size v n xs := by
  refine ⟨h.1, ?_⟩
  rcases h.2 with h | ⟨g, cap, cur, h1, h2, h3⟩
  · exact .inl h
  · exact .inr ⟨g, cap, cur, h1, by omega, h3⟩

set_option maxRecDepth 100000 in
set_option maxHeartbeats 4000000 in
theorem mirrorof_any (n : Nat) (x : Value) (V : List (Int × Int)) (w : World) (hx0 : RdP w x V) (hV : OkRow n V) :
    Calls Try.prog 75 #[.agg #[.int .i64 n, x]] w fun e w' => ∃ v, e = .returned (.agg #[.int .i64 n, v]) ∧ w'.ownsRow w.heap.size 59 2 v V.length (prs (V.map (mirrorOne n))) ∧ Below w.heap.size w w' := by
  have hsz : (Try.prog.info? 24).map (·.size) = some 2 := by kernel_rfl
  have HSZ := Lib.hid hsz; clear hsz
  obtain ⟨a, ca, rfl, _, _, hxf⟩ := hx0.form
  have hp1 := hV.p1; have hp8 := hV.p8; have h40 := hV.len
  go_enter Try.func75, Try.ntmps75
  go_wp2
  go_loopw [4, 8, 9, 10, 11, 12, 13, 14, 15, 16, 17, 18, 19, 20, 21, 22, 23, 24, 25, 26, 27, 28, 29, 30, 31, 32, 33, 34, 35, 36, 37, 38, 39, 40] (fun i _ _ _ _ _ _ _ _ _ _ _ _ _ _ _ _ _ _ _ _ _ _ _ _ _ _ _ _ _ _ _ _ _ wr => ∃ k v, k ≤ V.length ∧ i = .int .i64 (k : Nat) ∧ Below w.heap.size w wr ∧ wr.cell? ⟨w.heap.size, 0, none⟩ = some (.int .i64 n) ∧ wr.cell? ⟨w.heap.size, 1, none⟩ = some (.slice a V.length ca) ∧ SOwn wr (w.heap.size + 1 + 1) (w.heap.size + 1 + 1 + 1) 24 n v ((V.take k).map (mirrorOne n)) ∧ wr.heap[w.heap.size + 1]? = some (.cells #[.int .i64 0, .slice none 0 0] 24 (0, 0))) (fun i _ _ _ _ _ _ _ _ _ _ _ _ _ _ _ _ _ _ _ _ _ _ _ _ _ _ _ _ _ _ _ _ _ _ => V.length - (intOf i).toNat)
  case atStart =>
    refine ⟨0, .slice none 0 0, Nat.zero_le _, rfl, bal (bal (bal (bz _) _) _) _, cal _ (cal _ (cnew rfl rfl)), cal _ (cal _ (cnew rfl rfl)), ?_, ?_⟩
    · have := SOwn.new ((w.alloc (.cells #[.int .i64 n, .slice a V.length ca] 24)).alloc (.cells #[.int .i64 0, .slice none 0 0] 24)) 24 n
      simpa using this
    · refine (Below.heap_alloc _ _ _ (by simp)).trans ?_
      have := heap_alloc_new (w.alloc (.cells #[.int .i64 n, .slice a V.length ca] 24)) (.cells #[.int .i64 0, .slice none 0 0] 24)
      rw [World.size_alloc] at this
      exact this
  case round =>
    obtain ⟨k, v, hk, rfl, hB, c0, c1, hS, hr⟩ := hrel
    by_cases hlt : k < V.length
    · obtain ⟨bx, ox, rfl, hbx, hcx⟩ := hxf (by omega)
      obtain ⟨n1, n2, hpr, h12, h2p⟩ := okRow_at hV k hlt
      have gx := (hB.cell (p := ⟨bx, ox + k * 2, none⟩) hbx).trans (hcx k hlt).1
      have gy := (hB.cell (p := ⟨bx, ox + k * 2 + 1, none⟩) hbx).trans (hcx k hlt).2
      rw [hpr] at gx gy
      simp only at gx gy
      have hst : (V.take (k + 1)).map (mirrorOne n) = (V.take k).map (mirrorOne n) ++ [((n : Int) - 1 - n2, (n : Int) - 1 - n1)] := by
        have hg : V[k]?.getD (0, 0) = V[k] := by simp [hlt]
        rw [List.take_succ_eq_append_getElem hlt, List.map_append, ← hg, hpr]; rfl
      have HST := Lib.hid hst
      have HLN : Hid (((V.take k).map (mirrorOne n)).length ≤ 100) := Lib.hid (by rw [List.length_map, List.length_take]; omega)
      have e1 := hS.c1; have z1 := hS.z
      have HB := Lib.hid hB; have HS := Lib.hid hS; have HR := Lib.hid hr
      clear hxf hcx hst hpr hS hB hr
      generalize (V.take k).map (mirrorOne n) = L at *
      have z0 : w.heap.size < wr.heap.size := by omega
      have zx : bx < wr.heap.size := by omega
      have hkn : (k : Int) < (V.length : Int) := by omega
      go_wp2
      refine wp_region_flow [] [([0, 1, 2, 3, 4, 5, 6, 7, 8, 9, 10, 11, 12, 13, 14, 15, 16, 17, 18, 19, 20, 21, 22], 23, true), ([], 24, false), ([], 25, false), ([], 26, false)] [] (by kernel_rfl) (by kernel_rfl) ?_
      intro wc hBc hh
      clear hh
      have d0 := (hBc.cell (p := ⟨w.heap.size, 0, none⟩) z0).trans c0
      have d1 := (hBc.cell (p := ⟨w.heap.size, 1, none⟩) z0).trans c1
      have dx := (hBc.cell (p := ⟨bx, ox + k * 2, none⟩) zx).trans gx
      have dy := (hBc.cell (p := ⟨bx, ox + k * 2 + 1, none⟩) zx).trans gy
      have de := (hBc.cell (p := ⟨w.heap.size + 1 + 1, 1, none⟩) z1).trans e1
      have y0 : w.heap.size < wc.heap.size := Nat.lt_of_lt_of_le z0 hBc.size
      have y1 : w.heap.size + 1 + 1 < wc.heap.size := Nat.lt_of_lt_of_le z1 hBc.size
      have yx : bx < wc.heap.size := Nat.lt_of_lt_of_le zx hBc.size
      have hL := @Later.cell wc
      have HSC := Lib.hid (HS.out.later hBc)
      have HBC := Lib.hid (btr HB.out hBc)
      have HRC := Lib.hid ((hBc.block _ (by omega)).trans HR.out)
      clear c0 c1 gx gy e1 hBc HS HB HR
      have w1 : IntKind.i64.wrap ((n : Int) - 1) = (n : Int) - 1 := IntWalk.i64_in _ (by omega)
      have w2 : IntKind.i64.wrap ((n : Int) - 1 - (n2 : Int)) = (n : Int) - 1 - n2 := IntWalk.i64_in _ (by omega)
      have w3 : IntKind.i64.wrap ((n : Int) - 1 - (n1 : Int)) = (n : Int) - 1 - n1 := IntWalk.i64_in _ (by omega)
      simp only [flowP, flow, pickL, List.getElem?_cons_succ, List.getElem?_cons_zero]
      refine wpQuiet_nil ?_
      repeat (go_big_quiet_step (fail))
      refine wpQuiet_nil ?_
      go_wp2
      refine seg_grow ⟨⟨_, bal (bz _) _⟩, rfl⟩ ?_
      refine wpQuiet_nil ?_
      refine wpList_append_pair rfl _ _ rfl HSC.out _ _ rfl rfl (by have := HLN.out; omega) ?_
      intro v' w' hown' hgrow
      obtain ⟨c1', f1', z', hS', hB', a9, c9, hv9⟩ := HSC.out.done hown' hgrow
      have hne : ∀ r, r < w.heap.size + 1 + 1 → (w'.setCell ⟨w.heap.size + 1 + 1, 1, none⟩ v').heap[r]? = wc.heap[r]? := fun r hr => (heap_setCell_other w' ⟨w.heap.size + 1 + 1, 1, none⟩ r v' (by simp; omega)).trans ((append_keep (HSC.out.own.alloc _) hgrow (by omega) (by simp; omega)).trans (Below.heap_alloc _ _ _ (by omega)))
      have hB3 := hB' w HBC.out (by omega)
      subst hv9
      have HS3 := Lib.hid hS'; have HB3 := Lib.hid hB3
      have x0 := (World.cell?_of_block (hne w.heap.size (by omega))).trans d0
      have x1 := (World.cell?_of_block (hne w.heap.size (by omega))).trans d1
      have HR3 := Lib.hid ((hne (w.heap.size + 1) (by omega)).trans HRC.out)
      clear hL d0 d1 dx dy de w1 w2 w3
      clear hown' hgrow hS' hB' hB3 hne
      go_wp2
      refine seg_write ?_
      refine wpQuiet_nil ?_
      go_wp2
      refine seg_write ?_
      refine wpQuiet_nil ?_
      go_wp2
      refine seg_write ?_
      refine wpQuiet_nil ?_
      refine only_done ?_
      go_wp2
      refine ⟨⟨k + 1, .slice a9 (L.length + 1) c9, by omega, by go_num, HB3.out, x0, x1, by rw [HST.out]; exact HS3.out, HR3.out⟩, by simp [intOf]; omega⟩
    · obtain rfl : k = V.length := by omega
      rw [List.take_length] at hS
      obtain ⟨a9, c9, hv9⟩ := hS.form
      rw [List.length_map] at hv9
      subst hv9
      have e0 : wr.cell? ⟨w.heap.size + 1, 0, none⟩ = some (.int .i64 0) := by rw [cell_of_row wr _ 0 _ _ _ hr]; rfl
      have e1 : wr.cell? ⟨w.heap.size + 1, 1, none⟩ = some (.slice none 0 0) := by rw [cell_of_row wr _ 1 _ _ _ hr]; rfl
      have f0 := frozen_of_row wr (w.heap.size + 1) 0 _ _ hr
      have f1 := frozen_of_row wr (w.heap.size + 1) 1 _ _ hr
      have s0 := hS.c0; have s1 := hS.c1; have z1 := hS.z
      have z0 : w.heap.size < wr.heap.size := by omega
      have z2 : w.heap.size + 1 < wr.heap.size := by omega
      obtain ⟨hn2, hrd⟩ := hS.out (w.heap.size + 1) hr (by omega)
      have hown := owns_set (owns_set hS.own (show w.heap.size + 1 < _ by omega) 0 (.int .i64 n)) (show w.heap.size + 1 < _ by omega) 1 (.slice a9 V.length c9)
      rw [List.length_map] at hown
      have HN2 := Lib.hid hn2; have HRD := Lib.hid (owns_base hown (show w.heap.size ≤ _ by omega)); have HB := Lib.hid hB
      clear hS hr hn2 hrd hB hxf hown
      go_wp2
      refine bodyPost_ret (v := .agg #[.int .i64 n, .slice a9 V.length c9]) (results_row_one rfl rfl HN2.out Try.underlying24 rfl HSZ.out) rfl ⟨_, rfl, HRD.out, bset (bset HB.out (by simp) _) (by simp) _⟩
end Go.Proofs.Ytdnaipiiponhpaa

namespace Go.Proofs.Ytdnaipiiponhpaa
open Go.RowKit Go.Shelf

set_option maxRecDepth 100000 in
set_option maxHeartbeats 4000000 in
theorem rmirror_any (p : Int) (x : Value) (V : List (Int × Int)) (w : World) (hx0 : RdP w x V) (hl : V.length ≤ 1000) :
    Calls Try.prog 42 #[.agg #[.int .i64 p, x]] w fun e w' => ∃ v, e = .returned (.tuple #[.agg #[.int .i64 (cutP p V), v], .int .i64 (checkR p V)]) ∧ RdP w' v (mirrorL p V) ∧ Below w.heap.size w w' := by
  have hsz : (Try.prog.info? 24).map (·.size) = some 2 := by kernel_rfl
  have HSZ := Lib.hid hsz; clear hsz
  obtain ⟨a, ca, rfl, _, _, _⟩ := hx0.form
  unfold cutP mirrorL
  have H0 := Lib.hid fun w1 (hB : Below w.heap.size w w1) => rcheck_any p _ V w1 (hx0.mono hB) hl
  have HB0 : ∀ w2 : World, Below ((w.alloc (.cells #[.int .i64 p, .slice a V.length ca] 24)).alloc (.cells #[.int .i64 0, .slice none 0 0] 24)).heap.size ((w.alloc (.cells #[.int .i64 p, .slice a V.length ca] 24)).alloc (.cells #[.int .i64 0, .slice none 0 0] 24)) w2 →
      w2.cell? ⟨w.heap.size, 0, none⟩ = some (.int .i64 p) ∧ w2.cell? ⟨w.heap.size, 1, none⟩ = some (.slice a V.length ca) ∧ w2.heap[w.heap.size + 1]? = some (.cells #[.int .i64 0, .slice none 0 0] 24 (0, 0)) ∧ Below w.heap.size w w2 := by
    intro w2 hB
    refine ⟨(hB.cell (by simp; omega)).trans (cal _ (cnew rfl rfl)), (hB.cell (by simp; omega)).trans (cal _ (cnew rfl rfl)), (hB.block _ (by simp)).trans ?_, btr (bal (bal (bz _) _) _) hB⟩
    have := heap_alloc_new (w.alloc (.cells #[.int .i64 p, .slice a V.length ca] 24)) (.cells #[.int .i64 0, .slice none 0 0] 24)
    rw [World.size_alloc] at this
    exact this
  have H1 := Lib.hid HB0; clear HB0
  by_cases h : checkR p V = 0
  · obtain ⟨n, rfl, hV⟩ := cond_row h
    rw [if_pos h, if_pos h, h]
    rw [h] at H0
    clear h
    go_enter Try.func42, Try.ntmps42
    go_wp2_with fail
    refine (H0.out _ (bal (bal (bz _) _) _)).mono ?_
    rintro e w2 ⟨rfl, hB2⟩
    obtain ⟨c0, c1, hr, hB3⟩ := H1.out w2 hB2
    have z1 := (Array.getElem?_eq_some_iff.1 hr).1
    have z0 := World.block_lt_of_cell? w2 _ c0
    simp only at z0
    have HR := Lib.hid hr; have HB3 := Lib.hid hB3
    clear hB2 hr hB3
    go_wp2_with fail
    refine (mirrorof_any n _ V w2 (hx0.mono HB3.out) hV).mono ?_
    rintro e w3 ⟨v, rfl, hown, hB4⟩
    obtain ⟨a9, c9, hv⟩ := owns_form hown
    subst hv
    have hr3 := (hB4.block _ z1).trans HR.out
    have HR3 := Lib.hid hr3
    have e0 : w3.cell? ⟨w.heap.size + 1, 0, none⟩ = some (.int .i64 0) := by rw [cell_of_row w3 _ 0 _ _ _ hr3]; rfl
    have e1 : w3.cell? ⟨w.heap.size + 1, 1, none⟩ = some (.slice none 0 0) := by rw [cell_of_row w3 _ 1 _ _ _ hr3]; rfl
    have f0 := frozen_of_row w3 (w.heap.size + 1) 0 _ _ hr3
    have f1 := frozen_of_row w3 (w.heap.size + 1) 1 _ _ hr3
    have hn2 := heap_setCell_same _ _ 1 _ _ (.slice a9 V.length c9) (heap_setCell_same w3 (w.heap.size + 1) 0 _ _ (.int .i64 n) hr3)
    have hown2 := owns_set (owns_set hown z1 0 (.int .i64 n)) z1 1 (.slice a9 V.length c9)
    have HN2 := Lib.hid hn2; have HRD := Lib.hid (RdP.of_owns hown2); have HB5 := Lib.hid (btr HB3.out hB4)
    have z5 : w.heap.size + 1 < w3.heap.size := Nat.lt_of_lt_of_le z1 hB4.size
    clear hown hown2 hn2 hr3 hB4
    go_wp2
    (try simp only [Exit.inBlock, Exit.then])
    refine bodyPost_ret (v := .tuple #[.agg #[.int .i64 n, .slice a9 V.length c9], .int .i64 0]) (results_row_tmp rfl rfl rfl HN2.out Try.underlying24 rfl HSZ.out) rfl ⟨_, rfl, HRD.out, bset (bset HB5.out (by simp) _) (by simp) _⟩
  · rw [if_neg h, if_neg h]
    generalize checkR p V = c at *
    have e0 : (c != 0) = true := by simpa using h
    clear h
    go_enter Try.func42, Try.ntmps42
    go_wp2_with fail
    refine (H0.out _ (bal (bal (bz _) _) _)).mono ?_
    rintro e w2 ⟨rfl, hB2⟩
    obtain ⟨c0, c1, hr, hB3⟩ := H1.out w2 hB2
    have z1 := (Array.getElem?_eq_some_iff.1 hr).1
    have z0 := World.block_lt_of_cell? w2 _ c0
    simp only at z0
    have HR := Lib.hid hr; have HB3 := Lib.hid hB3
    clear hB2 hr hB3
    go_wp2_with fail
    refine (H0.out _ HB3.out).mono ?_
    rintro e w3 ⟨rfl, hB4⟩
    have hr3 := (hB4.block _ z1).trans HR.out
    have e0 : w3.cell? ⟨w.heap.size + 1, 0, none⟩ = some (.int .i64 0) := by rw [cell_of_row w3 _ 0 _ _ _ hr3]; rfl
    have e1 : w3.cell? ⟨w.heap.size + 1, 1, none⟩ = some (.slice none 0 0) := by rw [cell_of_row w3 _ 1 _ _ _ hr3]; rfl
    have f0 := frozen_of_row w3 (w.heap.size + 1) 0 _ _ hr3
    have f1 := frozen_of_row w3 (w.heap.size + 1) 1 _ _ hr3
    have hn2 := heap_setCell_same _ _ 1 _ _ (.slice none 0 0) (heap_setCell_same w3 (w.heap.size + 1) 0 _ _ (.int .i64 0) hr3)
    have HN2 := Lib.hid hn2; have HB5 := Lib.hid (btr HB3.out hB4)
    have z5 : w.heap.size + 1 < w3.heap.size := Nat.lt_of_lt_of_le z1 hB4.size
    clear hn2 hr3 hB4
    go_wp2
    (try simp only [Exit.inBlock, Exit.then])
    refine bodyPost_ret (v := .tuple #[.agg #[.int .i64 0, .slice none 0 0], .int .i64 c]) (results_row_tmp rfl rfl rfl HN2.out Try.underlying24 rfl HSZ.out) rfl ⟨_, rfl, rdP_nil _, bset (bset HB5.out (by simp) _) (by simp) _⟩

set_option maxRecDepth 100000 in
set_option maxHeartbeats 4000000 in
theorem rcut_any (p : Int) (x : Value) (V : List (Int × Int)) (w : World) (hx0 : RdP w x V) (hl : V.length ≤ 1000) :
    Calls Try.prog 35 #[.agg #[.int .i64 p, x]] w fun e w' => ∃ v, e = .returned (.tuple #[.agg #[.int .i64 (cutP p V), v], .int .i64 (checkR p V)]) ∧ RdP w' v (rcutL p V) ∧ Below w.heap.size w w' := by
  have hsz : (Try.prog.info? 24).map (·.size) = some 2 := by kernel_rfl
  have HSZ := Lib.hid hsz; clear hsz
  obtain ⟨a, ca, rfl, _, _, hxf⟩ := hx0.form
  unfold cutP rcutL
  have H0 := Lib.hid fun w1 (hB : Below w.heap.size w w1) => rcheck_any p _ V w1 (hx0.mono hB) hl
  have HB0 : ∀ w2 : World, Below ((w.alloc (.cells #[.int .i64 p, .slice a V.length ca] 24)).alloc (.cells #[.int .i64 0, .slice none 0 0] 24)).heap.size ((w.alloc (.cells #[.int .i64 p, .slice a V.length ca] 24)).alloc (.cells #[.int .i64 0, .slice none 0 0] 24)) w2 →
      w2.cell? ⟨w.heap.size, 0, none⟩ = some (.int .i64 p) ∧ w2.cell? ⟨w.heap.size, 1, none⟩ = some (.slice a V.length ca) ∧ w2.heap[w.heap.size + 1]? = some (.cells #[.int .i64 0, .slice none 0 0] 24 (0, 0)) ∧ Below w.heap.size w w2 := by
    intro w2 hB
    refine ⟨(hB.cell (by simp; omega)).trans (cal _ (cnew rfl rfl)), (hB.cell (by simp; omega)).trans (cal _ (cnew rfl rfl)), (hB.block _ (by simp)).trans ?_, btr (bal (bal (bz _) _) _) hB⟩
    have := heap_alloc_new (w.alloc (.cells #[.int .i64 p, .slice a V.length ca] 24)) (.cells #[.int .i64 0, .slice none 0 0] 24)
    rw [World.size_alloc] at this
    exact this
  have H1 := Lib.hid HB0; clear HB0
  by_cases h : checkR p V = 0
  · obtain ⟨n, rfl, hV⟩ := cond_row h
    rw [if_pos h, if_pos h, h, show ((n : Nat) : Int).toNat = n by omega]
    rw [h] at H0
    clear h
    have h40 := hV.len
    go_enter Try.func35, Try.ntmps35
    go_wp2_with fail
    refine (H0.out _ (bal (bal (bz _) _) _)).mono ?_
    rintro e w2 ⟨rfl, hB2⟩
    obtain ⟨c0, c1, hr, hB3⟩ := H1.out w2 hB2
    have z1 := (Array.getElem?_eq_some_iff.1 hr).1
    have z0 := World.block_lt_of_cell? w2 _ c0
    simp only at z0
    have HR := Lib.hid hr; have HB3 := Lib.hid hB3
    clear hB2 hr hB3
    go_wp2
    go_loopw [5, 15, 16, 17, 18, 19, 20, 21, 22, 23, 24, 25, 26, 27, 28, 29, 30, 31, 32, 33, 34, 35] (fun i _ _ _ _ _ _ _ _ _ _ _ _ _ _ _ _ _ _ _ _ _ wr => ∃ k v, k ≤ V.length ∧ i = .int .i64 (k : Nat) ∧ Below w2.heap.size w2 wr ∧ wr.cell? ⟨w.heap.size, 0, none⟩ = some (.int .i64 n) ∧ wr.cell? ⟨w.heap.size, 1, none⟩ = some (.slice a V.length ca) ∧ SOwn wr w2.heap.size (w2.heap.size + 1) 24 n v (rcutK n V k) ∧ wr.heap[w.heap.size + 1]? = some (.cells #[.int .i64 0, .slice none 0 0] 24 (0, 0))) (fun i _ _ _ _ _ _ _ _ _ _ _ _ _ _ _ _ _ _ _ _ _ _ => V.length - (intOf i).toNat)
    case atStart => exact ⟨0, .slice none 0 0, Nat.zero_le _, rfl, bal (bz _) _, cal _ c0, cal _ c1, SOwn.new w2 24 n, (Below.heap_alloc _ _ _ z1).trans HR.out⟩
    case round =>
      obtain ⟨k, v, hk, rfl, hB, d0, d1, hS, hr⟩ := hrel
      have hww := hB.size
      have HLE := Lib.hid (rcutK_le n V k)
      by_cases hlt : k < V.length
      · obtain ⟨bx, ox, rfl, hbx, hcx⟩ := hxf (by omega)
        have HBW := Lib.hid (btr HB3.out hB)
        have gx := (HBW.out.cell (p := ⟨bx, ox + k * 2, none⟩) hbx).trans (hcx k hlt).1
        have gy := (HBW.out.cell (p := ⟨bx, ox + k * 2 + 1, none⟩) hbx).trans (hcx k hlt).2
        have HST := Lib.hid (rcutK_succ n V k)
        have HS := Lib.hid hS; have HB := Lib.hid hB; have HR2 := Lib.hid hr
        clear hS hB hr hxf hcx c0 c1
        generalize V[k]?.getD (0, 0) = pr at *
        obtain ⟨q1, q2⟩ := pr
        simp only at gx gy
        have zx : bx < wr.heap.size := Nat.lt_of_lt_of_le hbx HBW.out.size
        go_wp2_with fail
        refine (isneedless_any n k _ V _ (hx0.mono HBW.out) hV hlt).mono ?_
        rintro e w4 ⟨rfl, hB4⟩
        have hz4 := hB4.size
        have y0 := (hB4.cell (p := ⟨w.heap.size, 0, none⟩) (by simp; omega)).trans d0
        have y1 := (hB4.cell (p := ⟨w.heap.size, 1, none⟩) (by simp; omega)).trans d1
        have gx4 := (hB4.cell (p := ⟨bx, ox + k * 2, none⟩) zx).trans gx
        have gy4 := (hB4.cell (p := ⟨bx, ox + k * 2 + 1, none⟩) zx).trans gy
        have HR4 := Lib.hid ((hB4.block _ (by omega)).trans HR2.out)
        have HS4 := Lib.hid (HS.out.later hB4); have HB5 := Lib.hid (btr HB.out hB4)
        clear hB4 d0 d1 gx gy HS HB HR2 HBW
        generalize rcutK n V k = L at *
        generalize rneedB n V k = b at *
        have HLN : Hid (L.length ≤ 100) := Lib.hid (by have := HLE.out; omega)
        cases b
        · have zx4 : bx < w4.heap.size := by omega
          have z04 : w.heap.size < w4.heap.size := by omega
          have e1 := HS4.out.c1; have zg := HS4.out.z
          go_wp2
          refine wp_region_flow [] [([0, 1, 2, 3, 4, 5, 6], 7, true), ([], 8, false), ([], 9, false), ([], 10, false)] [] (by kernel_rfl) (by kernel_rfl) ?_
          intro wc hBc hh
          clear hh
          have d0 := (hBc.cell (p := ⟨w.heap.size, 0, none⟩) z04).trans y0
          have d1 := (hBc.cell (p := ⟨w.heap.size, 1, none⟩) z04).trans y1
          have dx := (hBc.cell (p := ⟨bx, ox + k * 2, none⟩) zx4).trans gx4
          have dy := (hBc.cell (p := ⟨bx, ox + k * 2 + 1, none⟩) zx4).trans gy4
          have de := (hBc.cell (p := ⟨w2.heap.size, 1, none⟩) zg).trans e1
          have hzc := hBc.size
          have x0 : w.heap.size < wc.heap.size := by omega
          have x1 : w2.heap.size < wc.heap.size := by omega
          have xx : bx < wc.heap.size := by omega
          have hL := @Later.cell wc
          have HSC := Lib.hid (HS4.out.later hBc)
          have HBC := Lib.hid (btr HB5.out hBc)
          have HRC := Lib.hid ((hBc.block _ (by omega)).trans HR4.out)
          clear y0 y1 gx4 gy4 e1 hBc HS4 HB5 HR4
          simp only [flowP, flow, pickL, List.getElem?_cons_succ, List.getElem?_cons_zero]
          refine wpQuiet_nil ?_
          repeat (go_big_quiet_step (fail))
          refine wpQuiet_nil ?_
          go_wp2
          refine seg_grow ⟨⟨_, bal (bz _) _⟩, rfl⟩ ?_
          refine wpQuiet_nil ?_
          refine wpList_append_pair rfl _ _ rfl HSC.out _ _ rfl rfl (by have := HLN.out; omega) ?_
          intro v' w' hown' hgrow
          obtain ⟨c1', f1', z', hS', hB', a9, c9, hv9⟩ := HSC.out.done hown' hgrow
          have hne : ∀ r, r < w2.heap.size → (w'.setCell ⟨w2.heap.size, 1, none⟩ v').heap[r]? = wc.heap[r]? := fun r hr => (heap_setCell_other w' ⟨w2.heap.size, 1, none⟩ r v' (by simp; omega)).trans ((append_keep (HSC.out.own.alloc _) hgrow (by omega) (by simp; omega)).trans (Below.heap_alloc _ _ _ (by omega)))
          have hB3 := hB' w2 HBC.out (by omega)
          subst hv9
          have HS3 := Lib.hid hS'; have HB3b := Lib.hid hB3
          have xx0 := (World.cell?_of_block (hne w.heap.size (by omega))).trans d0
          have xx1 := (World.cell?_of_block (hne w.heap.size (by omega))).trans d1
          have HR3 := Lib.hid ((hne (w.heap.size + 1) (by omega)).trans HRC.out)
          clear hL d0 d1 dx dy de
          clear hown' hgrow hS' hB' hB3 hne
          go_wp2
          refine seg_write ?_
          refine wpQuiet_nil ?_
          go_wp2
          refine seg_write ?_
          refine wpQuiet_nil ?_
          go_wp2
          refine seg_write ?_
          refine wpQuiet_nil ?_
          refine only_done ?_
          go_wp2
          refine ⟨⟨k + 1, .slice a9 (L.length + 1) c9, by omega, by go_num, HB3b.out, xx0, xx1, by rw [HST.out]; exact HS3.out, HR3.out⟩, by simp [intOf]; omega⟩
        · go_wp2
          exact ⟨⟨k + 1, v, by omega, by go_num, HB5.out, y0, y1, by rw [HST.out]; exact HS4.out, HR4.out⟩, by simp [intOf]; omega⟩
      · obtain rfl : k = V.length := by omega
        obtain ⟨a9, c9, hv9⟩ := hS.form
        subst hv9
        have e0 : wr.cell? ⟨w.heap.size + 1, 0, none⟩ = some (.int .i64 0) := by rw [cell_of_row wr _ 0 _ _ _ hr]; rfl
        have e1 : wr.cell? ⟨w.heap.size + 1, 1, none⟩ = some (.slice none 0 0) := by rw [cell_of_row wr _ 1 _ _ _ hr]; rfl
        have f0 := frozen_of_row wr (w.heap.size + 1) 0 _ _ hr
        have f1 := frozen_of_row wr (w.heap.size + 1) 1 _ _ hr
        have s0 := hS.c0; have s1 := hS.c1; have zg := hS.z
        have z02 : w.heap.size < wr.heap.size := by omega
        have z12 : w.heap.size + 1 < wr.heap.size := by omega
        obtain ⟨hn2, hrd⟩ := hS.out (w.heap.size + 1) hr (by omega)
        have HN2 := Lib.hid hn2; have HRD := Lib.hid hrd; have HB := Lib.hid (btr HB3.out hB)
        clear hS hr hn2 hrd hB hxf
        go_wp2
        (try simp only [Exit.inBlock, Exit.then])
        refine bodyPost_ret (v := .tuple #[.agg #[.int .i64 n, .slice a9 (rcutK n V V.length).length c9], .int .i64 0]) (results_row_tmp rfl rfl rfl HN2.out Try.underlying24 rfl HSZ.out) rfl ⟨_, rfl, HRD.out, bset (bset HB.out (by simp) _) (by simp) _⟩
  · rw [if_neg h, if_neg h]
    generalize checkR p V = c at *
    have e0 : (c != 0) = true := by simpa using h
    clear h hxf
    go_enter Try.func35, Try.ntmps35
    go_wp2_with fail
    refine (H0.out _ (bal (bal (bz _) _) _)).mono ?_
    rintro e w2 ⟨rfl, hB2⟩
    obtain ⟨c0, c1, hr, hB3⟩ := H1.out w2 hB2
    have z1 := (Array.getElem?_eq_some_iff.1 hr).1
    have z0 := World.block_lt_of_cell? w2 _ c0
    simp only at z0
    have HR := Lib.hid hr; have HB3 := Lib.hid hB3
    clear hB2 hr hB3
    go_wp2_with fail
    refine (H0.out _ HB3.out).mono ?_
    rintro e w3 ⟨rfl, hB4⟩
    have hr3 := (hB4.block _ z1).trans HR.out
    have e0 : w3.cell? ⟨w.heap.size + 1, 0, none⟩ = some (.int .i64 0) := by rw [cell_of_row w3 _ 0 _ _ _ hr3]; rfl
    have e1 : w3.cell? ⟨w.heap.size + 1, 1, none⟩ = some (.slice none 0 0) := by rw [cell_of_row w3 _ 1 _ _ _ hr3]; rfl
    have f0 := frozen_of_row w3 (w.heap.size + 1) 0 _ _ hr3
    have f1 := frozen_of_row w3 (w.heap.size + 1) 1 _ _ hr3
    have hn2 := heap_setCell_same _ _ 1 _ _ (.slice none 0 0) (heap_setCell_same w3 (w.heap.size + 1) 0 _ _ (.int .i64 0) hr3)
    have HN2 := Lib.hid hn2; have HB5 := Lib.hid (btr HB3.out hB4)
    have z5 : w.heap.size + 1 < w3.heap.size := Nat.lt_of_lt_of_le z1 hB4.size
    clear hn2 hr3 hB4
    go_wp2
    (try simp only [Exit.inBlock, Exit.then])
    refine bodyPost_ret (v := .tuple #[.agg #[.int .i64 0, .slice none 0 0], .int .i64 c]) (results_row_tmp rfl rfl rfl HN2.out Try.underlying24 rfl HSZ.out) rfl ⟨_, rfl, rdP_nil _, bset (bset HB5.out (by simp) _) (by simp) _⟩
end Go.Proofs.Ytdnaipiiponhpaa

namespace Go.Proofs.Ytdnaipiiponhpaa
open Go.RowKit Go.Shelf

def rstep (V : List (Int × Int)) (out : List Int) (i k : Nat) : Int := (List.range k).foldl (fun n j => if meetB (V[j]?.getD (0, 0)) (V[i]?.getD (0, 0)) then max n (out[j]?.getD 0 + 1) else n) 1
theorem rstep_succ (V : List (Int × Int)) (out : List Int) (i k : Nat) : rstep V out i (k + 1) = if meetB (V[k]?.getD (0, 0)) (V[i]?.getD (0, 0)) then max (rstep V out i k) (out[k]?.getD 0 + 1) else rstep V out i k := by
  unfold rstep; rw [List.range_succ, List.foldl_append]; rfl
def rrL (V : List (Int × Int)) : Nat → List Int
  | 0 => []
  | k + 1 => rrL V k ++ [rstep V (rrL V k) k k]
theorem rrL_len (V : List (Int × Int)) : ∀ k, (rrL V k).length = k
  | 0 => rfl
  | k + 1 => by simp [rrL, rrL_len V k]
theorem rstep_bd (V : List (Int × Int)) (out : List Int) (i m : Nat) (h : ∀ j : Nat, 0 ≤ out[j]?.getD 0 ∧ out[j]?.getD 0 ≤ m) : ∀ k, 1 ≤ rstep V out i k ∧ rstep V out i k ≤ m + 1
  | 0 => by simp [rstep]; omega
  | k + 1 => by
    have h1 := rstep_bd V out i m h k
    have h2 := h k
    rw [rstep_succ]
    split
    · omega
    · exact h1
theorem rrL_bd (V : List (Int × Int)) : ∀ k j : Nat, 0 ≤ (rrL V k)[j]?.getD 0 ∧ (rrL V k)[j]?.getD 0 ≤ k
  | 0, j => by simp [rrL]
  | k + 1, j => by
    have h1 := rstep_bd V (rrL V k) k k (rrL_bd V k) k
    have h2 := rrL_bd V k j
    rcases Nat.lt_trichotomy j k with h | h | h
    · have e : (rrL V (k + 1))[j]? = (rrL V k)[j]? := by rw [rrL, List.getElem?_append_left (by rw [rrL_len]; exact h)]
      rw [e]; omega
    · have e : (rrL V (k + 1))[j]? = some (rstep V (rrL V k) k k) := by rw [rrL, List.getElem?_append_right (by rw [rrL_len]; omega), rrL_len]; simp [h]
      rw [e]; simp only [Option.getD_some]; omega
    · have e : (rrL V (k + 1))[j]? = none := by rw [List.getElem?_eq_none_iff, rrL_len]; omega
      rw [e]; simp; omega
def rrR (p : Int) (V : List (Int × Int)) : List Int := if checkR p V = 0 then rrL V V.length else []

set_option maxRecDepth 100000 in
set_option maxHeartbeats 4000000 in
theorem rrounds_any (p : Int) (x : Value) (V : List (Int × Int)) (w : World) (hx0 : RdP w x V) (hl : V.length ≤ 1000) :
    Calls Try.prog 37 #[.agg #[.int .i64 p, x]] w fun e w' => ∃ v, e = .returned (.tuple #[v, .int .i64 (checkR p V)]) ∧ RdI w' .i64 v (rrR p V) ∧ Below w.heap.size w w' := by
  obtain ⟨a, ca, rfl, _, _, hxf⟩ := hx0.form
  unfold rrR
  have H0 := Lib.hid fun w1 (hB : Below w.heap.size w w1) => rcheck_any p _ V w1 (hx0.mono hB) hl
  by_cases h : checkR p V = 0
  · obtain ⟨n, rfl, hV⟩ := cond_row h
    rw [if_pos h, h]
    rw [h] at H0
    clear h
    have h40 := hV.len
    go_enter Try.func37, Try.ntmps37
    go_wp2_with fail
    refine (H0.out _ (bal (bz _) _)).mono ?_
    rintro e w2 ⟨rfl, hB2⟩
    have c1 : w2.cell? ⟨w.heap.size, 1, none⟩ = some (.slice a V.length ca) := (hB2.cell (by simp)).trans (cnew rfl rfl)
    have z2 := World.block_lt_of_cell? w2 _ c1
    simp only at z2
    have HB3 := Lib.hid (btr (bal (bz w) _) hB2)
    clear hB2
    go_wp2
    go_loopw [4, 5, 6, 7, 13, 14, 15, 16, 17, 18, 19, 20, 21, 22, 23, 24, 25, 26, 27, 28, 29, 30, 31, 32, 33, 34, 35, 36, 37, 38, 39, 40, 41, 42, 43, 44, 45, 46] (fun v i _ _ _ _ _ _ _ _ _ _ _ _ _ _ _ _ _ _ _ _ _ _ _ _ _ _ _ _ _ _ _ _ _ _ _ _ wr => ∃ k : Nat, k ≤ V.length ∧ i = .int .i64 k ∧ Below w.heap.size w wr ∧ w.heap.size < wr.heap.size ∧ wr.cell? ⟨w.heap.size, 1, none⟩ = some (.slice a V.length ca) ∧ wr.ownsRow (w.heap.size + 1) 3 1 v (rrL V k).length ((rrL V k).map (Value.int .i64))) (fun v i _ _ _ _ _ _ _ _ _ _ _ _ _ _ _ _ _ _ _ _ _ _ _ _ _ _ _ _ _ _ _ _ _ _ _ _ _ => V.length - (intOf i).toNat)
    case atStart => exact ⟨0, Nat.zero_le _, rfl, HB3.out, z2, c1, World.ownsRow_nil _ _ _ _⟩
    case round =>
      obtain ⟨k, hk, rfl, hB, hz, d1, hO⟩ := hrel
      have hll := rrL_len V k
      have HO := Lib.hid hO; have HB := Lib.hid hB; clear hO hB c1
      by_cases hlt : k < V.length
      · obtain ⟨bx, ox, rfl, hbx, hcx⟩ := hxf (by omega)
        have HC := Lib.hid hcx
        have HST : Hid (rrL V (k + 1) = rrL V k ++ [rstep V (rrL V k) k k]) := Lib.hid rfl
        have HBD := Lib.hid (rstep_bd V (rrL V k) k k (rrL_bd V k))
        have HBE := Lib.hid (rrL_bd V k)
        obtain ⟨a9, c9, hv9⟩ := owns_form HO.out
        rw [hll] at hv9
        subst hv9
        have hov := HO.out
        have HR9 := Lib.hid (RdI.of_owns hov)
        generalize hout : rrL V k = out at *
        have HOUT := Lib.hid hout
        clear hxf hcx hov hout
        obtain ⟨wo, rfl⟩ : ∃ wo : World, wo = wr := ⟨_, rfl⟩
        go_wp2
        go_loopw [6, 7, 20, 21, 22, 23, 24, 25, 26, 27, 28, 29, 30, 31, 32, 33, 34, 35, 36, 37, 38, 39, 40, 41, 42] (fun m i _ _ _ _ _ _ _ _ _ _ _ _ _ _ _ _ _ _ _ _ _ _ _ wr => ∃ j : Nat, j ≤ k ∧ i = .int .i64 j ∧ m = .int .i64 (rstep V out k j) ∧ Below wo.heap.size wo wr) (fun m i _ _ _ _ _ _ _ _ _ _ _ _ _ _ _ _ _ _ _ _ _ _ _ _ => k - (intOf i).toNat)
        case atStart => exact ⟨0, Nat.zero_le _, rfl, rfl, bz _⟩
        case round =>
          obtain ⟨j, hj, rfl, rfl, hB2⟩ := hrel
          have e1 := (hB2.cell (p := ⟨w.heap.size, 1, none⟩) hz).trans d1
          have hz2 : w.heap.size < wr.heap.size := Nat.lt_of_lt_of_le hz hB2.size
          have HB2 := Lib.hid hB2
          by_cases hjk : j < k
          · have hbw := btr HB.out hB2
            have gj := (hbw.cell (p := ⟨bx, ox + j * 2, none⟩) hbx).trans (HC.out j (by omega)).1
            have gj2 := (hbw.cell (p := ⟨bx, ox + j * 2 + 1, none⟩) hbx).trans (HC.out j (by omega)).2
            have gk := (hbw.cell (p := ⟨bx, ox + k * 2, none⟩) hbx).trans (HC.out k hlt).1
            have gk2 := (hbw.cell (p := ⟨bx, ox + k * 2 + 1, none⟩) hbx).trans (HC.out k hlt).2
            have zx : bx < wr.heap.size := Nat.lt_of_lt_of_le hbx hbw.size
            have HST2 := Lib.hid (rstep_succ V out k j)
            have hbd := HBD.out j
            have hbe := HBE.out j
            have hjv : j < V.length := by omega
            clear hB2 hbw
            generalize V[j]?.getD (0, 0) = pj at *
            generalize V[k]?.getD (0, 0) = pk at *
            obtain ⟨j1, j2⟩ := pj
            obtain ⟨k1, k2⟩ := pk
            simp only at gj gj2 gk gk2
            have hr9 := (HR9.out.mono HB2.out).form
            obtain ⟨a8, c8, he8, hc8, hm8, hx8⟩ := hr9
            rw [hll] at he8
            simp only [Value.slice.injEq, true_and] at he8
            obtain ⟨rfl, rfl⟩ := he8
            obtain ⟨b9, o9, rfl, hb9, hc9⟩ := hx8 (by omega)
            have g9 := hc9 j (by omega)
            clear hx8 hc9 hm8
            generalize out[j]?.getD 0 = oj at *
            generalize rstep V out k j = rj at *
            go_wp2
            refine wp_region_flow [] [([0, 1, 2, 3, 4, 5, 6, 7, 8, 9], 10, true)] [] (by kernel_rfl) (by kernel_rfl) ?_
            intro wc hBc hh
            clear hh
            have f1 := (hBc.cell (p := ⟨w.heap.size, 1, none⟩) hz2).trans e1
            have fj := (hBc.cell (p := ⟨bx, ox + j * 2, none⟩) zx).trans gj
            have fj2 := (hBc.cell (p := ⟨bx, ox + j * 2 + 1, none⟩) zx).trans gj2
            have fk := (hBc.cell (p := ⟨bx, ox + k * 2, none⟩) zx).trans gk
            have fk2 := (hBc.cell (p := ⟨bx, ox + k * 2 + 1, none⟩) zx).trans gk2
            have f9 := (hBc.cell (p := ⟨b9, o9 + j, none⟩) hb9).trans g9
            have zc : w.heap.size < wc.heap.size := Nat.lt_of_lt_of_le hz2 hBc.size
            have zxc : bx < wc.heap.size := Nat.lt_of_lt_of_le zx hBc.size
            have z9c : b9 < wc.heap.size := Nat.lt_of_lt_of_le hb9 hBc.size
            have hL := @Later.cell wc
            have HBC := Lib.hid (btr HB2.out hBc)
            clear e1 gj gj2 gk gk2 g9 hBc
            simp only [flowP, flow, pickL, List.getElem?_cons_succ, List.getElem?_cons_zero]
            refine wpQuiet_nil ?_
            repeat (go_big_quiet_step (fail))
            refine wpQuiet_nil ?_
            go_wp2_with fail
            refine (meet_any j1 j2 k1 k2 wc).mono ?_
            rintro e w5 ⟨rfl, hB5⟩
            have f95 := (hB5.cell (p := ⟨b9, o9 + j, none⟩) z9c).trans f9
            have HB6 := Lib.hid (btr HBC.out hB5); have HB5 := Lib.hid hB5
            clear hB5
            generalize meetB (j1, j2) (k1, k2) = b at *
            go_wp2
            refine seg_grow ⟨⟨_, HB5.out⟩, rfl⟩ ?_
            refine wpQuiet_nil ?_
            refine only_done ?_
            clear hL f1 fj fj2 fk fk2 f9
            cases b
            · go_wp2
              exact ⟨⟨j + 1, by omega, by go_num, by rw [HST2.out]; rfl, HB6.out⟩, by simp [intOf]; omega⟩
            · have hw1 : IntKind.i64.wrap (oj + 1) = oj + 1 := IntWalk.i64_in _ (by omega)
              go_wp2
              refine ⟨⟨j + 1, by omega, by go_num, ?_, HB6.out⟩, by simp [intOf]; omega⟩
              rw [HST2.out]; first | rfl | (simp; omega)
          · obtain rfl : j = k := by omega
            have hO4 := owns_kept HO.out hB2
            have hB4 := btr HB.out hB2
            have HO4 := Lib.hid hO4; have HB4 := Lib.hid hB4
            have hbd := HBD.out j
            clear hO4 hB4 hB2
            generalize hrs : rstep V out j j = rj at *
            have HRS := Lib.hid hrs; clear hrs
            go_wp2_with (at_builtin; refine wpList_append_num rfl _ _ rfl Try.underlying34 num3 HO4.out _ rfl rfl (by omega) (by omega) ?_)
            intro v' w' hown' hgrow
            have hB8 : Below w.heap.size w w' := append_below (bal HB4.out _) (HO4.out.alloc _) hgrow (by omega)
            have hz8 : wr.heap.size ≤ w'.heap.size := by have := hgrow.size; simp at this; omega
            have hne : ∀ r, r < w.heap.size + 1 → w'.heap[r]? = wr.heap[r]? := fun r hr => (append_keep (HO4.out.alloc _) hgrow hr (by simp; omega)).trans (Below.heap_alloc _ _ _ (by omega))
            have y1 := (World.cell?_of_block (hne _ (by simp))).trans e1
            have HP := Lib.hid hown'; have HB8 := Lib.hid hB8
            clear hown' hgrow hB8 hne e1
            go_wp2
            refine ⟨⟨j + 1, by omega, by go_num, HB8.out, by omega, y1, by rw [HST.out, List.length_append, List.map_append, hll]; exact HP.out⟩, by simp [intOf]; omega⟩
      · obtain rfl : k = V.length := by omega
        go_wp2
        go_ret2
        exact ⟨_, rfl, RdI.of_owns (by simpa using HO.out), HB.out⟩
  · rw [if_neg h]
    generalize checkR p V = c at *
    have e0 : (c != 0) = true := by simpa using h
    clear h hxf
    go_enter Try.func37, Try.ntmps37
    go_wp2_with fail
    refine (H0.out _ (bal (bz _) _)).mono ?_
    rintro e w2 ⟨rfl, hB2⟩
    have hB3 := btr (bal (bz w) _) hB2
    have c0 : w2.cell? ⟨w.heap.size, 0, none⟩ = some (.int .i64 p) := (hB2.cell (by simp)).trans (cnew rfl rfl)
    have c1 : w2.cell? ⟨w.heap.size, 1, none⟩ = some (.slice a V.length ca) := (hB2.cell (by simp)).trans (cnew rfl rfl)
    go_wp2_with fail
    refine (H0.out _ hB3).mono ?_
    rintro e w3 ⟨rfl, hB4⟩
    go_wp2
    go_ret2
    exact ⟨_, rfl, rdI_nil _ _, btr hB3 hB4⟩
end Go.Proofs.Ytdnaipiiponhpaa

namespace Go.Proofs.Ytdnaipiiponhpaa
open Go.RowKit Go.Shelf

def dblL (l : List Int) (j : Nat) : List Int := (List.range l.length).map fun i => if i < j then 2 * (l[i]?.getD 0) else l[i]?.getD 0
theorem dblL_len (l : List Int) (j : Nat) : (dblL l j).length = l.length := by simp [dblL]
theorem dblL_zero (l : List Int) : dblL l 0 = l := by
  apply List.ext_getElem
  · simp [dblL]
  · intro i h1 h2; simp [dblL, h2]
theorem dblL_get (l : List Int) (j : Nat) (hj : j < l.length) : (dblL l j)[j]?.getD 0 = l[j]?.getD 0 := by
  simp [dblL, hj]
theorem dblL_step (l : List Int) (j : Nat) : (dblL l j).set j (2 * (l[j]?.getD 0)) = dblL l (j + 1) := by
  apply List.ext_getElem
  · simp [dblL]
  · intro i h1 h2
    have hi : i < l.length := by simpa [dblL] using h2
    rw [List.getElem_set]
    simp only [dblL, List.getElem_map, List.getElem_range]
    by_cases e : j = i
    · subst e; simp
    · rw [if_neg e]
      by_cases h3 : i < j
      · rw [if_pos h3, if_pos (by omega)]
      · rw [if_neg h3, if_neg (by omega)]
theorem dblL_all (l : List Int) : dblL l l.length = l.map fun x => 2 * x := by
  apply List.ext_getElem
  · simp [dblL]
  · intro i h1 h2
    have hi : i < l.length := by simpa using h2
    simp [dblL, hi]
/-- The values: 1 in the place, 0 or 2 in the others; what comes of them. -/
def endX (p : Nat) (V : List (Int × Int)) (place t : Nat) : List Int := runV V (((bitsOf p t).map fun x => 2 * x).set place 1)
def hitB (p : Nat) (V : List (Int × Int)) (place t i : Nat) : Bool := decide ((endX p V place t)[i]?.getD 0 = 1)
def thereL (p : Nat) (V : List (Int × Int)) (place t : Nat) : List Bool := (List.range p).map fun i => (List.range t).any fun s => hitB p V place s i
def thereK (p : Nat) (V : List (Int × Int)) (place t j : Nat) : List Bool := (List.range p).map fun i => if i < j then ((List.range (t + 1)).any fun s => hitB p V place s i) else (List.range t).any fun s => hitB p V place s i
theorem thereL_zero (p : Nat) (V : List (Int × Int)) (place : Nat) : thereL p V place 0 = List.replicate p false := by
  apply List.ext_getElem
  · simp [thereL]
  · intro i h1 h2; simp [thereL]
theorem thereK_len (p : Nat) (V : List (Int × Int)) (place t j : Nat) : (thereK p V place t j).length = p := by simp [thereK]
theorem thereL_len (p : Nat) (V : List (Int × Int)) (place t : Nat) : (thereL p V place t).length = p := by simp [thereL]
theorem thereK_zero (p : Nat) (V : List (Int × Int)) (place t : Nat) : thereK p V place t 0 = thereL p V place t := by
  simp [thereK, thereL]
theorem thereK_all (p : Nat) (V : List (Int × Int)) (place t : Nat) : thereK p V place t p = thereL p V place (t + 1) := by
  apply List.ext_getElem
  · simp [thereK, thereL]
  · intro i h1 h2
    have hi : i < p := by simpa [thereL] using h2
    simp [thereK, thereL, hi]
theorem thereK_get (p : Nat) (V : List (Int × Int)) (place t j : Nat) (hj : j < p) : (thereK p V place t j)[j]?.getD false = (List.range t).any fun s => hitB p V place s j := by
  simp [thereK, hj]
theorem thereK_step (p : Nat) (V : List (Int × Int)) (place t j : Nat) : (thereK p V place t j).set j (((List.range t).any fun s => hitB p V place s j) || hitB p V place t j) = thereK p V place t (j + 1) := by
  apply List.ext_getElem
  · simp [thereK]
  · intro i h1 h2
    rw [List.getElem_set]
    simp only [thereK, List.getElem_map, List.getElem_range]
    by_cases e : j = i
    · subst e; simp [List.range_succ]
    · rw [if_neg e]
      by_cases h3 : i < j
      · rw [if_pos h3, if_pos (by omega)]
      · rw [if_neg h3, if_neg (by omega)]
def rendsB (p : Nat) (V : List (Int × Int)) (place i : Nat) : Bool := (List.range (2 ^ p)).any fun s => hitB p V place s i
def rendsK (p : Nat) (V : List (Int × Int)) (place k : Nat) : List Int := ((List.range k).filter (rendsB p V place)).map fun i => ((i : Nat) : Int)
theorem rendsK_succ (p : Nat) (V : List (Int × Int)) (place k : Nat) : rendsK p V place (k + 1) = if rendsB p V place k then rendsK p V place k ++ [(k : Int)] else rendsK p V place k := by
  unfold rendsK
  rw [List.range_succ, List.filter_append, List.map_append]
  cases h : rendsB p V place k <;> simp [h]
theorem rendsK_le (p : Nat) (V : List (Int × Int)) (place k : Nat) : (rendsK p V place k).length ≤ k := by
  unfold rendsK; rw [List.length_map]; have := List.length_filter_le (rendsB p V place) (List.range k); simpa using this
theorem bits_bd (p t j : Nat) : 0 ≤ (bitsOf p t)[j]?.getD 0 ∧ (bitsOf p t)[j]?.getD 0 ≤ 1 := by
  rcases Nat.lt_or_ge j p with h | h
  · simp [bitsOf, h]; omega
  · rw [List.getElem?_eq_none (by simp [bitsOf]; exact h)]; simp
theorem info4 : (Try.prog.info? 4).map (fun i => (i.zero, i.size, i.bytes)) = some (some (.bool false), 1, 1) := by kernel_rfl
theorem made_false (n : Nat) : (madeCells #[Value.bool false] n).toList = (List.replicate n false).map Value.bool := by
  apply List.ext_getElem
  · simp [madeCells]
  · intro i h1 h2; simp [madeCells, Nat.mod_one]

set_option maxRecDepth 100000 in
set_option maxHeartbeats 8000000 in
theorem rends_ok (n pl : Nat) (x : Value) (V : List (Int × Int)) (w : World) (hx0 : RdP w x V) (hV : OkRow n V) (hpl : pl < n) :
    Calls Try.prog 40 #[.agg #[.int .i64 n, x], .int .i64 pl] w fun e w' => ∃ v, e = .returned (.tuple #[v, .int .i64 0]) ∧ RdI w' .i64 v (rendsK n V pl n) ∧ Below w.heap.size w w' := by
  obtain ⟨a, ca, rfl, hca1, hca2, hca3⟩ := hx0.form
  clear hca1 hca2 hca3
  have H0 := Lib.hid fun w1 (hB : Below w.heap.size w w1) => rcheck_any n _ V w1 (hx0.mono hB) (by have := hV.len; omega)
  rw [check_of_ok hV] at H0
  have hp1 := hV.p1; have hp8 := hV.p8; have h40 := hV.len
  have h256 := pow_le_8 n (by omega)
  obtain ⟨m, hm⟩ : ∃ m, m = 2 ^ n := ⟨_, rfl⟩
  have hwp : wrap64 ((2 : Int) ^ n) = (m : Int) := by
    have e : (2 : Int) ^ n = ((2 ^ n : Nat) : Int) := by simp
    rw [e, ← hm]
    unfold wrap64
    omega
  rw [← hm] at h256
  have HM := Lib.hid hm; clear hm
  obtain ⟨i4, hi4, hz0, hz1, hz2⟩ := info_parts info4
  go_enter Try.func40, Try.ntmps40
  go_wp2_with fail
  refine (H0.out _ (bal (bz _) _)).mono ?_
  rintro e w2 ⟨rfl, hB2⟩
  have c0 : w2.cell? ⟨w.heap.size, 0, none⟩ = some (.int .i64 n) := (hB2.cell (by simp)).trans (cnew rfl rfl)
  have c1 : w2.cell? ⟨w.heap.size, 1, none⟩ = some (.slice a V.length ca) := (hB2.cell (by simp)).trans (cnew rfl rfl)
  have z2 := World.block_lt_of_cell? w2 _ c0
  simp only at z2
  have HB3 := Lib.hid (btr (bal (bz w) _) hB2)
  clear hB2
  have hpln : (pl : Int) < (n : Int) := by omega
  have hpl0 : (0 : Int) ≤ (pl : Int) := by omega
  go_wp2_with (at_make; refine wpList_make_full _ rfl _ _ 95 rfl w2.heap.size 4 i4 (.bool false) 1 Try.underlying95 hi4 hz0 hz1 _ _ _ _ n rfl rfl rfl rfl (by rw [hz2]; omega) (by simp only [maxLen]; omega) (Nat.le_refl _) ?_)
  intro w1 hown hgrow
  have hBm := bgr (bz _) hgrow (fun k h => by cases h)
  rw [made_false, ← thereL_zero n V pl] at hown
  have d0 := (hBm.cell (p := ⟨w.heap.size, 0, none⟩) z2).trans c0
  have d1 := (hBm.cell (p := ⟨w.heap.size, 1, none⟩) z2).trans c1
  have HO := Lib.hid hown; have HBm := Lib.hid hBm
  clear hgrow hown hBm c0 c1
  go_wp2
  go_loopw [7, 8, 9, 10, 29, 30, 31, 32, 33, 34, 35, 36, 37, 38, 39, 40, 41, 42, 43, 44, 45, 46, 47, 48, 49, 50, 51, 52, 53, 54, 55, 56, 57, 58, 59, 60, 61, 62, 63, 64, 65, 66, 67, 68, 69, 70, 71, 72, 73, 74, 75, 76, 77, 78, 79, 80] (fun i _ _ _ _ _ _ _ _ _ _ _ _ _ _ _ _ _ _ _ _ _ _ _ _ _ _ _ _ _ _ _ _ _ _ _ _ _ _ _ _ _ _ _ _ _ _ _ _ _ _ _ _ _ _ _ wr => ∃ t : Nat, t ≤ m ∧ i = .int .i64 t ∧ Below w2.heap.size w2 wr ∧ wr.cell? ⟨w.heap.size, 0, none⟩ = some (.int .i64 n) ∧ wr.cell? ⟨w.heap.size, 1, none⟩ = some (.slice a V.length ca) ∧ wr.ownsRow w2.heap.size 4 1 (.slice (some ⟨w2.heap.size, 0, none⟩) n n) n ((thereL n V pl t).map Value.bool)) (fun i _ _ _ _ _ _ _ _ _ _ _ _ _ _ _ _ _ _ _ _ _ _ _ _ _ _ _ _ _ _ _ _ _ _ _ _ _ _ _ _ _ _ _ _ _ _ _ _ _ _ _ _ _ _ _ _ => m - (intOf i).toNat)
  case atStart => exact ⟨0, Nat.zero_le _, rfl, HBm.out, d0, d1, HO.out⟩
  case round =>
    obtain ⟨t, ht, rfl, hB, e0, e1, hO⟩ := hrel
    have HB := Lib.hid hB; have HO1 := Lib.hid hO
    clear hB hO HO HBm d0 d1
    have hzr := HB.out.size
    have zr : w.heap.size < wr.heap.size := by omega
    have zg := (HO1.out.lt w2.heap.size rfl).2
    by_cases htm : t < m
    · have htm2 : (t : Int) < (m : Int) := by omega
      go_wp2_with fail
      refine (patterned_any n t wr (by omega) (by omega)).mono ?_
      rintro e w3 ⟨v3, rfl, hown3, hB3⟩
      obtain ⟨a3, d3, hv3⟩ := owns_form hown3
      obtain ⟨g3, hg3⟩ : ∃ g, a3 = some ⟨g, 0, none⟩ := by
        rcases hown3.2 with ⟨h, hn⟩ | ⟨g, cap, cur, h, _⟩
        · omega
        · rw [hv3] at h; simp at h; exact ⟨g, h.1⟩
      subst hg3
      subst hv3
      have hgb := hown3.lt g3 rfl
      have y0 := (hB3.cell (p := ⟨w.heap.size, 0, none⟩) zr).trans e0
      have y1 := (hB3.cell (p := ⟨w.heap.size, 1, none⟩) zr).trans e1
      rw [← dblL_zero (bitsOf n t)] at hown3
      have HO3 := Lib.hid hown3; have HB3b := Lib.hid hB3
      have hbl : (bitsOf n t).length = n := by simp [bitsOf]
      have HBD := Lib.hid (bits_bd n t)
      clear hown3 hB3 e0 e1
      have hz3 := HB3b.out.size
      obtain ⟨wo, rfl⟩ : ∃ wo : World, wo = wr := ⟨_, rfl⟩
      go_wp2
      go_loopw [9, 40, 41, 42, 43, 44, 45, 46, 47, 48, 49, 50, 51, 52, 53] (fun i _ _ _ _ _ _ _ _ _ _ _ _ _ _ wr => ∃ j : Nat, j ≤ n ∧ i = .int .i64 j ∧ Below wo.heap.size wo wr ∧ wr.cell? ⟨w.heap.size, 0, none⟩ = some (.int .i64 n) ∧ wr.cell? ⟨w.heap.size, 1, none⟩ = some (.slice a V.length ca) ∧ wr.ownsRow wo.heap.size 2 1 (.slice (some ⟨g3, 0, none⟩) n d3) n ((dblL (bitsOf n t) j).map (Value.int .i64))) (fun i _ _ _ _ _ _ _ _ _ _ _ _ _ _ _ => n - (intOf i).toNat)
      case atStart => exact ⟨0, Nat.zero_le _, rfl, HB3b.out, y0, y1, HO3.out⟩
      case round =>
        obtain ⟨j, hj, rfl, hB4, e0, e1, hO4⟩ := hrel
        have z4 := World.block_lt_of_cell? wr _ e0
        simp only at z4
        by_cases hjn : j < n
        · have cf := hO4.frozenAt j
          have cc := hO4.cellAt j (by omega)
          have hlj : j < (dblL (bitsOf n t) j).length := by rw [dblL_len, hbl]; exact hjn
          rw [List.getElem?_map, List.getElem?_eq_getElem hlj, Option.map_some] at cc
          have hge : (dblL (bitsOf n t) j)[j] = (bitsOf n t)[j]?.getD 0 := by
            have := dblL_get (bitsOf n t) j (by omega)
            rw [List.getElem?_eq_getElem hlj] at this; simpa using this
          rw [hge] at cc
          have hbd := HBD.out j
          have HST := Lib.hid (dblL_step (bitsOf n t) j)
          clear hge hlj
          generalize hbj : (bitsOf n t)[j]?.getD 0 = bj at *
          have HO4 := Lib.hid hO4; have HB4 := Lib.hid hB4
          have hwb : IntKind.i64.wrap (2 * bj) = 2 * bj := IntWalk.i64_in _ (by omega)
          clear hO4 hB4 hbj y0 y1
          have hne : w.heap.size ≠ g3 := by omega
          go_wp2
          refine ⟨⟨j + 1, by omega, by go_num, bset HB4.out hgb.1 _, ?_, ?_, ?_⟩, by simp [intOf]; omega⟩
          · rw [World.cell?_setCell_other _ _ _ _ (by simp)]; exact e0
          · rw [World.cell?_setCell_other _ _ _ _ (by simp)]; exact e1
          · have := (HO4.out.stored j (.int .i64 (2 * bj))).1
            rw [← List.map_set, HST.out] at this
            exact this
        · obtain rfl : j = n := by omega
          have cf := hO4.frozenAt pl
          have cc := hO4.cellAt pl (by omega)
          rw [show dblL (bitsOf j t) j = (bitsOf j t).map fun x => 2 * x by have := dblL_all (bitsOf j t); rwa [hbl] at this] at hO4 cc
          rw [List.getElem?_map, List.getElem?_map, List.getElem?_eq_getElem (show pl < (bitsOf j t).length by rw [hbl]; exact hpl), Option.map_some, Option.map_some] at cc
          generalize (bitsOf j t)[pl]'(by rw [hbl]; exact hpl) = old at *
          have hst := (hO4.stored pl (.int .i64 1)).1
          rw [← List.map_set] at hst
          have x0 : (wr.setCell ⟨g3, pl, none⟩ (.int .i64 1)).cell? ⟨w.heap.size, 0, none⟩ = some (.int .i64 j) := by rw [World.cell?_setCell_other _ _ _ _ (by simp)]; exact e0
          have x1 : (wr.setCell ⟨g3, pl, none⟩ (.int .i64 1)).cell? ⟨w.heap.size, 1, none⟩ = some (.slice a V.length ca) := by rw [World.cell?_setCell_other _ _ _ _ (by simp)]; exact e1
          have HS := Lib.hid hst; have HBS := Lib.hid (bset hB4 hgb.1 (p := ⟨g3, pl, none⟩) (.int .i64 1))
          have HX0 := Lib.hid x0; have HX1 := Lib.hid x1
          clear hO4 hB4 hst x0 x1 y0 y1
          have hlx : (((bitsOf j t).map fun x => 2 * x).set pl 1).length = j := by simp [bitsOf]
          have HEX : Hid (runV V (((bitsOf j t).map fun x => 2 * x).set pl 1) = endX j V pl t) := Lib.hid rfl
          have HHB : Hid (∀ i, hitB j V pl t i = decide ((endX j V pl t)[i]?.getD 0 = 1)) := Lib.hid fun _ => rfl
          have hle : (endX j V pl t).length = j := by unfold endX; rw [runV_length]; exact hlx
          go_wp2_with fail
          have hq0 := HX0.out; have hq1 := HX1.out
          generalize hws : wr.setCell ⟨g3, pl, none⟩ (.int .i64 1) = ws at *
          clear hws e0 e1 cf cc
          refine (runof_any _ _ V _ ws (hx0.mono (btr (btr HB3.out HB.out) HBS.out)) (RdI.of_owns (owns_base HS.out (Nat.zero_le _)) : RdI ws .i64 _ (((bitsOf j t).map fun x => 2 * x).set pl 1)) (by omega) (by omega) (by omega) (fun v hv => by obtain ⟨h1, h2, h3⟩ := hV.ok v hv; omega)).mono ?_
          rintro e w5 ⟨v5, rfl, hown5, hB5⟩
          rw [hlx, HEX.out] at hown5
          have zs := World.block_lt_of_cell? ws _ hq0
          simp only at zs
          have u0 := (hB5.cell (p := ⟨w.heap.size, 0, none⟩) zs).trans hq0
          have u1 := (hB5.cell (p := ⟨w.heap.size, 1, none⟩) zs).trans hq1
          have HT5 := Lib.hid (owns_kept (owns_kept HO1.out HBS.out) hB5)
          have HO5 := Lib.hid (owns_base hown5 (Nat.zero_le _))
          have HB5 := Lib.hid (btr HB.out (btr HBS.out hB5))
          obtain ⟨a5, d5, hv5⟩ := owns_form HO5.out
          obtain ⟨g5, hg5⟩ : ∃ g, a5 = some ⟨g, 0, none⟩ := by
            rcases HO5.out.2 with ⟨h, hn⟩ | ⟨g, cap, cur, h, _⟩
            · omega
            · rw [hv5] at h; simp at h; exact ⟨g, h.1⟩
          subst hg5
          subst hv5
          have hT := HT5.out
          rw [← thereK_zero j V pl t] at hT
          have HTK := Lib.hid hT
          clear hown5 hB5 hq0 hq1 HS HBS HX0 HX1 HO1 HT5 hT
          obtain ⟨wp, rfl⟩ : ∃ wp : World, wp = w5 := ⟨_, rfl⟩
          go_wp2
          go_loopw [10, 61, 62, 63, 64, 65, 66, 67, 68, 69, 70, 71, 72, 73, 74, 75, 76, 77, 78, 79, 80] (fun i10 _ _ _ _ _ _ _ _ _ _ _ _ _ _ _ _ _ _ _ _ wr => ∃ i : Nat, i ≤ j ∧ i10 = .int .i64 i ∧ Below w2.heap.size w2 wr ∧ wr.cell? ⟨w.heap.size, 0, none⟩ = some (.int .i64 j) ∧ wr.cell? ⟨w.heap.size, 1, none⟩ = some (.slice a V.length ca) ∧ wr.ownsRow w2.heap.size 4 1 (.slice (some ⟨w2.heap.size, 0, none⟩) j j) j ((thereK j V pl t i).map Value.bool) ∧ wr.ownsRow 0 2 1 (.slice (some ⟨g5, 0, none⟩) j d5) j ((endX j V pl t).map (Value.int .i64))) (fun i10 _ _ _ _ _ _ _ _ _ _ _ _ _ _ _ _ _ _ _ _ _ => j - (intOf i10).toNat)
          case atStart => exact ⟨0, Nat.zero_le _, rfl, HB5.out, u0, u1, HTK.out, HO5.out⟩
          case round =>
            obtain ⟨i, hi, rfl, hB6, e0, e1, hT6, hO6⟩ := hrel
            have z6 := World.block_lt_of_cell? wr _ e0
            simp only at z6
            by_cases hij : i < j
            · have cf := hT6.frozenAt i
              have cc := hT6.cellAt i (by omega)
              have cx := hO6.cellAt i (by omega)
              have zt := (hT6.lt w2.heap.size rfl).2
              have zx := (hO6.lt g5 rfl).2
              rw [List.getElem?_map, List.getElem?_eq_getElem (by rw [thereK_len]; exact hij), Option.map_some] at cc
              have hge : (thereK j V pl t i)[i]'(by rw [thereK_len]; exact hij) = ((List.range t).any fun s => hitB j V pl s i) := by
                have := thereK_get j V pl t i hij
                rw [List.getElem?_eq_getElem (by rw [thereK_len]; exact hij)] at this; simpa using this
              rw [hge] at cc
              rw [List.getElem?_map, List.getElem?_eq_getElem (by rw [hle]; exact hij), Option.map_some] at cx
              have hgx : (endX j V pl t)[i]'(by rw [hle]; exact hij) = (endX j V pl t)[i]?.getD 0 := by rw [List.getElem?_eq_getElem (by rw [hle]; exact hij)]; rfl
              rw [hgx] at cx
              have HST := Lib.hid (thereK_step j V pl t i)
              have hhb := HHB.out i
              clear hge hgx
              generalize ((List.range t).any fun s => hitB j V pl s i) = b at *
              generalize hitB j V pl t i = hb at *
              generalize (endX j V pl t)[i]?.getD 0 = xi at *
              have HT6 := Lib.hid hT6; have HO6 := Lib.hid hO6; have HB6 := Lib.hid hB6
              clear hT6 hO6 hB6 u0 u1
              have fin : ∀ r : Bool, r = (b || hb) → Below w2.heap.size w2 (wr.setCell ⟨w2.heap.size, i, none⟩ (.bool r)) ∧ (wr.setCell ⟨w2.heap.size, i, none⟩ (.bool r)).cell? ⟨w.heap.size, 0, none⟩ = some (.int .i64 j) ∧ (wr.setCell ⟨w2.heap.size, i, none⟩ (.bool r)).cell? ⟨w.heap.size, 1, none⟩ = some (.slice a V.length ca) ∧
                  (wr.setCell ⟨w2.heap.size, i, none⟩ (.bool r)).ownsRow w2.heap.size 4 1 (.slice (some ⟨w2.heap.size, 0, none⟩) j j) j ((thereK j V pl t (i + 1)).map Value.bool) ∧ (wr.setCell ⟨w2.heap.size, i, none⟩ (.bool r)).ownsRow 0 2 1 (.slice (some ⟨g5, 0, none⟩) j d5) j ((endX j V pl t).map (Value.int .i64)) := by
                rintro r rfl
                refine ⟨bset HB6.out (Nat.le_refl _) _, ?_, ?_, ?_, HO6.out.kept (grownBy_set wr _ _) (own_ne HO6.out HT6.out (by decide))⟩
                · rw [World.cell?_setCell_other _ _ _ _ (by simp)]; exact e0
                · rw [World.cell?_setCell_other _ _ _ _ (by simp)]; exact e1
                · have := (HT6.out.stored i (.bool (b || hb))).1
                  rw [← List.map_set, HST.out] at this
                  exact this
              have FIN := Lib.hid fin; clear fin
              cases b
              · by_cases hxi : xi = 1
                · subst hxi
                  have hbt : hb = true := by rw [hhb]; rfl
                  have F2 := Lib.hid (FIN.out true (by rw [hbt]; rfl))
                  clear hhb hbt
                  go_wp2
                  exact ⟨⟨i + 1, by omega, by go_num, F2.out⟩, by simp [intOf]; omega⟩
                · have hbf : hb = false := by rw [hhb]; simpa using hxi
                  have hxe : (xi == 1) = false := by simpa using hxi
                  have F2 := Lib.hid (FIN.out false (by rw [hbf]; rfl))
                  clear hhb hbf hxi
                  go_wp2
                  exact ⟨⟨i + 1, by omega, by go_num, F2.out⟩, by simp [intOf]; omega⟩
              · have F2 := Lib.hid (FIN.out true rfl)
                clear hhb
                go_wp2
                exact ⟨⟨i + 1, by omega, by go_num, F2.out⟩, by simp [intOf]; omega⟩
            · have hE : i = j := by omega
              rw [hE, thereK_all] at hT6
              have HT6 := Lib.hid hT6; have HB6 := Lib.hid hB6
              have hij2 : ¬ ((i : Int) < (j : Int)) := by omega
              have HE := Lib.hid hE
              clear hT6 hB6 hO6 u0 u1 hE hle hlx hbl hwp
              go_wp2
              exact ⟨⟨t + 1, by omega, by go_num, HB6.out, e0, e1, HT6.out⟩, by simp [intOf]; omega⟩
    · obtain rfl : t = m := by omega
      have hall : ∀ i, i < n → (thereL n V pl t)[i]?.getD false = rendsB n V pl i := by
        intro i hi; simp [thereL, hi, rendsB, HM.out]
      have HALL := Lib.hid hall; clear hall
      obtain ⟨wo, rfl⟩ : ∃ wo : World, wo = wr := ⟨_, rfl⟩
      go_wp2
      go_loopw [11, 12, 81, 82, 83, 84, 85, 86, 87, 88, 89, 90, 91, 92, 93, 94] (fun o i _ _ _ _ _ _ _ _ _ _ _ _ _ _ wr => ∃ k : Nat, k ≤ n ∧ i = .int .i64 k ∧ Below wo.heap.size wo wr ∧ wr.ownsRow wo.heap.size 3 1 o (rendsK n V pl k).length ((rendsK n V pl k).map (Value.int .i64))) (fun o i _ _ _ _ _ _ _ _ _ _ _ _ _ _ _ => n - (intOf i).toNat)
      case atStart => exact ⟨0, Nat.zero_le _, rfl, bz _, World.ownsRow_nil _ _ _ _⟩
      case round =>
        obtain ⟨k, hk, rfl, hB7, hO7⟩ := hrel
        have hz7 := hB7.size
        have f0 := (hB7.cell (p := ⟨w.heap.size, 0, none⟩) zr).trans e0
        have HST := Lib.hid (rendsK_succ n V pl k)
        have HLE := Lib.hid (rendsK_le n V pl k)
        have HO7 := Lib.hid hO7; have HB7 := Lib.hid hB7
        clear hwp hO7 hB7
        by_cases hkn : k < n
        · have hO8 := owns_kept HO1.out HB7.out
          have cc := hO8.cellAt k (by omega)
          have hlk : k < (thereL n V pl t).length := by rw [thereL_len]; exact hkn
          rw [List.getElem?_map, List.getElem?_eq_getElem hlk, Option.map_some] at cc
          have hge : (thereL n V pl t)[k] = rendsB n V pl k := by
            have := HALL.out k hkn
            rw [List.getElem?_eq_getElem hlk] at this; simpa using this
          rw [hge] at cc
          have zt := (hO8.lt w2.heap.size rfl).2
          clear hge hlk hO8
          generalize rendsB n V pl k = b at *
          cases b
          · go_wp2
            exact ⟨⟨k + 1, by omega, by go_num, HB7.out, by rw [HST.out]; exact HO7.out⟩, by simp [intOf]; omega⟩
          · go_wp2_with (at_builtin; refine wpList_append_num rfl _ _ rfl Try.underlying34 num3 HO7.out _ rfl rfl (by have := HLE.out; omega) (by omega) ?_)
            intro v' w' hown' hgrow
            have hB8 := append_below (bal HB7.out _) (HO7.out.alloc _) hgrow (Nat.le_refl _)
            have HP := Lib.hid hown'; have HB8 := Lib.hid hB8
            clear hown' hgrow hB8
            go_wp2
            refine ⟨⟨k + 1, by omega, by go_num, HB8.out, by rw [HST.out, if_pos trivial, List.length_append, List.map_append]; exact HP.out⟩, by simp [intOf]; omega⟩
        · obtain rfl : k = n := by omega
          have HBB := Lib.hid (btr HB3.out (btr HB.out HB7.out))
          go_wp2
          go_ret2
          exact ⟨_, rfl, RdI.of_owns HO7.out, HBB.out⟩

def rendsE (p : Int) (V : List (Int × Int)) (place : Int) : Int := if checkR p V ≠ 0 then checkR p V else if place < 0 ∨ p ≤ place then 2 else 0
def rendsR (p : Int) (V : List (Int × Int)) (place : Int) : List Int := if checkR p V ≠ 0 then [] else if place < 0 ∨ p ≤ place then [] else rendsK p.toNat V place.toNat p.toNat
set_option maxRecDepth 100000 in
set_option maxHeartbeats 4000000 in
theorem rends_any (p place : Int) (x : Value) (V : List (Int × Int)) (w : World) (hx0 : RdP w x V) (hl : V.length ≤ 1000) :
    Calls Try.prog 40 #[.agg #[.int .i64 p, x], .int .i64 place] w fun e w' => ∃ v, e = .returned (.tuple #[v, .int .i64 (rendsE p V place)]) ∧ RdI w' .i64 v (rendsR p V place) ∧ Below w.heap.size w w' := by
  unfold rendsE rendsR
  have H0 := Lib.hid fun w1 (hB : Below w.heap.size w w1) => rcheck_any p _ V w1 (hx0.mono hB) hl
  by_cases h : checkR p V = 0
  · obtain ⟨n, rfl, hV⟩ := cond_row h
    have hc0 : ¬ (checkR (n : Int) V ≠ 0) := by simpa using h
    simp only [if_neg hc0]
    by_cases hpl : place < 0 ∨ (n : Int) ≤ place
    · simp only [if_pos hpl]
      obtain ⟨a, ca, rfl, hca1, hca2, hca3⟩ := hx0.form
      rw [h] at H0
      clear hc0 h hca1 hca2 hca3
      have step : ∀ w2 : World, Below (w.alloc (.cells #[.int .i64 n, .slice a V.length ca] 24)).heap.size (w.alloc (.cells #[.int .i64 n, .slice a V.length ca] 24)) w2 → w2.cell? ⟨w.heap.size, 0, none⟩ = some (.int .i64 n) ∧ w2.cell? ⟨w.heap.size, 1, none⟩ = some (.slice a V.length ca) :=
        fun w2 hB2 => ⟨(hB2.cell (by simp)).trans (cnew rfl rfl), (hB2.cell (by simp)).trans (cnew rfl rfl)⟩
      have STEP := Lib.hid step; clear step
      by_cases hp0 : place < 0
      · clear hpl
        go_enter Try.func40, Try.ntmps40
        go_wp2_with fail
        refine (H0.out _ (bal (bz _) _)).mono ?_
        rintro e w2 ⟨rfl, hB2⟩
        obtain ⟨c0, c1⟩ := STEP.out w2 hB2
        go_wp2
        go_ret2
        exact ⟨_, rfl, rdI_nil _ _, btr (bal (bz w) _) hB2⟩
      · have hp1 : (n : Int) ≤ place := by omega
        clear hpl
        go_enter Try.func40, Try.ntmps40
        go_wp2_with fail
        refine (H0.out _ (bal (bz _) _)).mono ?_
        rintro e w2 ⟨rfl, hB2⟩
        obtain ⟨c0, c1⟩ := STEP.out w2 hB2
        go_wp2
        go_ret2
        exact ⟨_, rfl, rdI_nil _ _, btr (bal (bz w) _) hB2⟩
    · simp only [if_neg hpl]
      obtain ⟨q, rfl⟩ : ∃ q : Nat, place = q := ⟨place.toNat, by omega⟩
      rw [show ((n : Nat) : Int).toNat = n by omega, show ((q : Nat) : Int).toNat = q by omega]
      exact rends_ok n q x V w hx0 hV (by omega)
  · obtain ⟨a, ca, rfl, hca1, hca2, hca3⟩ := hx0.form
    clear hca1 hca2 hca3
    simp only [ne_eq, h, not_false_eq_true, if_true]
    generalize checkR p V = c at *
    have e0 : (c != 0) = true := by simpa using h
    clear h
    go_enter Try.func40, Try.ntmps40
    go_wp2_with fail
    refine (H0.out _ (bal (bz _) _)).mono ?_
    rintro e w2 ⟨rfl, hB2⟩
    have hB3 := btr (bal (bz w) _) hB2
    have c0 : w2.cell? ⟨w.heap.size, 0, none⟩ = some (.int .i64 p) := (hB2.cell (by simp)).trans (cnew rfl rfl)
    have c1 : w2.cell? ⟨w.heap.size, 1, none⟩ = some (.slice a V.length ca) := (hB2.cell (by simp)).trans (cnew rfl rfl)
    go_wp2_with fail
    refine (H0.out _ hB3).mono ?_
    rintro e w3 ⟨rfl, hB4⟩
    go_wp2
    go_ret2
    exact ⟨_, rfl, rdI_nil _ _, btr hB3 hB4⟩
end Go.Proofs.Ytdnaipiiponhpaa
