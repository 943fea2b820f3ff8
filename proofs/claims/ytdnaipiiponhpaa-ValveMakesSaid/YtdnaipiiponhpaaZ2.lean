/- The document's Merge; no condition. -/
import Derived.Test.YtdnaipiiponhpaaZ1
namespace Go.Proofs.Ytdnaipiiponhpaa
open Go.RowKit Go.Shelf

set_option maxRecDepth 100000 in
set_option maxHeartbeats 4000000 in
theorem rmerge_any (p : Int) (w : World) :
    Calls Try.prog 46 #[.int .i64 p] w fun e w' => ∃ v, e = .returned (.tuple #[.agg #[.int .i64 (bricksP p), v], .int .i64 (bricksE p)]) ∧ RdP w' v (mergeL p) ∧ Below w.heap.size w w' := by
  have hsz : (Try.prog.info? 24).map (·.size) = some 2 := by kernel_rfl
  have HSZ := Lib.hid hsz; clear hsz
  unfold bricksP bricksE mergeL
  have key0 : ∀ h : p < 1 ∨ 8 < p, Calls Try.prog 46 #[.int .i64 p] w fun e w' => ∃ v, e = .returned (.tuple #[.agg #[.int .i64 0, v], .int .i64 6]) ∧ RdP w' v [] ∧ Below w.heap.size w w' := by
    intro h
    rcases h with h | h
    all_goals
      go_enter Try.func46, Try.ntmps46
      go_wp2
      refine bodyPost_ret (v := .tuple #[.agg #[.int .i64 0, .slice none 0 0], .int .i64 6]) (results_row_tmp rfl rfl rfl (heap_alloc_new _ _) Try.underlying24 rfl HSZ.out) rfl ⟨.slice none 0 0, rfl, rdP_nil _, bal (bz _) _⟩
  by_cases h : p < 1 ∨ 8 < p
  · simp only [if_pos h]
    exact key0 h
  · simp only [if_neg h]
    clear key0
    obtain ⟨n, rfl⟩ : ∃ n : Nat, p = n := ⟨p.toNat, by omega⟩
    rw [show ((n : Nat) : Int).toNat = n by omega]
    have hp1 : 1 ≤ n := by omega
    have hp8 : n ≤ 8 := by omega
    clear h
    have HML := Lib.hid (mergeN_le n hp8)
    go_enter Try.func46, Try.ntmps46
    go_wp2
    go_loopw [4, 17, 18, 19, 20, 21] (fun i _ _ _ _ _ wr => wr = w.alloc (.cells #[.int .i64 0, .slice none 0 0] 24) ∧ ∃ t : Nat, i = .int .i64 t ∧ (t = 1 ∨ t = 2 ∧ 1 < n ∨ t = 4 ∧ 2 < n ∨ t = 8 ∧ 4 < n)) (fun i _ _ _ _ _ _ => ((n : Int) - intOf i).toNat)
    case atStart => exact ⟨rfl, 1, rfl, .inl rfl⟩
    case round =>
      obtain ⟨hww, t, rfl, ht⟩ := hrel
      subst hww
      by_cases htn : t < n
      · have hw : IntKind.i64.wrap (2 * (t : Int)) = 2 * (t : Int) := IntWalk.i64_in _ (by omega)
        go_wp2
        exact ⟨⟨trivial, 2 * t, by simp, by omega⟩, by simp [intOf]; omega⟩
      · have htt : t = topOf n := by unfold topOf; split <;> (try split) <;> (try split) <;> omega
        have ht8 : t ≤ 8 := by omega
        have ht1 : 1 ≤ t := by omega
        have hm0 : mergeN n = outerM n t 4 (t / 2) := by rw [htt]; rfl
        have HM0 := Lib.hid hm0; clear hm0
        clear htt ht
        go_wp2
        go_loopw [6, 7, 8, 9, 26, 27, 28, 29, 30, 31, 32, 33, 34, 35, 36, 37, 38, 39, 40, 41, 42, 43, 44, 45, 46, 47, 48, 49, 50, 51, 52, 53, 54, 55, 56, 57, 58, 59, 60, 61, 62, 63, 64, 65, 66, 67, 68, 69, 70, 71, 72, 73, 74, 75, 76, 77, 78, 79, 80, 81, 82, 83, 84] (fun i _ _ _ _ _ _ _ _ _ _ _ _ _ _ _ _ _ _ _ _ _ _ _ _ _ _ _ _ _ _ _ _ _ _ _ _ _ _ _ _ _ _ _ _ _ _ _ _ _ _ _ _ _ _ _ _ _ _ _ _ _ _ wr => ∃ p f v acc, i = .int .i64 (p : Nat) ∧ p ≤ 4 ∧ p < 2 ^ f ∧ acc ++ outerM n t f p = mergeN n ∧ Below w.heap.size w wr ∧ wr.heap[w.heap.size]? = some (.cells #[.int .i64 0, .slice none 0 0] 24 (0, 0)) ∧ SOwn wr (w.heap.size + 1) (w.heap.size + 1 + 1) 24 n v (acc)) (fun i _ _ _ _ _ _ _ _ _ _ _ _ _ _ _ _ _ _ _ _ _ _ _ _ _ _ _ _ _ _ _ _ _ _ _ _ _ _ _ _ _ _ _ _ _ _ _ _ _ _ _ _ _ _ _ _ _ _ _ _ _ _ _ => (intOf i).toNat)
        case atStart => exact ⟨t / 2, 4, .slice none 0 0, [], by congr 1, by omega, by omega, HM0.out.symm, bal (bal (bz _) _) _, (Below.heap_alloc _ _ _ (by simp)).trans (heap_alloc_new _ _), by have := SOwn.new (w.alloc (.cells #[.int .i64 0, .slice none 0 0] 24)) 24 n; simpa using this⟩
        case round =>
          obtain ⟨p, f, v, acc, rfl, hp4, hpf, hacc, hB, hr0, hS⟩ := hrel
          have HS := Lib.hid hS; have HR := Lib.hid hr0; have HB := Lib.hid hB
          clear hS hr0 hB
          by_cases hp0 : 0 < p
          · obtain ⟨f, rfl⟩ : ∃ f', f = f' + 1 := ⟨f - 1, by cases f with | zero => simp at hpf; omega | succ f => rfl⟩
            have hpf2 : p / 2 < 2 ^ f := by rw [Nat.pow_succ] at hpf; omega
            have hac : acc ++ (addK p p 0 (n - p) ++ (innerM n p 4 (t / 2) ++ outerM n t f (p / 2))) = mergeN n := by
              have := hacc; unfold outerM at this; rw [if_pos hp0] at this; exact this
            have hl1 : acc.length ≤ 100 := by have := congrArg List.length hac; rw [List.length_append] at this; have := HML.out; omega
            have HAC := Lib.hid hac
            have hpz : ((p : Int) == 0) = false := by simp; omega
            have hp0i : (1 : Int) ≤ (p : Int) := by omega
            clear hacc hac hpf
            obtain ⟨wo, rfl⟩ : ∃ wo : World, wo = wr := ⟨_, rfl⟩
            go_wp2
            go_loopw [7, 30, 31, 32, 33, 34, 35, 36, 37, 38, 39, 40, 41, 42, 43, 44, 45, 46, 47, 48, 49, 50, 51] (fun i _ _ _ _ _ _ _ _ _ _ _ _ _ _ _ _ _ _ _ _ _ _ wr => ∃ k v, k ≤ n - p ∧ i = .int .i64 (k : Nat) ∧ Below w.heap.size w wr ∧ wr.heap[w.heap.size]? = some (.cells #[.int .i64 0, .slice none 0 0] 24 (0, 0)) ∧ SOwn wr (w.heap.size + 1) (w.heap.size + 1 + 1) 24 n v (acc ++ addK p p 0 k)) (fun i _ _ _ _ _ _ _ _ _ _ _ _ _ _ _ _ _ _ _ _ _ _ _ => ((n : Int) - intOf i).toNat)
            case atStart => exact ⟨0, v, Nat.zero_le _, rfl, HB.out, HR.out, by simpa [addK] using HS.out⟩
            case round =>
              obtain ⟨k, v2, hk, rfl, hB2, hr2, hS2⟩ := hrel
              have hakl := addK_le p (p) 0 k
              have HLN : Hid ((acc ++ addK p (p) 0 k).length ≤ 200) := Lib.hid (by rw [List.length_append]; omega)
              generalize hL : acc ++ addK p (p) 0 k = L at *
              have HL := Lib.hid hL; clear hL
              have c1 := hS2.c1; have f1 := hS2.f1; have z1 := hS2.z
              have zr := (Array.getElem?_eq_some_iff.1 hr2).1
              have HS2 := Lib.hid hS2; have HR2 := Lib.hid hr2; have HB2 := Lib.hid hB2
              clear HS HB HR hS2 hr2 hB2
              by_cases hkn : k < n - (p)
              · have hkn2 : (k : Int) + (p : Int) < (n : Int) := by omega
                have hst := addK_succ p (p) 0 k
                have hq : wrap64 ((k : Int) / (p : Int)) = ((k / p : Nat) : Int) := by
                  rw [← Int.natCast_ediv]
                  have h1 := Nat.div_le_self k p
                  generalize k / p = d at h1 ⊢
                  unfold wrap64
                  omega
                have hq2 : (wrap64 ((k : Int) / (p : Int))).tmod 2 = ((k / p % 2 : Nat) : Int) := by
                  rw [hq]
                  have := (Int.ofNat_tmod (k / p) 2).symm
                  simpa using this
                clear hq
                have hrb : k / p % 2 ≤ 1 := by omega
                generalize k / p % 2 = r at *
                by_cases hro : r = 0
                · subst hro
                  rw [if_pos (by simp), show ((k + p : Nat) : Int) = (k : Int) + (p : Int) by omega] at hst
                  have HST := Lib.hid hst; clear hst
                  go_wp2_with (at_builtin; refine wpList_append_pair rfl _ _ rfl HS2.out _ _ rfl rfl (by have := HLN.out; omega) ?_)
                  intro v' w' hown' hgrow
                  obtain ⟨c1', f1', z', hS', hB', a9, c9, hv9⟩ := HS2.out.done hown' hgrow
                  have h0 := (heap_setCell_other w' ⟨w.heap.size + 1, 1, none⟩ w.heap.size v' (by simp)).trans ((append_keep (HS2.out.own.alloc _) hgrow (by omega) (by simp; omega)).trans ((Below.heap_alloc _ _ _ zr).trans HR2.out))
                  have hB3 := hB' w HB2.out (by omega)
                  subst hv9
                  have HS3 := Lib.hid hS'; have H03 := Lib.hid h0; have HB3 := Lib.hid hB3
                  clear hown' hgrow hS' hB' h0 hB3 c1 f1
                  go_wp2
                  refine ⟨⟨k + 1, .slice a9 (L.length + 1) c9, by omega, by simp, HB3.out, H03.out, ?_⟩, by simp [intOf]; omega⟩
                  rw [HST.out, ← List.append_assoc, HL.out]
                  exact HS3.out
                · rw [if_neg (by simpa using hro)] at hst
                  have HST := Lib.hid hst; clear hst
                  have hr2 : ((r : Int) == 0) = false := by simp; omega
                  go_wp2
                  exact ⟨⟨k + 1, v2, by omega, by simp, HB2.out, HR2.out, by rw [HST.out, HL.out]; exact HS2.out⟩, by simp [intOf]; omega⟩
              · have hkn2 : ¬ ((k : Int) + (p : Int) < (n : Int)) := by omega
                obtain rfl : k = n - (p) := by omega
                have HLE := Lib.hid HL.out
                have hac3 : L ++ (innerM n p 4 (t / 2) ++ outerM n t f (p / 2)) = mergeN n := by rw [← HL.out, List.append_assoc]; exact HAC.out
                have HAC3 := Lib.hid hac3; clear hac3
                have hkb : ((n - p : Nat) : Int) ≤ 8 := by omega
                have hkb2 : 0 ≤ ((n - p : Nat) : Int) := by omega
                generalize ((n - p : Nat) : Int) = kk at *
                obtain ⟨wo2, rfl⟩ : ∃ wo2 : World, wo2 = wr := ⟨_, rfl⟩
                go_wp2
                go_loopw [8, 9, 54, 55, 56, 57, 58, 59, 60, 61, 62, 63, 64, 65, 66, 67, 68, 69, 70, 71, 72, 73, 74, 75, 76, 77, 78, 79, 80, 81, 82, 83, 84] (fun i _ _ _ _ _ _ _ _ _ _ _ _ _ _ _ _ _ _ _ _ _ _ _ _ _ _ _ _ _ _ _ _ wr => ∃ q f2 v acc2, i = .int .i64 (q : Nat) ∧ q ≤ 4 ∧ q < 2 ^ f2 ∧ acc2 ++ (innerM n p f2 q ++ outerM n t f (p / 2)) = mergeN n ∧ Below w.heap.size w wr ∧ wr.heap[w.heap.size]? = some (.cells #[.int .i64 0, .slice none 0 0] 24 (0, 0)) ∧ SOwn wr (w.heap.size + 1) (w.heap.size + 1 + 1) 24 n v (acc2)) (fun i _ _ _ _ _ _ _ _ _ _ _ _ _ _ _ _ _ _ _ _ _ _ _ _ _ _ _ _ _ _ _ _ _ => (intOf i).toNat)
                case atStart => exact ⟨t / 2, 4, v2, L, by congr 1, by omega, by omega, HAC3.out, HB2.out, HR2.out, HS2.out⟩
                case round =>
                  obtain ⟨q, f2, v6, acc2, rfl, hq4, hqf, hacc2, hB6, hr6, hS6⟩ := hrel
                  have HS6 := Lib.hid hS6; have HR6 := Lib.hid hr6; have HB6 := Lib.hid hB6
                  clear hS6 hr6 hB6 HS2 HR2 HB2 c1 f1 z1 zr
                  by_cases hpq : p < q
                  · obtain ⟨f2, rfl⟩ : ∃ f', f2 = f' + 1 := ⟨f2 - 1, by cases f2 with | zero => simp at hqf; omega | succ f => rfl⟩
                    have hqf2 : q / 2 < 2 ^ f2 := by rw [Nat.pow_succ] at hqf; omega
                    have hac2 : (acc2 ++ addK p (q - p) 1 (n - (q - p))) ++ (innerM n p f2 (q / 2) ++ outerM n t f (p / 2)) = mergeN n := by
                      have := hacc2; unfold innerM at this; rw [if_pos hpq, List.append_assoc] at this; rw [List.append_assoc]; exact this
                    have hl2 : acc2.length ≤ 100 := by have := congrArg List.length hacc2; rw [List.length_append] at this; have := HML.out; omega
                    have HAC2 := Lib.hid hac2
                    clear hacc2 hac2 hqf hakl HLN HL HLE hk hkn hkn2
                    obtain ⟨wo3, rfl⟩ : ∃ wo3 : World, wo3 = wr := ⟨_, rfl⟩
                    go_wp2
                    go_loopw [9, 59, 60, 61, 62, 63, 64, 65, 66, 67, 68, 69, 70, 71, 72, 73, 74, 75, 76, 77, 78, 79, 80, 81, 82, 83, 84] (fun i _ _ _ _ _ _ _ _ _ _ _ _ _ _ _ _ _ _ _ _ _ _ _ _ _ _ wr => ∃ k v, k ≤ n - (q - p) ∧ i = .int .i64 (k : Nat) ∧ Below w.heap.size w wr ∧ wr.heap[w.heap.size]? = some (.cells #[.int .i64 0, .slice none 0 0] 24 (0, 0)) ∧ SOwn wr (w.heap.size + 1) (w.heap.size + 1 + 1) 24 n v (acc2 ++ addK p (q - p) 1 k)) (fun i _ _ _ _ _ _ _ _ _ _ _ _ _ _ _ _ _ _ _ _ _ _ _ _ _ _ _ => ((n : Int) - intOf i).toNat)
                    case atStart => exact ⟨0, v6, Nat.zero_le _, rfl, HB6.out, HR6.out, by simpa [addK] using HS6.out⟩
                    case round =>
                      obtain ⟨k, v2, hk, rfl, hB2, hr2, hS2⟩ := hrel
                      have hakl := addK_le p ((q - p)) 1 k
                      have HLN : Hid ((acc2 ++ addK p ((q - p)) 1 k).length ≤ 200) := Lib.hid (by rw [List.length_append]; omega)
                      generalize hL : acc2 ++ addK p ((q - p)) 1 k = L at *
                      have HL := Lib.hid hL; clear hL
                      have c1 := hS2.c1; have f1 := hS2.f1; have z1 := hS2.z
                      have zr := (Array.getElem?_eq_some_iff.1 hr2).1
                      have HS2 := Lib.hid hS2; have HR2 := Lib.hid hr2; have HB2 := Lib.hid hB2
                      clear HS6 HB6 HR6 hS2 hr2 hB2
                      by_cases hkn : k < n - ((q - p))
                      · have hkn2 : (k : Int) + (q : Int) - (p : Int) < (n : Int) := by omega
                        have hst := addK_succ p ((q - p)) 1 k
                        have hq : wrap64 ((k : Int) / (p : Int)) = ((k / p : Nat) : Int) := by
                          rw [← Int.natCast_ediv]
                          have h1 := Nat.div_le_self k p
                          generalize k / p = d at h1 ⊢
                          unfold wrap64
                          omega
                        have hq2 : (wrap64 ((k : Int) / (p : Int))).tmod 2 = ((k / p % 2 : Nat) : Int) := by
                          rw [hq]
                          have := (Int.ofNat_tmod (k / p) 2).symm
                          simpa using this
                        clear hq
                        have hrb : k / p % 2 ≤ 1 := by omega
                        generalize k / p % 2 = r at *
                        by_cases hro : r = 1
                        · subst hro
                          rw [if_pos (by simp), show ((k + (q - p) : Nat) : Int) = (k : Int) + (q : Int) - (p : Int) by omega] at hst
                          have HST := Lib.hid hst; clear hst
                          go_wp2_with (at_builtin; refine wpList_append_pair rfl _ _ rfl HS2.out _ _ rfl rfl (by have := HLN.out; omega) ?_)
                          intro v' w' hown' hgrow
                          obtain ⟨c1', f1', z', hS', hB', a9, c9, hv9⟩ := HS2.out.done hown' hgrow
                          have h0 := (heap_setCell_other w' ⟨w.heap.size + 1, 1, none⟩ w.heap.size v' (by simp)).trans ((append_keep (HS2.out.own.alloc _) hgrow (by omega) (by simp; omega)).trans ((Below.heap_alloc _ _ _ zr).trans HR2.out))
                          have hB3 := hB' w HB2.out (by omega)
                          subst hv9
                          have HS3 := Lib.hid hS'; have H03 := Lib.hid h0; have HB3 := Lib.hid hB3
                          clear hown' hgrow hS' hB' h0 hB3 c1 f1
                          go_wp2
                          refine ⟨⟨k + 1, .slice a9 (L.length + 1) c9, by omega, by simp, HB3.out, H03.out, ?_⟩, by simp [intOf]; omega⟩
                          rw [HST.out, ← List.append_assoc, HL.out]
                          exact HS3.out
                        · rw [if_neg (by simpa using hro)] at hst
                          have HST := Lib.hid hst; clear hst
                          have hr2 : ((r : Int) == 1) = false := by simp; omega
                          go_wp2
                          exact ⟨⟨k + 1, v2, by omega, by simp, HB2.out, HR2.out, by rw [HST.out, HL.out]; exact HS2.out⟩, by simp [intOf]; omega⟩
                      · have hkn2 : ¬ ((k : Int) + (q : Int) - (p : Int) < (n : Int)) := by omega
                        obtain rfl : k = n - ((q - p)) := by omega
                        have HLE := Lib.hid HL.out
                        have hac3 : L ++ (innerM n p f2 (q / 2) ++ outerM n t f (p / 2)) = mergeN n := by rw [← HL.out]; exact HAC2.out
                        have HAC3 := Lib.hid hac3; clear hac3
                        have hkb : ((n - (q - p) : Nat) : Int) ≤ 8 := by omega
                        have hkb2 : 0 ≤ ((n - (q - p) : Nat) : Int) := by omega
                        generalize ((n - (q - p) : Nat) : Int) = kk at *
                        go_wp2
                        exact ⟨⟨q / 2, f2, v2, L, by congr 1, by omega, hqf2, HAC3.out, HB2.out, HR2.out, HS2.out⟩, by simp [intOf]; omega⟩
                  · rw [innerM_stop n p f2 q hpq, List.nil_append] at hacc2
                    have HAC2 := Lib.hid hacc2; clear hacc2 hqf
                    go_wp2
                    exact ⟨⟨p / 2, f, v6, acc2, by congr 1, by omega, hpf2, HAC2.out, HB6.out, HR6.out, HS6.out⟩, by simp [intOf]; omega⟩
          · obtain rfl : p = 0 := by omega
            rw [outerM_zero, List.append_nil] at hacc
            subst hacc
            clear hpf
            have hS := HS.out; have hr0 := HR.out
            obtain ⟨a9, c9, hv9⟩ := hS.form
            subst hv9
            have c0 := hS.c0; have c1 := hS.c1
            have zr := (Array.getElem?_eq_some_iff.1 hr0).1
            have e0 : wr.cell? ⟨w.heap.size, 0, none⟩ = some (.int .i64 0) := by rw [cell_of_row wr _ 0 _ _ _ hr0]; rfl
            have e1 : wr.cell? ⟨w.heap.size, 1, none⟩ = some (.slice none 0 0) := by rw [cell_of_row wr _ 1 _ _ _ hr0]; rfl
            have f0 := frozen_of_row wr w.heap.size 0 _ _ hr0
            have f1 := frozen_of_row wr w.heap.size 1 _ _ hr0
            have z1 := hS.z
            obtain ⟨hn2, hrd⟩ := hS.out w.heap.size hr0 (by omega)
            have HN2 := Lib.hid hn2; have HRD := Lib.hid hrd
            clear hS hr0 hn2 hrd HS HR
            go_wp2
            (try simp only [Exit.inBlock, Exit.then])
            refine bodyPost_ret (v := .tuple #[.agg #[.int .i64 n, .slice a9 (mergeN n).length c9], .int .i64 0]) (results_row_tmp rfl rfl rfl HN2.out Try.underlying24 rfl HSZ.out) rfl ⟨_, rfl, HRD.out, bset (bset HB.out (by simp) _) (by simp) _⟩
end Go.Proofs.Ytdnaipiiponhpaa
