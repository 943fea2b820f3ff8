/- The document's Bricks and Merge; no condition. -/
import Derived.Test.YtdnaipiiponhpaaOwn
namespace Go.Proofs.Ytdnaipiiponhpaa
open Go.RowKit Go.Shelf

def rin (r k : Nat) : List (Int × Int) := (List.range k).map fun j => (((r + 2 * j : Nat) : Int), ((r + 2 * j : Nat) : Int) + 1)
theorem rin_succ (r k : Nat) : rin r (k + 1) = rin r k ++ [(((r + 2 * k : Nat) : Int), ((r + 2 * k : Nat) : Int) + 1)] := by simp [rin, List.range_succ]
theorem rin_len (r k : Nat) : (rin r k).length = k := by simp [rin]
def rout (n m : Nat) : List (Int × Int) := (List.range m).flatMap fun i => rin (i % 2) ((n - i % 2) / 2)
theorem rout_succ (n m : Nat) : rout n (m + 1) = rout n m ++ rin (m % 2) ((n - m % 2) / 2) := by simp [rout, List.range_succ]
theorem rout_le (n m : Nat) (h : n ≤ 8) : (rout n m).length ≤ m * 4 := by
  induction m with
  | zero => simp [rout]
  | succ m ih => rw [rout_succ, List.length_append, rin_len]; omega
theorem rout_eq : ∀ n, n ≤ 8 → rout n n = bricksK n n := by decide +kernel

set_option maxRecDepth 100000 in
set_option maxHeartbeats 2000000 in
theorem rbricks_any (p : Int) (w : World) :
    Calls Try.prog 44 #[.int .i64 p] w fun e w' => ∃ v, e = .returned (.tuple #[.agg #[.int .i64 (bricksP p), v], .int .i64 (bricksE p)]) ∧ RdP w' v (bricksL p) ∧ Below w.heap.size w w' := by
  have hsz : (Try.prog.info? 24).map (·.size) = some 2 := by kernel_rfl
  have HSZ := Lib.hid hsz; clear hsz
  unfold bricksP bricksE bricksL
  have key0 : ∀ h : p < 1 ∨ 8 < p, Calls Try.prog 44 #[.int .i64 p] w fun e w' => ∃ v, e = .returned (.tuple #[.agg #[.int .i64 0, v], .int .i64 6]) ∧ RdP w' v [] ∧ Below w.heap.size w w' := by
    intro h
    rcases h with h | h
    all_goals
      go_enter Try.func44, Try.ntmps44
      go_wp2
      refine bodyPost_ret (v := .tuple #[.agg #[.int .i64 0, .slice none 0 0], .int .i64 6]) (results_row_tmp rfl rfl rfl (heap_alloc_new _ _) Try.underlying24 rfl HSZ.out) rfl ⟨.slice none 0 0, rfl, rdP_nil _, bal (bz _) _⟩
  by_cases h : p < 1 ∨ 8 < p
  · simp only [if_pos h]
    exact key0 h
  · simp only [if_neg h]
    clear key0
    obtain ⟨n, rfl⟩ : ∃ n : Nat, p = n := ⟨p.toNat, by omega⟩
    rw [show ((n : Nat) : Int).toNat = n by omega]
    have hp1 : 1 ≤ n := by omega
    have hp8 : n ≤ 8 := by omega
    rw [← rout_eq n hp8]
    clear h
    go_enter Try.func44, Try.ntmps44
    go_wp2
    go_loopw [5, 6, 16, 17, 18, 19, 20, 21, 22, 23, 24, 25, 26, 27, 28, 29, 30, 31, 32, 33, 34, 35, 36, 37] (fun i _ _ _ _ _ _ _ _ _ _ _ _ _ _ _ _ _ _ _ _ _ _ _ wr => ∃ m v, m ≤ n ∧ i = .int .i64 (m : Nat) ∧ Below w.heap.size w wr ∧ wr.heap[w.heap.size]? = some (.cells #[.int .i64 0, .slice none 0 0] 24 (0, 0)) ∧ SOwn wr (w.heap.size + 1) (w.heap.size + 1 + 1) 24 n v (rout n m)) (fun i _ _ _ _ _ _ _ _ _ _ _ _ _ _ _ _ _ _ _ _ _ _ _ _ => ((n : Int) - intOf i).toNat)
    case atStart => exact ⟨0, .slice none 0 0, Nat.zero_le _, rfl, bal (bal (bz _) _) _, (Below.heap_alloc _ _ _ (by simp)).trans (heap_alloc_new _ _), by have := SOwn.new (w.alloc (.cells #[.int .i64 0, .slice none 0 0] 24)) 24 n; simpa [rout] using this⟩
    case round =>
      obtain ⟨m, v, hm, rfl, hB, hr0, hS⟩ := hrel
      by_cases hmn : m < n
      · have hmr : (m : Int).tmod 2 = ((m % 2 : Nat) : Int) := by have := (Int.ofNat_tmod m 2).symm; simpa using this
        have HST := Lib.hid (rout_succ n m)
        have hle := rout_le n m hp8
        have hr1 : m % 2 ≤ 1 := by omega
        generalize m % 2 = r at *
        have HS := Lib.hid hS; have HR := Lib.hid hr0; have HB := Lib.hid hB
        clear hS hr0 hB
        obtain ⟨wo, rfl⟩ : ∃ wo : World, wo = wr := ⟨_, rfl⟩
        go_wp2
        go_loopw [6, 23, 24, 25, 26, 27, 28, 29, 30, 31, 32, 33, 34, 35, 36, 37] (fun i _ _ _ _ _ _ _ _ _ _ _ _ _ _ _ wr => ∃ k v, k ≤ (n - r) / 2 ∧ i = .int .i64 ((r + 2 * k : Nat) : Int) ∧ Below w.heap.size w wr ∧ wr.heap[w.heap.size]? = some (.cells #[.int .i64 0, .slice none 0 0] 24 (0, 0)) ∧ SOwn wr (w.heap.size + 1) (w.heap.size + 1 + 1) 24 n v (rout n m ++ rin r k)) (fun i _ _ _ _ _ _ _ _ _ _ _ _ _ _ _ _ => ((n : Int) - intOf i).toNat)
        case atStart => exact ⟨0, v, Nat.zero_le _, by simp, HB.out, HR.out, by simpa [rin] using HS.out⟩
        case round =>
          obtain ⟨k, v2, hk, rfl, hB2, hr2, hS2⟩ := hrel
          have HLN : Hid ((rout n m ++ rin r k).length ≤ 100) := Lib.hid (by rw [List.length_append, rin_len]; omega)
          generalize hL : rout n m ++ rin r k = L at *
          have HL := Lib.hid hL; clear hL
          have c1 := hS2.c1; have f1 := hS2.f1; have z1 := hS2.z
          have zr := (Array.getElem?_eq_some_iff.1 hr2).1
          have HS2 := Lib.hid hS2; have HR2 := Lib.hid hr2; have HB2 := Lib.hid hB2
          clear HS HR HB hS2 hr2 hB2
          by_cases hkn : r + 2 * k + 1 < n
          · have hkn2 : ((r + 2 * k : Nat) : Int) + 1 < (n : Int) := by omega
            have hj8 : r + 2 * k < 8 := by omega
            have HSU := Lib.hid (rin_succ r k)
            generalize hj : r + 2 * k = j at *
            go_wp2_with (at_builtin; refine wpList_append_pair rfl _ _ rfl HS2.out _ _ rfl rfl (by have := HLN.out; omega) ?_)
            intro v' w' hown' hgrow
            obtain ⟨c1', f1', z', hS', hB', a9, c9, hv9⟩ := HS2.out.done hown' hgrow
            have h0 := (heap_setCell_other w' ⟨w.heap.size + 1, 1, none⟩ w.heap.size v' (by simp)).trans ((append_keep (HS2.out.own.alloc _) hgrow (by omega) (by simp; omega)).trans ((Below.heap_alloc _ _ _ zr).trans HR2.out))
            have hB3 := hB' w HB2.out (by omega)
            subst hv9
            have HS3 := Lib.hid hS'; have H03 := Lib.hid h0; have HB3 := Lib.hid hB3
            clear hown' hgrow hS' hB' h0 hB3 c1 f1
            go_wp2
            refine ⟨⟨k + 1, .slice a9 (L.length + 1) c9, by omega, by rw [show r + 2 * (k + 1) = j + 2 by omega]; go_num, HB3.out, H03.out, ?_⟩, by simp [intOf]; omega⟩
            rw [HSU.out, ← List.append_assoc, HL.out]
            exact HS3.out
          · have hkn2 : ¬ (((r + 2 * k : Nat) : Int) + 1 < (n : Int)) := by omega
            obtain rfl : k = (n - r) / 2 := by omega
            have hj8 : ((r + 2 * ((n - r) / 2) : Nat) : Int) < 20 := by omega
            generalize ((r + 2 * ((n - r) / 2) : Nat) : Int) = jj at *
            go_wp2
            refine ⟨⟨m + 1, v2, by omega, by simp, HB2.out, HR2.out, by rw [HST.out, HL.out]; exact HS2.out⟩, by simp [intOf]; omega⟩
      · obtain rfl : m = n := by omega
        obtain ⟨a9, c9, hv9⟩ := hS.form
        subst hv9
        have c0 := hS.c0; have c1 := hS.c1
        have zr := (Array.getElem?_eq_some_iff.1 hr0).1
        have e0 : wr.cell? ⟨w.heap.size, 0, none⟩ = some (.int .i64 0) := by rw [cell_of_row wr _ 0 _ _ _ hr0]; rfl
        have e1 : wr.cell? ⟨w.heap.size, 1, none⟩ = some (.slice none 0 0) := by rw [cell_of_row wr _ 1 _ _ _ hr0]; rfl
        have f0 := frozen_of_row wr w.heap.size 0 _ _ hr0
        have f1 := frozen_of_row wr w.heap.size 1 _ _ hr0
        have z1 := hS.z
        obtain ⟨hn2, hrd⟩ := hS.out w.heap.size hr0 (by omega)
        have HN2 := Lib.hid hn2; have HRD := Lib.hid hrd; have HB := Lib.hid hB
        clear hS hr0 hn2 hrd hB
        go_wp2
        (try simp only [Exit.inBlock, Exit.then])
        refine bodyPost_ret (v := .tuple #[.agg #[.int .i64 m, .slice a9 (rout m m).length c9], .int .i64 0]) (results_row_tmp rfl rfl rfl HN2.out Try.underlying24 rfl HSZ.out) rfl ⟨_, rfl, HRD.out, bset (bset HB.out (by simp) _) (by simp) _⟩
end Go.Proofs.Ytdnaipiiponhpaa
