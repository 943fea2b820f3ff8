/- at: which pins sound at a time; at most 5 valid pins. -/
import Derived.Test.YtooddicegkiiiaaW2
namespace Go.Proofs.Ytooddicegkiiiaa
open Go.RowKit Go.Shelf

/-- Cells of ints. -/
def arrI (l : List Int) : Array Value := (l.map (Value.int .i64)).toArray
theorem arrI_size (l : List Int) : (arrI l).size = l.length := by simp [arrI]
theorem arrI_get (l : List Int) (i : Nat) (h : i < l.length) : (arrI l)[i]? = some (.int .i64 (l[i]?.getD 0)) := by simp [arrI, h]
theorem arrI_set (l : List Int) (i : Nat) (x : Int) : (arrI l).setIfInBounds i (.int .i64 x) = arrI (l.set i x) := by simp [arrI, List.map_set]
theorem one_arr (l : List Int) : (arrI l).all (·.oneCell') = true := by simp [arrI, Value.oneCell']

/-- A pin sounds. -/
def sndB (x : Int × Int) (t : Int) : Bool := decide ((t - x.2) % x.1 = 0)
/-- The marks of the first k pins. -/
def markK (V : List (Int × Int)) (t : Int) (k : Nat) : List Int := (List.range 5).map fun i => if i < k ∧ sndB (pin V i) t = true then 1 else 0
theorem markK_len (V : List (Int × Int)) (t : Int) (k : Nat) : (markK V t k).length = 5 := by simp [markK]
theorem markK_get (V : List (Int × Int)) (t : Int) (k i : Nat) (h : i < 5) : (markK V t k)[i]?.getD 0 = if i < k ∧ sndB (pin V i) t = true then 1 else 0 := by simp [markK, h]
theorem markK_zero (V : List (Int × Int)) (t : Int) : markK V t 0 = [0, 0, 0, 0, 0] := by simp [markK, List.range_succ]
theorem markK_yes (V : List (Int × Int)) (t : Int) (k : Nat) (h : sndB (pin V k) t = true) : (markK V t k).set k 1 = markK V t (k + 1) := by
  apply List.ext_getElem
  · simp [markK]
  · intro i h1 h2
    simp only [markK, List.getElem_set, List.getElem_map, List.getElem_range]
    by_cases e : k = i
    · subst e; simp [h]
    · rw [if_neg e]
      have : i < k ↔ i < k + 1 := by omega
      simp [this]
theorem markK_no (V : List (Int × Int)) (t : Int) (k : Nat) (h : sndB (pin V k) t = false) : markK V t k = markK V t (k + 1) := by
  apply List.ext_getElem
  · simp [markK]
  · intro i h1 h2
    simp only [markK, List.getElem_map, List.getElem_range]
    by_cases e : k = i
    · subst e; simp [h]
    · have : i < k ↔ i < k + 1 := by omega
      simp [this]

set_option maxRecDepth 100000 in
set_option maxHeartbeats 1000000 in
theorem at_any (x : Value) (V : List (Int × Int)) (t : Int) (w : World) (hx0 : RdP w x V) (hV : OkV V) (hl : V.length ≤ 5) (t0 : 0 ≤ t) (t1 : t ≤ 2000000000000) :
    Calls Try.prog 57 #[.agg #[x], .int .i64 t] w fun e w' => e = .returned (.agg (arrI (markK V t V.length))) ∧ Below w.heap.size w w' := by
  obtain ⟨a, ca, rfl, hca, hca2, hx⟩ := hx0.form
  clear hca2
  go_enter Try.func57, Try.ntmps57
  go_wp2_with fail
  go_loopw [6, 7, 11] (fun _ _ i wr => ∃ k : Nat, k ≤ V.length ∧ i = .int .i64 k ∧ wr.heap[w.heap.size + 1]? = some (.cells (arrI [0, 0, 0, 0, 0]) 78 (0, 0)) ∧
      wr.heap[w.heap.size + 2]? = some (.cells (arrI (markK V t k)) 78 (0, 0)) ∧ Below w.heap.size w wr) (fun _ _ i _ => V.length - (intOf i).toNat)
  case atStart =>
    refine ⟨0, Nat.zero_le _, rfl, ?_, ?_, bal (bal (bal (bz _) _) _) _⟩
    · have h := heap_alloc_new (w.alloc (.cells #[.slice a V.length ca] 81)) (.cells (arrI [0, 0, 0, 0, 0]) 78)
      rw [World.size_alloc] at h
      exact (Below.heap_alloc _ _ _ (by simp)).trans h
    · rw [markK_zero]
      have h := heap_alloc_new ((w.alloc (.cells #[.slice a V.length ca] 81)).alloc (.cells (arrI [0, 0, 0, 0, 0]) 78)) (.cells (arrI [0, 0, 0, 0, 0]) 78)
      rw [World.size_alloc, World.size_alloc] at h
      exact h
  case round =>
    obtain ⟨k, hk, rfl, hr, hr2, hB⟩ := hrel
    by_cases hlt : k < V.length
    · obtain ⟨bx, ox, rfl, hbx, hcx⟩ := hx (by omega)
      have gx := (hB.cell (p := ⟨bx, ox + k * 2, none⟩) hbx).trans (hcx k (by omega)).1
      have gy := (hB.cell (p := ⟨bx, ox + k * 2 + 1, none⟩) hbx).trans (hcx k (by omega)).2
      change wr.cell? _ = some (Value.int .i64 (pin V k).1) at gx
      change wr.cell? _ = some (Value.int .i64 (pin V k).2) at gy
      obtain ⟨p1, p2, p3, p4⟩ := hV.at hlt
      have hms := markK_get V t k k (by omega)
      rw [if_neg (by omega)] at hms
      have ci := (cell_of_row wr (w.heap.size + 2) k _ _ _ hr2).trans (arrI_get (markK V t k) k (by rw [markK_len]; omega))
      rw [hms] at ci
      have fi := frozen_of_row wr (w.heap.size + 2) k _ _ hr2
      have hy := markK_yes V t k
      have hn := markK_no V t k
      have hz2 := (Array.getElem?_eq_some_iff.1 hr2).1
      have HR := Lib.hid hr; have HR2 := Lib.hid hr2; have HY := Lib.hid hy; have HN := Lib.hid hn; have HB := Lib.hid hB
      clear hr hr2 hy hn hx hcx hB hms
      have hs : sndB (pin V k) t = ((t - (pin V k).2).tmod (pin V k).1 == 0) := by rw [tmod_zero _ _ p1]; rfl
      rw [hs] at HY HN
      clear hs
      generalize pin V k = q at *
      obtain ⟨q1, q2⟩ := q
      simp only at p1 p2 p3 p4 gx gy HY HN
      obtain ⟨t3, t4⟩ := tmod_bd (t - q2) q1 p1
      have hbz : w.heap.size + 1 < wr.heap.size := by omega
      cases hc : ((t - q2).tmod q1 == 0)
      · have HC := Lib.hid hc
        go_wp2_with fail
        go_roundw
        case rel =>
          refine ⟨k + 1, by omega, by go_num, (Below.heap_alloc _ _ _ hbz).trans HR.out, ?_, bal HB.out _⟩
          rw [← HN.out hc]; exact (Below.heap_alloc _ _ _ hz2).trans HR2.out
        case measure => simp [intOf]; omega
      · have HC := Lib.hid hc
        go_wp2_with fail
        go_roundw
        case rel =>
          have hx1 := heap_setCell_same wr _ k _ _ (.int .i64 1) HR2.out
          rw [arrI_set, HY.out hc] at hx1
          refine ⟨k + 1, by omega, by go_num, ?_, (Below.heap_alloc _ _ _ (by simp; omega)).trans hx1, bal (bset HB.out (by simp; omega) _) _⟩
          exact (Below.heap_alloc _ _ _ (by simp; omega)).trans ((heap_setCell_other _ _ _ _ (by simp)).trans HR.out)
        case measure => simp [intOf]; omega
    · have hkl : k = V.length := by omega
      rw [hkl] at hr2
      clear hkl hk
      generalize hrr : markK V t V.length = r at *
      have hrl : r.length = 5 := by rw [← hrr, markK_len]
      have HRL := Lib.hid hrl
      have hz : (Try.prog.info? 78).map (·.size) = some 5 := by kernel_rfl
      have HZ := Lib.hid hz; clear hz
      have HONE := Lib.hid (one_arr r); clear hrl
      have HR := Lib.hid hr; have HR2 := Lib.hid hr2; have HRR := Lib.hid hrr
      clear hr hr2 hrr
      go_wp2_with (first
        | (refine wpList_load_row rfl 78 (.tmp 5) rfl (w.heap.size + 1 + 1) rfl 78 (arrI r) (0, 0) _ HR2.out (show Try.prog.underlying 78 = some (.array 5 3) by kernel_rfl) rfl (by rw [arrI_size, HRL.out]; exact HZ.out) ?_)
        | (refine wpList_store_row rfl 78 (.tmp 4) (.tmp 30) rfl (w.heap.size + 1) (arrI r) rfl rfl 78 _ HR.out (by rw [arrI_size, HRL.out]; exact HZ.out) (by rw [arrI_size, arrI_size, HRL.out]; rfl) HONE.out ?_))
      refine bodyPost_ret (results_cell_row rfl _ _ (w.heap.size + 1) 78 (arrI r) (0, 0) _ rfl (setRow_heap _ _ _ _ _ _ HR.out) (show Try.prog.underlying 78 = some (.array 5 3) by kernel_rfl) rfl (by rw [arrI_size, HRL.out]; exact HZ.out)) rfl ⟨by rw [HRR.out], ?_⟩
      exact hB.trans ⟨rfl, rfl, rfl, by simp, fun t ht => setRow_other _ _ _ _ (by omega)⟩
end Go.Proofs.Ytooddicegkiiiaa
