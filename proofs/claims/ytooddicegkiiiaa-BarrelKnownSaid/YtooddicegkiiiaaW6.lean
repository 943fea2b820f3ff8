/- best of pairs; a closure that orders pairs. -/
import Derived.Test.YtooddicegkiiiaaW5
namespace Go.Proofs.Ytooddicegkiiiaa
open Go.RowKit Go.Shelf

/-- A pair is before another one. -/
def lexB (a b : Int × Int) : Bool := decide (a.1 < b.1 ∨ (a.1 = b.1 ∧ a.2 < b.2))
set_option maxRecDepth 100000 in
set_option maxHeartbeats 1000000 in
theorem lexf_any (a b : Int × Int) (w : World) :
    Calls Try.prog 67 #[kv a, kv b] w fun e w' => e = .returned (.bool (lexB a b)) ∧ Below w.heap.size w w' := by
  obtain ⟨a1, a2⟩ := a
  obtain ⟨b1, b2⟩ := b
  unfold kv
  by_cases h1 : a1 < b1
  · have e : lexB (a1, a2) (b1, b2) = true := by simp [lexB, h1]
    rw [e]; clear e
    go_enter Try.func67, Try.ntmps67
    go_wp2_with fail
    go_ret
    exact ⟨rfl, bal (bal (bz _) _) _⟩
  · by_cases h2 : a1 = b1
    · subst h2
      have hb : ((a1 : Int) == a1) = true := by simp
      by_cases h3 : a2 < b2
      · have e : lexB (a1, a2) (a1, b2) = true := by simp [lexB, h3]
        rw [e]; clear e
        go_enter Try.func67, Try.ntmps67
        go_wp2_with fail
        go_ret
        exact ⟨rfl, bal (bal (bz _) _) _⟩
      · have e : lexB (a1, a2) (a1, b2) = false := by simp [lexB]; omega
        rw [e]; clear e
        go_enter Try.func67, Try.ntmps67
        go_wp2_with fail
        go_ret
        exact ⟨rfl, bal (bal (bz _) _) _⟩
    · have e : lexB (a1, a2) (b1, b2) = false := by simp [lexB, h1, h2]
      rw [e]; clear e
      have hb : (a1 == b1) = false := by simpa using h2
      clear h2
      go_enter Try.func67, Try.ntmps67
      go_wp2_with fail
      go_ret
      exact ⟨rfl, bal (bal (bz _) _) _⟩

/-- The first one of the first k + 1 pairs. -/
def bestK (U : List (Int × Int)) : Nat → Int × Int
  | 0 => pin U 0
  | k + 1 => if lexB (pin U (k + 1)) (bestK U k) then pin U (k + 1) else bestK U k

theorem one2 (a b : Int) : (#[Value.int .i64 a, Value.int .i64 b]).all (·.oneCell') = true := by simp [Value.oneCell']

set_option maxRecDepth 100000 in
set_option maxHeartbeats 2000000 in
theorem bestp_any (x : Value) (U : List (Int × Int)) (w : World) (hx0 : RdP w x U) (hl : U.length ≤ 1000) (h1 : 1 ≤ U.length) :
    Calls Try.prog 66 #[x, .func (.func 67) #[] #[]] w fun e w' => e = .returned (kv (bestK U (U.length - 1))) ∧ Below w.heap.size w w' := by
  obtain ⟨a, ca, rfl, hca, hca2, hx⟩ := hx0.form
  obtain ⟨bx, ox, rfl, hbx, hcx⟩ := hx (by omega)
  clear hx hca2 hx0
  obtain ⟨n, hn⟩ : ∃ n, U.length = n + 1 := ⟨U.length - 1, by omega⟩
  rw [hn] at hl h1 hca hcx ⊢
  rw [Nat.add_sub_cancel]
  clear hn
  have g0 := (hcx 0 (by omega)).1
  have g1 := (hcx 0 (by omega)).2
  change w.cell? _ = some (Value.int .i64 (pin U 0).1) at g0
  change w.cell? _ = some (Value.int .i64 (pin U 0).2) at g1
  simp only [Nat.zero_mul, Nat.add_zero] at g0 g1
  have HCX := Lib.hid hcx; clear hcx
  have hu98 : Try.prog.underlying 98 = some (.struct (Try.prog.fieldsOf 98)) := Try.struct98
  have HU := Lib.hid hu98; clear hu98
  have hz98 : (Try.prog.info? 98).map (·.size) = some 2 := by kernel_rfl
  have HZ := Lib.hid hz98; clear hz98
  by_cases hc1 : ca = 1
  · have hn0 : n = 0 := by omega
    subst hn0
    subst hc1
    go_enter Try.func66, Try.ntmps66
    go_wp2_with fail
    go_loopw [7, 14] (fun _ i wr => i = .int .i64 0 ∧ Below w.heap.size w wr ∧ wr.heap[w.heap.size]? = some (.cells #[.int .i64 0, .int .i64 0] 98 (0, 0)) ∧
      wr.heap[w.heap.size + 1]? = some (.cells #[.int .i64 (pin U 0).1, .int .i64 (pin U 0).2] 98 (0, 0))) (fun _ _ _ => 0)
    case atStart =>
      have h := heap_alloc_new (w.alloc (.cells #[.int .i64 0, .int .i64 0] 98)) (.cells #[.int .i64 (pin U 0).1, .int .i64 (pin U 0).2] 98)
      rw [World.size_alloc] at h
      exact ⟨rfl, bal (bal (bz _) _) _, (Below.heap_alloc _ _ _ (by simp)).trans (heap_alloc_new _ _), h⟩
    case round =>
      obtain ⟨rfl, hB, hr0, hr1⟩ := hrel
      have HR0 := Lib.hid hr0; have HR1 := Lib.hid hr1; clear hr0 hr1
      go_wp2_with (first
        | (refine wpList_load_row rfl 98 (.tmp 5) rfl (w.heap.size + 1) rfl 98 #[.int .i64 (pin U 0).1, .int .i64 (pin U 0).2] (0, 0) _ HR1.out HU.out rfl HZ.out ?_)
        | (refine wpList_store_row rfl 98 (.tmp 4) (.tmp 24) rfl w.heap.size #[.int .i64 (pin U 0).1, .int .i64 (pin U 0).2] rfl rfl 98 _ HR0.out HZ.out rfl (one2 _ _) ?_))
      refine bodyPost_ret (results_cell_row rfl _ _ w.heap.size 98 #[.int .i64 (pin U 0).1, .int .i64 (pin U 0).2] (0, 0) _ rfl (setRow_heap _ _ _ _ _ _ HR0.out) HU.out rfl HZ.out) rfl ⟨rfl, ?_⟩
      exact hB.trans ⟨rfl, rfl, rfl, by simp, fun t ht => setRow_other _ _ _ _ (by omega)⟩
  · go_enter Try.func66, Try.ntmps66
    go_wp2_with fail
    go_loopw [7, 14] (fun _ i wr => ∃ k : Nat, k ≤ n ∧ i = .int .i64 k ∧ Below w.heap.size w wr ∧ wr.heap[w.heap.size]? = some (.cells #[.int .i64 0, .int .i64 0] 98 (0, 0)) ∧
      wr.heap[w.heap.size + 1]? = some (.cells #[.int .i64 (bestK U k).1, .int .i64 (bestK U k).2] 98 (0, 0))) (fun _ i _ => n - (intOf i).toNat)
    case atStart =>
      have h := heap_alloc_new (w.alloc (.cells #[.int .i64 0, .int .i64 0] 98)) (.cells #[.int .i64 (pin U 0).1, .int .i64 (pin U 0).2] 98)
      rw [World.size_alloc] at h
      exact ⟨0, Nat.zero_le _, rfl, bal (bal (bz _) _) _, (Below.heap_alloc _ _ _ (by simp)).trans (heap_alloc_new _ _), h⟩
    case round =>
      obtain ⟨k, hk, rfl, hB, hr0, hr1⟩ := hrel
      by_cases hlt : k < n
      · have gx := (hB.cell (p := ⟨bx, ox + (k + 1) * 2, none⟩) hbx).trans (HCX.out (k + 1) (by omega)).1
        have gy := (hB.cell (p := ⟨bx, ox + (k + 1) * 2 + 1, none⟩) hbx).trans (HCX.out (k + 1) (by omega)).2
        change wr.cell? _ = some (Value.int .i64 (pin U (k + 1)).1) at gx
        change wr.cell? _ = some (Value.int .i64 (pin U (k + 1)).2) at gy
        have hst : bestK U (k + 1) = if lexB (pin U (k + 1)) (bestK U k) then pin U (k + 1) else bestK U k := rfl
        have c0 : wr.cell? ⟨w.heap.size + 1, 0, none⟩ = some (.int .i64 (bestK U k).1) := by rw [cell_of_row wr _ 0 _ _ _ hr1]; rfl
        have c1 : wr.cell? ⟨w.heap.size + 1, 1, none⟩ = some (.int .i64 (bestK U k).2) := by rw [cell_of_row wr _ 1 _ _ _ hr1]; rfl
        have f0 := frozen_of_row wr (w.heap.size + 1) 0 _ _ hr1
        have f1 := frozen_of_row wr (w.heap.size + 1) 1 _ _ hr1
        have hz1 := (Array.getElem?_eq_some_iff.1 hr1).1
        rw [show ox + (k + 1) * 2 = ox + 2 + k * 2 by omega] at gx gy
        have hb2 : bx < wr.heap.size := Nat.lt_of_lt_of_le hbx hB.size
        have HST := Lib.hid hst; have HR0 := Lib.hid hr0; have HR1 := Lib.hid hr1; have HB := Lib.hid hB
        clear hst hr0 hr1 hB g0 g1
        generalize ho' : bestK U (k + 1) = o' at *
        have HO := Lib.hid ho'; clear ho'
        generalize bestK U k = o at *
        generalize pin U (k + 1) = q at *
        obtain ⟨o1, o2⟩ := o
        obtain ⟨q1, q2⟩ := q
        simp only at c0 c1 gx gy
        go_wp2_with fail
        refine (lexf_any (q1, q2) (o1, o2) _).mono ?_
        rintro e w3 ⟨rfl, hB3⟩
        have HB3 := Lib.hid hB3
        have e0 := (hB3.cell (p := ⟨w.heap.size + 1, 0, none⟩) (by simp; omega)).trans (cal _ c0)
        have e1 := (hB3.cell (p := ⟨w.heap.size + 1, 1, none⟩) (by simp; omega)).trans (cal _ c1)
        have e2 := (hB3.frozen (p := ⟨w.heap.size + 1, 0, none⟩) (by simp; omega)).trans (fal _ f0 (by simp; omega))
        have e3 := (hB3.frozen (p := ⟨w.heap.size + 1, 1, none⟩) (by simp; omega)).trans (fal _ f1 (by simp; omega))
        have e4 : w3.cell? ⟨wr.heap.size, 0, none⟩ = some (.int .i64 q1) := (hB3.cell (by simp)).trans (cnew rfl rfl)
        have e5 : w3.cell? ⟨wr.heap.size, 1, none⟩ = some (.int .i64 q2) := (hB3.cell (by simp)).trans (cnew rfl rfl)
        have e6 := (hB3.block (w.heap.size + 1) (by simp; omega)).trans ((Below.heap_alloc _ _ _ hz1).trans HR1.out)
        have e7 := (hB3.block w.heap.size (by simp; omega)).trans ((Below.heap_alloc _ _ _ (by omega)).trans HR0.out)
        have E6 := Lib.hid e6; have E7 := Lib.hid e7
        clear hB3 c0 c1 f0 f1 gx gy e6 e7
        generalize hq : lexB (q1, q2) (o1, o2) = q at *
        have HQ := Lib.hid hq; clear hq
        cases q
        · go_wp2_with fail
          go_roundw
          case rel =>
            have ho := HST.out
            rw [if_neg (by simp)] at ho
            exact ⟨k + 1, by omega, by go_num, btr HB.out (btr (bal (bz _) _) HB3.out), E7.out, by rw [HO.out, ho]; exact E6.out⟩
          case measure => simp [intOf]; omega
        · go_wp2_with fail
          go_roundw
          case rel =>
            have ho := HST.out
            rw [if_pos trivial] at ho
            have hx1 := heap_setCell_same w3 (w.heap.size + 1) 0 _ _ (.int .i64 q1) E6.out
            have hx2 := heap_setCell_same _ (w.heap.size + 1) 1 _ _ (.int .i64 q2) hx1
            refine ⟨k + 1, by omega, by go_num, bset (bset (btr HB.out (btr (bal (bz _) _) HB3.out)) (by simp) _) (by simp) _, ?_, by rw [HO.out, ho]; exact hx2⟩
            exact (heap_setCell_other _ _ _ _ (by simp)).trans ((heap_setCell_other _ _ _ _ (by simp)).trans E7.out)
          case measure => simp [intOf]; omega
      · have hkn : k = n := by omega
        rw [hkn] at hr1
        clear hkn
        have HR0 := Lib.hid hr0; have HR1 := Lib.hid hr1; clear hr0 hr1
        go_wp2_with (first
          | (refine wpList_load_row rfl 98 (.tmp 5) rfl (w.heap.size + 1) rfl 98 #[.int .i64 (bestK U n).1, .int .i64 (bestK U n).2] (0, 0) _ HR1.out HU.out rfl HZ.out ?_)
          | (refine wpList_store_row rfl 98 (.tmp 4) (.tmp 24) rfl w.heap.size #[.int .i64 (bestK U n).1, .int .i64 (bestK U n).2] rfl rfl 98 _ HR0.out HZ.out rfl (one2 _ _) ?_))
        refine bodyPost_ret (results_cell_row rfl _ _ w.heap.size 98 #[.int .i64 (bestK U n).1, .int .i64 (bestK U n).2] (0, 0) _ rfl (setRow_heap _ _ _ _ _ _ HR0.out) HU.out rfl HZ.out) rfl ⟨rfl, ?_⟩
        exact hB.trans ⟨rfl, rfl, rfl, by simp, fun t ht => setRow_other _ _ _ _ (by omega)⟩
end Go.Proofs.Ytooddicegkiiiaa
