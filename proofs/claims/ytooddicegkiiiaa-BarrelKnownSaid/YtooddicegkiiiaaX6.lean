/- Next of the program. -/
import Derived.Test.YtooddicegkiiiaaX5
namespace Go.Proofs.Ytooddicegkiiiaa
open Go.RowKit Go.Shelf
attribute [local go_sem] Oper.semAt_some

theorem slice_one_at (w : World) (a : Int) (t : TypeId) {b : Nat} (hb : b = w.heap.size) : RdI (w.alloc (.cells #[.int .i64 a] t)) .i64 (.slice (some ⟨b, 0, none⟩) 1 1) [a] := by subst hb; exact slice_one w a t
/-- What Next returns. -/
def nxO (A B : Int) (o : Bool) (f : Int) : Int × Int := if o then (if 1000000000000 < nextF A B f then (0, 4) else (nextF A B f, 0)) else (0, 21)
def nextN (V : List (Int × Int)) (f : Int) : Int := if openE V [f] = 0 then (nxO (jA V) (jB V) (jO V) f).1 else 0
def nextE (V : List (Int × Int)) (f : Int) : Int := if openE V [f] = 0 then (nxO (jA V) (jB V) (jO V) f).2 else openE V [f]

set_option maxRecDepth 100000 in
set_option maxHeartbeats 2000000 in
theorem next_any (x : Value) (V : List (Int × Int)) (f : Int) (w : World) (hx0 : RdP w x V) (hl : V.length ≤ 1000) :
    Calls Try.prog 27 #[x, .int .i64 f] w fun e w' => e = .returned (.tuple #[.int .i64 (nextN V f), .int .i64 (nextE V f)]) ∧ Below w.heap.size w w' := by
  obtain ⟨a, ca, rfl, hca, hca2, _⟩ := hx0.form
  clear hca2
  by_cases hc : openE V [f] = 0
  · have e1 : nextN V f = (nxO (jA V) (jB V) (jO V) f).1 := by unfold nextN; rw [if_pos hc]
    have e2 : nextE V f = (nxO (jA V) (jB V) (jO V) f).2 := by unfold nextE; rw [if_pos hc]
    rw [e1, e2]; clear e1 e2
    obtain ⟨hc1, hc2⟩ := openE_zero hc
    have hV := okPins_of hc1
    have h5 := hV.l5
    have hft : 0 ≤ f ∧ f ≤ 1000000000000 := by simp [outB] at hc2; omega
    obtain ⟨f0, f1⟩ := hft
    have HO := Lib.hid (fun w' (hx : RdP w' (.slice a V.length ca) V) y hy => open_ok _ y V [f] w' hx hy (by simp) hc)
    have HT := Lib.hid (fun b w' hD => times_any b V f w' hD hV.v h5)
    have HJT := Lib.hid (fun h => (⟨(j_true hV.v h).t0, (j_true hV.v h).tp⟩ : 0 ≤ jA V ∧ jA V < jB V))
    have HJB : Hid (jB V ≤ 320000000000) := by
      cases ho : jO V with
      | true => exact Lib.hid ((j_true hV.v ho).le hV.v h5)
      | false => exact Lib.hid (by rw [(j_false hV.v ho).2.2]; omega)
    clear hc hc1 hc2
    unfold TimesOk at HT
    generalize jO V = o at *
    generalize jA V = A at *
    generalize jB V = B at *
    generalize hnx : nxO A B o f = nx at *
    have HNX := Lib.hid hnx; clear hnx
    obtain ⟨rN, rE⟩ := nx
    simp only
    refine callsIn_wide (n := 10).1 ?_
    refine callsIn_of_wp_marks Try.func27 rfl trivial ?_ rfl
    simp only [Try.ntmps27, List.size_toArray, List.length_cons, List.length_nil, Nat.reduceAdd, Nat.reduceSub, Array.replicate_succ, Array.replicate_zero, List.push_toArray, List.append_toArray, List.nil_append, List.cons_append]
    gi_wp2_with fail
    refine ⟨trivial, callsIn_wide.2 ((HO.out _ (hx0.mono (bal (bal (bal (bz _) _) _) _)) _ ?_).mono ?_)⟩
    · exact slice_one_at _ f 2 (by simp)
    rintro e w2 ⟨b, rfl, hb, hD, hB2⟩
    have HB2 := Lib.hid hB2; have HD := Lib.hid hD; clear hB2 hD
    gi_wp2_with fail
    refine ⟨trivial, callsIn_wide.2 ((HT.out b _ HD.out).mono ?_)⟩
    rintro e w4 ⟨pk, pf, pa, pb, rfl, hpa, hcap, hB4⟩
    have hz2 := HB2.out.size
    simp only [World.size_alloc] at hz2
    have r4 : w4.heap[w.heap.size]? = some (.cells #[.int .i64 0] 2 (0, 0)) :=
      (hB4.block _ (by omega)).trans ((HB2.out.block _ (by simp; omega)).trans ((Below.heap_alloc _ _ _ (by simp; omega)).trans ((Below.heap_alloc _ _ _ (by simp)).trans (heap_alloc_new _ _))))
    have r5 : w4.heap[w.heap.size + 1]? = some (.cells #[.int .i64 0] 26 (0, 0)) := by
      have h := heap_alloc_new (w.alloc (.cells #[.int .i64 0] 2)) (.cells #[.int .i64 0] 26)
      rw [World.size_alloc] at h
      exact (hB4.block _ (by omega)).trans ((HB2.out.block _ (by simp)).trans ((Below.heap_alloc _ _ _ (by simp)).trans h))
    have hBw : Below w.heap.size w w4 := btr (bal (bal (bal (bz _) _) _) _) (btr HB2.out hB4)
    have hz4 := hB4.size
    have HB4 := Lib.hid hB4; have HCAP := Lib.hid hcap; have HR4 := Lib.hid r4; have HR5 := Lib.hid r5; have HBW := Lib.hid hBw
    clear hB4 hcap r4 r5 hBw
    gi_wp2_with fail
    refine range_once (gf := 79) (lb := #[.pointer (some ⟨pk, 0, none⟩), .pointer (some ⟨pf, 0, none⟩), .pointer (some ⟨pa, 0, none⟩), .pointer (some ⟨pb, 0, none⟩)]) rfl (enters_of Try.func79 (by kernel_rfl) rfl)
      (encs := fun t => #[.int .i64 t]) (R := fun r => r = pa) (o := o) (x := nextF A B f) ?hR ?hseq rfl
      (fun W => W.heap[w.heap.size]? = some (.cells #[.int .i64 0] 2 (0, 0)) ∧ W.heap[w.heap.size + 1]? = some (.cells #[.int .i64 0] 26 (0, 0)) ∧ Below w.heap.size w W)
      (fun c W => c = .ret ∧ W.heap[w.heap.size]? = some (.cells #[.int .i64 rN] 2 (0, 0)) ∧ W.heap[w.heap.size + 1]? = some (.cells #[.int .i64 rE] 26 (0, 0)) ∧ Below w.heap.size w W)
      ?hI ?hIx ⟨HR4.out, HR5.out, HBW.out⟩ ?round ?done ?stop
    case hR => rintro r rfl; exact World.block_lt_of_cell? w4 _ HCAP.out.a
    case hseq =>
      intro V' hV'
      have hc := HCAP.out.mono hV'
      exact times_yields _ pk pf pa pb o A B f V' hc.k hc.f hc.a hc.b hc.fa HJT.out HJB.out f0 f1
    case hI => exact (abR_heap (by rintro (h | h) <;> omega)).and ((abR_heap (by rintro (h | h) <;> omega)).and (abR_below (by rintro r (h | h) <;> omega)))
    case hIx => exact fun c => abR_pure.and ((abR_heap (by rintro (h | h) <;> omega)).and ((abR_heap (by rintro (h | h) <;> omega)).and (abR_below (by rintro r (h | h) <;> omega))))
    case round =>
      rintro ho l W ⟨i4, i5, hB⟩ hszW
      subst ho
      have hnx := HNX.out
      unfold nxO at hnx
      simp only [if_true] at hnx
      generalize nextF A B f = t at *
      have HI4 := Lib.hid i4; have HI5 := Lib.hid i5; have HB := Lib.hid hB
      clear i4 i5 hB
      gi_wp2_with fail
      refine ⟨KF.refl _ _, fun W2 hg2 hs2 => ?_⟩
      have j4 : W2.heap[w.heap.size]? = some (.cells #[.int .i64 0] 2 (0, 0)) := (hg2.block _ (Array.getElem?_eq_some_iff.1 HI4.out).1 (by simp; omega)).trans HI4.out
      have j5 : W2.heap[w.heap.size + 1]? = some (.cells #[.int .i64 0] 26 (0, 0)) := (hg2.block _ (Array.getElem?_eq_some_iff.1 HI5.out).1 (by simp; omega)).trans HI5.out
      have hB2' : Below w.heap.size w W2 := bgr HB.out hg2 (by rintro k e; cases e; omega)
      have c4 : W2.cell? ⟨w.heap.size, 0, none⟩ = some (.int .i64 0) := by rw [cell_of_row W2 _ 0 _ _ _ j4]; rfl
      have c5 : W2.cell? ⟨w.heap.size + 1, 0, none⟩ = some (.int .i64 0) := by rw [cell_of_row W2 _ 0 _ _ _ j5]; rfl
      have f4 := frozen_of_row W2 w.heap.size 0 _ _ j4
      have f5 := frozen_of_row W2 (w.heap.size + 1) 0 _ _ j5
      have s4 := fun u => heap_setCell_same W2 w.heap.size 0 _ _ u j4
      have HJ5 := Lib.hid j5; have HB2' := Lib.hid hB2'; have HS4 := Lib.hid s4
      have z4 := (Array.getElem?_eq_some_iff.1 j4).1
      have z5 := (Array.getElem?_eq_some_iff.1 j5).1
      have fin : ∀ (act : Act) (u v : Int), (u, v) = (rN, rE) → roundEndO w4.heap.size (fun c W => c = .ret ∧ W.heap[w.heap.size]? = some (.cells #[.int .i64 rN] 2 (0, 0)) ∧ W.heap[w.heap.size + 1]? = some (.cells #[.int .i64 rE] 26 (0, 0)) ∧ Below w.heap.size w W) W2 .ret act ((W2.setCell ⟨w.heap.size, 0, none⟩ (.int .i64 u)).setCell ⟨w.heap.size + 1, 0, none⟩ (.int .i64 v)) := by
        intro act u v huv
        simp only [Prod.mk.injEq] at huv
        obtain ⟨rfl, rfl⟩ := huv
        refine ⟨((KF.refl _ _).set (by simp; omega) _).set (by simp; omega) _, rfl, ?_, ?_, bset (bset HB2'.out (Nat.le_refl _) _) (by simp) _⟩
        · exact (heap_setCell_other _ _ _ _ (by simp)).trans (HS4.out _)
        · exact heap_setCell_same _ _ 0 _ _ _ ((heap_setCell_other _ _ _ _ (by simp)).trans HJ5.out)
      by_cases ht : 1000000000000 < t
      · rw [if_pos ht] at hnx
        have HNX' := Lib.hid hnx; clear hnx hg2 hs2 j4 j5 hB2' s4
        have FIN := Lib.hid fin; clear fin
        gi_wp2_with fail
        exact FIN.out _ _ _ HNX'.out
      · rw [if_neg ht] at hnx
        have HNX' := Lib.hid hnx; clear hnx hg2 hs2 j4 j5 hB2' s4
        have FIN := Lib.hid fin; clear fin
        gi_wp2_with fail
        exact FIN.out _ _ _ HNX'.out
    case done =>
      rintro ho W ⟨i4, i5, hB⟩ hD
      subst ho
      have hnx := HNX.out
      unfold nxO at hnx
      simp only [Bool.false_eq_true, if_false, Prod.mk.injEq] at hnx
      obtain ⟨rfl, rfl⟩ := hnx
      have HI4 := Lib.hid i4; have HI5 := Lib.hid i5; have HB := Lib.hid hB; have HDD := Lib.hid hD
      have c4 : W.cell? ⟨w.heap.size, 0, none⟩ = some (.int .i64 0) := by rw [cell_of_row W _ 0 _ _ _ i4]; rfl
      have c5 : W.cell? ⟨w.heap.size + 1, 0, none⟩ = some (.int .i64 0) := by rw [cell_of_row W _ 0 _ _ _ i5]; rfl
      have f4 := frozen_of_row W w.heap.size 0 _ _ i4
      have f5 := frozen_of_row W (w.heap.size + 1) 0 _ _ i5
      have z5 := (Array.getElem?_eq_some_iff.1 i5).1
      clear i4 i5 hB hD
      gi_wp2_with fail
      have hD2 : ((W.setCell ⟨w.heap.size, 0, none⟩ (.int .i64 0)).setCell ⟨w.heap.size + 1, 0, none⟩ (.int .i64 21)).heap[w4.heap.size]? = some (.deferred (some [])) :=
        (heap_setCell_other _ _ _ _ (by simp; omega)).trans ((heap_setCell_other _ _ _ _ (by simp; omega)).trans HDD.out)
      have x4 := (World.putObj_heap_other (r := w4.heap.size) (o := .deferred none) (k := w.heap.size) (by omega)).trans ((heap_setCell_other (W.setCell ⟨w.heap.size, 0, none⟩ (.int .i64 0)) ⟨w.heap.size + 1, 0, none⟩ w.heap.size (.int .i64 21) (by simp)).trans (heap_setCell_same W w.heap.size 0 _ _ (.int .i64 0) HI4.out))
      have x5 := (World.putObj_heap_other (r := w4.heap.size) (o := .deferred none) (k := w.heap.size + 1) (by omega)).trans (heap_setCell_same (W.setCell ⟨w.heap.size, 0, none⟩ (.int .i64 0)) (w.heap.size + 1) 0 _ _ (.int .i64 21) ((heap_setCell_other _ _ _ _ (by simp)).trans HI5.out))
      have bX := below_put (bset (bset HB.out (p := ⟨w.heap.size, 0, none⟩) (Nat.le_refl _) (.int .i64 0)) (p := ⟨w.heap.size + 1, 0, none⟩) (by simp) (.int .i64 21)) (r := w4.heap.size) (.deferred none) (by omega)
      refine ⟨by simp, .inl ⟨_, _, rfl, run_takeDeferred hD2, ?_⟩⟩
      have y4 := cell_of_row _ _ 0 _ _ _ x4
      have y5 := cell_of_row _ _ 0 _ _ _ x5
      change _ = some (Value.int .i64 0) at y4
      change _ = some (Value.int .i64 21) at y5
      clear x4 x5
      generalize World.putObj _ _ _ = X at *
      exact ⟨_, results_cell2 rfl rfl rfl (by go_simp) (by go_simp), rfl, bX⟩
    case stop =>
      rintro ho c W ⟨rfl, i4, i5, hB⟩ hD
      have HI4 := Lib.hid i4; have HI5 := Lib.hid i5; have HB := Lib.hid hB; have HDD := Lib.hid hD
      clear i4 i5 hB hD
      gi_wp2_with fail
      refine ⟨by simp, .inl ⟨_, _, rfl, run_takeDeferred HDD.out, ?_⟩⟩
      have x4 := (World.putObj_heap_other (w := W) (r := w4.heap.size) (o := .deferred none) (k := w.heap.size) (by omega)).trans HI4.out
      have x5 := (World.putObj_heap_other (w := W) (r := w4.heap.size) (o := .deferred none) (k := w.heap.size + 1) (by omega)).trans HI5.out
      have bX := below_put HB.out (r := w4.heap.size) (.deferred none) (by omega)
      have y4 := cell_of_row _ _ 0 _ _ _ x4
      have y5 := cell_of_row _ _ 0 _ _ _ x5
      change _ = some (Value.int .i64 rN) at y4
      change _ = some (Value.int .i64 rE) at y5
      clear x4 x5
      generalize World.putObj _ _ _ = X at *
      exact ⟨_, results_cell2 rfl rfl rfl (by go_simp) (by go_simp), rfl, bX⟩
  · have e1 : nextN V f = 0 := by unfold nextN; rw [if_neg hc]
    have e2 : nextE V f = openE V [f] := by unfold nextE; rw [if_neg hc]
    rw [e1, e2]; clear e1 e2
    have HO := Lib.hid (fun w' (hx : RdP w' (.slice a V.length ca) V) y hy => open_no _ y V [f] w' hx hy hl (by simp) hc)
    have hcb : (openE V [f] != 0) = true := by simpa using hc
    have hce : (openE V [f] == 0) = false := by simpa using hc
    clear hc
    generalize openE V [f] = q at *
    go_enter Try.func27, Try.ntmps27
    go_wp2_with fail
    refine (HO.out _ (hx0.mono (bal (bal (bal (bz _) _) _) _)) _ (slice_one_at _ f 2 (by simp))).mono ?_
    rintro e w2 ⟨rfl, hB2⟩
    have c4 : w2.cell? ⟨w.heap.size, 0, none⟩ = some (.int .i64 0) := (hB2.cell (by simp; omega)).trans (cal _ (cal _ (cnew rfl rfl)))
    have c5 : w2.cell? ⟨w.heap.size + 1, 0, none⟩ = some (.int .i64 0) := (hB2.cell (by simp)).trans (cal _ (cnew (by simp) rfl))
    have f4 : w2.frozen? ⟨w.heap.size, 0, none⟩ = false := (hB2.frozen (by simp; omega)).trans (fal _ (fal _ (fnew rfl) (by simp)) (by simp; omega))
    have f5 : w2.frozen? ⟨w.heap.size + 1, 0, none⟩ = false := (hB2.frozen (by simp)).trans (fal _ (fnew (by simp)) (by simp))
    have z5 := World.block_lt_of_cell? w2 _ c5
    simp only at z5
    have HB2 := Lib.hid hB2; clear hB2
    go_wp2_with fail
    have y4 : ((w2.setCell ⟨w.heap.size, 0, none⟩ (.int .i64 0)).setCell ⟨w.heap.size + 1, 0, none⟩ (.int .i64 q)).cell? ⟨w.heap.size, 0, none⟩ = some (.int .i64 0) := by
      rw [World.cell?_setCell_other _ _ _ _ (by simp)]; exact World.cell?_setCell_same' _ _ _ (by rw [c4]; rfl)
    have y5 : ((w2.setCell ⟨w.heap.size, 0, none⟩ (.int .i64 0)).setCell ⟨w.heap.size + 1, 0, none⟩ (.int .i64 q)).cell? ⟨w.heap.size + 1, 0, none⟩ = some (.int .i64 q) :=
      World.cell?_setCell_same' _ _ _ (by rw [World.cell?_setCell_other _ _ _ _ (by simp), c5]; rfl)
    have bX : Below w.heap.size w ((w2.setCell ⟨w.heap.size, 0, none⟩ (.int .i64 0)).setCell ⟨w.heap.size + 1, 0, none⟩ (.int .i64 q)) := bset (bset (btr (bal (bal (bal (bz _) _) _) _) HB2.out) (Nat.le_refl _) _) (by simp) _
    generalize World.setCell _ _ _ = X at *
    exact bodyPost_ret (results_cell2 rfl rfl rfl (by go_simp) (by go_simp)) rfl ⟨rfl, bX⟩
end Go.Proofs.Ytooddicegkiiiaa
