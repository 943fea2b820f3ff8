/- Sounds of the program. -/
import Derived.Test.YtooddicegkiiiaaK1
namespace Go.Proofs.Ytooddicegkiiiaa
open Go.RowKit Go.Shelf

/-- The pins below k that sound. -/
def sndN (V : List (Int × Int)) (t : Int) (k : Nat) : List Nat := (List.range k).filter fun i => sndB (pin V i) t
def sndK (V : List (Int × Int)) (t : Int) (k : Nat) : List Int := natL (sndN V t k)
theorem sndK_succ (V : List (Int × Int)) (t : Int) (k : Nat) : sndK V t (k + 1) = if sndB (pin V k) t then sndK V t k ++ [(k : Int)] else sndK V t k := by
  unfold sndK sndN natL
  rw [List.range_succ, List.filter_append]
  cases h : sndB (pin V k) t <;> simp [h]
theorem sndK_le (V : List (Int × Int)) (t : Int) (k : Nat) : (sndK V t k).length ≤ k := by
  unfold sndK
  rw [natL_len]
  have := List.length_filter_le (fun i => sndB (pin V i) t) (List.range k)
  simpa [sndN] using this
def sndR (V : List (Int × Int)) (t : Int) : List Int := if openE V [t] = 0 then sndK V t V.length else []
/-- What Sounds returns. -/
def SndOk (V : List (Int × Int)) (t : Int) (w : World) (e : Ending) (w' : World) : Prop := ∃ v, e = .returned (.tuple #[v, .int .i64 (openE V [t])]) ∧ RdI w' .i64 v (sndR V t) ∧ Below w.heap.size w w'

set_option maxRecDepth 100000 in
set_option maxHeartbeats 1000000 in
theorem sounds_any (x : Value) (V : List (Int × Int)) (t : Int) (w : World) (hx0 : RdP w x V) (hl : V.length ≤ 1000) :
    Calls Try.prog 20 #[x, .int .i64 t] w (SndOk V t w) := by
  obtain ⟨a, ca, rfl, hca, hca2, _⟩ := hx0.form
  clear hca2
  unfold SndOk sndR
  by_cases hc : openE V [t] = 0
  · rw [if_pos hc, hc]
    obtain ⟨hc1, hc2⟩ := openE_zero hc
    have hV := okPins_of hc1
    have h5 := hV.l5
    have hft : 0 ≤ t ∧ t ≤ 1000000000000 := by simp [outB] at hc2; omega
    obtain ⟨t0, t1⟩ := hft
    have HO := Lib.hid (fun w' (hx : RdP w' (.slice a V.length ca) V) y hy => open_ok _ y V [t] w' hx hy (by simp) hc)
    clear hc hc1 hc2
    go_enter Try.func20, Try.ntmps20
    go_wp2_with fail
    refine (HO.out _ (hx0.mono (bal (bz _) _)) _ (slice_one w t 2)).mono ?_
    rintro e w2 ⟨b, rfl, hb, hD, hB2⟩
    obtain ⟨x', M, L, c, hb', _, _, _, hx1⟩ := id hD
    have d0 : w2.cell? ⟨b, 0, none⟩ = some x' := by rw [cell_of_row w2 _ 0 _ _ _ hb']; rfl
    have dz := (Array.getElem?_eq_some_iff.1 hb').1
    have HX1 := Lib.hid hx1; have HB2 := Lib.hid hB2
    clear hb' hx1 hD hB2
    go_wp2_with fail
    refine (at_any x' V t _ HX1.out hV.v h5 t0 (by omega)).mono ?_
    rintro e w3 ⟨rfl, hB3⟩
    have HML := Lib.hid (markK_len V t V.length)
    have hz : (Try.prog.info? 78).map (·.size) = some 5 := by kernel_rfl
    have HZ := Lib.hid hz; clear hz
    have HB3 := Lib.hid hB3; clear hB3
    go_wp2_with (refine wpList_store_row rfl 78 (.tmp 8) (.tmp 26) rfl w3.heap.size (arrI (markK V t V.length)) rfl rfl 78 _ (heap_alloc_new _ _) (by rw [arrI_size, HML.out]; exact HZ.out) (by rw [arrI_size, HML.out]; rfl) (one_arr _) ?_)
    generalize hw5 : World.setRow _ _ _ = w5
    have g0 : Below w3.heap.size w3 w5 := by
      rw [← hw5]; exact ⟨rfl, rfl, rfl, by simp, fun r hr => (setRow_other _ _ _ _ (by omega)).trans (Below.heap_alloc _ _ _ hr)⟩
    have g1 : w5.heap[w3.heap.size]? = some (.cells (arrI (markK V t V.length)) 78 (0, 0)) := by rw [← hw5]; exact setRow_heap _ _ _ _ _ _ (heap_alloc_new _ _)
    clear hw5
    have G0 := Lib.hid g0; have G1 := Lib.hid g1; clear g0 g1
    go_loopw [9, 10, 29] (fun o _ i wr => ∃ k : Nat, k ≤ V.length ∧ i = .int .i64 k ∧ Below w5.heap.size w5 wr ∧ wr.ownsRow w5.heap.size 3 1 o (sndK V t k).length ((sndK V t k).map (Value.int .i64))) (fun _ _ i _ => V.length - (intOf i).toNat)
    case atStart => exact ⟨0, Nat.zero_le _, rfl, bz _, World.ownsRow_nil _ _ _ _⟩
    case round =>
      obtain ⟨k, hk, rfl, hB, hor⟩ := hrel
      by_cases hlt : k < V.length
      · have hkl := sndK_le V t k
        have hst := sndK_succ V t k
        have hg5 := (Array.getElem?_eq_some_iff.1 G1.out).1
        have hrow := (hB.block _ hg5).trans G1.out
        have cm := (cell_of_row wr w3.heap.size k _ _ _ hrow).trans (arrI_get _ k (by rw [markK_len]; omega))
        rw [markK_get V t V.length k (by omega)] at cm
        have hk5 : (k : Int) < 5 := by omega
        have hz3 : w3.heap.size < wr.heap.size := Nat.lt_of_lt_of_le hg5 hB.size
        obtain ⟨ao, cap, rfl, hcap, hao⟩ := owns_clip hor
        have HOR := Lib.hid hor; have HB := Lib.hid hB
        clear hor hB hrow
        cases hs : sndB (pin V k) t
        · rw [hs] at cm hst
          rw [if_neg (by simp)] at cm hst
          have HST := Lib.hid hst; clear hst hs
          generalize hnn : (sndK V t k).length = m at *
          have HNN := Lib.hid hnn; clear hnn
          go_wp2_with fail
          go_roundw
          case rel =>
            refine ⟨k + 1, by omega, by go_num, HB.out, ?_⟩
            rw [HST.out, HNN.out]; exact HOR.out
          case measure => simp [intOf]; omega
        · rw [hs] at cm hst
          rw [if_pos ⟨hlt, rfl⟩] at cm
          rw [if_pos rfl] at hst
          have hap := append_clip (wr.alloc (.cells #[.int .i64 k] 3)) ao _ cap (sndK V t k) ((RdI.of_owns HOR.out).mono (bal (bz _) _)) hao (by omega) ⟨wr.heap.size, 0, none⟩ k (cnew rfl rfl)
          obtain ⟨v', hap⟩ := Classical.skolem.1 hap
          obtain ⟨w', hap⟩ := Classical.skolem.1 hap
          have hsl := run_clip ao (sndK V t k).length cap hcap hao
          have hap1 := Lib.hid fun ty => (hap ty).1
          have hap2 := Lib.hid fun ty => (hap ty).2
          have HST := Lib.hid hst
          clear hap hst hs
          generalize hnn : (sndK V t k).length = m at *
          have HNN := Lib.hid hnn; clear hnn
          go_wp2_with (at_builtin; refine wpList_append_eq _ rfl _ _ 25 rfl _ _ rfl rfl (hap1.out _) ?_)
          obtain ⟨h1, h2⟩ := hap2.out 25
          have hB6 : Below w5.heap.size w5 (w' 25) := btr (bal HB.out _) (bgr (bz _) h2 (fun k h => by cases h))
          go_roundw
          case rel =>
            refine ⟨k + 1, by omega, by go_num, hB6, ?_⟩
            rw [HST.out, List.length_append, HNN.out]
            have hb := HB.out.size
            exact owns_base h1 (by simp; omega)
          case measure => simp [intOf]; omega
      · have hkl : k = V.length := by omega
        rw [hkl] at hor
        clear hkl
        have HOR := Lib.hid hor; clear hor
        go_wp2_with fail
        go_ret2
        exact ⟨_, rfl, RdI.of_owns HOR.out, btr (bal (bz _) _) (btr HB2.out (btr HB3.out (btr G0.out hB)))⟩
  · rw [if_neg hc]
    have HO := Lib.hid (fun w' (hx : RdP w' (.slice a V.length ca) V) y hy => open_no _ y V [t] w' hx hy hl (by simp) hc)
    have hcb : (openE V [t] != 0) = true := by simpa using hc
    have hce : (openE V [t] == 0) = false := by simpa using hc
    clear hc
    generalize openE V [t] = q at *
    go_enter Try.func20, Try.ntmps20
    go_wp2_with fail
    refine (HO.out _ (hx0.mono (bal (bz _) _)) _ (slice_one w t 2)).mono ?_
    rintro e w2 ⟨rfl, hB2⟩
    go_wp2_with fail
    go_ret2
    exact ⟨_, rfl, rdI_nil _ _, btr (bal (bz _) _) hB2⟩
end Go.Proofs.Ytooddicegkiiiaa
