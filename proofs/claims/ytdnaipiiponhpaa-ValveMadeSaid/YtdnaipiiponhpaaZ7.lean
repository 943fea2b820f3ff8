/- The document's Cut and Mirror. -/
import Derived.Test.YtdnaipiiponhpaaZ6
namespace Go.Proofs.Ytdnaipiiponhpaa
open Go.RowKit Go.Shelf

set_option maxRecDepth 100000 in
set_option maxHeartbeats 4000000 in
theorem rmirror_any (p : Int) (x : Value) (V : List (Int × Int)) (w : World) (hx0 : RdP w x V) (hl : V.length ≤ 1000) :
    Calls Try.prog 42 #[.agg #[.int .i64 p, x]] w fun e w' => ∃ v, e = .returned (.tuple #[.agg #[.int .i64 (cutP p V), v], .int .i64 (checkR p V)]) ∧ RdP w' v (mirrorL p V) ∧ Below w.heap.size w w' := by
  have hsz : (Try.prog.info? 24).map (·.size) = some 2 := by kernel_rfl
  have HSZ := Lib.hid hsz; clear hsz
  obtain ⟨a, ca, rfl, _, _, _⟩ := hx0.form
  unfold cutP mirrorL
  have H0 := Lib.hid fun w1 (hB : Below w.heap.size w w1) => rcheck_any p _ V w1 (hx0.mono hB) hl
  have HB0 : ∀ w2 : World, Below ((w.alloc (.cells #[.int .i64 p, .slice a V.length ca] 24)).alloc (.cells #[.int .i64 0, .slice none 0 0] 24)).heap.size ((w.alloc (.cells #[.int .i64 p, .slice a V.length ca] 24)).alloc (.cells #[.int .i64 0, .slice none 0 0] 24)) w2 →
      w2.cell? ⟨w.heap.size, 0, none⟩ = some (.int .i64 p) ∧ w2.cell? ⟨w.heap.size, 1, none⟩ = some (.slice a V.length ca) ∧ w2.heap[w.heap.size + 1]? = some (.cells #[.int .i64 0, .slice none 0 0] 24 (0, 0)) ∧ Below w.heap.size w w2 := by
    intro w2 hB
    refine ⟨(hB.cell (by simp; omega)).trans (cal _ (cnew rfl rfl)), (hB.cell (by simp; omega)).trans (cal _ (cnew rfl rfl)), (hB.block _ (by simp)).trans ?_, btr (bal (bal (bz _) _) _) hB⟩
    have := heap_alloc_new (w.alloc (.cells #[.int .i64 p, .slice a V.length ca] 24)) (.cells #[.int .i64 0, .slice none 0 0] 24)
    rw [World.size_alloc] at this
    exact this
  have H1 := Lib.hid HB0; clear HB0
  by_cases h : checkR p V = 0
  · obtain ⟨n, rfl, hV⟩ := cond_row h
    rw [if_pos h, if_pos h, h]
    rw [h] at H0
    clear h
    go_enter Try.func42, Try.ntmps42
    go_wp2_with fail
    refine (H0.out _ (bal (bal (bz _) _) _)).mono ?_
    rintro e w2 ⟨rfl, hB2⟩
    obtain ⟨c0, c1, hr, hB3⟩ := H1.out w2 hB2
    have z1 := (Array.getElem?_eq_some_iff.1 hr).1
    have z0 := World.block_lt_of_cell? w2 _ c0
    simp only at z0
    have HR := Lib.hid hr; have HB3 := Lib.hid hB3
    clear hB2 hr hB3
    go_wp2_with fail
    refine (mirrorof_any n _ V w2 (hx0.mono HB3.out) hV).mono ?_
    rintro e w3 ⟨v, rfl, hown, hB4⟩
    obtain ⟨a9, c9, hv⟩ := owns_form hown
    subst hv
    have hr3 := (hB4.block _ z1).trans HR.out
    have HR3 := Lib.hid hr3
    have e0 : w3.cell? ⟨w.heap.size + 1, 0, none⟩ = some (.int .i64 0) := by rw [cell_of_row w3 _ 0 _ _ _ hr3]; rfl
    have e1 : w3.cell? ⟨w.heap.size + 1, 1, none⟩ = some (.slice none 0 0) := by rw [cell_of_row w3 _ 1 _ _ _ hr3]; rfl
    have f0 := frozen_of_row w3 (w.heap.size + 1) 0 _ _ hr3
    have f1 := frozen_of_row w3 (w.heap.size + 1) 1 _ _ hr3
    have hn2 := heap_setCell_same _ _ 1 _ _ (.slice a9 V.length c9) (heap_setCell_same w3 (w.heap.size + 1) 0 _ _ (.int .i64 n) hr3)
    have hown2 := owns_set (owns_set hown z1 0 (.int .i64 n)) z1 1 (.slice a9 V.length c9)
    have HN2 := Lib.hid hn2; have HRD := Lib.hid (RdP.of_owns hown2); have HB5 := Lib.hid (btr HB3.out hB4)
    have z5 : w.heap.size + 1 < w3.heap.size := Nat.lt_of_lt_of_le z1 hB4.size
    clear hown hown2 hn2 hr3 hB4
    go_wp2
    (try simp only [Exit.inBlock, Exit.then])
    refine bodyPost_ret (v := .tuple #[.agg #[.int .i64 n, .slice a9 V.length c9], .int .i64 0]) (results_row_tmp rfl rfl rfl HN2.out Try.underlying24 rfl HSZ.out) rfl ⟨_, rfl, HRD.out, bset (bset HB5.out (by simp) _) (by simp) _⟩
  · rw [if_neg h, if_neg h]
    generalize checkR p V = c at *
    have e0 : (c != 0) = true := by simpa using h
    clear h
    go_enter Try.func42, Try.ntmps42
    go_wp2_with fail
    refine (H0.out _ (bal (bal (bz _) _) _)).mono ?_
    rintro e w2 ⟨rfl, hB2⟩
    obtain ⟨c0, c1, hr, hB3⟩ := H1.out w2 hB2
    have z1 := (Array.getElem?_eq_some_iff.1 hr).1
    have z0 := World.block_lt_of_cell? w2 _ c0
    simp only at z0
    have HR := Lib.hid hr; have HB3 := Lib.hid hB3
    clear hB2 hr hB3
    go_wp2_with fail
    refine (H0.out _ HB3.out).mono ?_
    rintro e w3 ⟨rfl, hB4⟩
    have hr3 := (hB4.block _ z1).trans HR.out
    have e0 : w3.cell? ⟨w.heap.size + 1, 0, none⟩ = some (.int .i64 0) := by rw [cell_of_row w3 _ 0 _ _ _ hr3]; rfl
    have e1 : w3.cell? ⟨w.heap.size + 1, 1, none⟩ = some (.slice none 0 0) := by rw [cell_of_row w3 _ 1 _ _ _ hr3]; rfl
    have f0 := frozen_of_row w3 (w.heap.size + 1) 0 _ _ hr3
    have f1 := frozen_of_row w3 (w.heap.size + 1) 1 _ _ hr3
    have hn2 := heap_setCell_same _ _ 1 _ _ (.slice none 0 0) (heap_setCell_same w3 (w.heap.size + 1) 0 _ _ (.int .i64 0) hr3)
    have HN2 := Lib.hid hn2; have HB5 := Lib.hid (btr HB3.out hB4)
    have z5 : w.heap.size + 1 < w3.heap.size := Nat.lt_of_lt_of_le z1 hB4.size
    clear hn2 hr3 hB4
    go_wp2
    (try simp only [Exit.inBlock, Exit.then])
    refine bodyPost_ret (v := .tuple #[.agg #[.int .i64 0, .slice none 0 0], .int .i64 c]) (results_row_tmp rfl rfl rfl HN2.out Try.underlying24 rfl HSZ.out) rfl ⟨_, rfl, rdP_nil _, bset (bset HB5.out (by simp) _) (by simp) _⟩

set_option maxRecDepth 100000 in
set_option maxHeartbeats 4000000 in
theorem rcut_any (p : Int) (x : Value) (V : List (Int × Int)) (w : World) (hx0 : RdP w x V) (hl : V.length ≤ 1000) :
    Calls Try.prog 35 #[.agg #[.int .i64 p, x]] w fun e w' => ∃ v, e = .returned (.tuple #[.agg #[.int .i64 (cutP p V), v], .int .i64 (checkR p V)]) ∧ RdP w' v (rcutL p V) ∧ Below w.heap.size w w' := by
  have hsz : (Try.prog.info? 24).map (·.size) = some 2 := by kernel_rfl
  have HSZ := Lib.hid hsz; clear hsz
  obtain ⟨a, ca, rfl, _, _, hxf⟩ := hx0.form
  unfold cutP rcutL
  have H0 := Lib.hid fun w1 (hB : Below w.heap.size w w1) => rcheck_any p _ V w1 (hx0.mono hB) hl
  have HB0 : ∀ w2 : World, Below ((w.alloc (.cells #[.int .i64 p, .slice a V.length ca] 24)).alloc (.cells #[.int .i64 0, .slice none 0 0] 24)).heap.size ((w.alloc (.cells #[.int .i64 p, .slice a V.length ca] 24)).alloc (.cells #[.int .i64 0, .slice none 0 0] 24)) w2 →
      w2.cell? ⟨w.heap.size, 0, none⟩ = some (.int .i64 p) ∧ w2.cell? ⟨w.heap.size, 1, none⟩ = some (.slice a V.length ca) ∧ w2.heap[w.heap.size + 1]? = some (.cells #[.int .i64 0, .slice none 0 0] 24 (0, 0)) ∧ Below w.heap.size w w2 := by
    intro w2 hB
    refine ⟨(hB.cell (by simp; omega)).trans (cal _ (cnew rfl rfl)), (hB.cell (by simp; omega)).trans (cal _ (cnew rfl rfl)), (hB.block _ (by simp)).trans ?_, btr (bal (bal (bz _) _) _) hB⟩
    have := heap_alloc_new (w.alloc (.cells #[.int .i64 p, .slice a V.length ca] 24)) (.cells #[.int .i64 0, .slice none 0 0] 24)
    rw [World.size_alloc] at this
    exact this
  have H1 := Lib.hid HB0; clear HB0
  by_cases h : checkR p V = 0
  · obtain ⟨n, rfl, hV⟩ := cond_row h
    rw [if_pos h, if_pos h, h, show ((n : Nat) : Int).toNat = n by omega]
    rw [h] at H0
    clear h
    have h40 := hV.len
    go_enter Try.func35, Try.ntmps35
    go_wp2_with fail
    refine (H0.out _ (bal (bal (bz _) _) _)).mono ?_
    rintro e w2 ⟨rfl, hB2⟩
    obtain ⟨c0, c1, hr, hB3⟩ := H1.out w2 hB2
    have z1 := (Array.getElem?_eq_some_iff.1 hr).1
    have z0 := World.block_lt_of_cell? w2 _ c0
    simp only at z0
    have HR := Lib.hid hr; have HB3 := Lib.hid hB3
    clear hB2 hr hB3
    go_wp2
    go_loopw [5, 15, 16, 17, 18, 19, 20, 21, 22, 23, 24, 25, 26, 27, 28, 29, 30, 31, 32, 33, 34, 35] (fun i _ _ _ _ _ _ _ _ _ _ _ _ _ _ _ _ _ _ _ _ _ wr => ∃ k v, k ≤ V.length ∧ i = .int .i64 (k : Nat) ∧ Below w2.heap.size w2 wr ∧ wr.cell? ⟨w.heap.size, 0, none⟩ = some (.int .i64 n) ∧ wr.cell? ⟨w.heap.size, 1, none⟩ = some (.slice a V.length ca) ∧ SOwn wr w2.heap.size (w2.heap.size + 1) 24 n v (rcutK n V k) ∧ wr.heap[w.heap.size + 1]? = some (.cells #[.int .i64 0, .slice none 0 0] 24 (0, 0))) (fun i _ _ _ _ _ _ _ _ _ _ _ _ _ _ _ _ _ _ _ _ _ _ => V.length - (intOf i).toNat)
    case atStart => exact ⟨0, .slice none 0 0, Nat.zero_le _, rfl, bal (bz _) _, cal _ c0, cal _ c1, SOwn.new w2 24 n, (Below.heap_alloc _ _ _ z1).trans HR.out⟩
    case round =>
      obtain ⟨k, v, hk, rfl, hB, d0, d1, hS, hr⟩ := hrel
      have hww := hB.size
      have HLE := Lib.hid (rcutK_le n V k)
      by_cases hlt : k < V.length
      · obtain ⟨bx, ox, rfl, hbx, hcx⟩ := hxf (by omega)
        have HBW := Lib.hid (btr HB3.out hB)
        have gx := (HBW.out.cell (p := ⟨bx, ox + k * 2, none⟩) hbx).trans (hcx k hlt).1
        have gy := (HBW.out.cell (p := ⟨bx, ox + k * 2 + 1, none⟩) hbx).trans (hcx k hlt).2
        have HST := Lib.hid (rcutK_succ n V k)
        have HS := Lib.hid hS; have HB := Lib.hid hB; have HR2 := Lib.hid hr
        clear hS hB hr hxf hcx c0 c1
        generalize V[k]?.getD (0, 0) = pr at *
        obtain ⟨q1, q2⟩ := pr
        simp only at gx gy
        have zx : bx < wr.heap.size := Nat.lt_of_lt_of_le hbx HBW.out.size
        go_wp2_with fail
        refine (isneedless_any n k _ V _ (hx0.mono HBW.out) hV hlt).mono ?_
        rintro e w4 ⟨rfl, hB4⟩
        have hz4 := hB4.size
        have y0 := (hB4.cell (p := ⟨w.heap.size, 0, none⟩) (by simp; omega)).trans d0
        have y1 := (hB4.cell (p := ⟨w.heap.size, 1, none⟩) (by simp; omega)).trans d1
        have gx4 := (hB4.cell (p := ⟨bx, ox + k * 2, none⟩) zx).trans gx
        have gy4 := (hB4.cell (p := ⟨bx, ox + k * 2 + 1, none⟩) zx).trans gy
        have HR4 := Lib.hid ((hB4.block _ (by omega)).trans HR2.out)
        have HS4 := Lib.hid (HS.out.later hB4); have HB5 := Lib.hid (btr HB.out hB4)
        clear hB4 d0 d1 gx gy HS HB HR2 HBW
        generalize rcutK n V k = L at *
        generalize rneedB n V k = b at *
        have HLN : Hid (L.length ≤ 100) := Lib.hid (by have := HLE.out; omega)
        cases b
        · have zx4 : bx < w4.heap.size := by omega
          have z04 : w.heap.size < w4.heap.size := by omega
          have e1 := HS4.out.c1; have zg := HS4.out.z
          go_wp2
          refine wp_region_flow [] [([0, 1, 2, 3, 4, 5, 6], 7, true), ([], 8, false), ([], 9, false), ([], 10, false)] [] (by kernel_rfl) (by kernel_rfl) ?_
          intro wc hBc hh
          clear hh
          have d0 := (hBc.cell (p := ⟨w.heap.size, 0, none⟩) z04).trans y0
          have d1 := (hBc.cell (p := ⟨w.heap.size, 1, none⟩) z04).trans y1
          have dx := (hBc.cell (p := ⟨bx, ox + k * 2, none⟩) zx4).trans gx4
          have dy := (hBc.cell (p := ⟨bx, ox + k * 2 + 1, none⟩) zx4).trans gy4
          have de := (hBc.cell (p := ⟨w2.heap.size, 1, none⟩) zg).trans e1
          have hzc := hBc.size
          have x0 : w.heap.size < wc.heap.size := by omega
          have x1 : w2.heap.size < wc.heap.size := by omega
          have xx : bx < wc.heap.size := by omega
          have hL := @Later.cell wc
          have HSC := Lib.hid (HS4.out.later hBc)
          have HBC := Lib.hid (btr HB5.out hBc)
          have HRC := Lib.hid ((hBc.block _ (by omega)).trans HR4.out)
          clear y0 y1 gx4 gy4 e1 hBc HS4 HB5 HR4
          simp only [flowP, flow, pickL, List.getElem?_cons_succ, List.getElem?_cons_zero]
          refine wpQuiet_nil ?_
          repeat (go_big_quiet_step (fail))
          refine wpQuiet_nil ?_
          go_wp2
          refine seg_grow ⟨⟨_, bal (bz _) _⟩, rfl⟩ ?_
          refine wpQuiet_nil ?_
          refine wpList_append_pair rfl _ _ rfl HSC.out _ _ rfl rfl (by have := HLN.out; omega) ?_
          intro v' w' hown' hgrow
          obtain ⟨c1', f1', z', hS', hB', a9, c9, hv9⟩ := HSC.out.done hown' hgrow
          have hne : ∀ r, r < w2.heap.size → (w'.setCell ⟨w2.heap.size, 1, none⟩ v').heap[r]? = wc.heap[r]? := fun r hr => (heap_setCell_other w' ⟨w2.heap.size, 1, none⟩ r v' (by simp; omega)).trans ((append_keep (HSC.out.own.alloc _) hgrow (by omega) (by simp; omega)).trans (Below.heap_alloc _ _ _ (by omega)))
          have hB3 := hB' w2 HBC.out (by omega)
          subst hv9
          have HS3 := Lib.hid hS'; have HB3b := Lib.hid hB3
          have xx0 := (World.cell?_of_block (hne w.heap.size (by omega))).trans d0
          have xx1 := (World.cell?_of_block (hne w.heap.size (by omega))).trans d1
          have HR3 := Lib.hid ((hne (w.heap.size + 1) (by omega)).trans HRC.out)
          clear hL d0 d1 dx dy de
          clear hown' hgrow hS' hB' hB3 hne
          go_wp2
          refine seg_write ?_
          refine wpQuiet_nil ?_
          go_wp2
          refine seg_write ?_
          refine wpQuiet_nil ?_
          go_wp2
          refine seg_write ?_
          refine wpQuiet_nil ?_
          refine only_done ?_
          go_wp2
          refine ⟨⟨k + 1, .slice a9 (L.length + 1) c9, by omega, by go_num, HB3b.out, xx0, xx1, by rw [HST.out]; exact HS3.out, HR3.out⟩, by simp [intOf]; omega⟩
        · go_wp2
          exact ⟨⟨k + 1, v, by omega, by go_num, HB5.out, y0, y1, by rw [HST.out]; exact HS4.out, HR4.out⟩, by simp [intOf]; omega⟩
      · obtain rfl : k = V.length := by omega
        obtain ⟨a9, c9, hv9⟩ := hS.form
        subst hv9
        have e0 : wr.cell? ⟨w.heap.size + 1, 0, none⟩ = some (.int .i64 0) := by rw [cell_of_row wr _ 0 _ _ _ hr]; rfl
        have e1 : wr.cell? ⟨w.heap.size + 1, 1, none⟩ = some (.slice none 0 0) := by rw [cell_of_row wr _ 1 _ _ _ hr]; rfl
        have f0 := frozen_of_row wr (w.heap.size + 1) 0 _ _ hr
        have f1 := frozen_of_row wr (w.heap.size + 1) 1 _ _ hr
        have s0 := hS.c0; have s1 := hS.c1; have zg := hS.z
        have z02 : w.heap.size < wr.heap.size := by omega
        have z12 : w.heap.size + 1 < wr.heap.size := by omega
        obtain ⟨hn2, hrd⟩ := hS.out (w.heap.size + 1) hr (by omega)
        have HN2 := Lib.hid hn2; have HRD := Lib.hid hrd; have HB := Lib.hid (btr HB3.out hB)
        clear hS hr hn2 hrd hB hxf
        go_wp2
        (try simp only [Exit.inBlock, Exit.then])
        refine bodyPost_ret (v := .tuple #[.agg #[.int .i64 n, .slice a9 (rcutK n V V.length).length c9], .int .i64 0]) (results_row_tmp rfl rfl rfl HN2.out Try.underlying24 rfl HSZ.out) rfl ⟨_, rfl, HRD.out, bset (bset HB.out (by simp) _) (by simp) _⟩
  · rw [if_neg h, if_neg h]
    generalize checkR p V = c at *
    have e0 : (c != 0) = true := by simpa using h
    clear h hxf
    go_enter Try.func35, Try.ntmps35
    go_wp2_with fail
    refine (H0.out _ (bal (bal (bz _) _) _)).mono ?_
    rintro e w2 ⟨rfl, hB2⟩
    obtain ⟨c0, c1, hr, hB3⟩ := H1.out w2 hB2
    have z1 := (Array.getElem?_eq_some_iff.1 hr).1
    have z0 := World.block_lt_of_cell? w2 _ c0
    simp only at z0
    have HR := Lib.hid hr; have HB3 := Lib.hid hB3
    clear hB2 hr hB3
    go_wp2_with fail
    refine (H0.out _ HB3.out).mono ?_
    rintro e w3 ⟨rfl, hB4⟩
    have hr3 := (hB4.block _ z1).trans HR.out
    have e0 : w3.cell? ⟨w.heap.size + 1, 0, none⟩ = some (.int .i64 0) := by rw [cell_of_row w3 _ 0 _ _ _ hr3]; rfl
    have e1 : w3.cell? ⟨w.heap.size + 1, 1, none⟩ = some (.slice none 0 0) := by rw [cell_of_row w3 _ 1 _ _ _ hr3]; rfl
    have f0 := frozen_of_row w3 (w.heap.size + 1) 0 _ _ hr3
    have f1 := frozen_of_row w3 (w.heap.size + 1) 1 _ _ hr3
    have hn2 := heap_setCell_same _ _ 1 _ _ (.slice none 0 0) (heap_setCell_same w3 (w.heap.size + 1) 0 _ _ (.int .i64 0) hr3)
    have HN2 := Lib.hid hn2; have HB5 := Lib.hid (btr HB3.out hB4)
    have z5 : w.heap.size + 1 < w3.heap.size := Nat.lt_of_lt_of_le z1 hB4.size
    clear hn2 hr3 hB4
    go_wp2
    (try simp only [Exit.inBlock, Exit.then])
    refine bodyPost_ret (v := .tuple #[.agg #[.int .i64 0, .slice none 0 0], .int .i64 c]) (results_row_tmp rfl rfl rfl HN2.out Try.underlying24 rfl HSZ.out) rfl ⟨_, rfl, rdP_nil _, bset (bset HB5.out (by simp) _) (by simp) _⟩
end Go.Proofs.Ytdnaipiiponhpaa
