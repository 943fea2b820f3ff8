/- ValveKnown holds; no condition. -/
import Derived.Test.YtdnaipiiponhpaaWorks
namespace Go.Proofs.Ytdnaipiiponhpaa
open Go.RowKit Go.Shelf

set_option maxRecDepth 100000 in
set_option maxHeartbeats 6000000 in
theorem known_walk (w : World) : Calls Try.prog 15 #[] w fun e w' => e = .returned (.bool true) ∧ Below w.heap.size w w' := by
  go_enter Try.func15, Try.ntmps15
  have KP0 := Lib.hid (keepB (bz w))
  go_wp2_with fail
  refine (row_lit 4 _ [0, 1, 2, 3, 0, 2, 1, 3, 1, 2] [(0, 1), (2, 3), (0, 2), (1, 3), (1, 2)] _ (rdI_new _ [0, 1, 2, 3, 0, 2, 1, 3, 1, 2] _ (by decide +kernel)) (by decide +kernel) rfl).mono ?_
  rintro e w1 ⟨v, rfl, hRn, hB⟩
  obtain ⟨an, cn, hv⟩ := hRn.ex (5) rfl
  subst hv
  have KP1 := Lib.hid ((KP0.out.up (btr (bal (bz w) _) hB)).and (keepP hRn))
  clear KP0
  clear hRn hB
  go_wp2_with fail
  refine (row_lit 4 _ [0, 1, 2, 3, 0, 2, 1, 3] [(0, 1), (2, 3), (0, 2), (1, 3)] _ (rdI_new _ [0, 1, 2, 3, 0, 2, 1, 3] _ (by decide +kernel)) (by decide +kernel) rfl).mono ?_
  rintro e w2 ⟨v, rfl, hRm, hB⟩
  obtain ⟨am, cm, hv⟩ := hRm.ex (4) rfl
  subst hv
  have KP2 := Lib.hid ((KP1.out.up (btr (bal (bz w1) _) hB)).and (keepP hRm))
  clear KP1
  clear hRm hB
  go_wp2_with fail
  refine (row_lit 3 _ [0, 1, 0, 1, 1, 2] [(0, 1), (0, 1), (1, 2)] _ (rdI_new _ [0, 1, 0, 1, 1, 2] _ (by decide +kernel)) (by decide +kernel) rfl).mono ?_
  rintro e w3 ⟨v, rfl, hRx, hB⟩
  obtain ⟨ax, cx, hv⟩ := hRx.ex (3) rfl
  subst hv
  have KP3 := Lib.hid ((KP2.out.up (btr (bal (bz w2) _) hB)).and (keepP hRx))
  clear KP2
  clear hRx hB
  go_wp2_with fail
  have KP4 := Lib.hid (((((((KP3.out.up (bal (bal (bal (bz w3) _) _) _)).and (keepC (w := (((w3.alloc (.cells #[.int .i64 4, .slice an 5 cn] 24)).alloc (.cells #[.int .i64 4, .slice am 4 cm] 24)).alloc (.cells #[.int .i64 3, .slice ax 3 cx] 24))) (p := ⟨w3.heap.size, 0, none⟩) (cal _ (cal _ (cnew (by simp) rfl))))).and (keepC (w := (((w3.alloc (.cells #[.int .i64 4, .slice an 5 cn] 24)).alloc (.cells #[.int .i64 4, .slice am 4 cm] 24)).alloc (.cells #[.int .i64 3, .slice ax 3 cx] 24))) (p := ⟨w3.heap.size, 1, none⟩) (cal _ (cal _ (cnew (by simp) rfl))))).and (keepC (w := (((w3.alloc (.cells #[.int .i64 4, .slice an 5 cn] 24)).alloc (.cells #[.int .i64 4, .slice am 4 cm] 24)).alloc (.cells #[.int .i64 3, .slice ax 3 cx] 24))) (p := ⟨w3.heap.size + 1, 0, none⟩) (cal _ (cnew (by simp) rfl)))).and (keepC (w := (((w3.alloc (.cells #[.int .i64 4, .slice an 5 cn] 24)).alloc (.cells #[.int .i64 4, .slice am 4 cm] 24)).alloc (.cells #[.int .i64 3, .slice ax 3 cx] 24))) (p := ⟨w3.heap.size + 1, 1, none⟩) (cal _ (cnew (by simp) rfl)))).and (keepC (w := (((w3.alloc (.cells #[.int .i64 4, .slice an 5 cn] 24)).alloc (.cells #[.int .i64 4, .slice am 4 cm] 24)).alloc (.cells #[.int .i64 3, .slice ax 3 cx] 24))) (p := ⟨w3.heap.size + 1 + 1, 0, none⟩) (cnew (by simp) rfl))).and (keepC (w := (((w3.alloc (.cells #[.int .i64 4, .slice an 5 cn] 24)).alloc (.cells #[.int .i64 4, .slice am 4 cm] 24)).alloc (.cells #[.int .i64 3, .slice ax 3 cx] 24))) (p := ⟨w3.heap.size + 1 + 1, 1, none⟩) (cnew (by simp) rfl)))
  clear KP3
  refine wp_region_flow [] [([0], 1, true), ([], 2, true), ([], 3, true)] [4, 5, 7, 6, 8] (by kernel_rfl) (by kernel_rfl) ?_
  intro w4 hB hh
  clear hh
  have KP5 := Lib.hid ((KP4.out.up (btr (bz ((((w3.alloc (.cells #[.int .i64 4, .slice an 5 cn] 24)).alloc (.cells #[.int .i64 4, .slice am 4 cm] 24)).alloc (.cells #[.int .i64 3, .slice ax 3 cx] 24)))) hB)).and (keepB (bz w4)))
  clear KP4
  clear hB
  have hall := KP5.out.here
  have hx1 := hall.2.1
  have hx0 := hall.2.2.1
  have hm1 := hall.2.2.2.1
  have hm0 := hall.2.2.2.2.1
  have hn1 := hall.2.2.2.2.2.1
  have hn0 := hall.2.2.2.2.2.2.1
  clear hall
  have zn := World.block_lt_of_cell? _ _ hn0
  have zm := World.block_lt_of_cell? _ _ hm0
  have zx := World.block_lt_of_cell? _ _ hx0
  simp only at zn zm zx
  have hL := @Later.cell w4
  simp only [flowP, flow, pickL, List.getElem?_cons_succ, List.getElem?_cons_zero]
  refine wpQuiet_nil ?_
  repeat (go_big_quiet_step (fail))
  refine wpQuiet_nil ?_
  go_wp2
  have KP6 := Lib.hid ((KP5.out.up (bal (bz w4) _)).and (keepI (rdI_at w4 [1, 0, 0, 1] 2 (w4.heap.size) (by simp) (by decide +kernel))))
  clear KP5
  have hall := KP6.out.here
  have gSw4 := hall.2.1
  clear hall
  refine seg_grow ⟨⟨_, gSw4⟩, rfl⟩ ?_
  clear gSw4
  repeat (go_big_quiet_step (fail))
  refine wpQuiet_nil ?_
  go_wp2_with fail
  refine (longs_id _ _).mono ?_
  rintro e w' ⟨rfl, rfl⟩
  go_wp2
  have hall := KP6.out.here
  have gSw4 := hall.2.1
  clear hall
  refine seg_grow ⟨⟨_, gSw4⟩, rfl⟩ ?_
  clear gSw4
  repeat (go_big_quiet_step (fail))
  refine wpQuiet_nil ?_
  go_wp2_with fail
  have hall := KP6.out.here
  have glit5 := hall.1
  have gm := hall.2.2.2.2.2.2.2.2.2.1
  clear hall
  refine (run_lit 4 _ _ [(0, 1), (2, 3), (0, 2), (1, 3)] [1, 0, 0, 1] [0, 1, 0, 1] 0 _ gm glit5 (by decide +kernel) (by decide +kernel) (by decide +kernel) (by decide +kernel)).mono ?_
  rintro e w5 ⟨v, rfl, hRl, hB⟩
  obtain ⟨al, cl, hv⟩ := hRl.ex (4) rfl
  subst hv
  have KP7 := Lib.hid ((KP6.out.up (btr (bz ((w4.alloc (.cells (arrI [1, 0, 0, 1]) 2)))) hB)).and (keepI hRl))
  clear KP6
  clear hRl hB
  clear glit5 gm
  go_wp2
  have hall := KP7.out.here
  have gSw4 := hall.2.2.1
  clear hall
  refine seg_grow ⟨⟨_, gSw4⟩, rfl⟩ ?_
  clear gSw4
  repeat (go_big_quiet_step (fail))
  refine wpQuiet_nil ?_
  refine only_done ?_
  clear hx1 hx0 hm1 hm0 hn1 hn0 zn zm zx hL
  go_wp2_with fail
  refine wp_region_flow [] [([0], 1, true), ([], 2, true), ([], 3, true)] [4] (by kernel_rfl) (by kernel_rfl) ?_
  intro w6 hB hh
  clear hh
  have KP8 := Lib.hid ((KP7.out.up (btr (bz w5) hB)).and (keepB (bz w6)))
  clear KP7
  clear hB
  have hall := KP8.out.here
  have hx1 := hall.2.2.2.2.1
  have hx0 := hall.2.2.2.2.2.1
  have hm1 := hall.2.2.2.2.2.2.1
  have hm0 := hall.2.2.2.2.2.2.2.1
  have hn1 := hall.2.2.2.2.2.2.2.2.1
  have hn0 := hall.2.2.2.2.2.2.2.2.2.1
  clear hall
  have zn := World.block_lt_of_cell? _ _ hn0
  have zm := World.block_lt_of_cell? _ _ hm0
  have zx := World.block_lt_of_cell? _ _ hx0
  simp only at zn zm zx
  have hL := @Later.cell w6
  simp only [flowP, flow, pickL, List.getElem?_cons_succ, List.getElem?_cons_zero]
  refine wpQuiet_nil ?_
  repeat (go_big_quiet_step (fail))
  refine wpQuiet_nil ?_
  go_wp2
  have KP9 := Lib.hid ((KP8.out.up (bal (bz w6) _)).and (keepI (rdI_at w6 [0, 2, 0, 1] 3 (w6.heap.size) (by simp) (by decide +kernel))))
  clear KP8
  have hall := KP9.out.here
  have gSw6 := hall.2.1
  clear hall
  refine seg_grow ⟨⟨_, gSw6⟩, rfl⟩ ?_
  clear gSw6
  repeat (go_big_quiet_step (fail))
  refine wpQuiet_nil ?_
  go_wp2_with fail
  refine (of_id _ _).mono ?_
  rintro e w' ⟨rfl, rfl⟩
  go_wp2
  have hall := KP9.out.here
  have gSw6 := hall.2.1
  clear hall
  refine seg_grow ⟨⟨_, gSw6⟩, rfl⟩ ?_
  clear gSw6
  repeat (go_big_quiet_step (fail))
  refine wpQuiet_nil ?_
  go_wp2_with fail
  have hall := KP9.out.here
  have glit8 := hall.1
  have gm := hall.2.2.2.2.2.2.2.2.2.2.2.2.1
  clear hall
  refine (chkpat_lit 4 _ _ [(0, 1), (2, 3), (0, 2), (1, 3)] [0, 2, 0, 1] 3 _ gm glit8 (by decide +kernel) (by decide +kernel) (by decide +kernel)).mono ?_
  rintro e w7 ⟨rfl, hB⟩
  have KP10 := Lib.hid (KP9.out.up (btr (bz ((w6.alloc (.cells (arrI [0, 2, 0, 1]) 3)))) hB))
  clear KP9
  clear hB
  clear glit8 gm
  go_wp2
  have hall := KP10.out.here
  have gSw6 := hall.2.1
  clear hall
  refine seg_grow ⟨⟨_, gSw6⟩, rfl⟩ ?_
  clear gSw6
  repeat (go_big_quiet_step (fail))
  refine wpQuiet_nil ?_
  refine only_done ?_
  clear hx1 hx0 hm1 hm0 hn1 hn0 zn zm zx hL
  have hall := KP10.out.here
  have hx1 := hall.2.2.2.2.2.1
  have hx0 := hall.2.2.2.2.2.2.1
  have hm1 := hall.2.2.2.2.2.2.2.1
  have hm0 := hall.2.2.2.2.2.2.2.2.1
  have hn1 := hall.2.2.2.2.2.2.2.2.2.1
  have hn0 := hall.2.2.2.2.2.2.2.2.2.2.1
  clear hall
  have zn := World.block_lt_of_cell? _ _ hn0
  have zm := World.block_lt_of_cell? _ _ hm0
  have zx := World.block_lt_of_cell? _ _ hx0
  simp only at zn zm zx
  go_wp2_with fail
  clear hx1 hx0 hm1 hm0 hn1 hn0 zn zm zx
  have hall := KP10.out.here
  have gn := hall.2.2.2.2.2.2.2.2.2.2.2.2.2.1
  clear hall
  refine (images_lit 4 _ [(0, 1), (2, 3), (0, 2), (1, 3), (1, 2)] 5 0 _ gn (by decide +kernel) (by decide +kernel) (by decide +kernel)).mono ?_
  rintro e w8 ⟨rfl, hB⟩
  have KP11 := Lib.hid (KP10.out.up (btr (bz w7) hB))
  clear KP10
  clear hB
  clear gn
  have hall := KP11.out.here
  have hx1 := hall.2.2.2.2.2.1
  have hx0 := hall.2.2.2.2.2.2.1
  have hm1 := hall.2.2.2.2.2.2.2.1
  have hm0 := hall.2.2.2.2.2.2.2.2.1
  have hn1 := hall.2.2.2.2.2.2.2.2.2.1
  have hn0 := hall.2.2.2.2.2.2.2.2.2.2.1
  clear hall
  have zn := World.block_lt_of_cell? _ _ hn0
  have zm := World.block_lt_of_cell? _ _ hm0
  have zx := World.block_lt_of_cell? _ _ hx0
  simp only at zn zm zx
  go_wp2_with fail
  clear hx1 hx0 hm1 hm0 hn1 hn0 zn zm zx
  have hall := KP11.out.here
  have gn := hall.2.2.2.2.2.2.2.2.2.2.2.2.2.1
  clear hall
  refine (needless_lit 4 _ [(0, 1), (2, 3), (0, 2), (1, 3), (1, 2)] 0 [] _ gn (by decide +kernel) (by decide +kernel) (by decide +kernel)).mono ?_
  rintro e w9 ⟨v, rfl, hRd, hB⟩
  obtain ⟨ad, cd, hv⟩ := hRd.ex (0) rfl
  subst hv
  have KP12 := Lib.hid ((KP11.out.up (btr (bz w8) hB)).and (keepI hRd))
  clear KP11
  clear hRd hB
  clear gn
  have hall := KP12.out.here
  have hx1 := hall.2.2.2.2.2.2.1
  have hx0 := hall.2.2.2.2.2.2.2.1
  have hm1 := hall.2.2.2.2.2.2.2.2.1
  have hm0 := hall.2.2.2.2.2.2.2.2.2.1
  have hn1 := hall.2.2.2.2.2.2.2.2.2.2.1
  have hn0 := hall.2.2.2.2.2.2.2.2.2.2.2.1
  clear hall
  have zn := World.block_lt_of_cell? _ _ hn0
  have zm := World.block_lt_of_cell? _ _ hm0
  have zx := World.block_lt_of_cell? _ _ hx0
  simp only at zn zm zx
  go_wp2_with fail
  clear hx1 hx0 hm1 hm0 hn1 hn0 zn zm zx
  have hall := KP12.out.here
  have gm := hall.2.2.2.2.2.2.2.2.2.2.2.2.2.1
  clear hall
  refine (ends_lit 4 0 _ [(0, 1), (2, 3), (0, 2), (1, 3)] 0 [0, 1, 2, 3] _ gm (by decide +kernel) (by decide +kernel) (by decide +kernel)).mono ?_
  rintro e w10 ⟨v, rfl, hRe, hB⟩
  obtain ⟨ae, ce, hv⟩ := hRe.ex (4) rfl
  subst hv
  have KP13 := Lib.hid ((KP12.out.up (btr (bz w9) hB)).and (keepI hRe))
  clear KP12
  clear hRe hB
  clear gm
  have hall := KP13.out.here
  have hx1 := hall.2.2.2.2.2.2.2.1
  have hx0 := hall.2.2.2.2.2.2.2.2.1
  have hm1 := hall.2.2.2.2.2.2.2.2.2.1
  have hm0 := hall.2.2.2.2.2.2.2.2.2.2.1
  have hn1 := hall.2.2.2.2.2.2.2.2.2.2.2.1
  have hn0 := hall.2.2.2.2.2.2.2.2.2.2.2.2.1
  clear hall
  have zn := World.block_lt_of_cell? _ _ hn0
  have zm := World.block_lt_of_cell? _ _ hm0
  have zx := World.block_lt_of_cell? _ _ hx0
  simp only at zn zm zx
  go_wp2_with fail
  clear hx1 hx0 hm1 hm0 hn1 hn0 zn zm zx
  have hall := KP13.out.here
  have gx := hall.2.2.2.2.2.2.2.2.2.2.2.2.2.1
  clear hall
  refine (ends_lit 3 3 _ [(0, 1), (0, 1), (1, 2)] 2 [] _ gx (by decide +kernel) (by decide +kernel) (by decide +kernel)).mono ?_
  rintro e w11 ⟨v, rfl, hRf, hB⟩
  obtain ⟨af, cf, hv⟩ := hRf.ex (0) rfl
  subst hv
  have KP14 := Lib.hid ((KP13.out.up (btr (bz w10) hB)).and (keepI hRf))
  clear KP13
  clear hRf hB
  clear gx
  have hall := KP14.out.here
  have hx1 := hall.2.2.2.2.2.2.2.2.1
  have hx0 := hall.2.2.2.2.2.2.2.2.2.1
  have hm1 := hall.2.2.2.2.2.2.2.2.2.2.1
  have hm0 := hall.2.2.2.2.2.2.2.2.2.2.2.1
  have hn1 := hall.2.2.2.2.2.2.2.2.2.2.2.2.1
  have hn0 := hall.2.2.2.2.2.2.2.2.2.2.2.2.2.1
  clear hall
  have zn := World.block_lt_of_cell? _ _ hn0
  have zm := World.block_lt_of_cell? _ _ hm0
  have zx := World.block_lt_of_cell? _ _ hx0
  simp only at zn zm zx
  go_wp2_with fail
  clear hx1 hx0 hm1 hm0 hn1 hn0 zn zm zx
  refine (merge_lit 1 0 1 [] _ (by decide +kernel) (by decide +kernel) (by decide +kernel)).mono ?_
  rintro e w12 ⟨v, rfl, hRg, hB⟩
  obtain ⟨ag, cg, hv⟩ := hRg.ex (0) rfl
  subst hv
  have KP15 := Lib.hid ((KP14.out.up (btr (bz w11) hB)).and (keepP hRg))
  clear KP14
  clear hRg hB
  have hall := KP15.out.here
  have hx1 := hall.2.2.2.2.2.2.2.2.2.1
  have hx0 := hall.2.2.2.2.2.2.2.2.2.2.1
  have hm1 := hall.2.2.2.2.2.2.2.2.2.2.2.1
  have hm0 := hall.2.2.2.2.2.2.2.2.2.2.2.2.1
  have hn1 := hall.2.2.2.2.2.2.2.2.2.2.2.2.2.1
  have hn0 := hall.2.2.2.2.2.2.2.2.2.2.2.2.2.2.1
  clear hall
  have zn := World.block_lt_of_cell? _ _ hn0
  have zm := World.block_lt_of_cell? _ _ hm0
  have zx := World.block_lt_of_cell? _ _ hx0
  simp only at zn zm zx
  go_wp2_with fail
  clear hx1 hx0 hm1 hm0 hn1 hn0 zn zm zx
  have KP16 := Lib.hid (((KP15.out.up (bal (bz w12) _)).and (keepC (w := (w12.alloc (.cells #[.int .i64 1, .slice ag 0 cg] 24))) (p := ⟨w12.heap.size, 0, none⟩) (cnew (by simp) rfl))).and (keepC (w := (w12.alloc (.cells #[.int .i64 1, .slice ag 0 cg] 24))) (p := ⟨w12.heap.size, 1, none⟩) (cnew (by simp) rfl)))
  clear KP15
  refine wp_region_flow [] [([0, 1, 2, 3], 4, true), ([], 5, true), ([], 6, true), ([7, 8, 9, 10, 11, 12, 13, 14, 15, 16, 17, 18, 19, 20, 21, 22, 23, 24, 25, 26, 27, 28, 29, 30, 31, 32, 33, 34], 35, true), ([], 36, true), ([], 37, true), ([38, 39, 40, 41, 42, 43, 44, 45, 46, 47, 48], 49, true), ([], 50, true), ([51, 52], 53, true)] [54, 55] (by kernel_rfl) (by kernel_rfl) ?_
  intro w13 hB hh
  clear hh
  have KP17 := Lib.hid ((KP16.out.up (btr (bz ((w12.alloc (.cells #[.int .i64 1, .slice ag 0 cg] 24)))) hB)).and (keepB (bz w13)))
  clear KP16
  clear hB
  have hall := KP17.out.here
  have hg1 := hall.2.1
  have hg0 := hall.2.2.1
  have hx1 := hall.2.2.2.2.2.2.2.2.2.2.2.2.1
  have hx0 := hall.2.2.2.2.2.2.2.2.2.2.2.2.2.1
  have hm1 := hall.2.2.2.2.2.2.2.2.2.2.2.2.2.2.1
  have hm0 := hall.2.2.2.2.2.2.2.2.2.2.2.2.2.2.2.1
  have hn1 := hall.2.2.2.2.2.2.2.2.2.2.2.2.2.2.2.2.1
  have hn0 := hall.2.2.2.2.2.2.2.2.2.2.2.2.2.2.2.2.2.1
  clear hall
  have zn := World.block_lt_of_cell? _ _ hn0
  have zm := World.block_lt_of_cell? _ _ hm0
  have zx := World.block_lt_of_cell? _ _ hx0
  have zg := World.block_lt_of_cell? _ _ hg0
  simp only at zn zm zx zg
  have hL := @Later.cell w13
  simp only [flowP, flow, pickL, List.getElem?_cons_succ, List.getElem?_cons_zero]
  refine wpQuiet_nil ?_
  repeat (go_big_quiet_step (fail))
  refine wpQuiet_nil ?_
  go_wp2
  have KP18 := Lib.hid ((KP17.out.up (bal (bz w13) _)).and (keepI (rdI_at w13 [0, 1, 0, 1] 2 (w13.heap.size) (by simp) (by decide +kernel))))
  clear KP17
  have hall := KP18.out.here
  have gSw13 := hall.2.1
  clear hall
  refine seg_grow ⟨⟨_, gSw13⟩, rfl⟩ ?_
  clear gSw13
  repeat (go_big_quiet_step (fail))
  refine wpQuiet_nil ?_
  go_wp2_with fail
  refine (longs_id _ _).mono ?_
  rintro e w' ⟨rfl, rfl⟩
  go_wp2
  have hall := KP18.out.here
  have gSw13 := hall.2.1
  clear hall
  refine seg_grow ⟨⟨_, gSw13⟩, rfl⟩ ?_
  clear gSw13
  repeat (go_big_quiet_step (fail))
  refine wpQuiet_nil ?_
  go_wp2_with fail
  have hall := KP18.out.here
  have glit17 := hall.1
  have gl := hall.2.2.2.2.2.2.2.2.2.2.1
  clear hall
  refine (longs_eq _ _ [0, 1, 0, 1] _ gl glit17 (by decide +kernel)).mono ?_
  rintro e w14 ⟨rfl, hB⟩
  have KP19 := Lib.hid (KP18.out.up (btr (bz ((w13.alloc (.cells (arrI [0, 1, 0, 1]) 2)))) hB))
  clear KP18
  clear hB
  clear glit17 gl
  go_wp2
  have hall := KP19.out.here
  have gSw13 := hall.2.1
  clear hall
  refine seg_grow ⟨⟨_, gSw13⟩, rfl⟩ ?_
  clear gSw13
  repeat (go_big_quiet_step (fail))
  refine wpQuiet_nil ?_
  go_wp2
  have KP20 := Lib.hid ((KP19.out.up (bal (bz w14) _)).and (keepI (rdI_at w14 [0, 1, 2, 3] 3 (w14.heap.size) (by simp) (by decide +kernel))))
  clear KP19
  have hall := KP20.out.here
  have gSw13 := hall.2.2.1
  clear hall
  refine seg_grow ⟨⟨_, gSw13⟩, rfl⟩ ?_
  clear gSw13
  repeat (go_big_quiet_step (fail))
  refine wpQuiet_nil ?_
  go_wp2_with fail
  refine (of_id _ _).mono ?_
  rintro e w' ⟨rfl, rfl⟩
  go_wp2
  have hall := KP20.out.here
  have gSw13 := hall.2.2.1
  clear hall
  refine seg_grow ⟨⟨_, gSw13⟩, rfl⟩ ?_
  clear gSw13
  repeat (go_big_quiet_step (fail))
  refine wpQuiet_nil ?_
  go_wp2_with fail
  have hall := KP20.out.here
  have glit19 := hall.1
  have ge := hall.2.2.2.2.2.2.2.1
  clear hall
  refine (ints_eq _ _ [0, 1, 2, 3] _ ge glit19 (by decide +kernel)).mono ?_
  rintro e w15 ⟨rfl, hB⟩
  have KP21 := Lib.hid (KP20.out.up (btr (bz ((w14.alloc (.cells (arrI [0, 1, 2, 3]) 3)))) hB))
  clear KP20
  clear hB
  clear glit19 ge
  go_wp2
  have hall := KP21.out.here
  have gSw13 := hall.2.2.1
  clear hall
  refine seg_grow ⟨⟨_, gSw13⟩, rfl⟩ ?_
  clear gSw13
  repeat (go_big_quiet_step (fail))
  refine wpQuiet_nil ?_
  go_wp2_with fail
  refine (row_lit 1 _ [] [] _ (rdI_nil _ _) (by decide +kernel) rfl).mono ?_
  rintro e w16 ⟨v, rfl, hRrow, hB⟩
  obtain ⟨arow, crow, hv⟩ := hRrow.ex (0) rfl
  subst hv
  have KP22 := Lib.hid ((KP21.out.up (btr (bz w15) hB)).and (keepP hRrow))
  clear KP21
  clear hRrow hB
  go_wp2
  have hall := KP22.out.here
  have gSw13 := hall.2.2.2.1
  clear hall
  refine seg_grow ⟨⟨_, gSw13⟩, rfl⟩ ?_
  clear gSw13
  repeat (go_big_quiet_step (fail))
  refine wpQuiet_nil ?_
  go_wp2_with fail
  have hall := KP22.out.here
  have grow := hall.1
  have gg := hall.2.2.2.2.2.2.1
  clear hall
  refine (same_eq 1 _ _ [] _ gg grow (by decide +kernel)).mono ?_
  rintro e w17 ⟨rfl, hB⟩
  have KP23 := Lib.hid (KP22.out.up (btr (bz w16) hB))
  clear KP22
  clear hB
  clear grow gg
  go_wp2
  have hall := KP23.out.here
  have gSw13 := hall.2.2.2.1
  clear hall
  refine seg_grow ⟨⟨_, gSw13⟩, rfl⟩ ?_
  clear gSw13
  repeat (go_big_quiet_step (fail))
  refine wpQuiet_nil ?_
  go_wp2_with fail
  refine (works_any _).mono ?_
  rintro e w18 ⟨rfl, hB⟩
  have KP24 := Lib.hid (KP23.out.up (btr (bz w17) hB))
  clear KP23
  clear hB
  go_wp2
  have hall := KP24.out.here
  have gSw13 := hall.2.2.2.1
  clear hall
  refine seg_grow ⟨⟨_, gSw13⟩, rfl⟩ ?_
  clear gSw13
  repeat (go_big_quiet_step (fail))
  refine wpQuiet_nil ?_
  refine only_done ?_
  clear hg1 hg0 hx1 hx0 hm1 hm0 hn1 hn0 zn zm zx zg hL
  have hall := KP24.out.here
  have gBelow := hall.2.2.2.2.2.2.2.2.2.2.2.2.2.2.2.2.2.2.2.2.2.2.2.2
  clear hall
  go_wp2
  go_ret
  exact ⟨rfl, gBelow⟩
section
open Go.ChangeShapes Go.WideShapes Go.ChangeAt
set_option maxRecDepth 100000 in
theorem valveKnown_lifted (os : Os) (started : os.Started) (H : Type) (enc : TypeId × Value → H) :
    ReturnsInHanded {} Try.checked os 15 .any (Rows.valveKnownSpec.pre6 enc Try.prog Try.f15 Rows.valveKnownRow.domain false) (Rows.valveKnownSpec.post enc Try.prog Try.f15 false true false false) := by
  refine returnsInHanded_of_change (C := Try.checked) Try.own started (by kernel_rfl) Try.func15
    (ChangeSpec.witness6 (enc := enc) (C := Try.checked) false ⟨#[], #[], []⟩ 8 (by kernel_rfl) (by kernel_rfl) (by kernel_rfl) (by kernel_rfl)) ?_
  intro W base args ds gs before hval0 hW _ _
  have hval : ∀ (j : Nat) t v, Try.f15.params[j]? = some t → args[j]? = some v → Value.okWide Try.prog W .any base t v := hval0
  have hW' := hW
  obtain ⟨p, q, hA0, hV, rfl, hfz, hnd⟩ := hW
  have hA : DataW.TrodAll enc Try.prog W 0 (fun _ => true) true Try.f15.params.toList args.toList ds p := hA0
  have hA2 := hA
  have hlt : ∀ x ∈ p, x.block < W.heap.size := fun x hx => hW'.lt x (List.mem_append_left _ hx)
  rw [Try.params15] at hA hval
  obtain ⟨hargs, rfl, rfl⟩ := trodAll_nil hA
  obtain rfl : args = #[] := by cases args; simp_all
  obtain ⟨rfl, rfl⟩ := trodVars_none hV
  clear hA0 hval0
  simp only [List.append_nil] at hW' hA2
  refine (known_walk W).mono fun e W' ⟨he, hb⟩ => ?_
  subst he
  exact ⟨_, rfl, law_post Try.laidOut Try.underlying4 hW' hA2 rfl rfl rfl rfl rfl (by kernel_rfl) hb⟩
theorem valveKnown_holds : Rows.ValveKnownSaid :=
  OpenClaim.holds_of_wide 15 Try.f15 rfl rfl rfl rfl rfl rfl rfl ⟨rfl, rfl, rfl, rfl, rfl⟩ rfl rfl rfl rfl rfl (by kernel_rfl) Try.func15 (by kernel_rfl)
    (of_decide_eq_true (by kernel_rfl)) (by unfold Func.isWrapper; first | (rw [if_pos (by decide +kernel)]; kernel_rfl) | (rw [if_neg (by decide +kernel)]; exact ⟨rfl, rfl⟩))
    (fun os started H enc _ => valveKnown_lifted os started H enc)
end
end Go.Proofs.Ytdnaipiiponhpaa
