/- Works answers true; the examples' calls at written-out days; no condition. -/
import Derived.Test.YtjajdpggoggoiaaGI
namespace Go.Proofs.Ytjajdpggoggoiaa
open Go.RowKit Go.Shelf

theorem ints_eq (x y : Value) (xs : List Int) (w : World) (hx : RdI w .i64 x xs) (hy : RdI w .i64 y xs) (hl : xs.length ≤ 1000) : Calls Try.prog 25 #[x, y] w fun e w' => e = .returned (.bool true) ∧ Below w.heap.size w w' := by
  have := ints_any x y xs xs w hx hy hl hl
  rwa [decide_eq_true rfl] at this
theorem fetches_lit (R : Int) (x : Value) (W : List Int) (r : Int) (l : List Int) (c : Int) (w : World) (hx : RdI w .i64 x W) (hl : W.length ≤ 1000) (h1 : ruleE R W r = c) (h2 : fetL R W r = l) :
    Calls Try.prog 23 #[.agg #[.int .i64 R, x], .int .i64 r] w fun e w' => ∃ u, e = .returned (.tuple #[u, .int .i64 c]) ∧ RdI w' .i64 u l ∧ Below w.heap.size w w' := by
  subst h1; subst h2; exact fetches_any R x W r w hx hl
theorem plan_lit (R : Int) (x : Value) (W : List Int) (r : Int) (l : List Int) (c : Int) (w : World) (hx : RdI w .i64 x W) (hl : W.length ≤ 1000) (h1 : ruleE R W r = c) (h2 : planL R W r = l) :
    Calls Try.prog 21 #[.agg #[.int .i64 R, x], .int .i64 r] w fun e w' => ∃ u, e = .returned (.tuple #[u, .int .i64 c]) ∧ RdI w' .i64 u l ∧ Below w.heap.size w w' := by
  subst h1; subst h2; exact plan_any R x W r w hx hl
theorem fewest_lit (R : Int) (x : Value) (W : List Int) (m : Int) (w : World) (hx : RdI w .i64 x W) (hl : W.length ≤ 1000) (h1 : checkD R W = 0) (h2 : fetN W (runL R 3 W) W.length = m) :
    Calls Try.prog 26 #[.agg #[.int .i64 R, x]] w fun e w' => e = .returned (.tuple #[.int .i64 m, .int .i64 0]) ∧ Below w.heap.size w w' := by
  have := fewest_any R x W w hx hl
  rw [if_pos h1, h1, few_run (okD_of h1), h2] at this
  exact this
theorem checkplan_any (R : Int) (x y : Value) (W P : List Int) (w : World) (hx : RdI w .i64 x W) (hy : RdI w .i64 y P) (hl : W.length ≤ 1000) (hlp : P.length ≤ 1000) : Calls Try.prog 17 #[.agg #[.int .i64 R, x], y] w (PlanOk R W P w) := by
  by_cases hc : checkD R W = 0
  · exact checkplan_ok R x y W P w hx hy hlp hc
  · exact checkplan_no R x y W P w hx hy hl hc
theorem checkplan_lit (R : Int) (x y : Value) (W P : List Int) (n c : Int) (w : World) (hx : RdI w .i64 x W) (hy : RdI w .i64 y P) (hl : W.length ≤ 1000) (hlp : P.length ≤ 1000) (h : planR R W P = (n, c)) :
    Calls Try.prog 17 #[.agg #[.int .i64 R, x], y] w fun e w' => e = .returned (.tuple #[.int .i64 n, .int .i64 c]) ∧ Below w.heap.size w w' := by
  have := checkplan_any R x y W P w hx hy hl hlp
  unfold PlanOk at this
  rw [h] at this; exact this
theorem checktimes_lit (R : Int) (x y : Value) (W T : List Int) (n c : Int) (w : World) (hx : RdI w .i64 x W) (hy : RdI w .i64 y T) (hl : W.length ≤ 1000) (hlp : T.length ≤ 1000) (h : timesR R W T = (n, c)) :
    Calls Try.prog 28 #[.agg #[.int .i64 R, x], y] w fun e w' => e = .returned (.tuple #[.int .i64 n, .int .i64 c]) ∧ Below w.heap.size w w' := by
  have := checktimes_any R x y W T w hx hy hl hlp
  unfold TimesOk at this
  rw [h] at this; exact this
theorem rchecktimes_lit (R : Int) (x y : Value) (W T : List Int) (n c : Int) (w : World) (hx : RdI w .i64 x W) (hy : RdI w .i64 y T) (hl : W.length ≤ 1000) (hlp : T.length ≤ 1000) (h : timesR R W T = (n, c)) :
    Calls Try.prog 29 #[.agg #[.int .i64 R, x], y] w fun e w' => e = .returned (.tuple #[.int .i64 n, .int .i64 c]) ∧ Below w.heap.size w w' := by
  have := rchecktimes_any R x y W T w hx hy hl hlp
  unfold TimesOk at this
  rw [h] at this; exact this
theorem times_lit (R : Int) (x : Value) (W l : List Int) (c : Int) (w : World) (hx : RdI w .i64 x W) (hl : W.length ≤ 1000) (h1 : checkD R W = c) (h2 : timsL R W = l) :
    Calls Try.prog 30 #[.agg #[.int .i64 R, x]] w fun e w' => ∃ u, e = .returned (.tuple #[u, .int .i64 c]) ∧ RdI w' .i64 u l ∧ Below w.heap.size w w' := by
  subst h1; subst h2; exact ptimes_any R x W w hx hl
theorem kind_lit (R : Int) (x : Value) (W : List Int) (p n c : Int) (w : World) (hx : RdI w .i64 x W) (hl : W.length ≤ 1000) (h : kindR R W p = (n, c)) :
    Calls Try.prog 31 #[.agg #[.int .i64 R, x], .int .i64 p] w fun e w' => e = .returned (.tuple #[.int .i64 n, .int .i64 c]) ∧ Below w.heap.size w w' := by
  have := pkind_any R x W p w hx hl
  rw [h] at this; exact this
theorem depths_lit (R : Int) (x : Value) (W l : List Int) (c : Int) (w : World) (hx : RdI w .i64 x W) (hl : W.length ≤ 1000) (h1 : checkD R W = c) (h2 : dpsL R W = l) :
    Calls Try.prog 33 #[.agg #[.int .i64 R, x]] w fun e w' => ∃ u, e = .returned (.tuple #[u, .int .i64 c]) ∧ RdI w' .i64 u l ∧ Below w.heap.size w w' := by
  subst h1; subst h2; exact depths_any R x W w hx hl
theorem day_lit (R : Int) (w : World) : Calls Try.prog 40 #[.int .i64 R] w fun e w' => ∃ v, e = .returned (.agg #[.int .i64 R, v]) ∧ RdI w' .i64 v D12 ∧ Below w.heap.size w w' := day_any R w
set_option maxRecDepth 100000 in
set_option maxHeartbeats 16000000 in
theorem works_any (w : World) : Calls Try.prog 16 #[] w fun e w' => e = .returned (.bool true) ∧ Below w.heap.size w w' := by
  go_enter Try.func16, Try.ntmps16
  have KP0 := Lib.hid (keepB (bz w))
  have hall := KP0.out.here
  clear hall
  go_wp2_with fail
  refine (day_lit 3 _).mono ?_
  rintro e w1 ⟨v, rfl, hRd, hB⟩
  obtain ⟨ad, cd, hv⟩ := hRd.ex (12) rfl
  subst hv
  have KP1 := Lib.hid ((KP0.out.up (btr (bz w) hB)).and (keepI hRd))
  clear KP0
  clear hRd hB
  have hall := KP1.out.here
  clear hall
  go_wp2_with fail
  refine (day_lit 4 _).mono ?_
  rintro e w2 ⟨v, rfl, hRe, hB⟩
  obtain ⟨ae, ce, hv⟩ := hRe.ex (12) rfl
  subst hv
  have KP2 := Lib.hid ((KP1.out.up (btr (bz w1) hB)).and (keepI hRe))
  clear KP1
  clear hRe hB
  go_wp2_with fail
  have KP3 := Lib.hid (((KP2.out.up (bal (bz w2) _)).and (keepC (w := (w2.alloc (.cells #[.int .i64 3, .slice ad 12 cd] 24))) (p := ⟨w2.heap.size, 0, none⟩) (v := .int .i64 3) (cnew (by simp) rfl))).and (keepC (w := (w2.alloc (.cells #[.int .i64 3, .slice ad 12 cd] 24))) (p := ⟨w2.heap.size, 1, none⟩) (v := .slice ad 12 cd) (cnew (by simp) rfl)))
  clear KP2
  have KP4 := Lib.hid (((KP3.out.up (bal (bz ((w2.alloc (.cells #[.int .i64 3, .slice ad 12 cd] 24)))) _)).and (keepC (w := ((w2.alloc (.cells #[.int .i64 3, .slice ad 12 cd] 24)).alloc (.cells #[.int .i64 4, .slice ae 12 ce] 24))) (p := ⟨w2.heap.size + 1, 0, none⟩) (v := .int .i64 4) (cnew (by simp) rfl))).and (keepC (w := ((w2.alloc (.cells #[.int .i64 3, .slice ad 12 cd] 24)).alloc (.cells #[.int .i64 4, .slice ae 12 ce] 24))) (p := ⟨w2.heap.size + 1, 1, none⟩) (v := .slice ae 12 ce) (cnew (by simp) rfl)))
  clear KP3
  have hall := KP4.out.here
  have gd := hall.2.2.2.2.2.1
  clear hall
  refine (fetches_lit 3 _ D12 1 [0, 1, 2, 3, 4, 5, 6, 9, 10] 0 _ gd (by decide +kernel) (by decide +kernel) (by decide +kernel)).mono ?_
  rintro e w3 ⟨v, rfl, hRa, hB⟩
  obtain ⟨aa, ca, hv⟩ := hRa.ex (9) rfl
  subst hv
  have KP5 := Lib.hid ((KP4.out.up (btr (bz (((w2.alloc (.cells #[.int .i64 3, .slice ad 12 cd] 24)).alloc (.cells #[.int .i64 4, .slice ae 12 ce] 24)))) hB)).and (keepI hRa))
  clear KP4
  clear hRa hB
  clear gd
  have hall := KP5.out.here
  have he1 := hall.2.1
  have he0 := hall.2.2.1
  have hd1 := hall.2.2.2.1
  have hd0 := hall.2.2.2.2.1
  clear hall
  have zd := World.block_lt_of_cell? _ _ hd0
  have ze := World.block_lt_of_cell? _ _ he0
  simp only at zd ze
  go_wp2_with fail
  clear he1 he0 hd1 hd0 zd ze
  have hall := KP5.out.here
  have gd := hall.2.2.2.2.2.2.1
  clear hall
  refine (fetches_lit 3 _ D12 2 [0, 1, 2, 3, 4, 5, 6, 9, 10, 11] 0 _ gd (by decide +kernel) (by decide +kernel) (by decide +kernel)).mono ?_
  rintro e w4 ⟨v, rfl, hRb, hB⟩
  obtain ⟨ab, cb, hv⟩ := hRb.ex (10) rfl
  subst hv
  have KP6 := Lib.hid ((KP5.out.up (btr (bz w3) hB)).and (keepI hRb))
  clear KP5
  clear hRb hB
  clear gd
  have hall := KP6.out.here
  have he1 := hall.2.2.1
  have he0 := hall.2.2.2.1
  have hd1 := hall.2.2.2.2.1
  have hd0 := hall.2.2.2.2.2.1
  clear hall
  have zd := World.block_lt_of_cell? _ _ hd0
  have ze := World.block_lt_of_cell? _ _ he0
  simp only at zd ze
  go_wp2_with fail
  clear he1 he0 hd1 hd0 zd ze
  have hall := KP6.out.here
  have gd := hall.2.2.2.2.2.2.2.1
  clear hall
  refine (plan_lit 3 _ D12 3 [0, 0, 0, 3, 0, 0, 4, 0, 0, 1, 2, 0] 0 _ gd (by decide +kernel) (by decide +kernel) (by decide +kernel)).mono ?_
  rintro e w5 ⟨v, rfl, hRc, hB⟩
  obtain ⟨ac, cc, hv⟩ := hRc.ex (12) rfl
  subst hv
  have KP7 := Lib.hid ((KP6.out.up (btr (bz w4) hB)).and (keepI hRc))
  clear KP6
  clear hRc hB
  clear gd
  have hall := KP7.out.here
  have he1 := hall.2.2.2.1
  have he0 := hall.2.2.2.2.1
  have hd1 := hall.2.2.2.2.2.1
  have hd0 := hall.2.2.2.2.2.2.1
  clear hall
  have zd := World.block_lt_of_cell? _ _ hd0
  have ze := World.block_lt_of_cell? _ _ he0
  simp only at zd ze
  go_wp2_with fail
  clear he1 he0 hd1 hd0 zd ze
  have hall := KP7.out.here
  have gd := hall.2.2.2.2.2.2.2.2.1
  clear hall
  refine (fetches_lit 3 _ D12 4 [] 2 _ gd (by decide +kernel) (by decide +kernel) (by decide +kernel)).mono ?_
  rintro e w6 ⟨v, rfl, hRf4, hB⟩
  obtain ⟨af4, cf4, hv⟩ := hRf4.ex (0) rfl
  subst hv
  have KP8 := Lib.hid ((KP7.out.up (btr (bz w5) hB)).and (keepI hRf4))
  clear KP7
  clear hRf4 hB
  clear gd
  have hall := KP8.out.here
  have he1 := hall.2.2.2.2.1
  have he0 := hall.2.2.2.2.2.1
  have hd1 := hall.2.2.2.2.2.2.1
  have hd0 := hall.2.2.2.2.2.2.2.1
  clear hall
  have zd := World.block_lt_of_cell? _ _ hd0
  have ze := World.block_lt_of_cell? _ _ he0
  simp only at zd ze
  go_wp2_with fail
  clear he1 he0 hd1 hd0 zd ze
  have hall := KP8.out.here
  have ge := hall.2.2.2.2.2.2.2.2.1
  clear hall
  refine (fetches_lit 4 _ D12 1 [0, 1, 2, 3, 6, 7, 8, 9, 10, 11] 0 _ ge (by decide +kernel) (by decide +kernel) (by decide +kernel)).mono ?_
  rintro e w7 ⟨v, rfl, hRf, hB⟩
  obtain ⟨af, cf, hv⟩ := hRf.ex (10) rfl
  subst hv
  have KP9 := Lib.hid ((KP8.out.up (btr (bz w6) hB)).and (keepI hRf))
  clear KP8
  clear hRf hB
  clear ge
  have hall := KP9.out.here
  have he1 := hall.2.2.2.2.2.1
  have he0 := hall.2.2.2.2.2.2.1
  have hd1 := hall.2.2.2.2.2.2.2.1
  have hd0 := hall.2.2.2.2.2.2.2.2.1
  clear hall
  have zd := World.block_lt_of_cell? _ _ hd0
  have ze := World.block_lt_of_cell? _ _ he0
  simp only at zd ze
  go_wp2_with fail
  clear he1 he0 hd1 hd0 zd ze
  have hall := KP9.out.here
  have gd := hall.2.2.2.2.2.2.2.2.2.2.1
  clear hall
  refine (fewest_lit 3 _ D12 7 _ gd (by decide +kernel) (by decide +kernel) (by decide +kernel)).mono ?_
  rintro e w8 ⟨rfl, hB⟩
  have KP10 := Lib.hid (KP9.out.up (btr (bz w7) hB))
  clear KP9
  clear hB
  clear gd
  have hall := KP10.out.here
  have he1 := hall.2.2.2.2.2.1
  have he0 := hall.2.2.2.2.2.2.1
  have hd1 := hall.2.2.2.2.2.2.2.1
  have hd0 := hall.2.2.2.2.2.2.2.2.1
  clear hall
  have zd := World.block_lt_of_cell? _ _ hd0
  have ze := World.block_lt_of_cell? _ _ he0
  simp only at zd ze
  go_wp2_with fail
  clear he1 he0 hd1 hd0 zd ze
  have hall := KP10.out.here
  have ge := hall.2.2.2.2.2.2.2.2.2.1
  clear hall
  refine (fewest_lit 4 _ D12 6 _ ge (by decide +kernel) (by decide +kernel) (by decide +kernel)).mono ?_
  rintro e w9 ⟨rfl, hB⟩
  have KP11 := Lib.hid (KP10.out.up (btr (bz w8) hB))
  clear KP10
  clear hB
  clear ge
  have hall := KP11.out.here
  have he1 := hall.2.2.2.2.2.1
  have he0 := hall.2.2.2.2.2.2.1
  have hd1 := hall.2.2.2.2.2.2.2.1
  have hd0 := hall.2.2.2.2.2.2.2.2.1
  clear hall
  have zd := World.block_lt_of_cell? _ _ hd0
  have ze := World.block_lt_of_cell? _ _ he0
  simp only at zd ze
  go_wp2_with fail
  clear he1 he0 hd1 hd0 zd ze
  refine wp_region_flow [] [([0], 1, true), ([], 2, true), ([], 3, true)] [4, 5, 6, 7, 8] (by kernel_rfl) (by kernel_rfl) ?_
  intro w10 hB hh
  clear hh
  have KP12 := Lib.hid ((KP11.out.up (btr (bz w9) hB)).and (keepB (bz w10)))
  clear KP11
  clear hB
  have hall := KP12.out.here
  have he1 := hall.2.2.2.2.2.2.1
  have he0 := hall.2.2.2.2.2.2.2.1
  have hd1 := hall.2.2.2.2.2.2.2.2.1
  have hd0 := hall.2.2.2.2.2.2.2.2.2.1
  clear hall
  have zd := World.block_lt_of_cell? _ _ hd0
  have ze := World.block_lt_of_cell? _ _ he0
  simp only at zd ze
  have hL := @Later.cell w10
  simp only [flowP, flow, pickL, List.getElem?_cons_succ, List.getElem?_cons_zero]
  refine wpQuiet_nil ?_
  repeat (go_big_quiet_step (fail))
  refine wpQuiet_nil ?_
  go_wp2
  have KP13 := Lib.hid ((KP12.out.up (bal (bz w10) _)).and (keepI (rdI_at w10 [0, 0, 0, 3, 0, 0, 4, 0, 0, 2, 1, 0] 3 (w10.heap.size) (by simp) (by decide +kernel))))
  clear KP12
  have hall := KP13.out.here
  have gSw10 := hall.2.1
  clear hall
  refine seg_grow ⟨⟨_, gSw10⟩, rfl⟩ ?_
  clear gSw10
  repeat (go_big_quiet_step (fail))
  refine wpQuiet_nil ?_
  go_wp2_with fail
  refine (of_id _ _).mono ?_
  rintro e w' ⟨rfl, rfl⟩
  go_wp2
  have hall := KP13.out.here
  have gSw10 := hall.2.1
  clear hall
  refine seg_grow ⟨⟨_, gSw10⟩, rfl⟩ ?_
  clear gSw10
  repeat (go_big_quiet_step (fail))
  refine wpQuiet_nil ?_
  go_wp2_with fail
  have hall := KP13.out.here
  have glit12 := hall.1
  have gd := hall.2.2.2.2.2.2.2.2.2.2.2.2.1
  clear hall
  refine (checkplan_lit 3 _ _ D12 [0, 0, 0, 3, 0, 0, 4, 0, 0, 2, 1, 0] 7 0 _ gd glit12 (by decide +kernel) (by decide +kernel) (by decide +kernel)).mono ?_
  rintro e w11 ⟨rfl, hB⟩
  have KP14 := Lib.hid (KP13.out.up (btr (bz ((w10.alloc (.cells (arrI [0, 0, 0, 3, 0, 0, 4, 0, 0, 2, 1, 0]) 3)))) hB))
  clear KP13
  clear hB
  clear glit12 gd
  go_wp2
  have hall := KP14.out.here
  have gSw10 := hall.2.1
  clear hall
  refine seg_grow ⟨⟨_, gSw10⟩, rfl⟩ ?_
  clear gSw10
  repeat (go_big_quiet_step (fail))
  refine wpQuiet_nil ?_
  refine only_done ?_
  clear he1 he0 hd1 hd0 zd ze hL
  have hall := KP14.out.here
  have he1 := hall.2.2.2.2.2.2.2.1
  have he0 := hall.2.2.2.2.2.2.2.2.1
  have hd1 := hall.2.2.2.2.2.2.2.2.2.1
  have hd0 := hall.2.2.2.2.2.2.2.2.2.2.1
  clear hall
  have zd := World.block_lt_of_cell? _ _ hd0
  have ze := World.block_lt_of_cell? _ _ he0
  simp only at zd ze
  go_wp2_with fail
  clear he1 he0 hd1 hd0 zd ze
  refine wp_region_flow [] [([0], 1, true), ([], 2, true), ([], 3, true)] [4, 5, 6, 7, 8] (by kernel_rfl) (by kernel_rfl) ?_
  intro w12 hB hh
  clear hh
  have KP15 := Lib.hid ((KP14.out.up (btr (bz w11) hB)).and (keepB (bz w12)))
  clear KP14
  clear hB
  have hall := KP15.out.here
  have he1 := hall.2.2.2.2.2.2.2.2.1
  have he0 := hall.2.2.2.2.2.2.2.2.2.1
  have hd1 := hall.2.2.2.2.2.2.2.2.2.2.1
  have hd0 := hall.2.2.2.2.2.2.2.2.2.2.2.1
  clear hall
  have zd := World.block_lt_of_cell? _ _ hd0
  have ze := World.block_lt_of_cell? _ _ he0
  simp only at zd ze
  have hL := @Later.cell w12
  simp only [flowP, flow, pickL, List.getElem?_cons_succ, List.getElem?_cons_zero]
  refine wpQuiet_nil ?_
  repeat (go_big_quiet_step (fail))
  refine wpQuiet_nil ?_
  go_wp2
  have KP16 := Lib.hid ((KP15.out.up (bal (bz w12) _)).and (keepI (rdI_at w12 [0, 0, 0, 5, 0, 0, 4, 0, 0, 1, 2, 0] 3 (w12.heap.size) (by simp) (by decide +kernel))))
  clear KP15
  have hall := KP16.out.here
  have gSw12 := hall.2.1
  clear hall
  refine seg_grow ⟨⟨_, gSw12⟩, rfl⟩ ?_
  clear gSw12
  repeat (go_big_quiet_step (fail))
  refine wpQuiet_nil ?_
  go_wp2_with fail
  refine (of_id _ _).mono ?_
  rintro e w' ⟨rfl, rfl⟩
  go_wp2
  have hall := KP16.out.here
  have gSw12 := hall.2.1
  clear hall
  refine seg_grow ⟨⟨_, gSw12⟩, rfl⟩ ?_
  clear gSw12
  repeat (go_big_quiet_step (fail))
  refine wpQuiet_nil ?_
  go_wp2_with fail
  have hall := KP16.out.here
  have glit15 := hall.1
  have gd := hall.2.2.2.2.2.2.2.2.2.2.2.2.2.2.1
  clear hall
  refine (checkplan_lit 3 _ _ D12 [0, 0, 0, 5, 0, 0, 4, 0, 0, 1, 2, 0] 0 18 _ gd glit15 (by decide +kernel) (by decide +kernel) (by decide +kernel)).mono ?_
  rintro e w13 ⟨rfl, hB⟩
  have KP17 := Lib.hid (KP16.out.up (btr (bz ((w12.alloc (.cells (arrI [0, 0, 0, 5, 0, 0, 4, 0, 0, 1, 2, 0]) 3)))) hB))
  clear KP16
  clear hB
  clear glit15 gd
  go_wp2
  have hall := KP17.out.here
  have gSw12 := hall.2.1
  clear hall
  refine seg_grow ⟨⟨_, gSw12⟩, rfl⟩ ?_
  clear gSw12
  repeat (go_big_quiet_step (fail))
  refine wpQuiet_nil ?_
  refine only_done ?_
  clear he1 he0 hd1 hd0 zd ze hL
  have hall := KP17.out.here
  have he1 := hall.2.2.2.2.2.2.2.2.2.1
  have he0 := hall.2.2.2.2.2.2.2.2.2.2.1
  have hd1 := hall.2.2.2.2.2.2.2.2.2.2.2.1
  have hd0 := hall.2.2.2.2.2.2.2.2.2.2.2.2.1
  clear hall
  have zd := World.block_lt_of_cell? _ _ hd0
  have ze := World.block_lt_of_cell? _ _ he0
  simp only at zd ze
  go_wp2_with fail
  clear he1 he0 hd1 hd0 zd ze
  refine wp_region_flow [] [([0], 1, true), ([], 2, true), ([], 3, true)] [4, 5, 6, 7, 8] (by kernel_rfl) (by kernel_rfl) ?_
  intro w14 hB hh
  clear hh
  have KP18 := Lib.hid ((KP17.out.up (btr (bz w13) hB)).and (keepB (bz w14)))
  clear KP17
  clear hB
  have hall := KP18.out.here
  have he1 := hall.2.2.2.2.2.2.2.2.2.2.1
  have he0 := hall.2.2.2.2.2.2.2.2.2.2.2.1
  have hd1 := hall.2.2.2.2.2.2.2.2.2.2.2.2.1
  have hd0 := hall.2.2.2.2.2.2.2.2.2.2.2.2.2.1
  clear hall
  have zd := World.block_lt_of_cell? _ _ hd0
  have ze := World.block_lt_of_cell? _ _ he0
  simp only at zd ze
  have hL := @Later.cell w14
  simp only [flowP, flow, pickL, List.getElem?_cons_succ, List.getElem?_cons_zero]
  refine wpQuiet_nil ?_
  repeat (go_big_quiet_step (fail))
  refine wpQuiet_nil ?_
  go_wp2
  have KP19 := Lib.hid ((KP18.out.up (bal (bz w14) _)).and (keepI (rdI_at w14 [0, 0, 0, 3, 1, 0, 4, 0, 0, 1, 2, 0] 3 (w14.heap.size) (by simp) (by decide +kernel))))
  clear KP18
  have hall := KP19.out.here
  have gSw14 := hall.2.1
  clear hall
  refine seg_grow ⟨⟨_, gSw14⟩, rfl⟩ ?_
  clear gSw14
  repeat (go_big_quiet_step (fail))
  refine wpQuiet_nil ?_
  go_wp2_with fail
  refine (of_id _ _).mono ?_
  rintro e w' ⟨rfl, rfl⟩
  go_wp2
  have hall := KP19.out.here
  have gSw14 := hall.2.1
  clear hall
  refine seg_grow ⟨⟨_, gSw14⟩, rfl⟩ ?_
  clear gSw14
  repeat (go_big_quiet_step (fail))
  refine wpQuiet_nil ?_
  go_wp2_with fail
  have hall := KP19.out.here
  have glit18 := hall.1
  have gd := hall.2.2.2.2.2.2.2.2.2.2.2.2.2.2.2.2.1
  clear hall
  refine (checkplan_lit 3 _ _ D12 [0, 0, 0, 3, 1, 0, 4, 0, 0, 1, 2, 0] 0 16 _ gd glit18 (by decide +kernel) (by decide +kernel) (by decide +kernel)).mono ?_
  rintro e w15 ⟨rfl, hB⟩
  have KP20 := Lib.hid (KP19.out.up (btr (bz ((w14.alloc (.cells (arrI [0, 0, 0, 3, 1, 0, 4, 0, 0, 1, 2, 0]) 3)))) hB))
  clear KP19
  clear hB
  clear glit18 gd
  go_wp2
  have hall := KP20.out.here
  have gSw14 := hall.2.1
  clear hall
  refine seg_grow ⟨⟨_, gSw14⟩, rfl⟩ ?_
  clear gSw14
  repeat (go_big_quiet_step (fail))
  refine wpQuiet_nil ?_
  refine only_done ?_
  clear he1 he0 hd1 hd0 zd ze hL
  have hall := KP20.out.here
  have he1 := hall.2.2.2.2.2.2.2.2.2.2.2.1
  have he0 := hall.2.2.2.2.2.2.2.2.2.2.2.2.1
  have hd1 := hall.2.2.2.2.2.2.2.2.2.2.2.2.2.1
  have hd0 := hall.2.2.2.2.2.2.2.2.2.2.2.2.2.2.1
  clear hall
  have zd := World.block_lt_of_cell? _ _ hd0
  have ze := World.block_lt_of_cell? _ _ he0
  simp only at zd ze
  go_wp2_with fail
  clear he1 he0 hd1 hd0 zd ze
  refine wp_region_flow [] [([0], 1, true), ([], 2, true), ([], 3, true)] [4, 5, 6, 7, 8] (by kernel_rfl) (by kernel_rfl) ?_
  intro w16 hB hh
  clear hh
  have KP21 := Lib.hid ((KP20.out.up (btr (bz w15) hB)).and (keepB (bz w16)))
  clear KP20
  clear hB
  have hall := KP21.out.here
  have he1 := hall.2.2.2.2.2.2.2.2.2.2.2.2.1
  have he0 := hall.2.2.2.2.2.2.2.2.2.2.2.2.2.1
  have hd1 := hall.2.2.2.2.2.2.2.2.2.2.2.2.2.2.1
  have hd0 := hall.2.2.2.2.2.2.2.2.2.2.2.2.2.2.2.1
  clear hall
  have zd := World.block_lt_of_cell? _ _ hd0
  have ze := World.block_lt_of_cell? _ _ he0
  simp only at zd ze
  have hL := @Later.cell w16
  simp only [flowP, flow, pickL, List.getElem?_cons_succ, List.getElem?_cons_zero]
  refine wpQuiet_nil ?_
  repeat (go_big_quiet_step (fail))
  refine wpQuiet_nil ?_
  go_wp2
  have KP22 := Lib.hid ((KP21.out.up (bal (bz w16) _)).and (keepI (rdI_at w16 [6] 3 (w16.heap.size) (by simp) (by decide +kernel))))
  clear KP21
  have hall := KP22.out.here
  have gSw16 := hall.2.1
  clear hall
  refine seg_grow ⟨⟨_, gSw16⟩, rfl⟩ ?_
  clear gSw16
  repeat (go_big_quiet_step (fail))
  refine wpQuiet_nil ?_
  go_wp2_with fail
  refine (of_id _ _).mono ?_
  rintro e w' ⟨rfl, rfl⟩
  go_wp2
  have hall := KP22.out.here
  have gSw16 := hall.2.1
  clear hall
  refine seg_grow ⟨⟨_, gSw16⟩, rfl⟩ ?_
  clear gSw16
  repeat (go_big_quiet_step (fail))
  refine wpQuiet_nil ?_
  go_wp2_with fail
  have hall := KP22.out.here
  have glit21 := hall.1
  have gd := hall.2.2.2.2.2.2.2.2.2.2.2.2.2.2.2.2.2.2.1
  clear hall
  refine (checktimes_lit 3 _ _ D12 [6] 7 0 _ gd glit21 (by decide +kernel) (by decide +kernel) (by decide +kernel)).mono ?_
  rintro e w17 ⟨rfl, hB⟩
  have KP23 := Lib.hid (KP22.out.up (btr (bz ((w16.alloc (.cells (arrI [6]) 3)))) hB))
  clear KP22
  clear hB
  clear glit21 gd
  go_wp2
  have hall := KP23.out.here
  have gSw16 := hall.2.1
  clear hall
  refine seg_grow ⟨⟨_, gSw16⟩, rfl⟩ ?_
  clear gSw16
  repeat (go_big_quiet_step (fail))
  refine wpQuiet_nil ?_
  refine only_done ?_
  clear he1 he0 hd1 hd0 zd ze hL
  have hall := KP23.out.here
  have he1 := hall.2.2.2.2.2.2.2.2.2.2.2.2.2.1
  have he0 := hall.2.2.2.2.2.2.2.2.2.2.2.2.2.2.1
  have hd1 := hall.2.2.2.2.2.2.2.2.2.2.2.2.2.2.2.1
  have hd0 := hall.2.2.2.2.2.2.2.2.2.2.2.2.2.2.2.2.1
  clear hall
  have zd := World.block_lt_of_cell? _ _ hd0
  have ze := World.block_lt_of_cell? _ _ he0
  simp only at zd ze
  go_wp2_with fail
  clear he1 he0 hd1 hd0 zd ze
  refine wp_region_flow [] [([0], 1, true), ([], 2, true), ([], 3, true)] [4, 5, 6, 7, 8] (by kernel_rfl) (by kernel_rfl) ?_
  intro w18 hB hh
  clear hh
  have KP24 := Lib.hid ((KP23.out.up (btr (bz w17) hB)).and (keepB (bz w18)))
  clear KP23
  clear hB
  have hall := KP24.out.here
  have he1 := hall.2.2.2.2.2.2.2.2.2.2.2.2.2.2.1
  have he0 := hall.2.2.2.2.2.2.2.2.2.2.2.2.2.2.2.1
  have hd1 := hall.2.2.2.2.2.2.2.2.2.2.2.2.2.2.2.2.1
  have hd0 := hall.2.2.2.2.2.2.2.2.2.2.2.2.2.2.2.2.2.1
  clear hall
  have zd := World.block_lt_of_cell? _ _ hd0
  have ze := World.block_lt_of_cell? _ _ he0
  simp only at zd ze
  have hL := @Later.cell w18
  simp only [flowP, flow, pickL, List.getElem?_cons_succ, List.getElem?_cons_zero]
  refine wpQuiet_nil ?_
  repeat (go_big_quiet_step (fail))
  refine wpQuiet_nil ?_
  go_wp2
  have KP25 := Lib.hid ((KP24.out.up (bal (bz w18) _)).and (keepI (rdI_at w18 [6, 6] 3 (w18.heap.size) (by simp) (by decide +kernel))))
  clear KP24
  have hall := KP25.out.here
  have gSw18 := hall.2.1
  clear hall
  refine seg_grow ⟨⟨_, gSw18⟩, rfl⟩ ?_
  clear gSw18
  repeat (go_big_quiet_step (fail))
  refine wpQuiet_nil ?_
  go_wp2_with fail
  refine (of_id _ _).mono ?_
  rintro e w' ⟨rfl, rfl⟩
  go_wp2
  have hall := KP25.out.here
  have gSw18 := hall.2.1
  clear hall
  refine seg_grow ⟨⟨_, gSw18⟩, rfl⟩ ?_
  clear gSw18
  repeat (go_big_quiet_step (fail))
  refine wpQuiet_nil ?_
  go_wp2_with fail
  have hall := KP25.out.here
  have glit24 := hall.1
  have gd := hall.2.2.2.2.2.2.2.2.2.2.2.2.2.2.2.2.2.2.2.2.1
  clear hall
  refine (checktimes_lit 3 _ _ D12 [6, 6] 0 3 _ gd glit24 (by decide +kernel) (by decide +kernel) (by decide +kernel)).mono ?_
  rintro e w19 ⟨rfl, hB⟩
  have KP26 := Lib.hid (KP25.out.up (btr (bz ((w18.alloc (.cells (arrI [6, 6]) 3)))) hB))
  clear KP25
  clear hB
  clear glit24 gd
  go_wp2
  have hall := KP26.out.here
  have gSw18 := hall.2.1
  clear hall
  refine seg_grow ⟨⟨_, gSw18⟩, rfl⟩ ?_
  clear gSw18
  repeat (go_big_quiet_step (fail))
  refine wpQuiet_nil ?_
  refine only_done ?_
  clear he1 he0 hd1 hd0 zd ze hL
  have hall := KP26.out.here
  have he1 := hall.2.2.2.2.2.2.2.2.2.2.2.2.2.2.2.1
  have he0 := hall.2.2.2.2.2.2.2.2.2.2.2.2.2.2.2.2.1
  have hd1 := hall.2.2.2.2.2.2.2.2.2.2.2.2.2.2.2.2.2.1
  have hd0 := hall.2.2.2.2.2.2.2.2.2.2.2.2.2.2.2.2.2.2.1
  clear hall
  have zd := World.block_lt_of_cell? _ _ hd0
  have ze := World.block_lt_of_cell? _ _ he0
  simp only at zd ze
  go_wp2_with fail
  clear he1 he0 hd1 hd0 zd ze
  have hall := KP26.out.here
  have gd := hall.2.2.2.2.2.2.2.2.2.2.2.2.2.2.2.2.2.2.2.2.1
  clear hall
  refine (times_lit 3 _ D12 [6] 0 _ gd (by decide +kernel) (by decide +kernel) (by decide +kernel)).mono ?_
  rintro e w20 ⟨v, rfl, hRtm, hB⟩
  obtain ⟨atm, ctm, hv⟩ := hRtm.ex (1) rfl
  subst hv
  have KP27 := Lib.hid ((KP26.out.up (btr (bz w19) hB)).and (keepI hRtm))
  clear KP26
  clear hRtm hB
  clear gd
  have hall := KP27.out.here
  have he1 := hall.2.2.2.2.2.2.2.2.2.2.2.2.2.2.2.2.1
  have he0 := hall.2.2.2.2.2.2.2.2.2.2.2.2.2.2.2.2.2.1
  have hd1 := hall.2.2.2.2.2.2.2.2.2.2.2.2.2.2.2.2.2.2.1
  have hd0 := hall.2.2.2.2.2.2.2.2.2.2.2.2.2.2.2.2.2.2.2.1
  clear hall
  have zd := World.block_lt_of_cell? _ _ hd0
  have ze := World.block_lt_of_cell? _ _ he0
  simp only at zd ze
  go_wp2_with fail
  clear he1 he0 hd1 hd0 zd ze
  have hall := KP27.out.here
  have gd := hall.2.2.2.2.2.2.2.2.2.2.2.2.2.2.2.2.2.2.2.2.2.1
  clear hall
  refine (kind_lit 3 _ D12 4 0 0 _ gd (by decide +kernel) kind4).mono ?_
  rintro e w21 ⟨rfl, hB⟩
  have KP28 := Lib.hid (KP27.out.up (btr (bz w20) hB))
  clear KP27
  clear hB
  clear gd
  have hall := KP28.out.here
  have he1 := hall.2.2.2.2.2.2.2.2.2.2.2.2.2.2.2.2.1
  have he0 := hall.2.2.2.2.2.2.2.2.2.2.2.2.2.2.2.2.2.1
  have hd1 := hall.2.2.2.2.2.2.2.2.2.2.2.2.2.2.2.2.2.2.1
  have hd0 := hall.2.2.2.2.2.2.2.2.2.2.2.2.2.2.2.2.2.2.2.1
  clear hall
  have zd := World.block_lt_of_cell? _ _ hd0
  have ze := World.block_lt_of_cell? _ _ he0
  simp only at zd ze
  go_wp2_with fail
  clear he1 he0 hd1 hd0 zd ze
  have hall := KP28.out.here
  have gd := hall.2.2.2.2.2.2.2.2.2.2.2.2.2.2.2.2.2.2.2.2.2.1
  clear hall
  refine (depths_lit 3 _ D12 [0, 0, 0, 0, 4, 4, 0, 3, 3, 5, 5, 5] 0 _ gd (by decide +kernel) (by decide +kernel) (by decide +kernel)).mono ?_
  rintro e w22 ⟨v, rfl, hRl, hB⟩
  obtain ⟨al, cl, hv⟩ := hRl.ex (12) rfl
  subst hv
  have KP29 := Lib.hid ((KP28.out.up (btr (bz w21) hB)).and (keepI hRl))
  clear KP28
  clear hRl hB
  clear gd
  have hall := KP29.out.here
  have he1 := hall.2.2.2.2.2.2.2.2.2.2.2.2.2.2.2.2.2.1
  have he0 := hall.2.2.2.2.2.2.2.2.2.2.2.2.2.2.2.2.2.2.1
  have hd1 := hall.2.2.2.2.2.2.2.2.2.2.2.2.2.2.2.2.2.2.2.1
  have hd0 := hall.2.2.2.2.2.2.2.2.2.2.2.2.2.2.2.2.2.2.2.2.1
  clear hall
  have zd := World.block_lt_of_cell? _ _ hd0
  have ze := World.block_lt_of_cell? _ _ he0
  simp only at zd ze
  go_wp2_with fail
  clear he1 he0 hd1 hd0 zd ze
  have hall := KP29.out.here
  have gtm := hall.2.1
  have gd := hall.2.2.2.2.2.2.2.2.2.2.2.2.2.2.2.2.2.2.2.2.2.2.1
  clear hall
  refine (rchecktimes_lit 3 _ _ D12 [6] 7 0 _ gd gtm (by decide +kernel) (by decide +kernel) (by decide +kernel)).mono ?_
  rintro e w23 ⟨rfl, hB⟩
  have KP30 := Lib.hid (KP29.out.up (btr (bz w22) hB))
  clear KP29
  clear hB
  clear gtm gd
  go_wp2_with fail
  refine (of_id _ _).mono ?_
  rintro e w' ⟨rfl, rfl⟩
  go_wp2_with fail
  have hall := KP30.out.here
  have ga := hall.2.2.2.2.2.2.2.2.2.2.2.2.2.2.2.2.1
  clear hall
  refine (ints_eq _ _ [0, 1, 2, 3, 4, 5, 6, 9, 10] _ (ga.mono (bal (bz w23) _)) (rdI_new _ [0, 1, 2, 3, 4, 5, 6, 9, 10] _ (by decide +kernel)) (by decide +kernel)).mono ?_
  rintro e w24 ⟨rfl, hB⟩
  have KP31 := Lib.hid (KP30.out.up (btr (bal (bz w23) _) hB))
  clear KP30
  clear hB
  clear ga
  go_wp2_with fail
  refine (of_id _ _).mono ?_
  rintro e w' ⟨rfl, rfl⟩
  go_wp2_with fail
  have hall := KP31.out.here
  have gb := hall.2.2.2.2.2.2.2.2.2.2.2.2.2.2.2.1
  clear hall
  refine (ints_eq _ _ [0, 1, 2, 3, 4, 5, 6, 9, 10, 11] _ (gb.mono (bal (bz w24) _)) (rdI_new _ [0, 1, 2, 3, 4, 5, 6, 9, 10, 11] _ (by decide +kernel)) (by decide +kernel)).mono ?_
  rintro e w25 ⟨rfl, hB⟩
  have KP32 := Lib.hid (KP31.out.up (btr (bal (bz w24) _) hB))
  clear KP31
  clear hB
  clear gb
  go_wp2_with fail
  refine (of_id _ _).mono ?_
  rintro e w' ⟨rfl, rfl⟩
  go_wp2_with fail
  have hall := KP32.out.here
  have gc := hall.2.2.2.2.2.2.2.2.2.2.2.2.2.2.1
  clear hall
  refine (ints_eq _ _ [0, 0, 0, 3, 0, 0, 4, 0, 0, 1, 2, 0] _ (gc.mono (bal (bz w25) _)) (rdI_new _ [0, 0, 0, 3, 0, 0, 4, 0, 0, 1, 2, 0] _ (by decide +kernel)) (by decide +kernel)).mono ?_
  rintro e w26 ⟨rfl, hB⟩
  have KP33 := Lib.hid (KP32.out.up (btr (bal (bz w25) _) hB))
  clear KP32
  clear hB
  clear gc
  go_wp2_with fail
  refine (of_id _ _).mono ?_
  rintro e w' ⟨rfl, rfl⟩
  go_wp2_with fail
  have hall := KP33.out.here
  have gl := hall.1
  clear hall
  refine (ints_eq _ _ [0, 0, 0, 0, 4, 4, 0, 3, 3, 5, 5, 5] _ (gl.mono (bal (bz w26) _)) (rdI_new _ [0, 0, 0, 0, 4, 4, 0, 3, 3, 5, 5, 5] _ (by decide +kernel)) (by decide +kernel)).mono ?_
  rintro e w27 ⟨rfl, hB⟩
  have KP34 := Lib.hid (KP33.out.up (btr (bal (bz w26) _) hB))
  clear KP33
  clear hB
  clear gl
  go_wp2_with fail
  have hall := KP34.out.here
  have gBelow := hall.2.2.2.2.2.2.2.2.2.2.2.2.2.2.2.2.2.2.2.2.2.2.2
  clear hall
  go_ret
  exact ⟨rfl, gBelow⟩
end Go.Proofs.Ytjajdpggoggoiaa
