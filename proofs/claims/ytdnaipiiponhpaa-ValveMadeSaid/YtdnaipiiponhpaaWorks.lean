/- Works answers true; the examples' calls at written-out rows; no condition. -/
import Derived.Test.YtdnaipiiponhpaaGD
namespace Go.Proofs.Ytdnaipiiponhpaa
open Go.RowKit Go.Shelf

theorem longs_eq (x y : Value) (xs : List Int) (w : World) (hx : RdI w .i64 x xs) (hy : RdI w .i64 y xs) (hl : xs.length ≤ 1000) : Calls Try.prog 22 #[x, y] w fun e w' => e = .returned (.bool true) ∧ Below w.heap.size w w' := by
  have := longs_any x y xs xs w hx hy hl hl
  rwa [decide_eq_true rfl] at this
theorem ints_eq (x y : Value) (xs : List Int) (w : World) (hx : RdI w .i64 x xs) (hy : RdI w .i64 y xs) (hl : xs.length ≤ 1000) : Calls Try.prog 31 #[x, y] w fun e w' => e = .returned (.bool true) ∧ Below w.heap.size w w' := by
  have := ints_any x y xs xs w hx hy hl hl
  rwa [decide_eq_true rfl] at this
theorem same_eq (p : Int) (x y : Value) (V : List (Int × Int)) (w : World) (hx : RdP w x V) (hy : RdP w y V) (hl : V.length ≤ 1000) : Calls Try.prog 38 #[.agg #[.int .i64 p, x], .agg #[.int .i64 p, y]] w fun e w' => e = .returned (.bool true) ∧ Below w.heap.size w w' := by
  have := same_any p p x y V V w hx hy hl hl
  rwa [decide_eq_true ⟨rfl, rfl⟩] at this
theorem row_lit (p : Int) (x : Value) (l : List Int) (V : List (Int × Int)) (w : World) (hx : RdI w .i64 x l) (hl : l.length ≤ 1000) (hV : pairsK l (l.length / 2) = V) :
    Calls Try.prog 55 #[.int .i64 p, x] w fun e w' => ∃ v, e = .returned (.agg #[.int .i64 p, v]) ∧ RdP w' v V ∧ Below w.heap.size w w' := by
  subst hV; exact row_any p x l w hx hl
theorem run_lit (p : Int) (x y : Value) (V : List (Int × Int)) (q r : List Int) (c : Int) (w : World) (hx : RdP w x V) (hy : RdI w .i64 y q) (hl : V.length ≤ 1000) (hq : q.length ≤ 1000) (hc : runE p V q = c) (hr : runR p V q = r) :
    Calls Try.prog 18 #[.agg #[.int .i64 p, x], y] w fun e w' => ∃ v, e = .returned (.tuple #[v, .int .i64 c]) ∧ RdI w' .i64 v r ∧ Below w.heap.size w w' := by
  subst hc; subst hr; exact vrun_any p x y V q w hx hy hl hq
theorem sorts_lit (p : Int) (x : Value) (V : List (Int × Int)) (c : Int) (w : World) (hx : RdP w x V) (hl : V.length ≤ 1000) (hc : sortsE p V = c) :
    Calls Try.prog 27 #[.agg #[.int .i64 p, x]] w fun e w' => e = .returned (.int .i64 c) ∧ Below w.heap.size w w' := by
  subst hc; exact sorts_any p x V w hx hl
theorem pattern_lit (p : Int) (x : Value) (V : List (Int × Int)) (c : Int) (r : List Int) (w : World) (hx : RdP w x V) (hl : V.length ≤ 1000) (hc : patE p V = c) (hr : patL p V = r) :
    Calls Try.prog 23 #[.agg #[.int .i64 p, x]] w fun e w' => ∃ v, e = .returned (.tuple #[v, .int .i64 c]) ∧ RdI w' .i64 v r ∧ Below w.heap.size w w' := by
  subst hc; subst hr; exact pattern_any p x V w hx hl
theorem chkpat_any (p : Int) (x y : Value) (V : List (Int × Int)) (q : List Int) (w : World) (hx : RdP w x V) (hy : RdI w .i64 y q) (hl : V.length ≤ 1000) (hq : q.length ≤ 1000) :
    Calls Try.prog 29 #[.agg #[.int .i64 p, x], y] w fun e w' => e = .returned (.int .i64 (chkPatE p V q)) ∧ Below w.heap.size w w' := by
  by_cases h : checkR p V = 0
  · obtain ⟨n, rfl, hV⟩ := cond_row h
    exact chkpat_ok n x y V q w hx hy hV hq
  · exact chkpat_no p x y V q w hx hy hl hq h
theorem chkpat_lit (p : Int) (x y : Value) (V : List (Int × Int)) (q : List Int) (c : Int) (w : World) (hx : RdP w x V) (hy : RdI w .i64 y q) (hl : V.length ≤ 1000) (hq : q.length ≤ 1000) (hc : chkPatE p V q = c) :
    Calls Try.prog 29 #[.agg #[.int .i64 p, x], y] w fun e w' => e = .returned (.int .i64 c) ∧ Below w.heap.size w w' := by
  subst hc; exact chkpat_any p x y V q w hx hy hl hq
def imgE (p : Int) (V : List (Int × Int)) : Int := if checkR p V = 0 then imagesN p.toNat V else 0
theorem images_any (p : Int) (x : Value) (V : List (Int × Int)) (w : World) (hx : RdP w x V) (hl : V.length ≤ 1000) :
    Calls Try.prog 25 #[.agg #[.int .i64 p, x]] w fun e w' => e = .returned (.tuple #[.int .i64 (imgE p V), .int .i64 (checkR p V)]) ∧ Below w.heap.size w w' := by
  unfold imgE
  by_cases h : checkR p V = 0
  · obtain ⟨n, rfl, hV⟩ := cond_row h
    rw [if_pos h, h, show ((n : Nat) : Int).toNat = n by omega]
    exact images_ok n x V w hx hV
  · rw [if_neg h]
    exact images_no p x V w hx hl h
theorem images_lit (p : Int) (x : Value) (V : List (Int × Int)) (i c : Int) (w : World) (hx : RdP w x V) (hl : V.length ≤ 1000) (hi : imgE p V = i) (hc : checkR p V = c) :
    Calls Try.prog 25 #[.agg #[.int .i64 p, x]] w fun e w' => e = .returned (.tuple #[.int .i64 i, .int .i64 c]) ∧ Below w.heap.size w w' := by
  subst hi; subst hc; exact images_any p x V w hx hl
theorem needless_rd (p : Int) (x : Value) (V : List (Int × Int)) (w : World) (hx : RdP w x V) (hl : V.length ≤ 1000) :
    Calls Try.prog 32 #[.agg #[.int .i64 p, x]] w fun e w' => ∃ v, e = .returned (.tuple #[v, .int .i64 (checkR p V)]) ∧ RdI w' .i64 v (needL p V) ∧ Below w.heap.size w w' :=
  (needless_any p x V w hx hl).mono fun _ _ ⟨v, he, ho, hb⟩ => ⟨v, he, RdI.of_owns ho, hb⟩
theorem needless_lit (p : Int) (x : Value) (V : List (Int × Int)) (c : Int) (r : List Int) (w : World) (hx : RdP w x V) (hl : V.length ≤ 1000) (hc : checkR p V = c) (hr : needL p V = r) :
    Calls Try.prog 32 #[.agg #[.int .i64 p, x]] w fun e w' => ∃ v, e = .returned (.tuple #[v, .int .i64 c]) ∧ RdI w' .i64 v r ∧ Below w.heap.size w w' := by
  subst hc; subst hr; exact needless_rd p x V w hx hl
theorem cut_lit (p : Int) (x : Value) (V : List (Int × Int)) (c q : Int) (r : List (Int × Int)) (w : World) (hx : RdP w x V) (hl : V.length ≤ 1000) (hc : checkR p V = c) (hq : cutP p V = q) (hr : cutL p V = r) :
    Calls Try.prog 34 #[.agg #[.int .i64 p, x]] w fun e w' => ∃ v, e = .returned (.tuple #[.agg #[.int .i64 q, v], .int .i64 c]) ∧ RdP w' v r ∧ Below w.heap.size w w' := by
  subst hc; subst hr; subst hq; exact cut_any p x V w hx hl
theorem rounds_lit (p : Int) (x : Value) (V : List (Int × Int)) (c : Int) (r : List Int) (w : World) (hx : RdP w x V) (hl : V.length ≤ 1000) (hc : checkR p V = c) (hr : roundsL p V = r) :
    Calls Try.prog 36 #[.agg #[.int .i64 p, x]] w fun e w' => ∃ v, e = .returned (.tuple #[v, .int .i64 c]) ∧ RdI w' .i64 v r ∧ Below w.heap.size w w' := by
  subst hc; subst hr; exact rounds_any p x V w hx hl
theorem ends_lit (p place : Int) (x : Value) (V : List (Int × Int)) (c : Int) (r : List Int) (w : World) (hx : RdP w x V) (hl : V.length ≤ 1000) (hc : endsE p V place = c) (hr : endsL p V place = r) :
    Calls Try.prog 39 #[.agg #[.int .i64 p, x], .int .i64 place] w fun e w' => ∃ v, e = .returned (.tuple #[v, .int .i64 c]) ∧ RdI w' .i64 v r ∧ Below w.heap.size w w' := by
  subst hc; subst hr; exact ends_any p place x V w hx hl
theorem mirror_lit (p : Int) (x : Value) (V : List (Int × Int)) (c q : Int) (r : List (Int × Int)) (w : World) (hx : RdP w x V) (hl : V.length ≤ 1000) (hc : checkR p V = c) (hq : cutP p V = q) (hr : mirrorL p V = r) :
    Calls Try.prog 41 #[.agg #[.int .i64 p, x]] w fun e w' => ∃ v, e = .returned (.tuple #[.agg #[.int .i64 q, v], .int .i64 c]) ∧ RdP w' v r ∧ Below w.heap.size w w' := by
  subst hc; subst hr; subst hq; exact mirror_any p x V w hx hl
theorem bricks_lit (p c q : Int) (r : List (Int × Int)) (w : World) (hc : bricksE p = c) (hq : bricksP p = q) (hr : bricksL p = r) :
    Calls Try.prog 43 #[.int .i64 p] w fun e w' => ∃ v, e = .returned (.tuple #[.agg #[.int .i64 q, v], .int .i64 c]) ∧ RdP w' v r ∧ Below w.heap.size w w' := by
  subst hc; subst hr; subst hq; exact bricks_any p w
theorem merge_lit (p c q : Int) (r : List (Int × Int)) (w : World) (hc : bricksE p = c) (hq : bricksP p = q) (hr : mergeL p = r) :
    Calls Try.prog 45 #[.int .i64 p] w fun e w' => ∃ v, e = .returned (.tuple #[.agg #[.int .i64 q, v], .int .i64 c]) ∧ RdP w' v r ∧ Below w.heap.size w w' := by
  subst hc; subst hr; subst hq; exact merge_any p w

set_option maxRecDepth 100000 in
set_option maxHeartbeats 16000000 in
theorem works_any (w : World) : Calls Try.prog 17 #[] w fun e w' => e = .returned (.bool true) ∧ Below w.heap.size w w' := by
  go_enter Try.func17, Try.ntmps17
  have KP0 := Lib.hid (keepB (bz w))
  go_wp2_with fail
  refine (row_lit 4 _ [0, 1, 2, 3, 0, 2, 1, 3, 1, 2] [(0, 1), (2, 3), (0, 2), (1, 3), (1, 2)] _ (rdI_new _ [0, 1, 2, 3, 0, 2, 1, 3, 1, 2] _ (by decide +kernel)) (by decide +kernel) rfl).mono ?_
  rintro e w1 ⟨v, rfl, hRn, hB⟩
  obtain ⟨an, cn, hv⟩ := hRn.ex (5) rfl
  subst hv
  have KP1 := Lib.hid ((KP0.out.up (btr (bal (bz w) _) hB)).and (keepP hRn))
  clear KP0
  clear hRn hB
  go_wp2_with fail
  refine (row_lit 4 _ [0, 1, 2, 3, 0, 2, 1, 3] [(0, 1), (2, 3), (0, 2), (1, 3)] _ (rdI_new _ [0, 1, 2, 3, 0, 2, 1, 3] _ (by decide +kernel)) (by decide +kernel) rfl).mono ?_
  rintro e w2 ⟨v, rfl, hRm, hB⟩
  obtain ⟨am, cm, hv⟩ := hRm.ex (4) rfl
  subst hv
  have KP2 := Lib.hid ((KP1.out.up (btr (bal (bz w1) _) hB)).and (keepP hRm))
  clear KP1
  clear hRm hB
  go_wp2_with fail
  refine (row_lit 3 _ [0, 1, 0, 1, 1, 2] [(0, 1), (0, 1), (1, 2)] _ (rdI_new _ [0, 1, 0, 1, 1, 2] _ (by decide +kernel)) (by decide +kernel) rfl).mono ?_
  rintro e w3 ⟨v, rfl, hRx, hB⟩
  obtain ⟨ax, cx, hv⟩ := hRx.ex (3) rfl
  subst hv
  have KP3 := Lib.hid ((KP2.out.up (btr (bal (bz w2) _) hB)).and (keepP hRx))
  clear KP2
  clear hRx hB
  go_wp2_with fail
  have KP4 := Lib.hid (((((((KP3.out.up (bal (bal (bal (bz w3) _) _) _)).and (keepC (w := (((w3.alloc (.cells #[.int .i64 4, .slice an 5 cn] 24)).alloc (.cells #[.int .i64 4, .slice am 4 cm] 24)).alloc (.cells #[.int .i64 3, .slice ax 3 cx] 24))) (p := ⟨w3.heap.size, 0, none⟩) (cal _ (cal _ (cnew (by simp) rfl))))).and (keepC (w := (((w3.alloc (.cells #[.int .i64 4, .slice an 5 cn] 24)).alloc (.cells #[.int .i64 4, .slice am 4 cm] 24)).alloc (.cells #[.int .i64 3, .slice ax 3 cx] 24))) (p := ⟨w3.heap.size, 1, none⟩) (cal _ (cal _ (cnew (by simp) rfl))))).and (keepC (w := (((w3.alloc (.cells #[.int .i64 4, .slice an 5 cn] 24)).alloc (.cells #[.int .i64 4, .slice am 4 cm] 24)).alloc (.cells #[.int .i64 3, .slice ax 3 cx] 24))) (p := ⟨w3.heap.size + 1, 0, none⟩) (cal _ (cnew (by simp) rfl)))).and (keepC (w := (((w3.alloc (.cells #[.int .i64 4, .slice an 5 cn] 24)).alloc (.cells #[.int .i64 4, .slice am 4 cm] 24)).alloc (.cells #[.int .i64 3, .slice ax 3 cx] 24))) (p := ⟨w3.heap.size + 1, 1, none⟩) (cal _ (cnew (by simp) rfl)))).and (keepC (w := (((w3.alloc (.cells #[.int .i64 4, .slice an 5 cn] 24)).alloc (.cells #[.int .i64 4, .slice am 4 cm] 24)).alloc (.cells #[.int .i64 3, .slice ax 3 cx] 24))) (p := ⟨w3.heap.size + 1 + 1, 0, none⟩) (cnew (by simp) rfl))).and (keepC (w := (((w3.alloc (.cells #[.int .i64 4, .slice an 5 cn] 24)).alloc (.cells #[.int .i64 4, .slice am 4 cm] 24)).alloc (.cells #[.int .i64 3, .slice ax 3 cx] 24))) (p := ⟨w3.heap.size + 1 + 1, 1, none⟩) (cnew (by simp) rfl)))
  clear KP3
  refine wp_region_flow [] [([0], 1, true), ([], 2, true), ([], 3, true)] [4, 5, 7, 6, 8] (by kernel_rfl) (by kernel_rfl) ?_
  intro w4 hB hh
  clear hh
  have KP5 := Lib.hid ((KP4.out.up (btr (bz ((((w3.alloc (.cells #[.int .i64 4, .slice an 5 cn] 24)).alloc (.cells #[.int .i64 4, .slice am 4 cm] 24)).alloc (.cells #[.int .i64 3, .slice ax 3 cx] 24)))) hB)).and (keepB (bz w4)))
  clear KP4
  clear hB
  have hall := KP5.out.here
  have hx1 := hall.2.1
  have hx0 := hall.2.2.1
  have hm1 := hall.2.2.2.1
  have hm0 := hall.2.2.2.2.1
  have hn1 := hall.2.2.2.2.2.1
  have hn0 := hall.2.2.2.2.2.2.1
  clear hall
  have zn := World.block_lt_of_cell? _ _ hn0
  have zm := World.block_lt_of_cell? _ _ hm0
  have zx := World.block_lt_of_cell? _ _ hx0
  simp only at zn zm zx
  have hL := @Later.cell w4
  simp only [flowP, flow, pickL, List.getElem?_cons_succ, List.getElem?_cons_zero]
  refine wpQuiet_nil ?_
  repeat (go_big_quiet_step (fail))
  refine wpQuiet_nil ?_
  go_wp2
  have KP6 := Lib.hid ((KP5.out.up (bal (bz w4) _)).and (keepI (rdI_at w4 [3, 1, 2, 0] 2 (w4.heap.size) (by simp) (by decide +kernel))))
  clear KP5
  have hall := KP6.out.here
  have gSw4 := hall.2.1
  clear hall
  refine seg_grow ⟨⟨_, gSw4⟩, rfl⟩ ?_
  clear gSw4
  repeat (go_big_quiet_step (fail))
  refine wpQuiet_nil ?_
  go_wp2_with fail
  refine (longs_id _ _).mono ?_
  rintro e w' ⟨rfl, rfl⟩
  go_wp2
  have hall := KP6.out.here
  have gSw4 := hall.2.1
  clear hall
  refine seg_grow ⟨⟨_, gSw4⟩, rfl⟩ ?_
  clear gSw4
  repeat (go_big_quiet_step (fail))
  refine wpQuiet_nil ?_
  go_wp2_with fail
  have hall := KP6.out.here
  have glit5 := hall.1
  have gn := hall.2.2.2.2.2.2.2.2.2.2.1
  clear hall
  refine (run_lit 4 _ _ [(0, 1), (2, 3), (0, 2), (1, 3), (1, 2)] [3, 1, 2, 0] [0, 1, 2, 3] 0 _ gn glit5 (by decide +kernel) (by decide +kernel) (by decide +kernel) (by decide +kernel)).mono ?_
  rintro e w5 ⟨v, rfl, hRl, hB⟩
  obtain ⟨al, cl, hv⟩ := hRl.ex (4) rfl
  subst hv
  have KP7 := Lib.hid ((KP6.out.up (btr (bz ((w4.alloc (.cells (arrI [3, 1, 2, 0]) 2)))) hB)).and (keepI hRl))
  clear KP6
  clear hRl hB
  clear glit5 gn
  go_wp2
  have hall := KP7.out.here
  have gSw4 := hall.2.2.1
  clear hall
  refine seg_grow ⟨⟨_, gSw4⟩, rfl⟩ ?_
  clear gSw4
  repeat (go_big_quiet_step (fail))
  refine wpQuiet_nil ?_
  refine only_done ?_
  clear hx1 hx0 hm1 hm0 hn1 hn0 zn zm zx hL
  go_wp2_with fail
  refine wp_region_flow [] [([0], 1, true), ([], 2, true), ([], 3, true)] [4, 5, 7, 6, 8] (by kernel_rfl) (by kernel_rfl) ?_
  intro w6 hB hh
  clear hh
  have KP8 := Lib.hid ((KP7.out.up (btr (bz w5) hB)).and (keepB (bz w6)))
  clear KP7
  clear hB
  have hall := KP8.out.here
  have hx1 := hall.2.2.2.2.1
  have hx0 := hall.2.2.2.2.2.1
  have hm1 := hall.2.2.2.2.2.2.1
  have hm0 := hall.2.2.2.2.2.2.2.1
  have hn1 := hall.2.2.2.2.2.2.2.2.1
  have hn0 := hall.2.2.2.2.2.2.2.2.2.1
  clear hall
  have zn := World.block_lt_of_cell? _ _ hn0
  have zm := World.block_lt_of_cell? _ _ hm0
  have zx := World.block_lt_of_cell? _ _ hx0
  simp only at zn zm zx
  have hL := @Later.cell w6
  simp only [flowP, flow, pickL, List.getElem?_cons_succ, List.getElem?_cons_zero]
  refine wpQuiet_nil ?_
  repeat (go_big_quiet_step (fail))
  refine wpQuiet_nil ?_
  go_wp2
  have KP9 := Lib.hid ((KP8.out.up (bal (bz w6) _)).and (keepI (rdI_at w6 [5, 5] 2 (w6.heap.size) (by simp) (by decide +kernel))))
  clear KP8
  have hall := KP9.out.here
  have gSw6 := hall.2.1
  clear hall
  refine seg_grow ⟨⟨_, gSw6⟩, rfl⟩ ?_
  clear gSw6
  repeat (go_big_quiet_step (fail))
  refine wpQuiet_nil ?_
  go_wp2_with fail
  refine (longs_id _ _).mono ?_
  rintro e w' ⟨rfl, rfl⟩
  go_wp2
  have hall := KP9.out.here
  have gSw6 := hall.2.1
  clear hall
  refine seg_grow ⟨⟨_, gSw6⟩, rfl⟩ ?_
  clear gSw6
  repeat (go_big_quiet_step (fail))
  refine wpQuiet_nil ?_
  go_wp2_with fail
  have hall := KP9.out.here
  have glit8 := hall.1
  have gx := hall.2.2.2.2.2.2.2.2.2.2.2.1
  clear hall
  refine (run_lit 3 _ _ [(0, 1), (0, 1), (1, 2)] [5, 5] [] 15 _ gx glit8 (by decide +kernel) (by decide +kernel) (by decide +kernel) (by decide +kernel)).mono ?_
  rintro e w7 ⟨v, rfl, hRl2, hB⟩
  obtain ⟨al2, cl2, hv⟩ := hRl2.ex (0) rfl
  subst hv
  have KP10 := Lib.hid ((KP9.out.up (btr (bz ((w6.alloc (.cells (arrI [5, 5]) 2)))) hB)).and (keepI hRl2))
  clear KP9
  clear hRl2 hB
  clear glit8 gx
  go_wp2
  have hall := KP10.out.here
  have gSw6 := hall.2.2.1
  clear hall
  refine seg_grow ⟨⟨_, gSw6⟩, rfl⟩ ?_
  clear gSw6
  repeat (go_big_quiet_step (fail))
  refine wpQuiet_nil ?_
  refine only_done ?_
  clear hx1 hx0 hm1 hm0 hn1 hn0 zn zm zx hL
  go_wp2_with fail
  refine wp_region_flow [] [([0, 2], 1, true), ([], 3, true)] [4, 5] (by kernel_rfl) (by kernel_rfl) ?_
  intro w8 hB hh
  clear hh
  have KP11 := Lib.hid ((KP10.out.up (btr (bz w7) hB)).and (keepB (bz w8)))
  clear KP10
  clear hB
  have hall := KP11.out.here
  have hx1 := hall.2.2.2.2.2.2.2.1
  have hx0 := hall.2.2.2.2.2.2.2.2.1
  have hm1 := hall.2.2.2.2.2.2.2.2.2.1
  have hm0 := hall.2.2.2.2.2.2.2.2.2.2.1
  have hn1 := hall.2.2.2.2.2.2.2.2.2.2.2.1
  have hn0 := hall.2.2.2.2.2.2.2.2.2.2.2.2.1
  clear hall
  have zn := World.block_lt_of_cell? _ _ hn0
  have zm := World.block_lt_of_cell? _ _ hm0
  have zx := World.block_lt_of_cell? _ _ hx0
  simp only at zn zm zx
  have hL := @Later.cell w8
  simp only [flowP, flow, pickL, List.getElem?_cons_succ, List.getElem?_cons_zero]
  refine wpQuiet_nil ?_
  repeat (go_big_quiet_step (fail))
  refine wpQuiet_nil ?_
  go_wp2_with fail
  have hall := KP11.out.here
  have gn := hall.2.2.2.2.2.2.2.2.2.2.2.2.2.2.2.1
  clear hall
  refine (sorts_lit 4 _ [(0, 1), (2, 3), (0, 2), (1, 3), (1, 2)] 0 _ gn (by decide +kernel) (by decide +kernel)).mono ?_
  rintro e w9 ⟨rfl, hB⟩
  have KP12 := Lib.hid (KP11.out.up (btr (bz w8) hB))
  clear KP11
  clear hB
  clear gn
  go_wp2
  have hall := KP12.out.here
  have gSw8 := hall.1
  clear hall
  refine seg_grow ⟨⟨_, gSw8⟩, rfl⟩ ?_
  clear gSw8
  repeat (go_big_quiet_step (fail))
  refine wpQuiet_nil ?_
  go_wp2_with fail
  have hall := KP12.out.here
  have gm := hall.2.2.2.2.2.2.2.2.2.2.2.2.2.2.1
  clear hall
  refine (sorts_lit 4 _ [(0, 1), (2, 3), (0, 2), (1, 3)] 23 _ gm (by decide +kernel) (by decide +kernel)).mono ?_
  rintro e w10 ⟨rfl, hB⟩
  have KP13 := Lib.hid (KP12.out.up (btr (bz w9) hB))
  clear KP12
  clear hB
  clear gm
  go_wp2
  have hall := KP13.out.here
  have gSw8 := hall.1
  clear hall
  refine seg_grow ⟨⟨_, gSw8⟩, rfl⟩ ?_
  clear gSw8
  repeat (go_big_quiet_step (fail))
  refine wpQuiet_nil ?_
  refine only_done ?_
  clear hx1 hx0 hm1 hm0 hn1 hn0 zn zm zx hL
  have hall := KP13.out.here
  have hx1 := hall.2.2.2.2.2.2.2.1
  have hx0 := hall.2.2.2.2.2.2.2.2.1
  have hm1 := hall.2.2.2.2.2.2.2.2.2.1
  have hm0 := hall.2.2.2.2.2.2.2.2.2.2.1
  have hn1 := hall.2.2.2.2.2.2.2.2.2.2.2.1
  have hn0 := hall.2.2.2.2.2.2.2.2.2.2.2.2.1
  clear hall
  have zn := World.block_lt_of_cell? _ _ hn0
  have zm := World.block_lt_of_cell? _ _ hm0
  have zx := World.block_lt_of_cell? _ _ hx0
  simp only at zn zm zx
  go_wp2_with fail
  clear hx1 hx0 hm1 hm0 hn1 hn0 zn zm zx
  have hall := KP13.out.here
  have gm := hall.2.2.2.2.2.2.2.2.2.2.2.2.2.2.1
  clear hall
  refine (pattern_lit 4 _ [(0, 1), (2, 3), (0, 2), (1, 3)] 0 [0, 1, 0, 1] _ gm (by decide +kernel) (by decide +kernel) (by decide +kernel)).mono ?_
  rintro e w11 ⟨v, rfl, hRp, hB⟩
  obtain ⟨ap, cp, hv⟩ := hRp.ex (4) rfl
  subst hv
  have KP14 := Lib.hid ((KP13.out.up (btr (bz w10) hB)).and (keepI hRp))
  clear KP13
  clear hRp hB
  clear gm
  have hall := KP14.out.here
  have hx1 := hall.2.2.2.2.2.2.2.2.1
  have hx0 := hall.2.2.2.2.2.2.2.2.2.1
  have hm1 := hall.2.2.2.2.2.2.2.2.2.2.1
  have hm0 := hall.2.2.2.2.2.2.2.2.2.2.2.1
  have hn1 := hall.2.2.2.2.2.2.2.2.2.2.2.2.1
  have hn0 := hall.2.2.2.2.2.2.2.2.2.2.2.2.2.1
  clear hall
  have zn := World.block_lt_of_cell? _ _ hn0
  have zm := World.block_lt_of_cell? _ _ hm0
  have zx := World.block_lt_of_cell? _ _ hx0
  simp only at zn zm zx
  go_wp2_with fail
  clear hx1 hx0 hm1 hm0 hn1 hn0 zn zm zx
  have hall := KP14.out.here
  have gn := hall.2.2.2.2.2.2.2.2.2.2.2.2.2.2.2.2.1
  clear hall
  refine (pattern_lit 4 _ [(0, 1), (2, 3), (0, 2), (1, 3), (1, 2)] 5 [] _ gn (by decide +kernel) (by decide +kernel) (by decide +kernel)).mono ?_
  rintro e w12 ⟨v, rfl, hRp2, hB⟩
  obtain ⟨ap2, cp2, hv⟩ := hRp2.ex (0) rfl
  subst hv
  have KP15 := Lib.hid ((KP14.out.up (btr (bz w11) hB)).and (keepI hRp2))
  clear KP14
  clear hRp2 hB
  clear gn
  go_upto_region 7 with fail
  obtain ⟨G, KG, hG⟩ := KP15.out.name
  have HG := Lib.hid hG
  clear hG
  go_cut [14, 15] (fun s14 s15 wx => s14 = .int .i64 0 ∧ s15 = .int .i64 5 ∧ Keep wx G)
  case first =>
    have KG1 := Lib.hid (KG.and (keepB (bz w12)))
    clear KG
    have KP16 := Lib.hid ((KP15.out.up (bz w12)).and (keepB (bz w12)))
    clear KP15
    refine wp_region_U [0, 4, 8, 9] [] (by kernel_rfl) (by kernel_rfl) ?_
    intro w13 hB hh
    clear hh
    have KP17 := Lib.hid ((KP16.out.up (btr (bz w12) hB)).and (keepB (bz w13)))
    clear KP16
    clear hB
    have hall := KP17.out.here
    have hx1 := hall.2.2.2.2.2.2.2.2.2.2.2.1
    have hx0 := hall.2.2.2.2.2.2.2.2.2.2.2.2.1
    have hm1 := hall.2.2.2.2.2.2.2.2.2.2.2.2.2.1
    have hm0 := hall.2.2.2.2.2.2.2.2.2.2.2.2.2.2.1
    have hn1 := hall.2.2.2.2.2.2.2.2.2.2.2.2.2.2.2.1
    have hn0 := hall.2.2.2.2.2.2.2.2.2.2.2.2.2.2.2.2.1
    clear hall
    have zn := World.block_lt_of_cell? _ _ hn0
    have zm := World.block_lt_of_cell? _ _ hm0
    have zx := World.block_lt_of_cell? _ _ hx0
    simp only at zn zm zx
    have hL := @Later.cell w13
    have hall := KP17.out.here
    have gSw13 := hall.1
    clear hall
    refine U_heads [0, 4] (by kernel_rfl) ⟨⟨_, gSw13⟩, rfl⟩ ?_
    clear gSw13
    simp only [pickL, List.getElem?_cons_succ, List.getElem?_cons_zero]
    repeat (go_big_quiet_step (fail))
    refine wpQuiet_nil ?_
    refine U_two 1 5 (by kernel_rfl) ?_ ?_
    · simp only [pickL, List.getElem?_cons_succ, List.getElem?_cons_zero]
      go_wp2
      have KP18 := Lib.hid ((KP17.out.up (bal (bz w13) _)).and (keepI (rdI_at w13 [0, 1, 0, 1] 3 (w13.heap.size) (by simp) (by decide +kernel))))
      clear KP17
      have hall := KP18.out.here
      have gSw13 := hall.2.1
      clear hall
      refine seg_grow ⟨⟨_, gSw13⟩, rfl⟩ ?_
      clear gSw13
      refine U_two 2 5 (by kernel_rfl) ?_ ?_
      · simp only [pickL, List.getElem?_cons_succ, List.getElem?_cons_zero]
        go_wp2_with fail
        refine (of_id _ _).mono ?_
        rintro e w' ⟨rfl, rfl⟩
        go_wp2
        have hall := KP18.out.here
        have gSw13 := hall.2.1
        clear hall
        refine seg_grow ⟨⟨_, gSw13⟩, rfl⟩ ?_
        clear gSw13
        refine U_two 3 5 (by kernel_rfl) ?_ ?_
        · simp only [pickL, List.getElem?_cons_succ, List.getElem?_cons_zero]
          go_wp2_with fail
          have hall := KP18.out.here
          have gb1 := hall.1
          have gm := hall.2.2.2.2.2.2.2.2.2.2.2.2.2.2.2.2.2.2.2.1
          clear hall
          refine (chkpat_lit 4 _ _ [(0, 1), (2, 3), (0, 2), (1, 3)] [0, 1, 0, 1] 0 _ gm gb1 (by decide +kernel) (by decide +kernel) (by decide +kernel)).mono ?_
          rintro e w14 ⟨rfl, hB⟩
          have KP19 := Lib.hid (KP18.out.up (btr (bz ((w13.alloc (.cells (arrI [0, 1, 0, 1]) 3)))) hB))
          clear KP18
          clear hB
          clear gb1 gm
          go_wp2
          have hall := KP19.out.here
          have gSw13 := hall.2.1
          clear hall
          refine seg_grow ⟨⟨_, gSw13⟩, rfl⟩ ?_
          clear gSw13
          refine U_one 5 (by kernel_rfl) ?_
          simp only [pickL, List.getElem?_cons_succ, List.getElem?_cons_zero]
          go_wp2
          have KP20 := Lib.hid ((KP19.out.up (bal (bz w14) _)).and (keepI (rdI_at w14 [0, 0, 1, 1] 3 (w14.heap.size) (by simp) (by decide +kernel))))
          clear KP19
          have hall := KP20.out.here
          have gSw13 := hall.2.2.1
          clear hall
          refine seg_grow ⟨⟨_, gSw13⟩, rfl⟩ ?_
          clear gSw13
          refine U_one 6 (by kernel_rfl) ?_
          simp only [pickL, List.getElem?_cons_succ, List.getElem?_cons_zero]
          go_wp2_with fail
          refine (of_id _ _).mono ?_
          rintro e w' ⟨rfl, rfl⟩
          go_wp2
          have hall := KP20.out.here
          have gSw13 := hall.2.2.1
          clear hall
          refine seg_grow ⟨⟨_, gSw13⟩, rfl⟩ ?_
          clear gSw13
          refine U_one 7 (by kernel_rfl) ?_
          simp only [pickL, List.getElem?_cons_succ, List.getElem?_cons_zero]
          go_wp2_with fail
          have hall := KP20.out.here
          have gb5 := hall.1
          have gm := hall.2.2.2.2.2.2.2.2.2.2.2.2.2.2.2.2.2.2.2.2.1
          clear hall
          refine (chkpat_lit 4 _ _ [(0, 1), (2, 3), (0, 2), (1, 3)] [0, 0, 1, 1] 5 _ gm gb5 (by decide +kernel) (by decide +kernel) (by decide +kernel)).mono ?_
          rintro e w15 ⟨rfl, hB⟩
          have KP21 := Lib.hid (KP20.out.up (btr (bz ((w14.alloc (.cells (arrI [0, 0, 1, 1]) 3)))) hB))
          clear KP20
          clear hB
          clear gb5 gm
          go_wp2
          have hall := KP21.out.here
          have gSw13 := hall.2.2.1
          clear hall
          refine seg_grow ⟨⟨_, gSw13⟩, rfl⟩ ?_
          clear gSw13
          have hall := KP21.out.here
          have gSw13 := hall.2.2.1
          clear hall
          refine U_heads [8, 9] (by kernel_rfl) ⟨⟨_, gSw13⟩, rfl⟩ ?_
          clear gSw13
          simp only [pickL, List.getElem?_cons_succ, List.getElem?_cons_zero]
          repeat (go_big_quiet_step (fail))
          refine wpQuiet_nil ?_
          refine U_done (by kernel_rfl) ?_
          have hall := KP21.out.here
          have gC := hall.2.2.2.1
          clear hall
          have hK := Lib.hid (KG1.out.up gC)
          clear gC
          go_wp2_with fail
          go_meet
          exact ⟨rfl, rfl, hK.out.imp fun _ h => h.2⟩
        · simp only [pickL, List.getElem?_cons_succ, List.getElem?_cons_zero]
          go_wp2
          have KP19 := Lib.hid ((KP18.out.up (bal (bz ((w13.alloc (.cells (arrI [0, 1, 0, 1]) 3)))) _)).and (keepI (rdI_at ((w13.alloc (.cells (arrI [0, 1, 0, 1]) 3))) [0, 0, 1, 1] 3 (w13.heap.size + 1) (by simp) (by decide +kernel))))
          clear KP18
          have hall := KP19.out.here
          have gSw13 := hall.2.2.1
          clear hall
          refine seg_grow ⟨⟨_, gSw13⟩, rfl⟩ ?_
          clear gSw13
          refine U_one 3 (by kernel_rfl) ?_
          simp only [pickL, List.getElem?_cons_succ, List.getElem?_cons_zero]
          go_wp2_with fail
          have hall := KP19.out.here
          have gb1 := hall.2.1
          have gm := hall.2.2.2.2.2.2.2.2.2.2.2.2.2.2.2.2.2.2.2.2.1
          clear hall
          refine (chkpat_lit 4 _ _ [(0, 1), (2, 3), (0, 2), (1, 3)] [0, 1, 0, 1] 0 _ gm gb1 (by decide +kernel) (by decide +kernel) (by decide +kernel)).mono ?_
          rintro e w14 ⟨rfl, hB⟩
          have KP20 := Lib.hid (KP19.out.up (btr (bz (((w13.alloc (.cells (arrI [0, 1, 0, 1]) 3)).alloc (.cells (arrI [0, 0, 1, 1]) 3)))) hB))
          clear KP19
          clear hB
          clear gb1 gm
          go_wp2
          have hall := KP20.out.here
          have gSw13 := hall.2.2.1
          clear hall
          refine seg_grow ⟨⟨_, gSw13⟩, rfl⟩ ?_
          clear gSw13
          refine U_one 6 (by kernel_rfl) ?_
          simp only [pickL, List.getElem?_cons_succ, List.getElem?_cons_zero]
          go_wp2_with fail
          refine (of_id _ _).mono ?_
          rintro e w' ⟨rfl, rfl⟩
          go_wp2
          have hall := KP20.out.here
          have gSw13 := hall.2.2.1
          clear hall
          refine seg_grow ⟨⟨_, gSw13⟩, rfl⟩ ?_
          clear gSw13
          refine U_one 7 (by kernel_rfl) ?_
          simp only [pickL, List.getElem?_cons_succ, List.getElem?_cons_zero]
          go_wp2_with fail
          have hall := KP20.out.here
          have gb5 := hall.1
          have gm := hall.2.2.2.2.2.2.2.2.2.2.2.2.2.2.2.2.2.2.2.2.1
          clear hall
          refine (chkpat_lit 4 _ _ [(0, 1), (2, 3), (0, 2), (1, 3)] [0, 0, 1, 1] 5 _ gm gb5 (by decide +kernel) (by decide +kernel) (by decide +kernel)).mono ?_
          rintro e w15 ⟨rfl, hB⟩
          have KP21 := Lib.hid (KP20.out.up (btr (bz w14) hB))
          clear KP20
          clear hB
          clear gb5 gm
          go_wp2
          have hall := KP21.out.here
          have gSw13 := hall.2.2.1
          clear hall
          refine seg_grow ⟨⟨_, gSw13⟩, rfl⟩ ?_
          clear gSw13
          have hall := KP21.out.here
          have gSw13 := hall.2.2.1
          clear hall
          refine U_heads [8, 9] (by kernel_rfl) ⟨⟨_, gSw13⟩, rfl⟩ ?_
          clear gSw13
          simp only [pickL, List.getElem?_cons_succ, List.getElem?_cons_zero]
          repeat (go_big_quiet_step (fail))
          refine wpQuiet_nil ?_
          refine U_done (by kernel_rfl) ?_
          have hall := KP21.out.here
          have gC := hall.2.2.2.1
          clear hall
          have hK := Lib.hid (KG1.out.up gC)
          clear gC
          go_wp2_with fail
          go_meet
          exact ⟨rfl, rfl, hK.out.imp fun _ h => h.2⟩
      · simp only [pickL, List.getElem?_cons_succ, List.getElem?_cons_zero]
        go_wp2
        have KP19 := Lib.hid ((KP18.out.up (bal (bz ((w13.alloc (.cells (arrI [0, 1, 0, 1]) 3)))) _)).and (keepI (rdI_at ((w13.alloc (.cells (arrI [0, 1, 0, 1]) 3))) [0, 0, 1, 1] 3 (w13.heap.size + 1) (by simp) (by decide +kernel))))
        clear KP18
        have hall := KP19.out.here
        have gSw13 := hall.2.2.1
        clear hall
        refine seg_grow ⟨⟨_, gSw13⟩, rfl⟩ ?_
        clear gSw13
        refine U_one 2 (by kernel_rfl) ?_
        simp only [pickL, List.getElem?_cons_succ, List.getElem?_cons_zero]
        go_wp2_with fail
        refine (of_id _ _).mono ?_
        rintro e w' ⟨rfl, rfl⟩
        go_wp2
        have hall := KP19.out.here
        have gSw13 := hall.2.2.1
        clear hall
        refine seg_grow ⟨⟨_, gSw13⟩, rfl⟩ ?_
        clear gSw13
        refine U_one 3 (by kernel_rfl) ?_
        simp only [pickL, List.getElem?_cons_succ, List.getElem?_cons_zero]
        go_wp2_with fail
        have hall := KP19.out.here
        have gb1 := hall.2.1
        have gm := hall.2.2.2.2.2.2.2.2.2.2.2.2.2.2.2.2.2.2.2.2.1
        clear hall
        refine (chkpat_lit 4 _ _ [(0, 1), (2, 3), (0, 2), (1, 3)] [0, 1, 0, 1] 0 _ gm gb1 (by decide +kernel) (by decide +kernel) (by decide +kernel)).mono ?_
        rintro e w14 ⟨rfl, hB⟩
        have KP20 := Lib.hid (KP19.out.up (btr (bz (((w13.alloc (.cells (arrI [0, 1, 0, 1]) 3)).alloc (.cells (arrI [0, 0, 1, 1]) 3)))) hB))
        clear KP19
        clear hB
        clear gb1 gm
        go_wp2
        have hall := KP20.out.here
        have gSw13 := hall.2.2.1
        clear hall
        refine seg_grow ⟨⟨_, gSw13⟩, rfl⟩ ?_
        clear gSw13
        refine U_one 6 (by kernel_rfl) ?_
        simp only [pickL, List.getElem?_cons_succ, List.getElem?_cons_zero]
        go_wp2_with fail
        refine (of_id _ _).mono ?_
        rintro e w' ⟨rfl, rfl⟩
        go_wp2
        have hall := KP20.out.here
        have gSw13 := hall.2.2.1
        clear hall
        refine seg_grow ⟨⟨_, gSw13⟩, rfl⟩ ?_
        clear gSw13
        refine U_one 7 (by kernel_rfl) ?_
        simp only [pickL, List.getElem?_cons_succ, List.getElem?_cons_zero]
        go_wp2_with fail
        have hall := KP20.out.here
        have gb5 := hall.1
        have gm := hall.2.2.2.2.2.2.2.2.2.2.2.2.2.2.2.2.2.2.2.2.1
        clear hall
        refine (chkpat_lit 4 _ _ [(0, 1), (2, 3), (0, 2), (1, 3)] [0, 0, 1, 1] 5 _ gm gb5 (by decide +kernel) (by decide +kernel) (by decide +kernel)).mono ?_
        rintro e w15 ⟨rfl, hB⟩
        have KP21 := Lib.hid (KP20.out.up (btr (bz w14) hB))
        clear KP20
        clear hB
        clear gb5 gm
        go_wp2
        have hall := KP21.out.here
        have gSw13 := hall.2.2.1
        clear hall
        refine seg_grow ⟨⟨_, gSw13⟩, rfl⟩ ?_
        clear gSw13
        have hall := KP21.out.here
        have gSw13 := hall.2.2.1
        clear hall
        refine U_heads [8, 9] (by kernel_rfl) ⟨⟨_, gSw13⟩, rfl⟩ ?_
        clear gSw13
        simp only [pickL, List.getElem?_cons_succ, List.getElem?_cons_zero]
        repeat (go_big_quiet_step (fail))
        refine wpQuiet_nil ?_
        refine U_done (by kernel_rfl) ?_
        have hall := KP21.out.here
        have gC := hall.2.2.2.1
        clear hall
        have hK := Lib.hid (KG1.out.up gC)
        clear gC
        go_wp2_with fail
        go_meet
        exact ⟨rfl, rfl, hK.out.imp fun _ h => h.2⟩
    · simp only [pickL, List.getElem?_cons_succ, List.getElem?_cons_zero]
      go_wp2
      have KP18 := Lib.hid ((KP17.out.up (bal (bz w13) _)).and (keepI (rdI_at w13 [0, 0, 1, 1] 3 (w13.heap.size) (by simp) (by decide +kernel))))
      clear KP17
      have hall := KP18.out.here
      have gSw13 := hall.2.1
      clear hall
      refine seg_grow ⟨⟨_, gSw13⟩, rfl⟩ ?_
      clear gSw13
      refine U_one 1 (by kernel_rfl) ?_
      simp only [pickL, List.getElem?_cons_succ, List.getElem?_cons_zero]
      go_wp2
      have KP19 := Lib.hid ((KP18.out.up (bal (bz ((w13.alloc (.cells (arrI [0, 0, 1, 1]) 3)))) _)).and (keepI (rdI_at ((w13.alloc (.cells (arrI [0, 0, 1, 1]) 3))) [0, 1, 0, 1] 3 (w13.heap.size + 1) (by simp) (by decide +kernel))))
      clear KP18
      have hall := KP19.out.here
      have gSw13 := hall.2.2.1
      clear hall
      refine seg_grow ⟨⟨_, gSw13⟩, rfl⟩ ?_
      clear gSw13
      refine U_one 2 (by kernel_rfl) ?_
      simp only [pickL, List.getElem?_cons_succ, List.getElem?_cons_zero]
      go_wp2_with fail
      refine (of_id _ _).mono ?_
      rintro e w' ⟨rfl, rfl⟩
      go_wp2
      have hall := KP19.out.here
      have gSw13 := hall.2.2.1
      clear hall
      refine seg_grow ⟨⟨_, gSw13⟩, rfl⟩ ?_
      clear gSw13
      refine U_one 3 (by kernel_rfl) ?_
      simp only [pickL, List.getElem?_cons_succ, List.getElem?_cons_zero]
      go_wp2_with fail
      have hall := KP19.out.here
      have gb1 := hall.1
      have gm := hall.2.2.2.2.2.2.2.2.2.2.2.2.2.2.2.2.2.2.2.2.1
      clear hall
      refine (chkpat_lit 4 _ _ [(0, 1), (2, 3), (0, 2), (1, 3)] [0, 1, 0, 1] 0 _ gm gb1 (by decide +kernel) (by decide +kernel) (by decide +kernel)).mono ?_
      rintro e w14 ⟨rfl, hB⟩
      have KP20 := Lib.hid (KP19.out.up (btr (bz (((w13.alloc (.cells (arrI [0, 0, 1, 1]) 3)).alloc (.cells (arrI [0, 1, 0, 1]) 3)))) hB))
      clear KP19
      clear hB
      clear gb1 gm
      go_wp2
      have hall := KP20.out.here
      have gSw13 := hall.2.2.1
      clear hall
      refine seg_grow ⟨⟨_, gSw13⟩, rfl⟩ ?_
      clear gSw13
      refine U_one 6 (by kernel_rfl) ?_
      simp only [pickL, List.getElem?_cons_succ, List.getElem?_cons_zero]
      go_wp2_with fail
      refine (of_id _ _).mono ?_
      rintro e w' ⟨rfl, rfl⟩
      go_wp2
      have hall := KP20.out.here
      have gSw13 := hall.2.2.1
      clear hall
      refine seg_grow ⟨⟨_, gSw13⟩, rfl⟩ ?_
      clear gSw13
      refine U_one 7 (by kernel_rfl) ?_
      simp only [pickL, List.getElem?_cons_succ, List.getElem?_cons_zero]
      go_wp2_with fail
      have hall := KP20.out.here
      have gb5 := hall.2.1
      have gm := hall.2.2.2.2.2.2.2.2.2.2.2.2.2.2.2.2.2.2.2.2.1
      clear hall
      refine (chkpat_lit 4 _ _ [(0, 1), (2, 3), (0, 2), (1, 3)] [0, 0, 1, 1] 5 _ gm gb5 (by decide +kernel) (by decide +kernel) (by decide +kernel)).mono ?_
      rintro e w15 ⟨rfl, hB⟩
      have KP21 := Lib.hid (KP20.out.up (btr (bz w14) hB))
      clear KP20
      clear hB
      clear gb5 gm
      go_wp2
      have hall := KP21.out.here
      have gSw13 := hall.2.2.1
      clear hall
      refine seg_grow ⟨⟨_, gSw13⟩, rfl⟩ ?_
      clear gSw13
      have hall := KP21.out.here
      have gSw13 := hall.2.2.1
      clear hall
      refine U_heads [8, 9] (by kernel_rfl) ⟨⟨_, gSw13⟩, rfl⟩ ?_
      clear gSw13
      simp only [pickL, List.getElem?_cons_succ, List.getElem?_cons_zero]
      repeat (go_big_quiet_step (fail))
      refine wpQuiet_nil ?_
      refine U_done (by kernel_rfl) ?_
      have hall := KP21.out.here
      have gC := hall.2.2.2.1
      clear hall
      have hK := Lib.hid (KG1.out.up gC)
      clear gC
      go_wp2_with fail
      go_meet
      exact ⟨rfl, rfl, hK.out.imp fun _ h => h.2⟩
  case rest =>
    obtain ⟨rfl, rfl, KGc⟩ := hcut
    have KP15c := Lib.hid (KGc.imp HG.out)
    clear KGc HG KG KP15
    have hall := KP15c.out.here
    have hx1 := hall.2.2.2.2.2.2.2.2.2.1
    have hx0 := hall.2.2.2.2.2.2.2.2.2.2.1
    have hm1 := hall.2.2.2.2.2.2.2.2.2.2.2.1
    have hm0 := hall.2.2.2.2.2.2.2.2.2.2.2.2.1
    have hn1 := hall.2.2.2.2.2.2.2.2.2.2.2.2.2.1
    have hn0 := hall.2.2.2.2.2.2.2.2.2.2.2.2.2.2.1
    clear hall
    have zn := World.block_lt_of_cell? _ _ hn0
    have zm := World.block_lt_of_cell? _ _ hm0
    have zx := World.block_lt_of_cell? _ _ hx0
    simp only at zn zm zx
    go_wp2_with fail
    clear hx1 hx0 hm1 hm0 hn1 hn0 zn zm zx
    have hall := KP15c.out.here
    have gm := hall.2.2.2.2.2.2.2.2.2.2.2.2.2.2.2.2.1
    clear hall
    refine (images_lit 4 _ [(0, 1), (2, 3), (0, 2), (1, 3)] 6 0 _ gm (by decide +kernel) (by decide +kernel) (by decide +kernel)).mono ?_
    rintro e w14 ⟨rfl, hB⟩
    have KP16 := Lib.hid (KP15c.out.up (btr (bz wc) hB))
    clear KP15c
    clear hB
    clear gm
    have hall := KP16.out.here
    have hx1 := hall.2.2.2.2.2.2.2.2.2.1
    have hx0 := hall.2.2.2.2.2.2.2.2.2.2.1
    have hm1 := hall.2.2.2.2.2.2.2.2.2.2.2.1
    have hm0 := hall.2.2.2.2.2.2.2.2.2.2.2.2.1
    have hn1 := hall.2.2.2.2.2.2.2.2.2.2.2.2.2.1
    have hn0 := hall.2.2.2.2.2.2.2.2.2.2.2.2.2.2.1
    clear hall
    have zn := World.block_lt_of_cell? _ _ hn0
    have zm := World.block_lt_of_cell? _ _ hm0
    have zx := World.block_lt_of_cell? _ _ hx0
    simp only at zn zm zx
    go_wp2_with fail
    clear hx1 hx0 hm1 hm0 hn1 hn0 zn zm zx
    have hall := KP16.out.here
    have gx := hall.2.2.2.2.2.2.2.2.2.2.2.2.2.2.2.1
    clear hall
    refine (needless_lit 3 _ [(0, 1), (0, 1), (1, 2)] 0 [1] _ gx (by decide +kernel) (by decide +kernel) (by decide +kernel)).mono ?_
    rintro e w15 ⟨v, rfl, hRd, hB⟩
    obtain ⟨ad, cd, hv⟩ := hRd.ex (1) rfl
    subst hv
    have KP17 := Lib.hid ((KP16.out.up (btr (bz w14) hB)).and (keepI hRd))
    clear KP16
    clear hRd hB
    clear gx
    have hall := KP17.out.here
    have hx1 := hall.2.2.2.2.2.2.2.2.2.2.1
    have hx0 := hall.2.2.2.2.2.2.2.2.2.2.2.1
    have hm1 := hall.2.2.2.2.2.2.2.2.2.2.2.2.1
    have hm0 := hall.2.2.2.2.2.2.2.2.2.2.2.2.2.1
    have hn1 := hall.2.2.2.2.2.2.2.2.2.2.2.2.2.2.1
    have hn0 := hall.2.2.2.2.2.2.2.2.2.2.2.2.2.2.2.1
    clear hall
    have zn := World.block_lt_of_cell? _ _ hn0
    have zm := World.block_lt_of_cell? _ _ hm0
    have zx := World.block_lt_of_cell? _ _ hx0
    simp only at zn zm zx
    go_wp2_with fail
    clear hx1 hx0 hm1 hm0 hn1 hn0 zn zm zx
    have hall := KP17.out.here
    have gx := hall.2.2.2.2.2.2.2.2.2.2.2.2.2.2.2.2.1
    clear hall
    refine (cut_lit 3 _ [(0, 1), (0, 1), (1, 2)] 0 3 [(0, 1), (1, 2)] _ gx (by decide +kernel) (by decide +kernel) (by decide +kernel) (by decide +kernel)).mono ?_
    rintro e w16 ⟨v, rfl, hRc, hB⟩
    obtain ⟨ac, cc, hv⟩ := hRc.ex (2) rfl
    subst hv
    have KP18 := Lib.hid ((KP17.out.up (btr (bz w15) hB)).and (keepP hRc))
    clear KP17
    clear hRc hB
    clear gx
    have hall := KP18.out.here
    have hx1 := hall.2.2.2.2.2.2.2.2.2.2.2.1
    have hx0 := hall.2.2.2.2.2.2.2.2.2.2.2.2.1
    have hm1 := hall.2.2.2.2.2.2.2.2.2.2.2.2.2.1
    have hm0 := hall.2.2.2.2.2.2.2.2.2.2.2.2.2.2.1
    have hn1 := hall.2.2.2.2.2.2.2.2.2.2.2.2.2.2.2.1
    have hn0 := hall.2.2.2.2.2.2.2.2.2.2.2.2.2.2.2.2.1
    clear hall
    have zn := World.block_lt_of_cell? _ _ hn0
    have zm := World.block_lt_of_cell? _ _ hm0
    have zx := World.block_lt_of_cell? _ _ hx0
    simp only at zn zm zx
    go_wp2_with fail
    clear hx1 hx0 hm1 hm0 hn1 hn0 zn zm zx
    have KP19 := Lib.hid (((KP18.out.up (bal (bz w16) _)).and (keepC (w := (w16.alloc (.cells #[.int .i64 3, .slice ac 2 cc] 24))) (p := ⟨w16.heap.size, 0, none⟩) (cnew (by simp) rfl))).and (keepC (w := (w16.alloc (.cells #[.int .i64 3, .slice ac 2 cc] 24))) (p := ⟨w16.heap.size, 1, none⟩) (cnew (by simp) rfl)))
    clear KP18
    have hall := KP19.out.here
    have gn := hall.2.2.2.2.2.2.2.2.2.2.2.2.2.2.2.2.2.2.2.2.2.1
    clear hall
    refine (rounds_lit 4 _ [(0, 1), (2, 3), (0, 2), (1, 3), (1, 2)] 0 [1, 1, 2, 2, 3] _ gn (by decide +kernel) (by decide +kernel) (by decide +kernel)).mono ?_
    rintro e w17 ⟨v, rfl, hRr, hB⟩
    obtain ⟨ar, cr, hv⟩ := hRr.ex (5) rfl
    subst hv
    have KP20 := Lib.hid ((KP19.out.up (btr (bz ((w16.alloc (.cells #[.int .i64 3, .slice ac 2 cc] 24)))) hB)).and (keepI hRr))
    clear KP19
    clear hRr hB
    clear gn
    have hall := KP20.out.here
    have hc1 := hall.2.1
    have hc0 := hall.2.2.1
    have hx1 := hall.2.2.2.2.2.2.2.2.2.2.2.2.2.2.1
    have hx0 := hall.2.2.2.2.2.2.2.2.2.2.2.2.2.2.2.1
    have hm1 := hall.2.2.2.2.2.2.2.2.2.2.2.2.2.2.2.2.1
    have hm0 := hall.2.2.2.2.2.2.2.2.2.2.2.2.2.2.2.2.2.1
    have hn1 := hall.2.2.2.2.2.2.2.2.2.2.2.2.2.2.2.2.2.2.1
    have hn0 := hall.2.2.2.2.2.2.2.2.2.2.2.2.2.2.2.2.2.2.2.1
    clear hall
    have zn := World.block_lt_of_cell? _ _ hn0
    have zm := World.block_lt_of_cell? _ _ hm0
    have zx := World.block_lt_of_cell? _ _ hx0
    have zc := World.block_lt_of_cell? _ _ hc0
    simp only at zn zm zx zc
    go_wp2_with fail
    clear hc1 hc0 hx1 hx0 hm1 hm0 hn1 hn0 zn zm zx zc
    have hall := KP20.out.here
    have gx := hall.2.2.2.2.2.2.2.2.2.2.2.2.2.2.2.2.2.2.2.2.1
    clear hall
    refine (ends_lit 3 2 _ [(0, 1), (0, 1), (1, 2)] 0 [1, 2] _ gx (by decide +kernel) (by decide +kernel) (by decide +kernel)).mono ?_
    rintro e w18 ⟨v, rfl, hRe, hB⟩
    obtain ⟨ae, ce, hv⟩ := hRe.ex (2) rfl
    subst hv
    have KP21 := Lib.hid ((KP20.out.up (btr (bz w17) hB)).and (keepI hRe))
    clear KP20
    clear hRe hB
    clear gx
    have hall := KP21.out.here
    have hc1 := hall.2.2.1
    have hc0 := hall.2.2.2.1
    have hx1 := hall.2.2.2.2.2.2.2.2.2.2.2.2.2.2.2.1
    have hx0 := hall.2.2.2.2.2.2.2.2.2.2.2.2.2.2.2.2.1
    have hm1 := hall.2.2.2.2.2.2.2.2.2.2.2.2.2.2.2.2.2.1
    have hm0 := hall.2.2.2.2.2.2.2.2.2.2.2.2.2.2.2.2.2.2.1
    have hn1 := hall.2.2.2.2.2.2.2.2.2.2.2.2.2.2.2.2.2.2.2.1
    have hn0 := hall.2.2.2.2.2.2.2.2.2.2.2.2.2.2.2.2.2.2.2.2.1
    clear hall
    have zn := World.block_lt_of_cell? _ _ hn0
    have zm := World.block_lt_of_cell? _ _ hm0
    have zx := World.block_lt_of_cell? _ _ hx0
    have zc := World.block_lt_of_cell? _ _ hc0
    simp only at zn zm zx zc
    go_wp2_with fail
    clear hc1 hc0 hx1 hx0 hm1 hm0 hn1 hn0 zn zm zx zc
    have hall := KP21.out.here
    have gx := hall.2.2.2.2.2.2.2.2.2.2.2.2.2.2.2.2.2.2.2.2.2.1
    clear hall
    refine (mirror_lit 3 _ [(0, 1), (0, 1), (1, 2)] 0 3 [(1, 2), (1, 2), (0, 1)] _ gx (by decide +kernel) (by decide +kernel) (by decide +kernel) (by decide +kernel)).mono ?_
    rintro e w19 ⟨v, rfl, hRo, hB⟩
    obtain ⟨ao, co, hv⟩ := hRo.ex (3) rfl
    subst hv
    have KP22 := Lib.hid ((KP21.out.up (btr (bz w18) hB)).and (keepP hRo))
    clear KP21
    clear hRo hB
    clear gx
    have hall := KP22.out.here
    have hc1 := hall.2.2.2.1
    have hc0 := hall.2.2.2.2.1
    have hx1 := hall.2.2.2.2.2.2.2.2.2.2.2.2.2.2.2.2.1
    have hx0 := hall.2.2.2.2.2.2.2.2.2.2.2.2.2.2.2.2.2.1
    have hm1 := hall.2.2.2.2.2.2.2.2.2.2.2.2.2.2.2.2.2.2.1
    have hm0 := hall.2.2.2.2.2.2.2.2.2.2.2.2.2.2.2.2.2.2.2.1
    have hn1 := hall.2.2.2.2.2.2.2.2.2.2.2.2.2.2.2.2.2.2.2.2.1
    have hn0 := hall.2.2.2.2.2.2.2.2.2.2.2.2.2.2.2.2.2.2.2.2.2.1
    clear hall
    have zn := World.block_lt_of_cell? _ _ hn0
    have zm := World.block_lt_of_cell? _ _ hm0
    have zx := World.block_lt_of_cell? _ _ hx0
    have zc := World.block_lt_of_cell? _ _ hc0
    simp only at zn zm zx zc
    go_wp2_with fail
    clear hc1 hc0 hx1 hx0 hm1 hm0 hn1 hn0 zn zm zx zc
    have KP23 := Lib.hid (((KP22.out.up (bal (bz w19) _)).and (keepC (w := (w19.alloc (.cells #[.int .i64 3, .slice ao 3 co] 24))) (p := ⟨w19.heap.size, 0, none⟩) (cnew (by simp) rfl))).and (keepC (w := (w19.alloc (.cells #[.int .i64 3, .slice ao 3 co] 24))) (p := ⟨w19.heap.size, 1, none⟩) (cnew (by simp) rfl)))
    clear KP22
    refine (bricks_lit 3 0 3 [(0, 1), (1, 2), (0, 1)] _ (by decide +kernel) (by decide +kernel) (by decide +kernel)).mono ?_
    rintro e w20 ⟨v, rfl, hRb, hB⟩
    obtain ⟨ab, cb, hv⟩ := hRb.ex (3) rfl
    subst hv
    have KP24 := Lib.hid ((KP23.out.up (btr (bz ((w19.alloc (.cells #[.int .i64 3, .slice ao 3 co] 24)))) hB)).and (keepP hRb))
    clear KP23
    clear hRb hB
    have hall := KP24.out.here
    have ho1 := hall.2.1
    have ho0 := hall.2.2.1
    have hc1 := hall.2.2.2.2.2.2.1
    have hc0 := hall.2.2.2.2.2.2.2.1
    have hx1 := hall.2.2.2.2.2.2.2.2.2.2.2.2.2.2.2.2.2.2.2.1
    have hx0 := hall.2.2.2.2.2.2.2.2.2.2.2.2.2.2.2.2.2.2.2.2.1
    have hm1 := hall.2.2.2.2.2.2.2.2.2.2.2.2.2.2.2.2.2.2.2.2.2.1
    have hm0 := hall.2.2.2.2.2.2.2.2.2.2.2.2.2.2.2.2.2.2.2.2.2.2.1
    have hn1 := hall.2.2.2.2.2.2.2.2.2.2.2.2.2.2.2.2.2.2.2.2.2.2.2.1
    have hn0 := hall.2.2.2.2.2.2.2.2.2.2.2.2.2.2.2.2.2.2.2.2.2.2.2.2.1
    clear hall
    have zn := World.block_lt_of_cell? _ _ hn0
    have zm := World.block_lt_of_cell? _ _ hm0
    have zx := World.block_lt_of_cell? _ _ hx0
    have zc := World.block_lt_of_cell? _ _ hc0
    have zo := World.block_lt_of_cell? _ _ ho0
    simp only at zn zm zx zc zo
    go_wp2_with fail
    clear ho1 ho0 hc1 hc0 hx1 hx0 hm1 hm0 hn1 hn0 zn zm zx zc zo
    have KP25 := Lib.hid (((KP24.out.up (bal (bz w20) _)).and (keepC (w := (w20.alloc (.cells #[.int .i64 3, .slice ab 3 cb] 24))) (p := ⟨w20.heap.size, 0, none⟩) (cnew (by simp) rfl))).and (keepC (w := (w20.alloc (.cells #[.int .i64 3, .slice ab 3 cb] 24))) (p := ⟨w20.heap.size, 1, none⟩) (cnew (by simp) rfl)))
    clear KP24
    refine (merge_lit 4 0 4 [(0, 2), (1, 3), (0, 1), (2, 3), (1, 2)] _ (by decide +kernel) (by decide +kernel) (by decide +kernel)).mono ?_
    rintro e w21 ⟨v, rfl, hRg, hB⟩
    obtain ⟨ag, cg, hv⟩ := hRg.ex (5) rfl
    subst hv
    have KP26 := Lib.hid ((KP25.out.up (btr (bz ((w20.alloc (.cells #[.int .i64 3, .slice ab 3 cb] 24)))) hB)).and (keepP hRg))
    clear KP25
    clear hRg hB
    have hall := KP26.out.here
    have hb1 := hall.2.1
    have hb0 := hall.2.2.1
    have ho1 := hall.2.2.2.2.1
    have ho0 := hall.2.2.2.2.2.1
    have hc1 := hall.2.2.2.2.2.2.2.2.2.1
    have hc0 := hall.2.2.2.2.2.2.2.2.2.2.1
    have hx1 := hall.2.2.2.2.2.2.2.2.2.2.2.2.2.2.2.2.2.2.2.2.2.2.1
    have hx0 := hall.2.2.2.2.2.2.2.2.2.2.2.2.2.2.2.2.2.2.2.2.2.2.2.1
    have hm1 := hall.2.2.2.2.2.2.2.2.2.2.2.2.2.2.2.2.2.2.2.2.2.2.2.2.1
    have hm0 := hall.2.2.2.2.2.2.2.2.2.2.2.2.2.2.2.2.2.2.2.2.2.2.2.2.2.1
    have hn1 := hall.2.2.2.2.2.2.2.2.2.2.2.2.2.2.2.2.2.2.2.2.2.2.2.2.2.2.1
    have hn0 := hall.2.2.2.2.2.2.2.2.2.2.2.2.2.2.2.2.2.2.2.2.2.2.2.2.2.2.2.1
    clear hall
    have zn := World.block_lt_of_cell? _ _ hn0
    have zm := World.block_lt_of_cell? _ _ hm0
    have zx := World.block_lt_of_cell? _ _ hx0
    have zc := World.block_lt_of_cell? _ _ hc0
    have zo := World.block_lt_of_cell? _ _ ho0
    have zb := World.block_lt_of_cell? _ _ hb0
    simp only at zn zm zx zc zo zb
    go_wp2_with fail
    clear hb1 hb0 ho1 ho0 hc1 hc0 hx1 hx0 hm1 hm0 hn1 hn0 zn zm zx zc zo zb
    have KP27 := Lib.hid (((KP26.out.up (bal (bz w21) _)).and (keepC (w := (w21.alloc (.cells #[.int .i64 4, .slice ag 5 cg] 24))) (p := ⟨w21.heap.size, 0, none⟩) (cnew (by simp) rfl))).and (keepC (w := (w21.alloc (.cells #[.int .i64 4, .slice ag 5 cg] 24))) (p := ⟨w21.heap.size, 1, none⟩) (cnew (by simp) rfl)))
    clear KP26
    refine (merge_lit 9 6 0 [] _ (by decide +kernel) (by decide +kernel) (by decide +kernel)).mono ?_
    rintro e w22 ⟨v, rfl, hRz, hB⟩
    obtain ⟨az, cz, hv⟩ := hRz.ex (0) rfl
    subst hv
    have KP28 := Lib.hid ((KP27.out.up (btr (bz ((w21.alloc (.cells #[.int .i64 4, .slice ag 5 cg] 24)))) hB)).and (keepP hRz))
    clear KP27
    clear hRz hB
    
    have hall := KP28.out.here
    have hg1 := hall.2.1
    have hg0 := hall.2.2.1
    have hb1 := hall.2.2.2.2.1
    have hb0 := hall.2.2.2.2.2.1
    have ho1 := hall.2.2.2.2.2.2.2.1
    have ho0 := hall.2.2.2.2.2.2.2.2.1
    have hc1 := hall.2.2.2.2.2.2.2.2.2.2.2.2.1
    have hc0 := hall.2.2.2.2.2.2.2.2.2.2.2.2.2.1
    have hx1 := hall.2.2.2.2.2.2.2.2.2.2.2.2.2.2.2.2.2.2.2.2.2.2.2.2.2.1
    have hx0 := hall.2.2.2.2.2.2.2.2.2.2.2.2.2.2.2.2.2.2.2.2.2.2.2.2.2.2.1
    have hm1 := hall.2.2.2.2.2.2.2.2.2.2.2.2.2.2.2.2.2.2.2.2.2.2.2.2.2.2.2.1
    have hm0 := hall.2.2.2.2.2.2.2.2.2.2.2.2.2.2.2.2.2.2.2.2.2.2.2.2.2.2.2.2.1
    have hn1 := hall.2.2.2.2.2.2.2.2.2.2.2.2.2.2.2.2.2.2.2.2.2.2.2.2.2.2.2.2.2.1
    have hn0 := hall.2.2.2.2.2.2.2.2.2.2.2.2.2.2.2.2.2.2.2.2.2.2.2.2.2.2.2.2.2.2.1
    clear hall
    have zn := World.block_lt_of_cell? _ _ hn0
    have zm := World.block_lt_of_cell? _ _ hm0
    have zx := World.block_lt_of_cell? _ _ hx0
    have zc := World.block_lt_of_cell? _ _ hc0
    have zo := World.block_lt_of_cell? _ _ ho0
    have zb := World.block_lt_of_cell? _ _ hb0
    have zg := World.block_lt_of_cell? _ _ hg0
    simp only at zn zm zx zc zo zb zg
    go_wp2_with fail
    clear hg1 hg0 hb1 hb0 ho1 ho0 hc1 hc0 hx1 hx0 hm1 hm0 hn1 hn0 zn zm zx zc zo zb zg
    have KP29 := Lib.hid (((KP28.out.up (bal (bz w22) _)).and (keepC (w := (w22.alloc (.cells #[.int .i64 0, .slice az 0 cz] 24))) (p := ⟨w22.heap.size, 0, none⟩) (cnew (by simp) rfl))).and (keepC (w := (w22.alloc (.cells #[.int .i64 0, .slice az 0 cz] 24))) (p := ⟨w22.heap.size, 1, none⟩) (cnew (by simp) rfl)))
    clear KP28
    refine wp_region_flow [] [([0], 1, true), ([], 2, true), ([], 3, true), ([4, 5], 6, true), ([], 7, true), ([], 8, true), ([9, 10, 11, 12, 13, 14, 15], 16, true), ([], 17, true), ([], 18, true), ([19, 20, 21], 22, true), ([], 23, true), ([], 24, true), ([25, 26, 27], 28, true), ([], 29, true), ([], 30, true), ([31, 32, 33], 34, true), ([], 35, true), ([], 36, true), ([37, 38, 39], 40, true), ([], 41, true), ([], 42, true), ([43, 44, 45], 46, true), ([], 47, true), ([], 48, true), ([49, 50, 51], 52, true), ([], 53, true), ([], 54, true)] [55, 56] (by kernel_rfl) (by kernel_rfl) ?_
    intro w23 hB hh
    clear hh
    have KP30 := Lib.hid ((KP29.out.up (btr (bz ((w22.alloc (.cells #[.int .i64 0, .slice az 0 cz] 24)))) hB)).and (keepB (bz w23)))
    clear KP29
    clear hB
    have hall := KP30.out.here
    have hg1 := hall.2.2.2.2.1
    have hg0 := hall.2.2.2.2.2.1
    have hb1 := hall.2.2.2.2.2.2.2.1
    have hb0 := hall.2.2.2.2.2.2.2.2.1
    have ho1 := hall.2.2.2.2.2.2.2.2.2.2.1
    have ho0 := hall.2.2.2.2.2.2.2.2.2.2.2.1
    have hc1 := hall.2.2.2.2.2.2.2.2.2.2.2.2.2.2.2.1
    have hc0 := hall.2.2.2.2.2.2.2.2.2.2.2.2.2.2.2.2.1
    clear hall
    have zc := World.block_lt_of_cell? _ _ hc0
    have zo := World.block_lt_of_cell? _ _ ho0
    have zb := World.block_lt_of_cell? _ _ hb0
    have zg := World.block_lt_of_cell? _ _ hg0
    simp only at zc zo zb zg
    have hL := @Later.cell w23
    simp only [flowP, flow, pickL, List.getElem?_cons_succ, List.getElem?_cons_zero]
    refine wpQuiet_nil ?_
    repeat (go_big_quiet_step (fail))
    refine wpQuiet_nil ?_
    go_wp2
    have KP31 := Lib.hid ((KP30.out.up (bal (bz w23) _)).and (keepI (rdI_at w23 [0, 1, 2, 3] 2 (w23.heap.size) (by simp) (by decide +kernel))))
    clear KP30
    have hall := KP31.out.here
    have gSw23 := hall.2.1
    clear hall
    refine seg_grow ⟨⟨_, gSw23⟩, rfl⟩ ?_
    clear gSw23
    repeat (go_big_quiet_step (fail))
    refine wpQuiet_nil ?_
    go_wp2_with fail
    refine (longs_id _ _).mono ?_
    rintro e w' ⟨rfl, rfl⟩
    go_wp2
    have hall := KP31.out.here
    have gSw23 := hall.2.1
    clear hall
    refine seg_grow ⟨⟨_, gSw23⟩, rfl⟩ ?_
    clear gSw23
    repeat (go_big_quiet_step (fail))
    refine wpQuiet_nil ?_
    go_wp2_with fail
    have hall := KP31.out.here
    have glit30 := hall.1
    have gl := hall.2.2.2.2.2.2.2.2.2.2.2.2.2.2.2.2.2.2.2.2.2.2.2.2.2.2.1
    clear hall
    refine (longs_eq _ _ [0, 1, 2, 3] _ gl glit30 (by decide +kernel)).mono ?_
    rintro e w24 ⟨rfl, hB⟩
    have KP32 := Lib.hid (KP31.out.up (btr (bz ((w23.alloc (.cells (arrI [0, 1, 2, 3]) 2)))) hB))
    clear KP31
    clear hB
    clear glit30 gl
    go_wp2
    have hall := KP32.out.here
    have gSw23 := hall.2.1
    clear hall
    refine seg_grow ⟨⟨_, gSw23⟩, rfl⟩ ?_
    clear gSw23
    repeat (go_big_quiet_step (fail))
    refine wpQuiet_nil ?_
    go_wp2
    have KP33 := Lib.hid ((KP32.out.up (bal (bz w24) _)).and (keepI (rdI_at w24 [0, 1, 0, 1] 3 (w24.heap.size) (by simp) (by decide +kernel))))
    clear KP32
    have hall := KP33.out.here
    have gSw23 := hall.2.2.1
    clear hall
    refine seg_grow ⟨⟨_, gSw23⟩, rfl⟩ ?_
    clear gSw23
    repeat (go_big_quiet_step (fail))
    refine wpQuiet_nil ?_
    go_wp2_with fail
    refine (of_id _ _).mono ?_
    rintro e w' ⟨rfl, rfl⟩
    go_wp2
    have hall := KP33.out.here
    have gSw23 := hall.2.2.1
    clear hall
    refine seg_grow ⟨⟨_, gSw23⟩, rfl⟩ ?_
    clear gSw23
    repeat (go_big_quiet_step (fail))
    refine wpQuiet_nil ?_
    go_wp2_with fail
    have hall := KP33.out.here
    have glit32 := hall.1
    have gp := hall.2.2.2.2.2.2.2.2.2.2.2.2.2.2.2.2.2.2.2.2.2.2.1
    clear hall
    refine (ints_eq _ _ [0, 1, 0, 1] _ gp glit32 (by decide +kernel)).mono ?_
    rintro e w25 ⟨rfl, hB⟩
    have KP34 := Lib.hid (KP33.out.up (btr (bz ((w24.alloc (.cells (arrI [0, 1, 0, 1]) 3)))) hB))
    clear KP33
    clear hB
    clear glit32 gp
    go_wp2
    have hall := KP34.out.here
    have gSw23 := hall.2.2.1
    clear hall
    refine seg_grow ⟨⟨_, gSw23⟩, rfl⟩ ?_
    clear gSw23
    repeat (go_big_quiet_step (fail))
    refine wpQuiet_nil ?_
    go_wp2
    have KP35 := Lib.hid ((KP34.out.up (bal (bz w25) _)).and (keepI (rdI_at w25 [1] 3 (w25.heap.size) (by simp) (by decide +kernel))))
    clear KP34
    have hall := KP35.out.here
    have gSw23 := hall.2.2.2.1
    clear hall
    refine seg_grow ⟨⟨_, gSw23⟩, rfl⟩ ?_
    clear gSw23
    repeat (go_big_quiet_step (fail))
    refine wpQuiet_nil ?_
    go_wp2_with fail
    refine (of_id _ _).mono ?_
    rintro e w' ⟨rfl, rfl⟩
    go_wp2
    have hall := KP35.out.here
    have gSw23 := hall.2.2.2.1
    clear hall
    refine seg_grow ⟨⟨_, gSw23⟩, rfl⟩ ?_
    clear gSw23
    repeat (go_big_quiet_step (fail))
    refine wpQuiet_nil ?_
    go_wp2_with fail
    have hall := KP35.out.here
    have glit34 := hall.1
    have gd := hall.2.2.2.2.2.2.2.2.2.2.2.2.2.2.2.2.2.2.2.2.2.1
    clear hall
    refine (ints_eq _ _ [1] _ gd glit34 (by decide +kernel)).mono ?_
    rintro e w26 ⟨rfl, hB⟩
    have KP36 := Lib.hid (KP35.out.up (btr (bz ((w25.alloc (.cells (arrI [1]) 3)))) hB))
    clear KP35
    clear hB
    clear glit34 gd
    go_wp2
    have hall := KP36.out.here
    have gSw23 := hall.2.2.2.1
    clear hall
    refine seg_grow ⟨⟨_, gSw23⟩, rfl⟩ ?_
    clear gSw23
    repeat (go_big_quiet_step (fail))
    refine wpQuiet_nil ?_
    go_wp2
    have KP37 := Lib.hid ((KP36.out.up (bal (bz w26) _)).and (keepI (rdI_at w26 [0, 1, 1, 2] 3 (w26.heap.size) (by simp) (by decide +kernel))))
    clear KP36
    have hall := KP37.out.here
    have gSw23 := hall.2.2.2.2.1
    clear hall
    refine seg_grow ⟨⟨_, gSw23⟩, rfl⟩ ?_
    clear gSw23
    repeat (go_big_quiet_step (fail))
    refine wpQuiet_nil ?_
    go_wp2_with fail
    have hall := KP37.out.here
    have glit36 := hall.1
    clear hall
    refine (row_lit 3 _ [0, 1, 1, 2] [(0, 1), (1, 2)] _ glit36 (by decide +kernel) rfl).mono ?_
    rintro e w27 ⟨v, rfl, hRrow37, hB⟩
    obtain ⟨arow37, crow37, hv⟩ := hRrow37.ex (2) rfl
    subst hv
    have KP38 := Lib.hid ((KP37.out.up (btr (bz ((w26.alloc (.cells (arrI [0, 1, 1, 2]) 3)))) hB)).and (keepP hRrow37))
    clear KP37
    clear hRrow37 hB
    clear glit36
    go_wp2
    have hall := KP38.out.here
    have gSw23 := hall.2.2.2.2.2.1
    clear hall
    refine seg_grow ⟨⟨_, gSw23⟩, rfl⟩ ?_
    clear gSw23
    repeat (go_big_quiet_step (fail))
    refine wpQuiet_nil ?_
    go_wp2_with fail
    have hall := KP38.out.here
    have grow37 := hall.1
    have gc := hall.2.2.2.2.2.2.2.2.2.2.2.2.2.2.2.2.2.2.2.2.2.2.1
    clear hall
    refine (same_eq 3 _ _ [(0, 1), (1, 2)] _ gc grow37 (by decide +kernel)).mono ?_
    rintro e w28 ⟨rfl, hB⟩
    have KP39 := Lib.hid (KP38.out.up (btr (bz w27) hB))
    clear KP38
    clear hB
    clear grow37 gc
    go_wp2
    have hall := KP39.out.here
    have gSw23 := hall.2.2.2.2.2.1
    clear hall
    refine seg_grow ⟨⟨_, gSw23⟩, rfl⟩ ?_
    clear gSw23
    repeat (go_big_quiet_step (fail))
    refine wpQuiet_nil ?_
    go_wp2
    have KP40 := Lib.hid ((KP39.out.up (bal (bz w28) _)).and (keepI (rdI_at w28 [1, 1, 2, 2, 3] 3 (w28.heap.size) (by simp) (by decide +kernel))))
    clear KP39
    have hall := KP40.out.here
    have gSw23 := hall.2.2.2.2.2.2.1
    clear hall
    refine seg_grow ⟨⟨_, gSw23⟩, rfl⟩ ?_
    clear gSw23
    repeat (go_big_quiet_step (fail))
    refine wpQuiet_nil ?_
    go_wp2_with fail
    refine (of_id _ _).mono ?_
    rintro e w' ⟨rfl, rfl⟩
    go_wp2
    have hall := KP40.out.here
    have gSw23 := hall.2.2.2.2.2.2.1
    clear hall
    refine seg_grow ⟨⟨_, gSw23⟩, rfl⟩ ?_
    clear gSw23
    repeat (go_big_quiet_step (fail))
    refine wpQuiet_nil ?_
    go_wp2_with fail
    have hall := KP40.out.here
    have glit39 := hall.1
    have gr := hall.2.2.2.2.2.2.2.2.2.2.2.2.2.2.2.2.2.2.2.2.1
    clear hall
    refine (ints_eq _ _ [1, 1, 2, 2, 3] _ gr glit39 (by decide +kernel)).mono ?_
    rintro e w29 ⟨rfl, hB⟩
    have KP41 := Lib.hid (KP40.out.up (btr (bz ((w28.alloc (.cells (arrI [1, 1, 2, 2, 3]) 3)))) hB))
    clear KP40
    clear hB
    clear glit39 gr
    go_wp2
    have hall := KP41.out.here
    have gSw23 := hall.2.2.2.2.2.2.1
    clear hall
    refine seg_grow ⟨⟨_, gSw23⟩, rfl⟩ ?_
    clear gSw23
    repeat (go_big_quiet_step (fail))
    refine wpQuiet_nil ?_
    go_wp2
    have KP42 := Lib.hid ((KP41.out.up (bal (bz w29) _)).and (keepI (rdI_at w29 [1, 2] 3 (w29.heap.size) (by simp) (by decide +kernel))))
    clear KP41
    have hall := KP42.out.here
    have gSw23 := hall.2.2.2.2.2.2.2.1
    clear hall
    refine seg_grow ⟨⟨_, gSw23⟩, rfl⟩ ?_
    clear gSw23
    repeat (go_big_quiet_step (fail))
    refine wpQuiet_nil ?_
    go_wp2_with fail
    refine (of_id _ _).mono ?_
    rintro e w' ⟨rfl, rfl⟩
    go_wp2
    have hall := KP42.out.here
    have gSw23 := hall.2.2.2.2.2.2.2.1
    clear hall
    refine seg_grow ⟨⟨_, gSw23⟩, rfl⟩ ?_
    clear gSw23
    repeat (go_big_quiet_step (fail))
    refine wpQuiet_nil ?_
    go_wp2_with fail
    have hall := KP42.out.here
    have glit41 := hall.1
    have ge := hall.2.2.2.2.2.2.2.2.2.2.2.2.2.2.2.2.2.2.2.2.1
    clear hall
    refine (ints_eq _ _ [1, 2] _ ge glit41 (by decide +kernel)).mono ?_
    rintro e w30 ⟨rfl, hB⟩
    have KP43 := Lib.hid (KP42.out.up (btr (bz ((w29.alloc (.cells (arrI [1, 2]) 3)))) hB))
    clear KP42
    clear hB
    clear glit41 ge
    go_wp2
    have hall := KP43.out.here
    have gSw23 := hall.2.2.2.2.2.2.2.1
    clear hall
    refine seg_grow ⟨⟨_, gSw23⟩, rfl⟩ ?_
    clear gSw23
    repeat (go_big_quiet_step (fail))
    refine wpQuiet_nil ?_
    go_wp2
    have KP44 := Lib.hid ((KP43.out.up (bal (bz w30) _)).and (keepI (rdI_at w30 [1, 2, 1, 2, 0, 1] 3 (w30.heap.size) (by simp) (by decide +kernel))))
    clear KP43
    have hall := KP44.out.here
    have gSw23 := hall.2.2.2.2.2.2.2.2.1
    clear hall
    refine seg_grow ⟨⟨_, gSw23⟩, rfl⟩ ?_
    clear gSw23
    repeat (go_big_quiet_step (fail))
    refine wpQuiet_nil ?_
    go_wp2_with fail
    have hall := KP44.out.here
    have glit43 := hall.1
    clear hall
    refine (row_lit 3 _ [1, 2, 1, 2, 0, 1] [(1, 2), (1, 2), (0, 1)] _ glit43 (by decide +kernel) rfl).mono ?_
    rintro e w31 ⟨v, rfl, hRrow44, hB⟩
    obtain ⟨arow44, crow44, hv⟩ := hRrow44.ex (3) rfl
    subst hv
    have KP45 := Lib.hid ((KP44.out.up (btr (bz ((w30.alloc (.cells (arrI [1, 2, 1, 2, 0, 1]) 3)))) hB)).and (keepP hRrow44))
    clear KP44
    clear hRrow44 hB
    clear glit43
    go_wp2
    have hall := KP45.out.here
    have gSw23 := hall.2.2.2.2.2.2.2.2.2.1
    clear hall
    refine seg_grow ⟨⟨_, gSw23⟩, rfl⟩ ?_
    clear gSw23
    repeat (go_big_quiet_step (fail))
    refine wpQuiet_nil ?_
    go_wp2_with fail
    have hall := KP45.out.here
    have grow44 := hall.1
    have go := hall.2.2.2.2.2.2.2.2.2.2.2.2.2.2.2.2.2.2.2.2.2.1
    clear hall
    refine (same_eq 3 _ _ [(1, 2), (1, 2), (0, 1)] _ go grow44 (by decide +kernel)).mono ?_
    rintro e w32 ⟨rfl, hB⟩
    have KP46 := Lib.hid (KP45.out.up (btr (bz w31) hB))
    clear KP45
    clear hB
    clear grow44 go
    go_wp2
    have hall := KP46.out.here
    have gSw23 := hall.2.2.2.2.2.2.2.2.2.1
    clear hall
    refine seg_grow ⟨⟨_, gSw23⟩, rfl⟩ ?_
    clear gSw23
    repeat (go_big_quiet_step (fail))
    refine wpQuiet_nil ?_
    go_wp2
    have KP47 := Lib.hid ((KP46.out.up (bal (bz w32) _)).and (keepI (rdI_at w32 [0, 1, 1, 2, 0, 1] 3 (w32.heap.size) (by simp) (by decide +kernel))))
    clear KP46
    have hall := KP47.out.here
    have gSw23 := hall.2.2.2.2.2.2.2.2.2.2.1
    clear hall
    refine seg_grow ⟨⟨_, gSw23⟩, rfl⟩ ?_
    clear gSw23
    repeat (go_big_quiet_step (fail))
    refine wpQuiet_nil ?_
    go_wp2_with fail
    have hall := KP47.out.here
    have glit46 := hall.1
    clear hall
    refine (row_lit 3 _ [0, 1, 1, 2, 0, 1] [(0, 1), (1, 2), (0, 1)] _ glit46 (by decide +kernel) rfl).mono ?_
    rintro e w33 ⟨v, rfl, hRrow47, hB⟩
    obtain ⟨arow47, crow47, hv⟩ := hRrow47.ex (3) rfl
    subst hv
    have KP48 := Lib.hid ((KP47.out.up (btr (bz ((w32.alloc (.cells (arrI [0, 1, 1, 2, 0, 1]) 3)))) hB)).and (keepP hRrow47))
    clear KP47
    clear hRrow47 hB
    clear glit46
    go_wp2
    have hall := KP48.out.here
    have gSw23 := hall.2.2.2.2.2.2.2.2.2.2.2.1
    clear hall
    refine seg_grow ⟨⟨_, gSw23⟩, rfl⟩ ?_
    clear gSw23
    repeat (go_big_quiet_step (fail))
    refine wpQuiet_nil ?_
    go_wp2_with fail
    have hall := KP48.out.here
    have grow47 := hall.1
    have gb := hall.2.2.2.2.2.2.2.2.2.2.2.2.2.2.2.2.2.2.2.2.1
    clear hall
    refine (same_eq 3 _ _ [(0, 1), (1, 2), (0, 1)] _ gb grow47 (by decide +kernel)).mono ?_
    rintro e w34 ⟨rfl, hB⟩
    have KP49 := Lib.hid (KP48.out.up (btr (bz w33) hB))
    clear KP48
    clear hB
    clear grow47 gb
    go_wp2
    have hall := KP49.out.here
    have gSw23 := hall.2.2.2.2.2.2.2.2.2.2.2.1
    clear hall
    refine seg_grow ⟨⟨_, gSw23⟩, rfl⟩ ?_
    clear gSw23
    repeat (go_big_quiet_step (fail))
    refine wpQuiet_nil ?_
    go_wp2
    have KP50 := Lib.hid ((KP49.out.up (bal (bz w34) _)).and (keepI (rdI_at w34 [0, 2, 1, 3, 0, 1, 2, 3, 1, 2] 3 (w34.heap.size) (by simp) (by decide +kernel))))
    clear KP49
    have hall := KP50.out.here
    have gSw23 := hall.2.2.2.2.2.2.2.2.2.2.2.2.1
    clear hall
    refine seg_grow ⟨⟨_, gSw23⟩, rfl⟩ ?_
    clear gSw23
    repeat (go_big_quiet_step (fail))
    refine wpQuiet_nil ?_
    go_wp2_with fail
    have hall := KP50.out.here
    have glit49 := hall.1
    clear hall
    refine (row_lit 4 _ [0, 2, 1, 3, 0, 1, 2, 3, 1, 2] [(0, 2), (1, 3), (0, 1), (2, 3), (1, 2)] _ glit49 (by decide +kernel) rfl).mono ?_
    rintro e w35 ⟨v, rfl, hRrow50, hB⟩
    obtain ⟨arow50, crow50, hv⟩ := hRrow50.ex (5) rfl
    subst hv
    have KP51 := Lib.hid ((KP50.out.up (btr (bz ((w34.alloc (.cells (arrI [0, 2, 1, 3, 0, 1, 2, 3, 1, 2]) 3)))) hB)).and (keepP hRrow50))
    clear KP50
    clear hRrow50 hB
    clear glit49
    go_wp2
    have hall := KP51.out.here
    have gSw23 := hall.2.2.2.2.2.2.2.2.2.2.2.2.2.1
    clear hall
    refine seg_grow ⟨⟨_, gSw23⟩, rfl⟩ ?_
    clear gSw23
    repeat (go_big_quiet_step (fail))
    refine wpQuiet_nil ?_
    go_wp2_with fail
    have hall := KP51.out.here
    have grow50 := hall.1
    have gg := hall.2.2.2.2.2.2.2.2.2.2.2.2.2.2.2.2.2.2.2.1
    clear hall
    refine (same_eq 4 _ _ [(0, 2), (1, 3), (0, 1), (2, 3), (1, 2)] _ gg grow50 (by decide +kernel)).mono ?_
    rintro e w36 ⟨rfl, hB⟩
    have KP52 := Lib.hid (KP51.out.up (btr (bz w35) hB))
    clear KP51
    clear hB
    clear grow50 gg
    go_wp2
    have hall := KP52.out.here
    have gSw23 := hall.2.2.2.2.2.2.2.2.2.2.2.2.2.1
    clear hall
    refine seg_grow ⟨⟨_, gSw23⟩, rfl⟩ ?_
    clear gSw23
    repeat (go_big_quiet_step (fail))
    refine wpQuiet_nil ?_
    refine only_done ?_
    clear hg1 hg0 hb1 hb0 ho1 ho0 hc1 hc0 zc zo zb zg hL
    have hall := KP52.out.here
    have gBelow := hall.2.2.2.2.2.2.2.2.2.2.2.2.2.2.2.2.2.2.2.2.2.2.2.2.2.2.2.2.2.2.2.2.2.2.2.2.2.2.2.2.2.2.2.2.2.2.2.2.2.2
    clear hall
    go_wp2
    go_ret
    exact ⟨rfl, gBelow⟩
end Go.Proofs.Ytdnaipiiponhpaa
