/- Works answers true; no condition. -/
import Derived.Test.YtnnfahdhmodejaaMGJ
namespace Go.Proofs.Ytnnfahdhmodejaa
open Go.RowKit Go.Shelf

theorem exL {w : World} {v : Value} {R : List (List Int)} (h : RdLL w v R) (n : Nat) (hn : R.length = n) : ∃ a c, v = .slice a n c := by subst hn; exact h.sl
theorem exI {w : World} {v : Value} {R : List Int} (h : RdI w .i64 v R) (n : Nat) (hn : R.length = n) : ∃ a c, v = .slice a n c := by
  subst hn
  obtain ⟨a, c, e, _⟩ := h.form
  exact ⟨a, c, e⟩
theorem smlR {R : List (List Int)} (h1 : R.length ≤ 20) (h2 : R.all (fun l => decide (l.length ≤ 20)) = true) : Sml R := by
  refine ⟨h1, fun i => ?_⟩
  rcases Nat.lt_or_ge i R.length with h | h
  · rw [row_lt h]; exact of_decide_eq_true (List.all_eq_true.1 h2 _ (List.getElem_mem h))
  · rw [row_ge h]; simp
theorem build_lit (x : Value) (s : List Int) (R O : List (List Int)) (c : Int) (w : World) (hx : RdI w .i64 x s) (hl : s.length ≤ 1000) (h : buildE s = (R, O, c)) :
    Calls Try.prog 27 #[x] w fun e w' => ∃ u v, e = .returned (.tuple #[u, v, .int .i64 c]) ∧ RdLL w' u R ∧ RdLL w' v O ∧ Below w.heap.size w w' := by
  have := pbuild_any x s w hx hl; rw [h] at this; exact this
theorem read_lit (x y : Value) (R O : List (List Int)) (s : List Int) (c : Int) (w : World) (hx : RdLL w x R) (hy : RdLL w y O) (hR : Sml R) (hO : Sml O) (h : readE R O = (s, c)) :
    Calls Try.prog 29 #[x, y] w fun e w' => ∃ u, e = .returned (.tuple #[u, .int .i64 c]) ∧ RdI w' .i64 u s ∧ Below w.heap.size w w' := by
  have := pread_any x y R O w hx hy hR hO; rw [h] at this; exact this
theorem put_lit (v : Value) (R S : List (List Int)) (t i c : Int) (w : World) (hx : RdLL w v R) (hR : Sml R) (h : putE R t = (S, i, c)) :
    Calls Try.prog 22 #[v, .int .i64 t] w fun e w' => ∃ u, e = .returned (.tuple #[u, .int .i64 i, .int .i64 c]) ∧ RdLL w' u S ∧ Below w.heap.size w w' := by
  have := pput_any v R t w hx hR; rw [h] at this; exact this
theorem take_lit (v : Value) (R S : List (List Int)) (t i c : Int) (w : World) (hx : RdLL w v R) (hR : Sml R) (h : takeE R t = (S, i, c)) :
    Calls Try.prog 24 #[v, .int .i64 t] w fun e w' => ∃ u, e = .returned (.tuple #[u, .int .i64 i, .int .i64 c]) ∧ RdLL w' u S ∧ Below w.heap.size w w' := by
  have := ptake_any v R t w hx hR; rw [h] at this; exact this
theorem rackc_lit (v : Value) (R : List (List Int)) (c : Int) (w : World) (hx : RdLL w v R) (hR : Sml R) (h : rackC R = c) :
    Calls Try.prog 18 #[v] w fun e w' => e = .returned (.int .i64 c) ∧ Below w.heap.size w w' := by
  have := rack_any v R w hx hR; rw [h] at this; exact this
theorem orderc_lit (v : Value) (R : List (List Int)) (c : Int) (w : World) (hx : RdLL w v R) (hR : Sml R) (h : orderC R = c) :
    Calls Try.prog 20 #[v] w fun e w' => e = .returned (.int .i64 c) ∧ Below w.heap.size w w' := by
  have := order_any v R w hx hR; rw [h] at this; exact this
theorem checkrising_lit (x y : Value) (s r : List Int) (n c : Int) (w : World) (hx : RdI w .i64 x s) (hy : RdI w .i64 y r) (hs : s.length ≤ 1000) (hr : r.length ≤ 1000) (h : risE s r = (n, c)) :
    Calls Try.prog 45 #[x, y] w fun e w' => e = .returned (.tuple #[.int .i64 n, .int .i64 c]) ∧ Below w.heap.size w w' := by
  have := pcheckrising_any x y s r w hx hy hs hr; rw [h] at this; exact this
theorem rcheckrising_lit (x y : Value) (s r : List Int) (n c : Int) (w : World) (hx : RdI w .i64 x s) (hy : RdI w .i64 y r) (hs : s.length ≤ 1000) (hr : r.length ≤ 1000) (h : risE s r = (n, c)) :
    Calls Try.prog 47 #[x, y] w fun e w' => e = .returned (.tuple #[.int .i64 n, .int .i64 c]) ∧ Below w.heap.size w w' := by
  have := rrising_any x y s r w hx hy hs hr; rw [h] at this; exact this
theorem checkfalls_lit (x y : Value) (s : List Int) (R : List (List Int)) (n c : Int) (w : World) (hx : RdI w .i64 x s) (hy : RdLL w y R) (hs : s.length ≤ 1000) (hR : Sml R) (h : falE s R = (n, c)) :
    Calls Try.prog 46 #[x, y] w fun e w' => e = .returned (.tuple #[.int .i64 n, .int .i64 c]) ∧ Below w.heap.size w w' := by
  have := pfalls_any x y s R w hx hy hs hR; rw [h] at this; exact this
theorem rcheckfalls_lit (x y : Value) (s : List Int) (R : List (List Int)) (n c : Int) (w : World) (hx : RdI w .i64 x s) (hy : RdLL w y R) (hs : s.length ≤ 1000) (hR : Sml R) (h : falE s R = (n, c)) :
    Calls Try.prog 48 #[x, y] w fun e w' => e = .returned (.tuple #[.int .i64 n, .int .i64 c]) ∧ Below w.heap.size w w' := by
  have := rfalls_any x y s R w hx hy hs hR; rw [h] at this; exact this
theorem rising_lit (x : Value) (s r : List Int) (c : Int) (w : World) (hx : RdI w .i64 x s) (hs : s.length ≤ 1000) (h : risingE s = (r, c)) :
    Calls Try.prog 43 #[x] w fun e w' => ∃ u, e = .returned (.tuple #[u, .int .i64 c]) ∧ RdI w' .i64 u r ∧ Below w.heap.size w w' := by
  have := prisingrun_any x s w hx hs; rw [h] at this; exact this
theorem falls_lit (x : Value) (s : List Int) (R : List (List Int)) (c : Int) (w : World) (hx : RdI w .i64 x s) (hs : s.length ≤ 1000) (h : fallsE s = (R, c)) :
    Calls Try.prog 44 #[x] w fun e w' => ∃ u, e = .returned (.tuple #[u, .int .i64 c]) ∧ RdLL w' u R ∧ Below w.heap.size w w' := by
  have := pfallsrun_any x s w hx hs; rw [h] at this; exact this
theorem hooks_lit (x : Value) (s : List Int) (R : List (List Int)) (c : Int) (w : World) (hx : RdI w .i64 x s) (hs : s.length ≤ 1000) (h : hooksE s = (R, c)) :
    Calls Try.prog 34 #[x] w fun e w' => ∃ u, e = .returned (.tuple #[u, .int .i64 c]) ∧ RdLL w' u R ∧ Below w.heap.size w w' := by
  have := phooks_any x s w hx hs; rw [h] at this; exact this
theorem count_lit (x : Value) (s : List Int) (n c : Int) (w : World) (hx : RdI w .i64 x s) (hs : s.length ≤ 1000) (h : countE s = (n, c)) :
    Calls Try.prog 36 #[x] w fun e w' => e = .returned (.tuple #[.int .i64 n, .int .i64 c]) ∧ Below w.heap.size w w' := by
  have := pcount_any x s w hx hs; rw [h] at this; exact this
theorem same_lit (x y : Value) (R : List (List Int)) (w : World) (hx : RdLL w x R) (hy : RdLL w y R) (hR : Sml R) :
    Calls Try.prog 26 #[x, y] w fun e w' => e = .returned (.bool true) ∧ Below w.heap.size w w' := by
  have := same_any x y R R w hx hy hR hR; rwa [decide_eq_true rfl] at this
theorem ints_lit (x y : Value) (R : List Int) (w : World) (hx : RdI w .i64 x R) (hy : RdI w .i64 y R) (hR : R.length ≤ 1000) :
    Calls Try.prog 33 #[x, y] w fun e w' => e = .returned (.bool true) ∧ Below w.heap.size w w' := by
  have := lints_any x y R R w hx hy hR hR; rwa [decide_eq_true rfl] at this

set_option maxRecDepth 100000 in
set_option maxHeartbeats 16000000 in
theorem works_any : WorksSaid := by
  unfold WorksSaid; intro w
  have KP0 := Lib.hid (keepB (bz w))
  go_enter Try.func17, Try.ntmps17
  go_wp2_with fail
  refine (sequence_any _).mono ?_
  rintro e w1 ⟨vs, rfl, hRs, hB⟩
  obtain ⟨pts, qts, hv⟩ := exI hRs 4 rfl
  subst hv
  have KP1 := Lib.hid ((KP0.out.up hB).and (keepI hRs))
  clear KP0
  clear hB hRs
  go_wp2_with fail
  refine (stand_any _).mono ?_
  rintro e w2 ⟨vr, rfl, hRr, hB⟩
  obtain ⟨ptr, qtr, hv⟩ := exL hRr 3 rfl
  subst hv
  have KP2 := Lib.hid ((KP1.out.up hB).and (keepL hRr))
  clear KP1
  clear hB hRr
  go_wp2_with fail
  refine (ordex_any _).mono ?_
  rintro e w3 ⟨vod, rfl, hRod, hB⟩
  obtain ⟨ptod, qtod, hv⟩ := exL hRod 3 rfl
  subst hv
  have KP3 := Lib.hid ((KP2.out.up hB).and (keepL hRod))
  clear KP2
  clear hB hRod
  go_wp2_with fail
  have gs := KP3.out.here.2.2.1
  refine (build_lit _ _ _ _ _ _ gs (by decide) exBuild).mono ?_
  rintro e w4 ⟨va, vb, rfl, hRa, hRb, hB⟩
  obtain ⟨pta, qta, hv⟩ := exL hRa 3 rfl
  subst hv
  obtain ⟨ptb, qtb, hv⟩ := exL hRb 3 rfl
  subst hv
  have KP4 := Lib.hid (((KP3.out.up hB).and (keepL hRa)).and (keepL hRb))
  clear KP3
  clear hB hRa hRb
  clear gs
  go_wp2_with fail
  have gr := KP4.out.here.2.2.2.1
  have god := KP4.out.here.2.2.1
  refine (read_lit _ _ _ _ _ _ _ gr god (smlR (by decide) (by decide)) (smlR (by decide) (by decide)) exRead).mono ?_
  rintro e w5 ⟨vc, rfl, hRc, hB⟩
  obtain ⟨ptc, qtc, hv⟩ := exI hRc 4 rfl
  subst hv
  have KP5 := Lib.hid ((KP4.out.up hB).and (keepI hRc))
  clear KP4
  clear hB hRc
  clear gr god
  go_wp2_with fail
  refine (of_id _ _).mono ?_
  rintro e w' ⟨rfl, rfl⟩
  go_wp2_with fail
  refine (of_id _ _).mono ?_
  rintro e w' ⟨rfl, rfl⟩
  go_wp2_with fail
  refine (rows_id _ _).mono ?_
  rintro e w' ⟨rfl, rfl⟩
  obtain ⟨w6, hw0, hR, hB⟩ := rows_two w5 [1, 2, 3] [4] (by simp) (by simp)
  have hw : (((w5.alloc (.cells #[.int .i64 1, .int .i64 2, .int .i64 3] 3)).alloc (.cells #[.int .i64 4] 3)).alloc (.cells #[.slice (some ⟨w5.heap.size, 0, none⟩) 3 3, .slice (some ⟨w5.heap.size + 1, 0, none⟩) 1 1] 31)) = w6 := hw0
  rw [hw]
  clear hw0 hw
  have KP6 := Lib.hid ((KP5.out.up hB).and (keepL hR))
  clear KP5
  clear hR hB
  go_wp2_with fail
  have gr := KP6.out.here.2.2.2.2.2.1
  have gl1 := KP6.out.here.1
  refine (read_lit _ _ _ _ _ _ _ gr gl1 (smlR (by decide) (by decide)) (smlR (by decide) (by decide)) exRead2).mono ?_
  rintro e w7 ⟨vc2, rfl, hRc2, hB⟩
  obtain ⟨ptc2, qtc2, hv⟩ := exI hRc2 0 rfl
  subst hv
  have KP7 := Lib.hid ((KP6.out.up hB).and (keepI hRc2))
  clear KP6
  clear hB hRc2
  clear gr gl1
  go_wp2_with fail
  have gr := KP7.out.here.2.2.2.2.2.2.1
  refine (put_lit _ _ _ _ _ _ _ gr (smlR (by decide) (by decide)) (exPut 2 [[1, 1, 2], [2], [3]] 0 (by decide +kernel) (by decide +kernel))).mono ?_
  rintro e w8 ⟨vd, rfl, hRd, hB⟩
  obtain ⟨ptd, qtd, hv⟩ := exL hRd 3 rfl
  subst hv
  have KP8 := Lib.hid ((KP7.out.up hB).and (keepL hRd))
  clear KP7
  clear hB hRd
  clear gr
  go_wp2_with fail
  have gr := KP8.out.here.2.2.2.2.2.2.2.1
  refine (put_lit _ _ _ _ _ _ _ gr (smlR (by decide) (by decide)) exPut3).mono ?_
  rintro e w9 ⟨vd2, rfl, hRd2, hB⟩
  obtain ⟨ptd2, qtd2, hv⟩ := exL hRd2 0 rfl
  subst hv
  have KP9 := Lib.hid ((KP8.out.up hB).and (keepL hRd2))
  clear KP8
  clear hB hRd2
  clear gr
  go_wp2_with fail
  have gr := KP9.out.here.2.2.2.2.2.2.2.2.1
  refine (take_lit _ _ _ _ _ _ _ gr (smlR (by decide) (by decide)) exTake).mono ?_
  rintro e w10 ⟨vf, rfl, hRf, hB⟩
  obtain ⟨ptf, qtf, hv⟩ := exL hRf 2 rfl
  subst hv
  have KP10 := Lib.hid ((KP9.out.up hB).and (keepL hRf))
  clear KP9
  clear hB hRf
  clear gr
  go_wp2_with fail
  have gr := KP10.out.here.2.2.2.2.2.2.2.2.2.1
  refine (take_lit _ _ _ _ _ _ _ gr (smlR (by decide) (by decide)) exTake1).mono ?_
  rintro e w11 ⟨vf2, rfl, hRf2, hB⟩
  obtain ⟨ptf2, qtf2, hv⟩ := exL hRf2 0 rfl
  subst hv
  have KP11 := Lib.hid ((KP10.out.up hB).and (keepL hRf2))
  clear KP10
  clear hB hRf2
  clear gr
  go_wp2_with fail
  refine (of_id _ _).mono ?_
  rintro e w' ⟨rfl, rfl⟩
  go_wp2_with fail
  refine (of_id _ _).mono ?_
  rintro e w' ⟨rfl, rfl⟩
  go_wp2_with fail
  refine (rows_id _ _).mono ?_
  rintro e w' ⟨rfl, rfl⟩
  obtain ⟨w12, hw0, hR, hB⟩ := rows_two w11 [1, 1] [1] (by simp) (by simp)
  have hw : (((w11.alloc (.cells #[.int .i64 1, .int .i64 1] 3)).alloc (.cells #[.int .i64 1] 3)).alloc (.cells #[.slice (some ⟨w11.heap.size, 0, none⟩) 2 2, .slice (some ⟨w11.heap.size + 1, 0, none⟩) 1 1] 31)) = w12 := hw0
  rw [hw]
  clear hw0 hw
  have KP12 := Lib.hid ((KP11.out.up hB).and (keepL hR))
  clear KP11
  clear hR hB
  go_wp2_with fail
  have gl2 := KP12.out.here.1
  refine (rackc_lit _ _ _ _ gl2 (smlR (by decide) (by decide)) exCr1).mono ?_
  rintro e w13 ⟨rfl, hB⟩
  have KP13 := Lib.hid (KP12.out.up hB)
  clear KP12
  clear hB
  clear gl2
  go_wp2_with fail
  refine (of_id _ _).mono ?_
  rintro e w' ⟨rfl, rfl⟩
  go_wp2_with fail
  refine (of_id _ _).mono ?_
  rintro e w' ⟨rfl, rfl⟩
  go_wp2_with fail
  refine (rows_id _ _).mono ?_
  rintro e w' ⟨rfl, rfl⟩
  obtain ⟨w14, hw0, hR, hB⟩ := rows_two w13 [1, 3] [3] (by simp) (by simp)
  have hw : (((w13.alloc (.cells #[.int .i64 1, .int .i64 3] 3)).alloc (.cells #[.int .i64 3] 3)).alloc (.cells #[.slice (some ⟨w13.heap.size, 0, none⟩) 2 2, .slice (some ⟨w13.heap.size + 1, 0, none⟩) 1 1] 31)) = w14 := hw0
  rw [hw]
  clear hw0 hw
  have KP14 := Lib.hid ((KP13.out.up hB).and (keepL hR))
  clear KP13
  clear hR hB
  go_wp2_with fail
  have gl3 := KP14.out.here.1
  refine (orderc_lit _ _ _ _ gl3 (smlR (by decide) (by decide)) exCo1).mono ?_
  rintro e w15 ⟨rfl, hB⟩
  have KP15 := Lib.hid (KP14.out.up hB)
  clear KP14
  clear hB
  clear gl3
  go_wp2_with fail
  refine (of_id _ _).mono ?_
  rintro e w' ⟨rfl, rfl⟩
  obtain ⟨w16, hw0, hR, hB⟩ := ints_one w15 [1, 3] (by simp)
  have hw : w15.alloc (.cells #[.int .i64 1, .int .i64 3] 3) = w16 := hw0
  rw [hw]
  clear hw0 hw
  have KP16 := Lib.hid ((KP15.out.up hB).and (keepI hR))
  clear KP15
  clear hR hB
  go_wp2_with fail
  have gs := KP16.out.here.2.2.2.2.2.2.2.2.2.2.2.2.2.2.1
  have gl4 := KP16.out.here.1
  refine (checkrising_lit _ _ _ _ _ _ _ gs gl4 (by decide) (by decide) (exRis [1, 3] (by decide +kernel) (by decide +kernel))).mono ?_
  rintro e w17 ⟨rfl, hB⟩
  have KP17 := Lib.hid (KP16.out.up hB)
  clear KP16
  clear hB
  clear gs gl4
  go_wp2_with fail
  refine (of_id _ _).mono ?_
  rintro e w' ⟨rfl, rfl⟩
  obtain ⟨w18, hw0, hR, hB⟩ := ints_one w17 [0, 1] (by simp)
  have hw : w17.alloc (.cells #[.int .i64 0, .int .i64 1] 3) = w18 := hw0
  rw [hw]
  clear hw0 hw
  have KP18 := Lib.hid ((KP17.out.up hB).and (keepI hR))
  clear KP17
  clear hR hB
  go_wp2_with fail
  have gs := KP18.out.here.2.2.2.2.2.2.2.2.2.2.2.2.2.2.2.1
  have gl5 := KP18.out.here.1
  refine (checkrising_lit _ _ _ _ _ _ _ gs gl5 (by decide) (by decide) exRis2).mono ?_
  rintro e w19 ⟨rfl, hB⟩
  have KP19 := Lib.hid (KP18.out.up hB)
  clear KP18
  clear hB
  clear gs gl5
  go_wp2_with fail
  refine (of_id _ _).mono ?_
  rintro e w' ⟨rfl, rfl⟩
  go_wp2_with fail
  refine (of_id _ _).mono ?_
  rintro e w' ⟨rfl, rfl⟩
  go_wp2_with fail
  refine (rows_id _ _).mono ?_
  rintro e w' ⟨rfl, rfl⟩
  obtain ⟨w20, hw0, hR, hB⟩ := rows_two w19 [0, 2, 3] [1] (by simp) (by simp)
  have hw : (((w19.alloc (.cells #[.int .i64 0, .int .i64 2, .int .i64 3] 3)).alloc (.cells #[.int .i64 1] 3)).alloc (.cells #[.slice (some ⟨w19.heap.size, 0, none⟩) 3 3, .slice (some ⟨w19.heap.size + 1, 0, none⟩) 1 1] 31)) = w20 := hw0
  rw [hw]
  clear hw0 hw
  have KP20 := Lib.hid ((KP19.out.up hB).and (keepL hR))
  clear KP19
  clear hR hB
  go_wp2_with fail
  have gs := KP20.out.here.2.2.2.2.2.2.2.2.2.2.2.2.2.2.2.2.1
  have gl6 := KP20.out.here.1
  refine (checkfalls_lit _ _ _ _ _ _ _ gs gl6 (by decide) (smlR (by decide) (by decide)) (exFal [[0, 2, 3], [1]] (by decide +kernel) (by decide +kernel) (by decide +kernel) (by decide +kernel) (by decide +kernel))).mono ?_
  rintro e w21 ⟨rfl, hB⟩
  have KP21 := Lib.hid (KP20.out.up hB)
  clear KP20
  clear hB
  clear gs gl6
  go_wp2_with fail
  refine (of_id _ _).mono ?_
  rintro e w' ⟨rfl, rfl⟩
  go_wp2_with fail
  refine (of_id _ _).mono ?_
  rintro e w' ⟨rfl, rfl⟩
  go_wp2_with fail
  refine (rows_id _ _).mono ?_
  rintro e w' ⟨rfl, rfl⟩
  obtain ⟨w22, hw0, hR, hB⟩ := rows_two w21 [0, 1] [2] (by simp) (by simp)
  have hw : (((w21.alloc (.cells #[.int .i64 0, .int .i64 1] 3)).alloc (.cells #[.int .i64 2] 3)).alloc (.cells #[.slice (some ⟨w21.heap.size, 0, none⟩) 2 2, .slice (some ⟨w21.heap.size + 1, 0, none⟩) 1 1] 31)) = w22 := hw0
  rw [hw]
  clear hw0 hw
  have KP22 := Lib.hid ((KP21.out.up hB).and (keepL hR))
  clear KP21
  clear hR hB
  go_wp2_with fail
  have gs := KP22.out.here.2.2.2.2.2.2.2.2.2.2.2.2.2.2.2.2.2.1
  have gl7 := KP22.out.here.1
  refine (checkfalls_lit _ _ _ _ _ _ _ gs gl7 (by decide) (smlR (by decide) (by decide)) exFal2).mono ?_
  rintro e w23 ⟨rfl, hB⟩
  have KP23 := Lib.hid (KP22.out.up hB)
  clear KP22
  clear hB
  clear gs gl7
  go_wp2_with fail
  have gs := KP23.out.here.2.2.2.2.2.2.2.2.2.2.2.2.2.2.2.2.2.1
  refine (rising_lit _ _ _ _ _ gs (by decide) exRising).mono ?_
  rintro e w24 ⟨vup, rfl, hRup, hB⟩
  obtain ⟨ptup, qtup, hv⟩ := exI hRup 2 rfl
  subst hv
  have KP24 := Lib.hid ((KP23.out.up hB).and (keepI hRup))
  clear KP23
  clear hB hRup
  clear gs
  go_wp2_with fail
  have gs := KP24.out.here.2.2.2.2.2.2.2.2.2.2.2.2.2.2.2.2.2.2.1
  refine (falls_lit _ _ _ _ _ gs (by decide) exFalls).mono ?_
  rintro e w25 ⟨vdn, rfl, hRdn, hB⟩
  obtain ⟨ptdn, qtdn, hv⟩ := exL hRdn 2 rfl
  subst hv
  have KP25 := Lib.hid ((KP24.out.up hB).and (keepL hRdn))
  clear KP24
  clear hB hRdn
  clear gs
  go_wp2_with fail
  refine (of_id _ _).mono ?_
  rintro e w' ⟨rfl, rfl⟩
  obtain ⟨w26, hw0, hR, hB⟩ := ints_one w25 [3, 1] (by simp)
  have hw : w25.alloc (.cells #[.int .i64 3, .int .i64 1] 3) = w26 := hw0
  rw [hw]
  clear hw0 hw
  have KP26 := Lib.hid ((KP25.out.up hB).and (keepI hR))
  clear KP25
  clear hR hB
  go_wp2_with fail
  have gl8 := KP26.out.here.1
  refine (hooks_lit _ _ _ _ _ gl8 (by decide) exHooks).mono ?_
  rintro e w27 ⟨vh, rfl, hRh, hB⟩
  obtain ⟨pth, qth, hv⟩ := exL hRh 2 rfl
  subst hv
  have KP27 := Lib.hid ((KP26.out.up hB).and (keepL hRh))
  clear KP26
  clear hB hRh
  clear gl8
  go_wp2_with fail
  refine (of_id _ _).mono ?_
  rintro e w' ⟨rfl, rfl⟩
  obtain ⟨w28, hw0, hR, hB⟩ := ints_one w27 [3, 1] (by simp)
  have hw : w27.alloc (.cells #[.int .i64 3, .int .i64 1] 3) = w28 := hw0
  rw [hw]
  clear hw0 hw
  have KP28 := Lib.hid ((KP27.out.up hB).and (keepI hR))
  clear KP27
  clear hR hB
  go_wp2_with fail
  have gl9 := KP28.out.here.1
  refine (count_lit _ _ _ _ _ gl9 (by decide) exCount1).mono ?_
  rintro e w29 ⟨rfl, hB⟩
  have KP29 := Lib.hid (KP28.out.up hB)
  clear KP28
  clear hB
  clear gl9
  go_wp2_with fail
  refine (of_id _ _).mono ?_
  rintro e w' ⟨rfl, rfl⟩
  obtain ⟨w30, hw0, hR, hB⟩ := ints_one w29 [1, 2] (by simp)
  have hw : w29.alloc (.cells #[.int .i64 1, .int .i64 2] 3) = w30 := hw0
  rw [hw]
  clear hw0 hw
  have KP30 := Lib.hid ((KP29.out.up hB).and (keepI hR))
  clear KP29
  clear hR hB
  go_wp2_with fail
  have gl10 := KP30.out.here.1
  refine (count_lit _ _ _ _ _ gl10 (by decide) exCount2).mono ?_
  rintro e w31 ⟨rfl, hB⟩
  have KP31 := Lib.hid (KP30.out.up hB)
  clear KP30
  clear hB
  clear gl10
  go_wp2_with fail
  have gs := KP31.out.here.2.2.2.2.2.2.2.2.2.2.2.2.2.2.2.2.2.2.2.2.2.2.2.1
  have gup := KP31.out.here.2.2.2.2.2.1
  refine (rcheckrising_lit _ _ _ _ _ _ _ gs gup (by decide) (by decide) (exRis [1, 2] (by decide +kernel) (by decide +kernel))).mono ?_
  rintro e w32 ⟨rfl, hB⟩
  have KP32 := Lib.hid (KP31.out.up hB)
  clear KP31
  clear hB
  clear gs gup
  go_wp2_with fail
  have gs := KP32.out.here.2.2.2.2.2.2.2.2.2.2.2.2.2.2.2.2.2.2.2.2.2.2.2.1
  have gdn := KP32.out.here.2.2.2.2.1
  refine (rcheckfalls_lit _ _ _ _ _ _ _ gs gdn (by decide) (smlR (by decide) (by decide)) (exFal [[0, 1], [2, 3]] (by decide +kernel) (by decide +kernel) (by decide +kernel) (by decide +kernel) (by decide +kernel))).mono ?_
  rintro e w33 ⟨rfl, hB⟩
  have KP33 := Lib.hid (KP32.out.up hB)
  clear KP32
  clear hB
  clear gs gdn
  go_wp2_with fail
  have ga := KP33.out.here.2.2.2.2.2.2.2.2.2.2.2.2.2.2.2.2.2.2.2.2.1
  have gr := KP33.out.here.2.2.2.2.2.2.2.2.2.2.2.2.2.2.2.2.2.2.2.2.2.2.1
  refine (same_lit _ _ _ _ ga gr (smlR (by decide) (by decide))).mono ?_
  rintro e w34 ⟨rfl, hB⟩
  have KP34 := Lib.hid (KP33.out.up hB)
  clear KP33
  clear hB
  clear ga gr
  go_wp2_with fail
  have gb := KP34.out.here.2.2.2.2.2.2.2.2.2.2.2.2.2.2.2.2.2.2.2.1
  have god := KP34.out.here.2.2.2.2.2.2.2.2.2.2.2.2.2.2.2.2.2.2.2.2.2.1
  refine (same_lit _ _ _ _ gb god (smlR (by decide) (by decide))).mono ?_
  rintro e w35 ⟨rfl, hB⟩
  have KP35 := Lib.hid (KP34.out.up hB)
  clear KP34
  clear hB
  clear gb god
  go_wp2_with fail
  have gc := KP35.out.here.2.2.2.2.2.2.2.2.2.2.2.2.2.2.2.2.2.2.1
  have gs := KP35.out.here.2.2.2.2.2.2.2.2.2.2.2.2.2.2.2.2.2.2.2.2.2.2.2.1
  refine (ints_lit _ _ _ _ gc gs (by decide)).mono ?_
  rintro e w36 ⟨rfl, hB⟩
  have KP36 := Lib.hid (KP35.out.up hB)
  clear KP35
  clear hB
  clear gc gs
  go_wp2_with fail
  refine (of_id _ _).mono ?_
  rintro e w' ⟨rfl, rfl⟩
  go_wp2_with fail
  refine (of_id _ _).mono ?_
  rintro e w' ⟨rfl, rfl⟩
  go_wp2_with fail
  refine (of_id _ _).mono ?_
  rintro e w' ⟨rfl, rfl⟩
  go_wp2_with fail
  refine (rows_id _ _).mono ?_
  rintro e w' ⟨rfl, rfl⟩
  obtain ⟨w37, hw0, hR, hB⟩ := rows_three w36 [1, 1, 2] [2] [3] (by simp) (by simp) (by simp)
  have hw : ((((w36.alloc (.cells #[.int .i64 1, .int .i64 1, .int .i64 2] 3)).alloc (.cells #[.int .i64 2] 3)).alloc (.cells #[.int .i64 3] 3)).alloc (.cells #[.slice (some ⟨w36.heap.size, 0, none⟩) 3 3, .slice (some ⟨w36.heap.size + 1, 0, none⟩) 1 1, .slice (some ⟨w36.heap.size + 1 + 1, 0, none⟩) 1 1] 31)) = w37 := hw0
  rw [hw]
  clear hw0 hw
  have KP37 := Lib.hid ((KP36.out.up hB).and (keepL hR))
  clear KP36
  clear hR hB
  go_wp2_with fail
  have gd := KP37.out.here.2.2.2.2.2.2.2.2.2.2.2.2.2.2.2.2.1
  have gl11 := KP37.out.here.1
  refine (same_lit _ _ _ _ gd gl11 (smlR (by decide) (by decide))).mono ?_
  rintro e w38 ⟨rfl, hB⟩
  have KP38 := Lib.hid (KP37.out.up hB)
  clear KP37
  clear hB
  clear gd gl11
  go_wp2_with fail
  refine (of_id _ _).mono ?_
  rintro e w' ⟨rfl, rfl⟩
  go_wp2_with fail
  refine (of_id _ _).mono ?_
  rintro e w' ⟨rfl, rfl⟩
  go_wp2_with fail
  refine (rows_id _ _).mono ?_
  rintro e w' ⟨rfl, rfl⟩
  obtain ⟨w39, hw0, hR, hB⟩ := rows_two w38 [1, 2] [3] (by simp) (by simp)
  have hw : (((w38.alloc (.cells #[.int .i64 1, .int .i64 2] 3)).alloc (.cells #[.int .i64 3] 3)).alloc (.cells #[.slice (some ⟨w38.heap.size, 0, none⟩) 2 2, .slice (some ⟨w38.heap.size + 1, 0, none⟩) 1 1] 31)) = w39 := hw0
  rw [hw]
  clear hw0 hw
  have KP39 := Lib.hid ((KP38.out.up hB).and (keepL hR))
  clear KP38
  clear hR hB
  go_wp2_with fail
  have gf := KP39.out.here.2.2.2.2.2.2.2.2.2.2.2.2.2.2.2.1
  have gl12 := KP39.out.here.1
  refine (same_lit _ _ _ _ gf gl12 (smlR (by decide) (by decide))).mono ?_
  rintro e w40 ⟨rfl, hB⟩
  have KP40 := Lib.hid (KP39.out.up hB)
  clear KP39
  clear hB
  clear gf gl12
  go_wp2_with fail
  refine (of_id _ _).mono ?_
  rintro e w' ⟨rfl, rfl⟩
  go_wp2_with fail
  refine (of_id _ _).mono ?_
  rintro e w' ⟨rfl, rfl⟩
  go_wp2_with fail
  refine (rows_id _ _).mono ?_
  rintro e w' ⟨rfl, rfl⟩
  obtain ⟨w41, hw0, hR, hB⟩ := rows_two w40 [4, 2, 1] [1] (by simp) (by simp)
  have hw : (((w40.alloc (.cells #[.int .i64 4, .int .i64 2, .int .i64 1] 3)).alloc (.cells #[.int .i64 1] 3)).alloc (.cells #[.slice (some ⟨w40.heap.size, 0, none⟩) 3 3, .slice (some ⟨w40.heap.size + 1, 0, none⟩) 1 1] 31)) = w41 := hw0
  rw [hw]
  clear hw0 hw
  have KP41 := Lib.hid ((KP40.out.up hB).and (keepL hR))
  clear KP40
  clear hR hB
  go_wp2_with fail
  have gh := KP41.out.here.2.2.2.2.2.1
  have gl13 := KP41.out.here.1
  refine (same_lit _ _ _ _ gh gl13 (smlR (by decide) (by decide))).mono ?_
  rintro e w42 ⟨rfl, hB⟩
  have KP42 := Lib.hid (KP41.out.up hB)
  clear KP41
  clear hB
  clear gh gl13
  go_wp2_with fail
  have gBelow := KP42.out.here.2.2.2.2.2.2.2.2.2.2.2.2.2.2.2.2.2.2.2.2.2.2.2.2.2.2.2
  go_ret
  exact ⟨rfl, gBelow⟩
end Go.Proofs.Ytnnfahdhmodejaa
