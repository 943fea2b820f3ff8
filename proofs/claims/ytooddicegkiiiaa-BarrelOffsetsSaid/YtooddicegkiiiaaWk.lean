/- Works answers true; the examples' calls at written-out pins; no condition. -/
import Derived.Test.YtooddicegkiiiaaGE
namespace Go.Proofs.Ytooddicegkiiiaa
open Go.RowKit Go.Shelf

theorem longs_eq (x y : Value) (xs : List Int) (w : World) (hx : RdI w .i64 x xs) (hy : RdI w .i64 y xs) (hl : xs.length ≤ 1000) : Calls Try.prog 43 #[x, y] w fun e w' => e = .returned (.bool true) ∧ Below w.heap.size w w' := by
  have := longs_any x y xs xs w hx hy hl hl
  rwa [decide_eq_true rfl] at this
theorem ints_eq (x y : Value) (xs : List Int) (w : World) (hx : RdI w .i64 x xs) (hy : RdI w .i64 y xs) (hl : xs.length ≤ 1000) : Calls Try.prog 24 #[x, y] w fun e w' => e = .returned (.bool true) ∧ Below w.heap.size w w' := by
  have := ints_any x y xs xs w hx hy hl hl
  rwa [decide_eq_true rfl] at this
theorem pins_lit (x : Value) (l : List Int) (V : List (Int × Int)) (w : World) (hx : RdI w .i64 x l) (hl : l.length ≤ 1000) (hV : prK l (l.length / 2) = V) :
    Calls Try.prog 53 #[x] w fun e w' => ∃ v, e = .returned v ∧ RdP w' v V ∧ Below w.heap.size w w' := by
  subst hV; exact pins_any x l w hx hl
theorem sounds_lit (x : Value) (V : List (Int × Int)) (t : Int) (r : List Int) (c : Int) (w : World) (hx : RdP w x V) (hl : V.length ≤ 1000) (hc : openE V [t] = c) (hr : sndR V t = r) :
    Calls Try.prog 20 #[x, .int .i64 t] w fun e w' => ∃ v, e = .returned (.tuple #[v, .int .i64 c]) ∧ RdI w' .i64 v r ∧ Below w.heap.size w w' := by
  subst hc; subst hr; exact sounds_any x V t w hx hl
theorem first_lit (x : Value) (V : List (Int × Int)) (a b c : Int) (w : World) (hx : RdP w x V) (hl : V.length ≤ 1000) (ha : firstA V = a) (hb : firstB V = b) (hc : firstE V = c) :
    Calls Try.prog 25 #[x] w fun e w' => e = .returned (.tuple #[.int .i64 a, .int .i64 b, .int .i64 c]) ∧ Below w.heap.size w w' := by
  subst ha; subst hb; subst hc; exact first_any x V w hx hl
theorem next_lit (x : Value) (V : List (Int × Int)) (t n c : Int) (w : World) (hx : RdP w x V) (hl : V.length ≤ 1000) (hn : nextN V t = n) (hc : nextE V t = c) :
    Calls Try.prog 27 #[x, .int .i64 t] w fun e w' => e = .returned (.tuple #[.int .i64 n, .int .i64 c]) ∧ Below w.heap.size w w' := by
  subst hn; subst hc; exact next_any x V t w hx hl
theorem count_lit (x : Value) (V : List (Int × Int)) (f t n c : Int) (w : World) (hx : RdP w x V) (hl : V.length ≤ 1000) (hn : countN V f t = n) (hc : countE V f t = c) :
    Calls Try.prog 29 #[x, .int .i64 f, .int .i64 t] w fun e w' => e = .returned (.tuple #[.int .i64 n, .int .i64 c]) ∧ Below w.heap.size w w' := by
  subst hn; subst hc; exact count_any x V f t w hx hl
theorem cc_lit (x : Value) (V : List (Int × Int)) (i k n c : Int) (w : World) (hx : RdP w x V) (hl : V.length ≤ 1000) (hn : ccN V i k = n) (hc : ccE V i k = c) :
    Calls Try.prog 31 #[x, .int .i64 i, .int .i64 k] w fun e w' => e = .returned (.tuple #[.int .i64 n, .int .i64 c]) ∧ Below w.heap.size w w' := by
  subst hn; subst hc; exact checkclash_any x V i k w hx hl
theorem clash_lit (x : Value) (V : List (Int × Int)) (i k : Nat) (w : World) (hx : RdP w x V) (hl : V.length ≤ 1000) (hc : checkP V = 0) (h : FirstCl V i k) :
    Calls Try.prog 33 #[x] w fun e w' => e = .returned (.tuple #[.int .i64 i, .int .i64 k, .int .i64 0]) ∧ Below w.heap.size w w' := by
  have := clash_any x V w hx hl
  unfold clA clK clE' at this
  rw [if_pos hc, if_pos hc, if_pos hc, if_neg (fun hf => by have := hf i k h.lt h.len; rw [h.cl] at this; cases this), clP_of h] at this
  exact this
theorem clash_none (x : Value) (V : List (Int × Int)) (w : World) (hx : RdP w x V) (hl : V.length ≤ 1000) (hc : checkP V = 0) (h : Free V) :
    Calls Try.prog 33 #[x] w fun e w' => e = .returned (.tuple #[.int .i64 0, .int .i64 0, .int .i64 5]) ∧ Below w.heap.size w w' := by
  have := clash_any x V w hx hl
  unfold clA clK clE' at this
  rw [if_pos hc, if_pos hc, if_pos hc, if_pos h, clP_free h] at this
  exact this
theorem group_lit (x : Value) (V : List (Int × Int)) (g : List Int) (c : Int) (w : World) (hx : RdP w x V) (hl : V.length ≤ 1000) (hc : checkP V = c) (hg : natL (grpN V) = g) :
    Calls Try.prog 35 #[x] w fun e w' => ∃ v, e = .returned (.tuple #[v, .int .i64 c]) ∧ RdI w' .i64 v g ∧ Below w.heap.size w w' := by
  subst hc; subst hg; exact group_any x V w hx hl
theorem cg_lit (x y : Value) (V : List (Int × Int)) (g : List Int) (c : Int) (w : World) (hx : RdP w x V) (hy : RdI w .i64 y g) (hl : V.length ≤ 1000) (hg : g.length ≤ 1000) (hc : cgE V g = c) :
    Calls Try.prog 37 #[x, y] w fun e w' => e = .returned (.int .i64 c) ∧ Below w.heap.size w w' := by
  subst hc; exact checkgroup_any x y V g w hx hy hl hg
theorem quiet_lit (x : Value) (V : List (Int × Int)) (t n c : Int) (w : World) (hx : RdP w x V) (hl : V.length ≤ 1000) (hn : quietN V t = n) (hc : quietE V t = c) :
    Calls Try.prog 39 #[x, .int .i64 t] w fun e w' => e = .returned (.tuple #[.int .i64 n, .int .i64 c]) ∧ Below w.heap.size w w' := by
  subst hn; subst hc; exact quiet_any x V t w hx hl
theorem off_lit (x : Value) (V : List (Int × Int)) (i : Int) (r : List Int) (c : Int) (w : World) (hx : RdP w x V) (hl : V.length ≤ 1000) (hc : offE V i = c) (hr : offL V i = r) :
    Calls Try.prog 41 #[x, .int .i64 i] w fun e w' => ∃ v, e = .returned (.tuple #[v, .int .i64 c]) ∧ RdI w' .i64 v r ∧ Below w.heap.size w w' := by
  subst hc; subst hr; exact offsets_any x V i w hx hl
theorem first_m : FirstCl [(4, 1), (6, 2)] 0 1 := ⟨by decide, by decide, by decide +kernel, fun a b h1 h2 _ => by simp at h2; omega⟩

set_option maxRecDepth 100000 in
set_option maxHeartbeats 16000000 in
theorem works_any (w : World) : Calls Try.prog 19 #[] w fun e w' => e = .returned (.bool true) ∧ Below w.heap.size w w' := by
  go_enter Try.func19, Try.ntmps19
  have KP0 := Lib.hid (keepB (bz w))
  go_wp2_with fail
  refine (pins_lit _ [4, 1, 6, 3, 9, 0] [(4, 1), (6, 3), (9, 0)] _ (rdI_new _ [4, 1, 6, 3, 9, 0] _ (by decide +kernel)) (by decide +kernel) (by decide +kernel)).mono ?_
  rintro e w1 ⟨v, rfl, hRl, hB⟩
  obtain ⟨al, cl, hv⟩ := hRl.ex (3) rfl
  subst hv
  have KP1 := Lib.hid ((KP0.out.up (btr (bal (bz w) _) hB)).and (keepP hRl))
  clear KP0
  clear hRl hB
  go_wp2_with fail
  refine (pins_lit _ [4, 1, 6, 2] [(4, 1), (6, 2)] _ (rdI_new _ [4, 1, 6, 2] _ (by decide +kernel)) (by decide +kernel) (by decide +kernel)).mono ?_
  rintro e w2 ⟨v, rfl, hRm, hB⟩
  obtain ⟨am, cm, hv⟩ := hRm.ex (2) rfl
  subst hv
  have KP2 := Lib.hid ((KP1.out.up (btr (bal (bz w1) _) hB)).and (keepP hRm))
  clear KP1
  clear hRm hB
  go_wp2_with fail
  refine (pins_lit _ [4, 1, 6, 2, 3, 0, 5, 4] [(4, 1), (6, 2), (3, 0), (5, 4)] _ (rdI_new _ [4, 1, 6, 2, 3, 0, 5, 4] _ (by decide +kernel)) (by decide +kernel) (by decide +kernel)).mono ?_
  rintro e w3 ⟨v, rfl, hRn, hB⟩
  obtain ⟨an, cn, hv⟩ := hRn.ex (4) rfl
  subst hv
  have KP3 := Lib.hid ((KP2.out.up (btr (bal (bz w2) _) hB)).and (keepP hRn))
  clear KP2
  clear hRn hB
  go_wp2_with fail
  refine (pins_lit _ [2, 0, 2, 1] [(2, 0), (2, 1)] _ (rdI_new _ [2, 0, 2, 1] _ (by decide +kernel)) (by decide +kernel) (by decide +kernel)).mono ?_
  rintro e w4 ⟨v, rfl, hRk, hB⟩
  obtain ⟨ak, ck, hv⟩ := hRk.ex (2) rfl
  subst hv
  have KP4 := Lib.hid ((KP3.out.up (btr (bal (bz w3) _) hB)).and (keepP hRk))
  clear KP3
  clear hRk hB
  have hall := KP4.out.here
  clear hall
  go_wp2_with fail
  have hall := KP4.out.here
  have gl := hall.2.2.2.1
  clear hall
  refine (sounds_lit _ [(4, 1), (6, 3), (9, 0)] 9 [0, 1, 2] 0 _ gl (by decide +kernel) (by decide +kernel) (by decide +kernel)).mono ?_
  rintro e w5 ⟨v, rfl, hRsd, hB⟩
  obtain ⟨asd, csd, hv⟩ := hRsd.ex (3) rfl
  subst hv
  have KP5 := Lib.hid ((KP4.out.up (btr (bz w4) hB)).and (keepI hRsd))
  clear KP4
  clear hRsd hB
  clear gl
  have hall := KP5.out.here
  clear hall
  go_wp2_with fail
  have hall := KP5.out.here
  have gl := hall.2.2.2.2.1
  clear hall
  refine (first_lit _ [(4, 1), (6, 3), (9, 0)] 9 36 0 _ gl (by decide +kernel) (by decide +kernel) (by decide +kernel) (by decide +kernel)).mono ?_
  rintro e w6 ⟨rfl, hB⟩
  have KP6 := Lib.hid (KP5.out.up (btr (bz w5) hB))
  clear KP5
  clear hB
  clear gl
  have hall := KP6.out.here
  clear hall
  go_wp2_with fail
  have hall := KP6.out.here
  have gm := hall.2.2.2.1
  clear hall
  refine (first_lit _ [(4, 1), (6, 2)] 0 0 21 _ gm (by decide +kernel) (by decide +kernel) (by decide +kernel) (by decide +kernel)).mono ?_
  rintro e w7 ⟨rfl, hB⟩
  have KP7 := Lib.hid (KP6.out.up (btr (bz w6) hB))
  clear KP6
  clear hB
  clear gm
  have hall := KP7.out.here
  clear hall
  go_wp2_with fail
  have hall := KP7.out.here
  have gl := hall.2.2.2.2.1
  clear hall
  refine (next_lit _ [(4, 1), (6, 3), (9, 0)] 10 45 0 _ gl (by decide +kernel) (by decide +kernel) (by decide +kernel)).mono ?_
  rintro e w8 ⟨rfl, hB⟩
  have KP8 := Lib.hid (KP7.out.up (btr (bz w7) hB))
  clear KP7
  clear hB
  clear gl
  have hall := KP8.out.here
  clear hall
  go_wp2_with fail
  have hall := KP8.out.here
  have gl := hall.2.2.2.2.1
  clear hall
  refine (count_lit _ [(4, 1), (6, 3), (9, 0)] 0 100 3 0 _ gl (by decide +kernel) (by decide +kernel) (by decide +kernel)).mono ?_
  rintro e w9 ⟨rfl, hB⟩
  have KP9 := Lib.hid (KP8.out.up (btr (bz w8) hB))
  clear KP8
  clear hB
  clear gl
  have hall := KP9.out.here
  clear hall
  go_wp2_with fail
  have hall := KP9.out.here
  have gl := hall.2.2.2.2.1
  clear hall
  refine (count_lit _ [(4, 1), (6, 3), (9, 0)] 5 4 0 2 _ gl (by decide +kernel) (by decide +kernel) (by decide +kernel)).mono ?_
  rintro e w10 ⟨rfl, hB⟩
  have KP10 := Lib.hid (KP9.out.up (btr (bz w9) hB))
  clear KP9
  clear hB
  clear gl
  have hall := KP10.out.here
  clear hall
  go_wp2_with fail
  have hall := KP10.out.here
  have gm := hall.2.2.2.1
  clear hall
  refine (cc_lit _ [(4, 1), (6, 2)] 0 1 2 0 _ gm (by decide +kernel) (by decide +kernel) (by decide +kernel)).mono ?_
  rintro e w11 ⟨rfl, hB⟩
  have KP11 := Lib.hid (KP10.out.up (btr (bz w10) hB))
  clear KP10
  clear hB
  clear gm
  have hall := KP11.out.here
  clear hall
  go_wp2_with fail
  have hall := KP11.out.here
  have gl := hall.2.2.2.2.1
  clear hall
  refine (cc_lit _ [(4, 1), (6, 3), (9, 0)] 0 1 0 14 _ gl (by decide +kernel) (by decide +kernel) (by decide +kernel)).mono ?_
  rintro e w12 ⟨rfl, hB⟩
  have KP12 := Lib.hid (KP11.out.up (btr (bz w11) hB))
  clear KP11
  clear hB
  clear gl
  have hall := KP12.out.here
  clear hall
  go_wp2_with fail
  have hall := KP12.out.here
  have gm := hall.2.2.2.1
  clear hall
  refine (clash_lit _ [(4, 1), (6, 2)] 0 1 _ gm (by decide +kernel) (by decide +kernel) first_m).mono ?_
  rintro e w13 ⟨rfl, hB⟩
  have KP13 := Lib.hid (KP12.out.up (btr (bz w12) hB))
  clear KP12
  clear hB
  clear gm
  have hall := KP13.out.here
  clear hall
  go_wp2_with fail
  have hall := KP13.out.here
  have gn := hall.2.2.1
  clear hall
  refine (group_lit _ [(4, 1), (6, 2), (3, 0), (5, 4)] [0, 2, 3] 0 _ gn (by decide +kernel) (by decide +kernel) (by decide +kernel)).mono ?_
  rintro e w14 ⟨v, rfl, hRg, hB⟩
  obtain ⟨ag, cg, hv⟩ := hRg.ex (3) rfl
  subst hv
  have KP14 := Lib.hid ((KP13.out.up (btr (bz w13) hB)).and (keepI hRg))
  clear KP13
  clear hRg hB
  clear gn
  have hall := KP14.out.here
  clear hall
  go_wp2_with fail
  refine (of_id _ _).mono ?_
  rintro e w' ⟨rfl, rfl⟩
  go_wp2_with fail
  have hall := KP14.out.here
  have gn := hall.2.2.2.1
  clear hall
  refine (cg_lit _ _ [(4, 1), (6, 2), (3, 0), (5, 4)] [0, 1] 21 _ (gn.mono (bal (bz w14) _)) (rdI_new _ [0, 1] _ (by decide +kernel)) (by decide +kernel) (by decide +kernel) (by decide +kernel)).mono ?_
  rintro e w15 ⟨rfl, hB⟩
  have KP15 := Lib.hid (KP14.out.up (btr (bal (bz w14) _) hB))
  clear KP14
  clear hB
  clear gn
  have hall := KP15.out.here
  clear hall
  go_wp2_with fail
  have hall := KP15.out.here
  have gl := hall.2.2.2.2.2.1
  clear hall
  refine (quiet_lit _ [(4, 1), (6, 3), (9, 0)] 0 2 0 _ gl (by decide +kernel) (by decide +kernel) (by decide +kernel)).mono ?_
  rintro e w16 ⟨rfl, hB⟩
  have KP16 := Lib.hid (KP15.out.up (btr (bz w15) hB))
  clear KP15
  clear hB
  clear gl
  have hall := KP16.out.here
  clear hall
  go_wp2_with fail
  have hall := KP16.out.here
  have gk := hall.2.2.1
  clear hall
  refine (quiet_lit _ [(2, 0), (2, 1)] 0 0 21 _ gk (by decide +kernel) (by decide +kernel) (by decide +kernel)).mono ?_
  rintro e w17 ⟨rfl, hB⟩
  have KP17 := Lib.hid (KP16.out.up (btr (bz w16) hB))
  clear KP16
  clear hB
  clear gk
  have hall := KP17.out.here
  clear hall
  go_wp2_with fail
  have hall := KP17.out.here
  have gl := hall.2.2.2.2.2.1
  clear hall
  refine (off_lit _ [(4, 1), (6, 3), (9, 0)] 2 [0, 3, 6] 0 _ gl (by decide +kernel) (by decide +kernel) (by decide +kernel)).mono ?_
  rintro e w18 ⟨v, rfl, hRo, hB⟩
  obtain ⟨ao, co, hv⟩ := hRo.ex (3) rfl
  subst hv
  have KP18 := Lib.hid ((KP17.out.up (btr (bz w17) hB)).and (keepI hRo))
  clear KP17
  clear hRo hB
  clear gl
  have hall := KP18.out.here
  clear hall
  go_wp2_with fail
  have hall := KP18.out.here
  have gl := hall.2.2.2.2.2.2.1
  clear hall
  refine (off_lit _ [(4, 1), (6, 3), (9, 0)] 3 [] 2 _ gl (by decide +kernel) (by decide +kernel) (by decide +kernel)).mono ?_
  rintro e w19 ⟨u, rfl, hRo2, hB⟩
  obtain ⟨ao2, co2, hv⟩ := hRo2.ex (0) rfl
  subst hv
  have KP19 := Lib.hid ((KP18.out.up (btr (bz w18) hB)).and (keepI hRo2))
  clear KP18
  clear hRo2 hB
  clear gl
  go_wp2_with fail
  refine (of_id _ _).mono ?_
  rintro e w' ⟨rfl, rfl⟩
  go_wp2_with fail
  have hall := KP19.out.here
  have gsd := hall.2.2.2.1
  clear hall
  refine (ints_eq _ _ [0, 1, 2] _ (gsd.mono (bal (bz w19) _)) (rdI_new _ [0, 1, 2] _ (by decide +kernel)) (by decide +kernel)).mono ?_
  rintro e w20 ⟨rfl, hB⟩
  have KP20 := Lib.hid (KP19.out.up (btr (bal (bz w19) _) hB))
  clear KP19
  clear hB
  clear gsd
  go_wp2_with fail
  refine (of_id _ _).mono ?_
  rintro e w' ⟨rfl, rfl⟩
  go_wp2_with fail
  have hall := KP20.out.here
  have gg := hall.2.2.1
  clear hall
  refine (ints_eq _ _ [0, 2, 3] _ (gg.mono (bal (bz w20) _)) (rdI_new _ [0, 2, 3] _ (by decide +kernel)) (by decide +kernel)).mono ?_
  rintro e w21 ⟨rfl, hB⟩
  have KP21 := Lib.hid (KP20.out.up (btr (bal (bz w20) _) hB))
  clear KP20
  clear hB
  clear gg
  go_wp2_with fail
  refine (longs_id _ _).mono ?_
  rintro e w' ⟨rfl, rfl⟩
  go_wp2_with fail
  have hall := KP21.out.here
  have go := hall.2.1
  clear hall
  refine (longs_eq _ _ [0, 3, 6] _ (go.mono (bal (bz w21) _)) (rdI_new _ [0, 3, 6] _ (by decide +kernel)) (by decide +kernel)).mono ?_
  rintro e w22 ⟨rfl, hB⟩
  have KP22 := Lib.hid (KP21.out.up (btr (bal (bz w21) _) hB))
  clear KP21
  clear hB
  clear go
  go_wp2_with fail
  have hall := KP22.out.here
  have gBelow := hall.2.2.2.2.2.2.2.2
  clear hall
  go_ret
  exact ⟨rfl, gBelow⟩
end Go.Proofs.Ytooddicegkiiiaa
