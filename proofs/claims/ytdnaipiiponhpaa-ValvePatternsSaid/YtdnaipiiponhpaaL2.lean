/- ValvePatterns holds; no condition. -/
import Derived.Test.YtdnaipiiponhpaaL1
import Derived.Test.YtdnaipiiponhpaaP2
namespace Go.Proofs.Ytdnaipiiponhpaa
open Go.RowKit Go.Shelf

theorem pattern_r (p : Int) (x : Value) (V : List (Int × Int)) (w : World) (hx : RdP w x V) (hl : V.length ≤ 1000) :
    Calls Try.prog 23 #[.agg #[.int .i64 p, x]] w fun e w' => ∃ v, e = .returned (.tuple #[v, .int .i64 (rpatE p V)]) ∧ RdI w' .i64 v (rpatL p V) ∧ Below w.heap.size w w' := by
  have := pattern_any p x V w hx hl; rwa [patE_eq, patL_eq] at this
theorem sorts_r (p : Int) (x : Value) (V : List (Int × Int)) (w : World) (hx : RdP w x V) (hl : V.length ≤ 1000) :
    Calls Try.prog 27 #[.agg #[.int .i64 p, x]] w fun e w' => e = .returned (.int .i64 (rsortsE p V)) ∧ Below w.heap.size w w' := by
  have := sorts_any p x V w hx hl; rwa [sortsE_eq] at this
theorem chkpat_r (p : Int) (x y : Value) (V : List (Int × Int)) (q : List Int) (w : World) (hx : RdP w x V) (hy : RdI w .i64 y q) (hl : V.length ≤ 1000) (hq : q.length ≤ 1000) :
    Calls Try.prog 29 #[.agg #[.int .i64 p, x], y] w fun e w' => e = .returned (.int .i64 (rchkE p V q)) ∧ Below w.heap.size w w' := by
  have := chkpat_any p x y V q w hx hy hl hq; rwa [chkPatE_eq] at this
theorem images_r (p : Int) (x : Value) (V : List (Int × Int)) (w : World) (hx : RdP w x V) (hl : V.length ≤ 1000) :
    Calls Try.prog 25 #[.agg #[.int .i64 p, x]] w fun e w' => e = .returned (.tuple #[.int .i64 (rimgE p V), .int .i64 (checkR p V)]) ∧ Below w.heap.size w w' := by
  have := images_any p x V w hx hl; rwa [show imgE p V = rimgE p V from imgE_eq p V] at this
theorem rpatL_len (p : Int) (V : List (Int × Int)) : (rpatL p V).length ≤ 8 := by
  unfold rpatL
  split
  · simp
  · rename_i h
    have h8 := (row_ok (by simpa using h)).1
    unfold patOfL
    split
    · rw [bitsOf_len]; exact h8
    · simp

set_option maxRecDepth 100000 in
set_option maxHeartbeats 4000000 in
theorem patterns_walk (p : Int) (x y : Value) (V : List (Int × Int)) (q : List Int) (w : World) (hx : RdP w x V) (hy : RdI w .i64 y q) :
    Calls Try.prog 4 #[.agg #[.int .i64 p, x], y] w fun e w' => e = .returned (.bool true) ∧ Below w.heap.size w w' := by
  obtain ⟨a, c, rfl⟩ := hx.ex _ rfl
  obtain ⟨b, d, rfl⟩ := hy.ex _ rfl
  by_cases hV : 50 < V.length
  ·
    have KP0 := Lib.hid (((keepB (bz w)).and (keepP hx)).and (keepI hy))
    clear hx hy
    go_enter Try.func4, Try.ntmps4
    go_wp2_with fail
    have KP1 := Lib.hid (((KP0.out.up (bal (bz w) _)).and (keepC (w := (w.alloc (.cells #[.int .i64 p, .slice a V.length c] 24))) (p := ⟨w.heap.size, 0, none⟩) (cnew (by simp) rfl))).and (keepC (w := (w.alloc (.cells #[.int .i64 p, .slice a V.length c] 24))) (p := ⟨w.heap.size, 1, none⟩) (cnew (by simp) rfl)))
    clear KP0
    refine (great_yes _ _ _ _ _ hV).mono ?_
    rintro e w1 ⟨rfl, hB⟩
    have KP2 := Lib.hid (KP1.out.up (btr (bz ((w.alloc (.cells #[.int .i64 p, .slice a V.length c] 24)))) hB))
    clear KP1
    clear hB
    have hall := KP2.out.here
    have hR1 := hall.1
    have hR0 := hall.2.1
    clear hall
    have zR := World.block_lt_of_cell? _ _ hR0
    simp only at zR
    go_wp2_with fail
    clear hR1 hR0 zR
    refine (works_any _).mono ?_
    rintro e w2 ⟨rfl, hB⟩
    have KP3 := Lib.hid (KP2.out.up (btr (bz w1) hB))
    clear KP2
    clear hB
    have hall := KP3.out.here
    have gBelow := hall.2.2.2.2
    clear hall
    go_wp2
    go_ret
    exact ⟨rfl, gBelow⟩
  · have hV : V.length ≤ 50 := by omega
    by_cases hq : 12 < q.length
    ·
      have hq2 : (12 : Int) < (q.length : Int) := by omega
      have KP0 := Lib.hid (((keepB (bz w)).and (keepP hx)).and (keepI hy))
      clear hx hy
      go_enter Try.func4, Try.ntmps4
      go_wp2_with fail
      have KP1 := Lib.hid (((KP0.out.up (bal (bz w) _)).and (keepC (w := (w.alloc (.cells #[.int .i64 p, .slice a V.length c] 24))) (p := ⟨w.heap.size, 0, none⟩) (cnew (by simp) rfl))).and (keepC (w := (w.alloc (.cells #[.int .i64 p, .slice a V.length c] 24))) (p := ⟨w.heap.size, 1, none⟩) (cnew (by simp) rfl)))
      clear KP0
      refine (great_no _ _ _ _ _ hV).mono ?_
      rintro e w1 ⟨rfl, hB⟩
      have KP2 := Lib.hid (KP1.out.up (btr (bz ((w.alloc (.cells #[.int .i64 p, .slice a V.length c] 24)))) hB))
      clear KP1
      clear hB
      have hall := KP2.out.here
      have hR1 := hall.1
      have hR0 := hall.2.1
      clear hall
      have zR := World.block_lt_of_cell? _ _ hR0
      simp only at zR
      go_wp2_with fail
      clear hR1 hR0 zR
      refine (works_any _).mono ?_
      rintro e w2 ⟨rfl, hB⟩
      have KP3 := Lib.hid (KP2.out.up (btr (bz w1) hB))
      clear KP2
      clear hB
      have hall := KP3.out.here
      have gBelow := hall.2.2.2.2
      clear hall
      go_wp2
      go_ret
      exact ⟨rfl, gBelow⟩
    · have hq : q.length ≤ 12 := by omega
      have hq2 : ¬ ((12 : Int) < (q.length : Int)) := by omega
      have KP0 := Lib.hid (((keepB (bz w)).and (keepP hx)).and (keepI hy))
      clear hx hy
      go_enter Try.func4, Try.ntmps4
      go_wp2_with fail
      have KP1 := Lib.hid (((KP0.out.up (bal (bz w) _)).and (keepC (w := (w.alloc (.cells #[.int .i64 p, .slice a V.length c] 24))) (p := ⟨w.heap.size, 0, none⟩) (cnew (by simp) rfl))).and (keepC (w := (w.alloc (.cells #[.int .i64 p, .slice a V.length c] 24))) (p := ⟨w.heap.size, 1, none⟩) (cnew (by simp) rfl)))
      clear KP0
      refine (great_no _ _ _ _ _ hV).mono ?_
      rintro e w1 ⟨rfl, hB⟩
      have KP2 := Lib.hid (KP1.out.up (btr (bz ((w.alloc (.cells #[.int .i64 p, .slice a V.length c] 24)))) hB))
      clear KP1
      clear hB
      have hall := KP2.out.here
      have hR1 := hall.1
      have hR0 := hall.2.1
      clear hall
      have zR := World.block_lt_of_cell? _ _ hR0
      simp only at zR
      go_wp2_with fail
      clear hR1 hR0 zR
      have hall := KP2.out.here
      have gr := hall.2.2.2.1
      clear hall
      refine (pattern_r p _ V _ (gr.mono (bz w1)) (by omega)).mono ?_
      rintro e w2 ⟨v, rfl, hRA, hB⟩
      have KP3 := Lib.hid ((KP2.out.up (btr (bz w1) hB)).and (keepI hRA))
      clear KP2
      clear hRA hB
      clear gr
      have hall := KP3.out.here
      have hR1 := hall.2.1
      have hR0 := hall.2.2.1
      clear hall
      have zR := World.block_lt_of_cell? _ _ hR0
      simp only at zR
      go_wp2_with fail
      clear hR1 hR0 zR
      have hall := KP3.out.here
      have gr := hall.2.2.2.2.1
      clear hall
      refine (rpattern_any p _ V _ (gr.mono (bz w2)) (by omega)).mono ?_
      rintro e w3 ⟨u, rfl, hRB, hB⟩
      have KP4 := Lib.hid ((KP3.out.up (btr (bz w2) hB)).and (keepI hRB))
      clear KP3
      clear hRB hB
      clear gr
      have hall := KP4.out.here
      have hR1 := hall.2.2.1
      have hR0 := hall.2.2.2.1
      clear hall
      have zR := World.block_lt_of_cell? _ _ hR0
      simp only at zR
      go_wp2_with fail
      clear hR1 hR0 zR
      have hall := KP4.out.here
      have gr := hall.2.2.2.2.2.1
      clear hall
      refine (images_r p _ V _ (gr.mono (bz w3)) (by omega)).mono ?_
      rintro e w4 ⟨rfl, hB⟩
      have KP5 := Lib.hid (KP4.out.up (btr (bz w3) hB))
      clear KP4
      clear hB
      clear gr
      have hall := KP5.out.here
      have hR1 := hall.2.2.1
      have hR0 := hall.2.2.2.1
      clear hall
      have zR := World.block_lt_of_cell? _ _ hR0
      simp only at zR
      go_wp2_with fail
      clear hR1 hR0 zR
      have hall := KP5.out.here
      have gr := hall.2.2.2.2.2.1
      clear hall
      refine (rimages_any p _ V _ (gr.mono (bz w4)) (by omega)).mono ?_
      rintro e w5 ⟨rfl, hB⟩
      have KP6 := Lib.hid (KP5.out.up (btr (bz w4) hB))
      clear KP5
      clear hB
      clear gr
      go_upto_region 7 with fail
      refine wp_region_flow [] [([0, 2], 1, true), ([], 3, true), ([4, 5, 6, 7, 9, 10], 8, true), ([], 11, true), ([12, 13, 14, 15, 16], 17, true), ([18, 19, 20, 21, 22, 23, 24, 25, 26, 27, 28, 29, 30, 31, 32, 33, 34], 35, true)] [36, 37] (by kernel_rfl) (by kernel_rfl) ?_
      intro w6 hB hh
      clear hh
      have KP7 := Lib.hid ((KP6.out.up (btr (bz w5) hB)).and (keepB (bz w6)))
      clear KP6
      clear hB
      have hall := KP7.out.here
      have hR1 := hall.2.2.2.1
      have hR0 := hall.2.2.2.2.1
      clear hall
      have zR := World.block_lt_of_cell? _ _ hR0
      simp only at zR
      have hL := @Later.cell w6
      simp only [flowP, flow, pickL, List.getElem?_cons_succ, List.getElem?_cons_zero]
      refine wpQuiet_nil ?_
      repeat (go_big_quiet_step (fail))
      refine wpQuiet_nil ?_
      go_wp2_with fail
      have hall := KP7.out.here
      have gr := hall.2.2.2.2.2.2.1
      clear hall
      refine (sorts_r p _ V _ gr (by omega)).mono ?_
      rintro e w7 ⟨rfl, hB⟩
      have KP8 := Lib.hid (KP7.out.up (btr (bz w6) hB))
      clear KP7
      clear hB
      clear gr
      go_wp2
      have hall := KP8.out.here
      have gSw6 := hall.1
      clear hall
      refine seg_grow ⟨⟨_, gSw6⟩, rfl⟩ ?_
      clear gSw6
      repeat (go_big_quiet_step (fail))
      refine wpQuiet_nil ?_
      go_wp2_with fail
      have hall := KP8.out.here
      have gr := hall.2.2.2.2.2.2.1
      clear hall
      refine (rsorts_any p _ V _ gr (by omega)).mono ?_
      rintro e w8 ⟨rfl, hB⟩
      have KP9 := Lib.hid (KP8.out.up (btr (bz w7) hB))
      clear KP8
      clear hB
      clear gr
      go_wp2
      have hall := KP9.out.here
      have gSw6 := hall.1
      clear hall
      refine seg_grow ⟨⟨_, gSw6⟩, rfl⟩ ?_
      clear gSw6
      repeat (go_big_quiet_step (fail))
      refine wpQuiet_nil ?_
      go_wp2_with fail
      have hall := KP9.out.here
      have gy := hall.2.2.2.2.2.1
      have gr := hall.2.2.2.2.2.2.1
      clear hall
      refine (chkpat_r p _ _ V q _ gr gy (by omega) (by omega)).mono ?_
      rintro e w9 ⟨rfl, hB⟩
      have KP10 := Lib.hid (KP9.out.up (btr (bz w8) hB))
      clear KP9
      clear hB
      clear gy gr
      go_wp2
      have hall := KP10.out.here
      have gSw6 := hall.1
      clear hall
      refine seg_grow ⟨⟨_, gSw6⟩, rfl⟩ ?_
      clear gSw6
      repeat (go_big_quiet_step (fail))
      refine wpQuiet_nil ?_
      go_wp2_with fail
      have hall := KP10.out.here
      have gy := hall.2.2.2.2.2.1
      have gr := hall.2.2.2.2.2.2.1
      clear hall
      refine (rchkpat_any p _ _ V q _ gr gy (by omega) (by omega)).mono ?_
      rintro e w10 ⟨rfl, hB⟩
      have KP11 := Lib.hid (KP10.out.up (btr (bz w9) hB))
      clear KP10
      clear hB
      clear gy gr
      go_wp2
      have hall := KP11.out.here
      have gSw6 := hall.1
      clear hall
      refine seg_grow ⟨⟨_, gSw6⟩, rfl⟩ ?_
      clear gSw6
      repeat (go_big_quiet_step (fail))
      refine wpQuiet_nil ?_
      go_wp2_with fail
      have hall := KP11.out.here
      have gB := hall.2.1
      have gA := hall.2.2.1
      clear hall
      refine (ints_eq _ _ (rpatL p V) _ gA gB (by have := rpatL_len p V; omega)).mono ?_
      rintro e w11 ⟨rfl, hB⟩
      have KP12 := Lib.hid (KP11.out.up (btr (bz w10) hB))
      clear KP11
      clear hB
      clear gB gA
      go_wp2
      have hall := KP12.out.here
      have gSw6 := hall.1
      clear hall
      refine seg_grow ⟨⟨_, gSw6⟩, rfl⟩ ?_
      clear gSw6
      repeat (go_big_quiet_step (fail))
      refine wpQuiet_nil ?_
      go_wp2_with fail
      refine (works_any _).mono ?_
      rintro e w12 ⟨rfl, hB⟩
      have KP13 := Lib.hid (KP12.out.up (btr (bz w11) hB))
      clear KP12
      clear hB
      go_wp2
      have hall := KP13.out.here
      have gSw6 := hall.1
      clear hall
      refine seg_grow ⟨⟨_, gSw6⟩, rfl⟩ ?_
      clear gSw6
      repeat (go_big_quiet_step (fail))
      refine wpQuiet_nil ?_
      refine only_done ?_
      clear hR1 hR0 zR hL
      have hall := KP13.out.here
      have gBelow := hall.2.2.2.2.2.2.2
      clear hall
      go_wp2
      go_ret
      exact ⟨rfl, gBelow⟩
section
open Go.ChangeShapes Go.WideShapes Go.ChangeAt
set_option maxRecDepth 100000 in
theorem valvePatterns_lifted (os : Os) (started : os.Started) (H : Type) (enc : TypeId × Value → H) :
    ReturnsInHanded {} Try.checked os 4 .any (Rows.valvePatternsSpec.pre6 enc Try.prog Try.f4 Rows.valvePatternsRow.domain false) (Rows.valvePatternsSpec.post enc Try.prog Try.f4 false true false false) := by
  refine returnsInHanded_of_change (C := Try.checked) Try.own started (by kernel_rfl) Try.func4
    (ChangeSpec.witness6 (enc := enc) (C := Try.checked) false ⟨#[], #[.agg #[.int .i64 0, .slice none 0 0], .slice none 0 0], []⟩ 8 (by kernel_rfl) (by kernel_rfl) (by kernel_rfl) (by kernel_rfl)) ?_
  intro W base args ds gs before hval0 hW _ _
  have hval : ∀ (j : Nat) t v, Try.f4.params[j]? = some t → args[j]? = some v → Value.okWide Try.prog W .any base t v := hval0
  have hW' := hW
  obtain ⟨p, q, hA0, hV, rfl, hfz, hnd⟩ := hW
  have hA : DataW.TrodAll enc Try.prog W 0 (fun _ => true) true Try.f4.params.toList args.toList ds p := hA0
  have hA2 := hA
  have hlt : ∀ x ∈ p, x.block < W.heap.size := fun x hx => hW'.lt x (List.mem_append_left _ hx)
  rw [Try.params4] at hA hval
  obtain ⟨v0, vs0, d0, ds0, p0, q0, hargs, rfl, rfl, h0, r0⟩ := trodAll_cons hA
  obtain ⟨v1, vs1, d1, ds1, p1, q1, rfl, rfl, rfl, h1, r1⟩ := trodAll_cons r0
  obtain ⟨rfl, rfl, rfl⟩ := trodAll_nil r1
  obtain rfl : args = #[v0, v1] := by cases args; simp_all
  obtain ⟨rfl, rfl⟩ := trodVars_none hV
  obtain ⟨a0, x0, V0, rfl, hx0⟩ := open_row (hval 0 24 v0 rfl rfl) h0 (fun x hx => hlt x (by simp [hx]))
  obtain ⟨X1, hx1, hw1⟩ := open_ints_rd Try.underlying34 Try.underlying3 (by kernel_rfl) (hval 1 34 v1 rfl rfl) h1 (fun x hx => hlt x (by simp [hx]))
  clear hA0 hval0
  simp only [List.append_nil] at hW' hA2
  refine (patterns_walk a0 x0 v1 V0 X1 W hx0 hx1).mono fun e W' ⟨he, hb⟩ => ?_
  subst he
  exact ⟨_, rfl, law_post Try.laidOut Try.underlying4 hW' hA2 rfl rfl rfl rfl rfl (by kernel_rfl) hb⟩
theorem valvePatterns_holds : Rows.ValvePatternsSaid :=
  OpenClaim.holds_of_wide 4 Try.f4 rfl rfl rfl rfl rfl rfl rfl ⟨rfl, rfl, rfl, rfl, rfl⟩ rfl rfl rfl rfl rfl (by kernel_rfl) Try.func4 (by kernel_rfl)
    (of_decide_eq_true (by kernel_rfl)) (by unfold Func.isWrapper; first | (rw [if_pos (by decide +kernel)]; kernel_rfl) | (rw [if_neg (by decide +kernel)]; exact ⟨rfl, rfl⟩))
    (fun os started H enc _ => valvePatterns_lifted os started H enc)
end
end Go.Proofs.Ytdnaipiiponhpaa
