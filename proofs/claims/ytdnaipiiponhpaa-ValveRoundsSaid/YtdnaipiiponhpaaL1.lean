/- ValveRows holds; no condition. -/
import Derived.Test.YtdnaipiiponhpaaWorks
namespace Go.Proofs.Ytdnaipiiponhpaa
open Go.RowKit Go.Shelf


theorem great_yes (p : Int) (n cap : Nat) (a : Option Addr) (w : World) (h : 50 < n) : Calls Try.prog 16 #[.agg #[.int .i64 p, .slice a n cap]] w fun e w' => e = .returned (.bool true) ∧ Below w.heap.size w w' := by
  have := great_any p _ n cap a w rfl
  rwa [decide_eq_true h] at this
theorem great_no (p : Int) (n cap : Nat) (a : Option Addr) (w : World) (h : n ≤ 50) : Calls Try.prog 16 #[.agg #[.int .i64 p, .slice a n cap]] w fun e w' => e = .returned (.bool false) ∧ Below w.heap.size w w' := by
  have := great_any p _ n cap a w rfl
  rwa [decide_eq_false (by omega)] at this
theorem runR_len (p : Int) (V : List (Int × Int)) (l : List Int) : (runR p V l).length ≤ l.length := by
  rw [runR_eq]; unfold rrunR
  split
  · simp
  · split
    · simp
    · rw [runV_length]; exact Nat.le_refl _

set_option maxRecDepth 100000 in
set_option maxHeartbeats 4000000 in
theorem rows_walk (p : Int) (x y : Value) (V : List (Int × Int)) (q : List Int) (w : World) (hx : RdP w x V) (hy : RdI w .i64 y q) :
    Calls Try.prog 3 #[.agg #[.int .i64 p, x], y] w fun e w' => e = .returned (.bool true) ∧ Below w.heap.size w w' := by
  obtain ⟨a, c, rfl⟩ := hx.ex _ rfl
  obtain ⟨b, d, rfl⟩ := hy.ex _ rfl
  by_cases hV : 50 < V.length
  ·
    have KP0 := Lib.hid (((keepB (bz w)).and (keepP hx)).and (keepI hy))
    clear hx hy
    go_enter Try.func3, Try.ntmps3
    go_wp2_with fail
    have KP1 := Lib.hid (((KP0.out.up (bal (bz w) _)).and (keepC (w := (w.alloc (.cells #[.int .i64 p, .slice a V.length c] 24))) (p := ⟨w.heap.size, 0, none⟩) (cnew (by simp) rfl))).and (keepC (w := (w.alloc (.cells #[.int .i64 p, .slice a V.length c] 24))) (p := ⟨w.heap.size, 1, none⟩) (cnew (by simp) rfl)))
    clear KP0
    refine (great_yes _ _ _ _ _ hV).mono ?_
    rintro e w1 ⟨rfl, hB⟩
    have KP2 := Lib.hid (KP1.out.up (btr (bz ((w.alloc (.cells #[.int .i64 p, .slice a V.length c] 24)))) hB))
    clear KP1
    clear hB
    have hall := KP2.out.here
    have hR1 := hall.1
    have hR0 := hall.2.1
    clear hall
    have zR := World.block_lt_of_cell? _ _ hR0
    simp only at zR
    go_wp2_with fail
    clear hR1 hR0 zR
    refine (works_any _).mono ?_
    rintro e w2 ⟨rfl, hB⟩
    have KP3 := Lib.hid (KP2.out.up (btr (bz w1) hB))
    clear KP2
    clear hB
    have hall := KP3.out.here
    have gBelow := hall.2.2.2.2
    clear hall
    go_wp2
    go_ret
    exact ⟨rfl, gBelow⟩
  · have hV : V.length ≤ 50 := by omega
    by_cases hq : 12 < q.length
    ·
      have hq2 : (12 : Int) < (q.length : Int) := by omega
      have KP0 := Lib.hid (((keepB (bz w)).and (keepP hx)).and (keepI hy))
      clear hx hy
      go_enter Try.func3, Try.ntmps3
      go_wp2_with fail
      have KP1 := Lib.hid (((KP0.out.up (bal (bz w) _)).and (keepC (w := (w.alloc (.cells #[.int .i64 p, .slice a V.length c] 24))) (p := ⟨w.heap.size, 0, none⟩) (cnew (by simp) rfl))).and (keepC (w := (w.alloc (.cells #[.int .i64 p, .slice a V.length c] 24))) (p := ⟨w.heap.size, 1, none⟩) (cnew (by simp) rfl)))
      clear KP0
      refine (great_no _ _ _ _ _ hV).mono ?_
      rintro e w1 ⟨rfl, hB⟩
      have KP2 := Lib.hid (KP1.out.up (btr (bz ((w.alloc (.cells #[.int .i64 p, .slice a V.length c] 24)))) hB))
      clear KP1
      clear hB
      have hall := KP2.out.here
      have hR1 := hall.1
      have hR0 := hall.2.1
      clear hall
      have zR := World.block_lt_of_cell? _ _ hR0
      simp only at zR
      go_wp2_with fail
      clear hR1 hR0 zR
      refine (works_any _).mono ?_
      rintro e w2 ⟨rfl, hB⟩
      have KP3 := Lib.hid (KP2.out.up (btr (bz w1) hB))
      clear KP2
      clear hB
      have hall := KP3.out.here
      have gBelow := hall.2.2.2.2
      clear hall
      go_wp2
      go_ret
      exact ⟨rfl, gBelow⟩
    · have hq : q.length ≤ 12 := by omega
      have hq2 : ¬ ((12 : Int) < (q.length : Int)) := by omega
      have KP0 := Lib.hid (((keepB (bz w)).and (keepP hx)).and (keepI hy))
      clear hx hy
      go_enter Try.func3, Try.ntmps3
      go_wp2_with fail
      have KP1 := Lib.hid (((KP0.out.up (bal (bz w) _)).and (keepC (w := (w.alloc (.cells #[.int .i64 p, .slice a V.length c] 24))) (p := ⟨w.heap.size, 0, none⟩) (cnew (by simp) rfl))).and (keepC (w := (w.alloc (.cells #[.int .i64 p, .slice a V.length c] 24))) (p := ⟨w.heap.size, 1, none⟩) (cnew (by simp) rfl)))
      clear KP0
      refine (great_no _ _ _ _ _ hV).mono ?_
      rintro e w1 ⟨rfl, hB⟩
      have KP2 := Lib.hid (KP1.out.up (btr (bz ((w.alloc (.cells #[.int .i64 p, .slice a V.length c] 24)))) hB))
      clear KP1
      clear hB
      have hall := KP2.out.here
      have hR1 := hall.1
      have hR0 := hall.2.1
      clear hall
      have zR := World.block_lt_of_cell? _ _ hR0
      simp only at zR
      go_wp2_with fail
      clear hR1 hR0 zR
      have hall := KP2.out.here
      have gy := hall.2.2.1
      have gr := hall.2.2.2.1
      clear hall
      refine (vrun_any p _ _ V q _ (gr.mono (bz w1)) (gy.mono (bz w1)) (by omega) (by omega)).mono ?_
      rintro e w2 ⟨v, rfl, hRA, hB⟩
      have KP3 := Lib.hid ((KP2.out.up (btr (bz w1) hB)).and (keepI hRA))
      clear KP2
      clear hRA hB
      clear gy gr
      have hall := KP3.out.here
      have hR1 := hall.2.1
      have hR0 := hall.2.2.1
      clear hall
      have zR := World.block_lt_of_cell? _ _ hR0
      simp only at zR
      go_wp2_with fail
      clear hR1 hR0 zR
      have hall := KP3.out.here
      have gy := hall.2.2.2.1
      have gr := hall.2.2.2.2.1
      clear hall
      refine (rrun_any p _ _ V q _ (gr.mono (bz w2)) (gy.mono (bz w2)) (by omega) (by omega)).mono ?_
      rintro e w3 ⟨u, rfl, hRB, hB⟩
      have KP4 := Lib.hid ((KP3.out.up (btr (bz w2) hB)).and (keepI hRB))
      clear KP3
      clear hRB hB
      clear gy gr
      go_upto_region 5 with fail
      refine wp_region_flow [] [([0, 2], 1, true), ([], 3, true), ([4, 5, 6, 7], 8, true), ([9, 10, 11, 12, 13, 14, 15], 16, true)] [17, 18] (by kernel_rfl) (by kernel_rfl) ?_
      intro w4 hB hh
      clear hh
      have KP5 := Lib.hid ((KP4.out.up (btr (bz w3) hB)).and (keepB (bz w4)))
      clear KP4
      clear hB
      have hall := KP5.out.here
      have hR1 := hall.2.2.2.1
      have hR0 := hall.2.2.2.2.1
      clear hall
      have zR := World.block_lt_of_cell? _ _ hR0
      simp only at zR
      have hL := @Later.cell w4
      simp only [flowP, flow, pickL, List.getElem?_cons_succ, List.getElem?_cons_zero]
      refine wpQuiet_nil ?_
      repeat (go_big_quiet_step (fail))
      refine wpQuiet_nil ?_
      go_wp2_with fail
      have hall := KP5.out.here
      have gr := hall.2.2.2.2.2.2.1
      clear hall
      refine (checkrow_any p _ V _ gr (by omega)).mono ?_
      rintro e w5 ⟨rfl, hB⟩
      have KP6 := Lib.hid (KP5.out.up (btr (bz w4) hB))
      clear KP5
      clear hB
      clear gr
      go_wp2
      have hall := KP6.out.here
      have gSw4 := hall.1
      clear hall
      refine seg_grow ⟨⟨_, gSw4⟩, rfl⟩ ?_
      clear gSw4
      repeat (go_big_quiet_step (fail))
      refine wpQuiet_nil ?_
      go_wp2_with fail
      have hall := KP6.out.here
      have gr := hall.2.2.2.2.2.2.1
      clear hall
      refine (rcheck_any p _ V _ gr (by omega)).mono ?_
      rintro e w6 ⟨rfl, hB⟩
      have KP7 := Lib.hid (KP6.out.up (btr (bz w5) hB))
      clear KP6
      clear hB
      clear gr
      go_wp2
      have hall := KP7.out.here
      have gSw4 := hall.1
      clear hall
      refine seg_grow ⟨⟨_, gSw4⟩, rfl⟩ ?_
      clear gSw4
      repeat (go_big_quiet_step (fail))
      refine wpQuiet_nil ?_
      go_wp2_with fail
      have hall := KP7.out.here
      have gB := hall.2.1
      have gA := hall.2.2.1
      clear hall
      refine (longs_eq _ _ (runR p V q) _ gA (by rw [runR_eq]; exact gB) (by have := runR_len p V q; omega)).mono ?_
      rintro e w7 ⟨rfl, hB⟩
      have KP8 := Lib.hid (KP7.out.up (btr (bz w6) hB))
      clear KP7
      clear hB
      clear gB gA
      go_wp2
      have hall := KP8.out.here
      have gSw4 := hall.1
      clear hall
      refine seg_grow ⟨⟨_, gSw4⟩, rfl⟩ ?_
      clear gSw4
      repeat (go_big_quiet_step (fail))
      refine wpQuiet_nil ?_
      go_wp2_with fail
      refine (works_any _).mono ?_
      rintro e w8 ⟨rfl, hB⟩
      have KP9 := Lib.hid (KP8.out.up (btr (bz w7) hB))
      clear KP8
      clear hB
      go_wp2
      have hall := KP9.out.here
      have gSw4 := hall.1
      clear hall
      refine seg_grow ⟨⟨_, gSw4⟩, rfl⟩ ?_
      clear gSw4
      repeat (go_big_quiet_step (fail))
      refine wpQuiet_nil ?_
      refine only_done ?_
      clear hR1 hR0 zR hL
      have hall := KP9.out.here
      have gBelow := hall.2.2.2.2.2.2.2
      clear hall
      go_wp2
      go_ret
      exact ⟨rfl, gBelow⟩
section
open Go.ChangeShapes Go.WideShapes Go.ChangeAt
set_option maxRecDepth 100000 in
theorem valveRows_lifted (os : Os) (started : os.Started) (H : Type) (enc : TypeId × Value → H) :
    ReturnsInHanded {} Try.checked os 3 .any (Rows.valveRowsSpec.pre6 enc Try.prog Try.f3 Rows.valveRowsRow.domain false) (Rows.valveRowsSpec.post enc Try.prog Try.f3 false true false false) := by
  refine returnsInHanded_of_change (C := Try.checked) Try.own started (by kernel_rfl) Try.func3
    (ChangeSpec.witness6 (enc := enc) (C := Try.checked) false ⟨#[], #[.agg #[.int .i64 0, .slice none 0 0], .slice none 0 0], []⟩ 8 (by kernel_rfl) (by kernel_rfl) (by kernel_rfl) (by kernel_rfl)) ?_
  intro W base args ds gs before hval0 hW _ _
  have hval : ∀ (j : Nat) t v, Try.f3.params[j]? = some t → args[j]? = some v → Value.okWide Try.prog W .any base t v := hval0
  have hW' := hW
  obtain ⟨p, q, hA0, hV, rfl, hfz, hnd⟩ := hW
  have hA : DataW.TrodAll enc Try.prog W 0 (fun _ => true) true Try.f3.params.toList args.toList ds p := hA0
  have hA2 := hA
  have hlt : ∀ x ∈ p, x.block < W.heap.size := fun x hx => hW'.lt x (List.mem_append_left _ hx)
  rw [Try.params3] at hA hval
  obtain ⟨v0, vs0, d0, ds0, p0, q0, hargs, rfl, rfl, h0, r0⟩ := trodAll_cons hA
  obtain ⟨v1, vs1, d1, ds1, p1, q1, rfl, rfl, rfl, h1, r1⟩ := trodAll_cons r0
  obtain ⟨rfl, rfl, rfl⟩ := trodAll_nil r1
  obtain rfl : args = #[v0, v1] := by cases args; simp_all
  obtain ⟨rfl, rfl⟩ := trodVars_none hV
  obtain ⟨a0, x0, V0, rfl, hx0⟩ := open_row (hval 0 24 v0 rfl rfl) h0 (fun x hx => hlt x (by simp [hx]))
  obtain ⟨X1, hx1, hw1⟩ := open_ints_rd Try.underlying25 Try.underlying2 (by kernel_rfl) (hval 1 25 v1 rfl rfl) h1 (fun x hx => hlt x (by simp [hx]))
  clear hA0 hval0
  simp only [List.append_nil] at hW' hA2
  refine (rows_walk a0 x0 v1 V0 X1 W hx0 hx1).mono fun e W' ⟨he, hb⟩ => ?_
  subst he
  exact ⟨_, rfl, law_post Try.laidOut Try.underlying4 hW' hA2 rfl rfl rfl rfl rfl (by kernel_rfl) hb⟩
theorem valveRows_holds : Rows.ValveRowsSaid :=
  OpenClaim.holds_of_wide 3 Try.f3 rfl rfl rfl rfl rfl rfl rfl ⟨rfl, rfl, rfl, rfl, rfl⟩ rfl rfl rfl rfl rfl (by kernel_rfl) Try.func3 (by kernel_rfl)
    (of_decide_eq_true (by kernel_rfl)) (by unfold Func.isWrapper; first | (rw [if_pos (by decide +kernel)]; kernel_rfl) | (rw [if_neg (by decide +kernel)]; exact ⟨rfl, rfl⟩))
    (fun os started H enc _ => valveRows_lifted os started H enc)
end
end Go.Proofs.Ytdnaipiiponhpaa
