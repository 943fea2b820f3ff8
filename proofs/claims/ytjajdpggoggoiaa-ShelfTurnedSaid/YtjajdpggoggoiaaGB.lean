/- Merged texts: CheckPlan, sets by bits, Run, Plan, After of the document. -/
import Derived.Test.YtjajdpggoggoiaaGA
import Derived.Maps.AppendAt
namespace Go.Proofs.Ytjajdpggoggoiaa
open Go.RowKit Go.Shelf

theorem one_arr (l : List Int) : (arrI l).all (·.oneCell') = true := by simp [arrI, Value.oneCell']
def hasB (on : List Int) (r : Int) : Bool := decide (0 < bitV on r)
def fullB (R : Int) (on : List Int) (w : Int) : Bool := !hasB on w && (sumL on == R)
def stepOn (on : List Int) (p w : Int) : List Int := (on.set p.toNat 0).set w.toNat 1
/-- The wants W are done by the plan P: how many are fetched, and the error. -/
def cpGo (R : Int) : List Int → List Int → List Int → Int → Int × Int
  | w :: W, p :: P, on, n => if fullB R on w = !(p != 0) then (0, 16) else if fullB R on w && !hasB on p then (0, 18) else cpGo R W P (stepOn on p w) (n + if hasB on w then 0 else 1)
  | [], _, _, n => (n, 0)
  | _ :: _, [], _, n => (n, 0)
/-- What is on the bench: 0 or 1 for each reamer, 0 for none. -/
structure OnOk (on : List Int) : Prop where
  len : on.length = 9
  bit : ∀ y ∈ on, 0 ≤ y ∧ y ≤ 1
  zero : on[0]?.getD 0 = 0
theorem OnOk.at {on : List Int} (h : OnOk on) (i : Nat) : 0 ≤ on[i]?.getD 0 ∧ on[i]?.getD 0 ≤ 1 := by
  by_cases hi : i < on.length
  · have := h.bit on[i] (List.getElem_mem hi); simpa [hi] using this
  · simp [hi]
theorem zeros_ok : OnOk zeros := ⟨rfl, by decide, rfl⟩
theorem set_get (l : List Int) (i j : Nat) (v : Int) (hi : i < l.length) : (l.set i v)[j]?.getD 0 = if i = j then v else l[j]?.getD 0 := by
  rw [List.getElem?_set]
  by_cases e : i = j
  · subst e; simp [hi]
  · simp [e]
theorem OnOk.step {on : List Int} (h : OnOk on) {p w : Int} (p0 : 0 ≤ p) (p1 : p ≤ 8) (w0 : 1 ≤ w) (w1 : w ≤ 8) : OnOk (stepOn on p w) := by
  have hl := h.len
  refine ⟨by simp [stepOn, hl], fun y hy => ?_, ?_⟩
  · unfold stepOn at hy
    rcases List.mem_or_eq_of_mem_set hy with hy | rfl
    · rcases List.mem_or_eq_of_mem_set hy with hy | rfl
      · exact h.bit y hy
      · omega
    · omega
  · unfold stepOn
    rw [set_get _ _ _ _ (by simp [hl]; omega), if_neg (by omega), set_get _ _ _ _ (by omega)]
    split
    · rfl
    · exact h.zero
theorem step_same {on : List Int} (h : OnOk on) {w : Int} (w0 : 1 ≤ w) (w1 : w ≤ 8) (hh : hasB on w = true) : stepOn on 0 w = on := by
  have hl := h.len
  have hw := h.at w.toNat
  have hh' : 0 < bitV on w := of_decide_eq_true hh
  unfold bitV at hh'
  have h1 : on[w.toNat]?.getD 0 = 1 := by omega
  apply List.ext_getElem
  · simp [stepOn]
  · intro j h1' h2'
    have e : (stepOn on 0 w)[j]?.getD 0 = on[j]?.getD 0 := by
      unfold stepOn
      rw [set_get _ _ _ _ (by simp [hl]; omega)]
      by_cases e : w.toNat = j
      · rw [if_pos e, ← e, h1]
      · rw [if_neg e, set_get _ _ _ _ (by simp [hl])]
        by_cases e0 : (0 : Int).toNat = j
        · rw [if_pos e0, ← e0]; exact h.zero.symm
        · rw [if_neg e0]
    simpa [h1', h2'] using e
theorem step_other {on : List Int} (h : OnOk on) {p w : Int} (w1 : w ≤ 8) (w0 : 1 ≤ w) (hh : hasB on w = false) : on ≠ stepOn on p w := by
  intro e
  have hl := h.len
  have h1 : (stepOn on p w)[w.toNat]?.getD 0 = 1 := by
    unfold stepOn
    rw [set_get _ _ _ _ (by simp [hl]; omega), if_pos rfl]
  rw [← e] at h1
  have hh' : ¬ 0 < bitV on w := of_decide_eq_false hh
  unfold bitV at hh'
  omega
theorem wpQuiet_load_part {P : Program} {ops : Array Oper} {Q : Act → Prop} {a : Act} {w : World} {rest : List Oper} {o : Oper} (hgd : o.guard = none) (ty : TypeId) (x : Operand) (ho : o.op = .load ty x) (ad : Addr) (hx : a.eval x = .pointer (some ad)) (v : Value)
    (hl : ∀ l : Later w, (loadVar ty ad).run P l.val = .ok v l.val)
    (h : wpQuiet P ops (fun w' => ∃ x : Later w, w' = x.val) Q rest (a.put o.dst v)) : wpQuiet P ops (fun w' => ∃ x : Later w, w' = x.val) Q (o :: rest) a := by
  unfold wpQuiet
  rw [if_pos (by simp [Region.wanted, hgd])]
  refine ⟨v, ?_, h⟩
  rintro w' ⟨l, rfl⟩
  unfold Oper.quietAt execOp
  simp only [ho, hx, Instr.loadAt, Instr.sureAddr, Sem.run_bind, Sem.run_pure, Result.andThen_ok, hl l, Oper.quietUpon, and_self]

def planR (R : Int) (W P : List Int) : Int × Int := if checkD R W ≠ 0 then (0, checkD R W) else if P.length ≠ W.length then (0, 15) else if P.any (outB 0 8) then (0, 3) else cpGo R W P zeros 0
def PlanOk (R : Int) (W P : List Int) (w : World) (e : Ending) (w' : World) : Prop := e = .returned (.tuple #[.int .i64 (planR R W P).1, .int .i64 (planR R W P).2]) ∧ Below w.heap.size w w'
set_option maxRecDepth 100000 in
set_option maxHeartbeats 1000000 in
theorem checkplan_no (R : Int) (x y : Value) (W P : List Int) (w : World) (hx0 : RdI w .i64 x W) (hy0 : RdI w .i64 y P) (hl : W.length ≤ 1000) (hc : checkD R W ≠ 0) : Calls Try.prog 17 #[.agg #[.int .i64 R, x], y] w (PlanOk R W P w) := by
  obtain ⟨a, c, rfl⟩ := hx0.ex _ rfl
  obtain ⟨a', c', rfl⟩ := hy0.ex _ rfl
  unfold PlanOk planR
  rw [if_pos hc]
  have HO := Lib.hid (fun wz hx => open_no R (.slice a W.length c) W wz hx hl hc)
  have HX := Lib.hid hx0
  have t1 : (checkD R W != 0) = true := by simpa using hc
  clear hc hx0 hy0
  generalize checkD R W = q at *
  go_enter Try.func17, Try.ntmps17
  go_wp2_with fail
  refine (HO.out _ (HX.out.mono (bal (bz _) _))).mono ?_
  rintro e w2 ⟨rfl, hB2⟩
  have HB2 := Lib.hid (btr (bal (bz w) _) hB2)
  clear hB2
  go_wp2_with fail
  go_ret2
  exact ⟨rfl, HB2.out⟩
set_option maxRecDepth 100000 in
set_option maxHeartbeats 4000000 in
theorem checkplan_ok (R : Int) (x y : Value) (W P : List Int) (w : World) (hx0 : RdI w .i64 x W) (hy0 : RdI w .i64 y P) (hlp : P.length ≤ 1000) (hc : checkD R W = 0) : Calls Try.prog 17 #[.agg #[.int .i64 R, x], y] w (PlanOk R W P w) := by
  have hd := okD_of hc
  have h16 := hd.l16
  obtain ⟨a, c, rfl, hca, hcm, hx⟩ := hx0.form
  obtain ⟨a', c', rfl, hca', hcm', hy⟩ := hy0.form
  clear hcm hcm'
  unfold PlanOk planR
  rw [if_neg (by simpa using hc)]
  have HO := Lib.hid (fun wz hx => open_ok R (.slice a W.length c) W wz hx hc)
  unfold OpenOk at HO
  have HX := Lib.hid hx0; have HY := Lib.hid hy0
  clear hc hx0 hy0
  by_cases hpl : P.length = W.length
  · rw [if_neg (by simpa using hpl)]
    have t2 : ((P.length : Int) != (W.length : Int)) = false := by simp [hpl]
    have HPL := Lib.hid hpl
    have HWI := Lib.hid (fun wz hx => within_any (.slice a' P.length c') P 0 8 wz hx hlp)
    cases hpo : P.any (outB 0 8)
    · rw [hpo] at HWI
      rw [if_neg (by decide)]
      have HPB : Hid (∀ k, k < P.length → 0 ≤ P[k]?.getD 0 ∧ P[k]?.getD 0 ≤ 8) := Lib.hid (fun k hk => by
        rw [List.any_eq_false] at hpo
        have := hpo P[k] (List.getElem_mem hk)
        simp [outB] at this
        simp [hk]; omega)
      obtain ⟨res, hres⟩ : ∃ res, cpGo R W P zeros 0 = res := ⟨_, rfl⟩
      rw [hres]
      have HRES := Lib.hid hres
      obtain ⟨rA, rE⟩ := res
      have HD := Lib.hid hd
      clear hpo hpl hres hd
      go_enter Try.func17, Try.ntmps17
      go_wp2_with fail
      refine (HO.out _ (HX.out.mono (bal (bz _) _))).mono ?_
      rintro e w2 ⟨b, rfl, hb, hDD, hB2⟩
      obtain ⟨x, M, L, c0, hD, _, _, _, _⟩ := hDD
      obtain ⟨hcc, hf⟩ := bcell hB2
      have hz := hB2.size
      simp only [World.size_alloc] at hz hb
      have HB2 := Lib.hid hB2; have HDB := Lib.hid hD
      clear hB2 hD
      go_wp2_with fail
      refine (HWI.out _ (HY.out.mono (btr (bal (bz _) _) HB2.out))).mono ?_
      rintro e w3 ⟨rfl, hB3⟩
      have HB3 := Lib.hid (btr HB2.out hB3); have HD3 := Lib.hid (HDB.out.up hB3)
      clear hB3 HDB HB2 hcc hf
      have hr0 : (w.alloc (.cells #[.int .i64 R, .slice a W.length c] 24)).cell? ⟨w.heap.size, 0, none⟩ = some (.int .i64 R) := cnew rfl rfl
      have hr1 : (w.alloc (.cells #[.int .i64 R, .slice a W.length c] 24)).cell? ⟨w.heap.size, 1, none⟩ = some (.slice a W.length c) := cnew rfl rfl
      have HR0 := Lib.hid (fun wz (hB : Below (w.alloc (.cells #[.int .i64 R, .slice a W.length c] 24)).heap.size (w.alloc (.cells #[.int .i64 R, .slice a W.length c] 24)) wz) => (hB.cell (p := ⟨w.heap.size, 0, none⟩) (by simp)).trans hr0)
      have HR1 := Lib.hid (fun wz (hB : Below (w.alloc (.cells #[.int .i64 R, .slice a W.length c] 24)).heap.size (w.alloc (.cells #[.int .i64 R, .slice a W.length c] 24)) wz) => (hB.cell (p := ⟨w.heap.size, 1, none⟩) (by simp)).trans hr1)
      have HBW := Lib.hid (fun wz (hB : Below (w.alloc (.cells #[.int .i64 R, .slice a W.length c] 24)).heap.size (w.alloc (.cells #[.int .i64 R, .slice a W.length c] 24)) wz) => btr (bal (bz w) _) hB)
      have hbs : (w.alloc (.cells #[.int .i64 R, .slice a W.length c] 24)).heap.size ≤ b := by simp; omega
      have hws : w.heap.size < (w.alloc (.cells #[.int .i64 R, .slice a W.length c] 24)).heap.size := by simp
      have e1 := HR1.out _ HB3.out
      have ez := Nat.lt_of_lt_of_le hws HB3.out.size
      clear hr0 hr1 hb hz
      generalize (w.alloc (.cells #[.int .i64 R, .slice a W.length c] 24)) = wA at *
      go_wp2_with fail
      go_loopw [8, 9, 10, 11, 12, 36] (fun s8 _ _ _ _ i wr => ∃ (k : Nat) (on : List Int) (n : Int), k ≤ W.length ∧ s8 = .int .i64 n ∧ i = .int .i64 k ∧ 0 ≤ n ∧ n ≤ k ∧ BenchAt wr b R x on (.map (some M)) ∧ OnOk on ∧ Hid (cpGo R (W.drop k) (P.drop k) on n = (rA, rE)) ∧ Below wA.heap.size wA wr) (fun _ _ _ _ _ i _ => W.length - (intOf i).toNat)
      case atStart => exact ⟨0, zeros, 0, Nat.zero_le _, rfl, rfl, by omega, by omega, HD3.out, zeros_ok, HRES, HB3.out⟩
      case round =>
        obtain ⟨k, on, n, hk, rfl, rfl, n0, n1, hD, hOn, HG, hB⟩ := hrel
        clear HD3 HB3 HRES e1 ez
        have HDD := Lib.hid hD; have HON := Lib.hid hOn; have HB := Lib.hid hB
        clear hD hOn hB
        by_cases hlt : k < W.length
        · obtain ⟨bx, ox, rfl, hbx, hcx⟩ := hx (by omega)
          obtain ⟨by', oy, rfl, hby, hcy⟩ := hy (by rw [HPL.out]; omega)
          have gw := ((HBW.out _ HB.out).cell (p := ⟨bx, ox + k, none⟩) hbx).trans (hcx k hlt)
          have hbz : bx < wr.heap.size := Nat.lt_of_lt_of_le hbx (HBW.out _ HB.out).size
          have hkp : k < P.length := by rw [HPL.out]; exact hlt
          have GP := Lib.hid (fun wz (hB : Below wA.heap.size wA wz) => ((HBW.out _ hB).cell (p := ⟨by', oy + k, none⟩) hby).trans (hcy k hkp))
          have ZP := Lib.hid (fun wz (hB : Below wA.heap.size wA wz) => Nat.lt_of_lt_of_le hby (HBW.out _ hB).size)
          obtain ⟨v1, v8⟩ := HD.out.at hlt
          obtain ⟨p0, p8⟩ := HPB.out k hkp
          have HGO := Lib.hid (show cpGo R (want W k :: W.drop (k + 1)) (P[k]?.getD 0 :: P.drop (k + 1)) on n = (rA, rE) from by
            have h := HG.out
            rw [List.drop_eq_getElem_cons hlt, List.drop_eq_getElem_cons hkp] at h
            have e1 : want W k = W[k] := by simp [want, hlt]
            have e2 : P[k]?.getD 0 = P[k] := by simp [hkp]
            rw [e1, e2]; exact h)
          clear hx hy hcx hcy HG hbx hby
          change wr.cell? _ = some (.int .i64 (want W k)) at gw
          generalize want W k = q at *
          generalize P[k]?.getD 0 = p at *
          have HM := Lib.hid (fun wz hD => many_any b R x on (.map (some M)) wz hD HON.out.bit)
          have HH := Lib.hid (fun r wz hD r0 r1 => has_any b R x on (.map (some M)) r wz hD r0 r1)
          change Hid (∀ r wz, _ → _ → _ → Calls Try.prog 44 _ wz fun e w' => e = .returned (.bool (hasB on r)) ∧ wz = w') at HH
          unfold cpGo fullB at HGO
          rcases hth : hasB on q with _ | _
          · rcases hsu : (sumL on == R) with _ | _
            · have hfu : (!hasB on q && (sumL on == R)) = false := by rw [hth, hsu]; rfl
              rw [hfu, hth] at HGO
              have HHQ := Lib.hid (fun wz hD => HH.out q wz hD (by omega) (by omega))
              rw [hth] at HHQ
              have HTH := Lib.hid hth; clear hth hfu
              have HSU := Lib.hid hsu; clear hsu
              by_cases hp0 : p = 0
              · have hpp : (p != 0) = false := by simp [hp0]
                rw [hpp] at HGO
                subst hp0
                go_wp2_with fail
                refine wp_region_flow [] [([0, 1], 2, true), ([3, 4, 5, 7, 8], 6, true)] [9, 10, 11] (by kernel_rfl) (by kernel_rfl) ?_
                intro wc hBc hh
                clear hh
                have HDC := Lib.hid (HDD.out.up hBc); have HBC := Lib.hid (btr HB.out hBc)
                have r0 := HR0.out _ HBC.out
                have rz := Nat.lt_of_lt_of_le hws HBC.out.size
                have hL := @Later.cell wc
                clear hBc gw hbz HDD HB
                simp only [flowP, flow, pickL, List.getElem?_cons_succ, List.getElem?_cons_zero]
                refine wpQuiet_nil ?_
                repeat (go_big_quiet_step (fail))
                refine wpQuiet_nil ?_
                go_wp2_with fail
                refine (HHQ.out _ HDC.out).mono ?_
                rintro e w' ⟨rfl, rfl⟩
                go_wp2
                refine seg_grow ⟨⟨_, bz _⟩, rfl⟩ ?_
                repeat (go_big_quiet_step (fail))
                refine wpQuiet_nil ?_
                go_wp2_with fail
                refine (HM.out _ HDC.out).mono ?_
                rintro e w' ⟨rfl, rfl⟩
                have hsu := HSU.out
                generalize sumL on = su at *
                go_wp2
                refine seg_grow ⟨⟨_, bz _⟩, rfl⟩ ?_
                repeat (go_big_quiet_step (fail))
                refine wpQuiet_nil ?_
                refine only_done ?_
                rw [if_neg (by decide), Bool.false_and, if_neg (by decide)] at HGO
                have gp := GP.out _ HBC.out; have zp := ZP.out _ HBC.out
                have hld := HDC.out.load
                have hi60 : (Try.prog.info? 60).map (·.size) = some 9 := by kernel_rfl
                have HI60 := Lib.hid hi60; clear hi60
                have hB5 := below_box wc #[Value.int IntKind.i64 0, Value.int IntKind.i64 0, Value.int IntKind.i64 0, Value.int IntKind.i64 0, Value.int IntKind.i64 0, Value.int IntKind.i64 0, Value.int IntKind.i64 0, Value.int IntKind.i64 0, Value.int IntKind.i64 0] (arrI on) 60
                have HB5 := Lib.hid (btr HBC.out hB5); have HD5 := Lib.hid (HDC.out.up hB5); have HG1 := Lib.hid (heap_box wc #[Value.int IntKind.i64 0, Value.int IntKind.i64 0, Value.int IntKind.i64 0, Value.int IntKind.i64 0, Value.int IntKind.i64 0, Value.int IntKind.i64 0, Value.int IntKind.i64 0, Value.int IntKind.i64 0, Value.int IntKind.i64 0] (arrI on) 60)
                have gp5 := GP.out _ HB5.out; have zp5 := ZP.out _ HB5.out; have hbw := (Array.getElem?_eq_some_iff.1 HG1.out).1
                have hbc := HDC.out.lt
                clear hB5 r0 rz hL
                go_wp2_with (first
                  | (refine wpList_load_var rfl 60 _ rfl _ rfl _ hld ?_)
                  | (refine wpList_store_row rfl 60 (.tmp 12) (.tmp 74) rfl wc.heap.size (arrI on) rfl rfl 60 _ (heap_alloc_new _ _) (by rw [arrI_size, HON.out.len]; exact HI60.out) (by rw [arrI_size, HON.out.len]; rfl) (one_arr _) ?_))
                generalize World.setRow _ _ _ = w5 at *
                clear gp zp hld
                refine (put_any b R x on (.map (some M)) 0 w5 HD5.out (by omega) (by omega)).mono ?_
                rintro e w6 ⟨⟨v6, rfl⟩, hw6⟩
                have HD6 := Lib.hid (show BenchAt w6 b R x (on.set (0 : Int).toNat 0) (.map (some M)) by rw [hw6]; exact HD5.out.set (by omega) 0)
                have HB6 := Lib.hid (show Below wA.heap.size wA w6 by rw [hw6]; exact bset HB5.out hbs _)
                have HG6 := Lib.hid (show w6.heap[wc.heap.size]? = some (.cells (arrI on) 60 (0, 0)) by rw [hw6, Go.Deep.blk_setCell_other _ _ _ _ (by simp; omega)]; exact HG1.out)
                clear hw6 gp5 zp5 hbw HD5 HB5 HG1
                go_wp2_with fail
                refine (take_any b R x (on.set (0 : Int).toNat 0) (.map (some M)) q w6 HD6.out (by omega) (by omega)).mono ?_
                rintro e w7 ⟨⟨v7, rfl⟩, hw7⟩
                have HD7 := Lib.hid (show BenchAt w7 b R x (stepOn on 0 q) (.map (some M)) by rw [hw7]; exact HD6.out.set (by omega) 1)
                have HB7 := Lib.hid (show Below wA.heap.size wA w7 by rw [hw7]; exact bset HB6.out hbs _)
                have HG7 := Lib.hid (show w7.heap[wc.heap.size]? = some (.cells (arrI on) 60 (0, 0)) by rw [hw7, Go.Deep.blk_setCell_other _ _ _ _ (by simp; omega)]; exact HG6.out)
                clear hw7 HD6 HB6 HG6
                have HON7 := Lib.hid (HON.out.step (p := 0) (by omega) (by omega) v1 v8)
                have HNE : Hid ((!decide (on = stepOn on 0 q)) = true) := Lib.hid (by simp [step_other HON.out v8 v1 HTH.out])
                obtain ⟨i3, hi3, _, _, _⟩ := info_parts num3
                have hne : ∀ w' : World, (binOp .neq 60 (.agg (arrI on)) (.agg (arrI (stepOn on 0 q)))).run Try.prog w' = .ok (.bool (!decide (on = stepOn on 0 q))) w' := fun w' => run_neq_arr (P := Try.prog) w' 60 3 9 .i64 i3 Try.underlying60 hi3 (by kernel_rfl) Try.underlying3 on (stepOn on 0 q) HON.out.len HON7.out.len
                rw [HNE.out] at hne
                have HNN := Lib.hid hne
                clear hne hi3 HNE
                go_upto_region 20 with fail
                refine wp_region_flow [] [] [0, 1, 2, 3, 4, 5] (by kernel_rfl) (by kernel_rfl) ?_
                intro wd hBd hh
                clear hh
                have HD8 := Lib.hid (HD7.out.up hBd); have HB8 := Lib.hid (btr HB7.out hBd)
                have HG8 := Lib.hid ((hBd.block _ (Array.getElem?_eq_some_iff.1 HG7.out).1).trans HG7.out)
                have HLD := Lib.hid (fun l : Later wd => (HD8.out.up l.le).load)
                have hne := HNN.out
                clear hBd HD7 HB7 HG7
                simp only [flowP, flow, pickL, List.getElem?_cons_succ, List.getElem?_cons_zero]
                refine wpQuiet_nil ?_
                repeat (first
                  | (refine wpQuiet_load_row rfl 60 (.tmp 12) rfl wc.heap.size rfl 60 (arrI on) (0, 0) _ HG8.out Try.underlying60 rfl (by rw [arrI_size, HON.out.len]; exact HI60.out) ?_)
                  | (refine wpQuiet_load_part rfl 60 (.tmp 87) rfl ⟨b, 2, none⟩ rfl _ HLD.out ?_)
                  | (quiet_step (fail)))
                refine wpQuiet_nil ?_
                refine only_done ?_
                clear hne
                have HGN := Lib.hid (show cpGo R (W.drop (k + 1)) (P.drop (k + 1)) (stepOn on 0 q) (n + 1) = (rA, rE) from by have h := HGO.out; simpa using h)
                clear HGO
                go_wp2_with fail
                go_roundw
                case rel => exact ⟨k + 1, stepOn on 0 q, n + 1, by omega, by first | rfl | simp, by go_num, by omega, by omega, HD8.out, HON7.out, HGN, HB8.out⟩
                case measure => simp [intOf]; omega
              · have hpp : (p != 0) = true := by simp [hp0]
                rw [hpp] at HGO
                go_wp2_with fail
                refine wp_region_flow [] [([0, 1], 2, true), ([3, 4, 5, 7, 8], 6, true)] [9, 10, 11] (by kernel_rfl) (by kernel_rfl) ?_
                intro wc hBc hh
                clear hh
                have HDC := Lib.hid (HDD.out.up hBc); have HBC := Lib.hid (btr HB.out hBc)
                have r0 := HR0.out _ HBC.out
                have rz := Nat.lt_of_lt_of_le hws HBC.out.size
                have hL := @Later.cell wc
                clear hBc gw hbz HDD HB
                simp only [flowP, flow, pickL, List.getElem?_cons_succ, List.getElem?_cons_zero]
                refine wpQuiet_nil ?_
                repeat (go_big_quiet_step (fail))
                refine wpQuiet_nil ?_
                go_wp2_with fail
                refine (HHQ.out _ HDC.out).mono ?_
                rintro e w' ⟨rfl, rfl⟩
                go_wp2
                refine seg_grow ⟨⟨_, bz _⟩, rfl⟩ ?_
                repeat (go_big_quiet_step (fail))
                refine wpQuiet_nil ?_
                go_wp2_with fail
                refine (HM.out _ HDC.out).mono ?_
                rintro e w' ⟨rfl, rfl⟩
                have hsu := HSU.out
                generalize sumL on = su at *
                go_wp2
                refine seg_grow ⟨⟨_, bz _⟩, rfl⟩ ?_
                repeat (go_big_quiet_step (fail))
                refine wpQuiet_nil ?_
                refine only_done ?_
                rw [if_pos (by decide)] at HGO
                have hra := HGO.out
                simp only [Prod.mk.injEq] at hra
                obtain ⟨rfl, rfl⟩ := hra
                have gp := GP.out _ HBC.out; have zp := ZP.out _ HBC.out
                go_wp2_with fail
                go_ret2
                exact ⟨rfl, HBW.out _ HBC.out⟩
            · have hfu : (!hasB on q && (sumL on == R)) = true := by rw [hth, hsu]; rfl
              rw [hfu, hth] at HGO
              have HHQ := Lib.hid (fun wz hD => HH.out q wz hD (by omega) (by omega))
              rw [hth] at HHQ
              have HTH := Lib.hid hth; clear hth hfu
              have HSU := Lib.hid hsu; clear hsu
              by_cases hp0 : p = 0
              · have hpp : (p != 0) = false := by simp [hp0]
                rw [hpp] at HGO
                subst hp0
                go_wp2_with fail
                refine wp_region_flow [] [([0, 1], 2, true), ([3, 4, 5, 7, 8], 6, true)] [9, 10, 11] (by kernel_rfl) (by kernel_rfl) ?_
                intro wc hBc hh
                clear hh
                have HDC := Lib.hid (HDD.out.up hBc); have HBC := Lib.hid (btr HB.out hBc)
                have r0 := HR0.out _ HBC.out
                have rz := Nat.lt_of_lt_of_le hws HBC.out.size
                have hL := @Later.cell wc
                clear hBc gw hbz HDD HB
                simp only [flowP, flow, pickL, List.getElem?_cons_succ, List.getElem?_cons_zero]
                refine wpQuiet_nil ?_
                repeat (go_big_quiet_step (fail))
                refine wpQuiet_nil ?_
                go_wp2_with fail
                refine (HHQ.out _ HDC.out).mono ?_
                rintro e w' ⟨rfl, rfl⟩
                go_wp2
                refine seg_grow ⟨⟨_, bz _⟩, rfl⟩ ?_
                repeat (go_big_quiet_step (fail))
                refine wpQuiet_nil ?_
                go_wp2_with fail
                refine (HM.out _ HDC.out).mono ?_
                rintro e w' ⟨rfl, rfl⟩
                have hsu := HSU.out
                generalize sumL on = su at *
                go_wp2
                refine seg_grow ⟨⟨_, bz _⟩, rfl⟩ ?_
                repeat (go_big_quiet_step (fail))
                refine wpQuiet_nil ?_
                refine only_done ?_
                rw [if_pos (by decide)] at HGO
                have hra := HGO.out
                simp only [Prod.mk.injEq] at hra
                obtain ⟨rfl, rfl⟩ := hra
                have gp := GP.out _ HBC.out; have zp := ZP.out _ HBC.out
                go_wp2_with fail
                go_ret2
                exact ⟨rfl, HBW.out _ HBC.out⟩
              · have hpp : (p != 0) = true := by simp [hp0]
                rw [hpp] at HGO
                go_wp2_with fail
                refine wp_region_flow [] [([0, 1], 2, true), ([3, 4, 5, 7, 8], 6, true)] [9, 10, 11] (by kernel_rfl) (by kernel_rfl) ?_
                intro wc hBc hh
                clear hh
                have HDC := Lib.hid (HDD.out.up hBc); have HBC := Lib.hid (btr HB.out hBc)
                have r0 := HR0.out _ HBC.out
                have rz := Nat.lt_of_lt_of_le hws HBC.out.size
                have hL := @Later.cell wc
                clear hBc gw hbz HDD HB
                simp only [flowP, flow, pickL, List.getElem?_cons_succ, List.getElem?_cons_zero]
                refine wpQuiet_nil ?_
                repeat (go_big_quiet_step (fail))
                refine wpQuiet_nil ?_
                go_wp2_with fail
                refine (HHQ.out _ HDC.out).mono ?_
                rintro e w' ⟨rfl, rfl⟩
                go_wp2
                refine seg_grow ⟨⟨_, bz _⟩, rfl⟩ ?_
                repeat (go_big_quiet_step (fail))
                refine wpQuiet_nil ?_
                go_wp2_with fail
                refine (HM.out _ HDC.out).mono ?_
                rintro e w' ⟨rfl, rfl⟩
                have hsu := HSU.out
                generalize sumL on = su at *
                go_wp2
                refine seg_grow ⟨⟨_, bz _⟩, rfl⟩ ?_
                repeat (go_big_quiet_step (fail))
                refine wpQuiet_nil ?_
                refine only_done ?_
                rw [if_neg (by decide), Bool.true_and] at HGO
                have HHP := Lib.hid (fun wz hD => HH.out p wz hD (by omega) (by omega))
                rcases hhp : hasB on p with _ | _
                · rw [hhp] at HHP HGO
                  rw [if_pos (by decide)] at HGO
                  have hra := HGO.out
                  simp only [Prod.mk.injEq] at hra
                  obtain ⟨rfl, rfl⟩ := hra
                  clear hhp
                  have gp := GP.out _ HBC.out; have zp := ZP.out _ HBC.out
                  go_wp2_with fail
                  refine (HHP.out _ HDC.out).mono ?_
                  rintro e w' ⟨rfl, rfl⟩
                  go_wp2_with fail
                  go_ret2
                  exact ⟨rfl, HBW.out _ HBC.out⟩
                · rw [hhp] at HHP HGO
                  rw [if_neg (by decide)] at HGO
                  clear hhp
                  have gp := GP.out _ HBC.out; have zp := ZP.out _ HBC.out
                  go_upto_region 15 with fail
                  go_wp2_with fail
                  refine (HHP.out _ HDC.out).mono ?_
                  rintro e w' ⟨rfl, rfl⟩
                  have hld := HDC.out.load
                  have hi60 : (Try.prog.info? 60).map (·.size) = some 9 := by kernel_rfl
                  have HI60 := Lib.hid hi60; clear hi60
                  have hB5 := below_box wc #[Value.int IntKind.i64 0, Value.int IntKind.i64 0, Value.int IntKind.i64 0, Value.int IntKind.i64 0, Value.int IntKind.i64 0, Value.int IntKind.i64 0, Value.int IntKind.i64 0, Value.int IntKind.i64 0, Value.int IntKind.i64 0] (arrI on) 60
                  have HB5 := Lib.hid (btr HBC.out hB5); have HD5 := Lib.hid (HDC.out.up hB5); have HG1 := Lib.hid (heap_box wc #[Value.int IntKind.i64 0, Value.int IntKind.i64 0, Value.int IntKind.i64 0, Value.int IntKind.i64 0, Value.int IntKind.i64 0, Value.int IntKind.i64 0, Value.int IntKind.i64 0, Value.int IntKind.i64 0, Value.int IntKind.i64 0] (arrI on) 60)
                  have gp5 := GP.out _ HB5.out; have zp5 := ZP.out _ HB5.out; have hbw := (Array.getElem?_eq_some_iff.1 HG1.out).1
                  have hbc := HDC.out.lt
                  clear hB5 r0 rz hL
                  go_wp2_with (first
                    | (refine wpList_load_var rfl 60 _ rfl _ rfl _ hld ?_)
                    | (refine wpList_store_row rfl 60 (.tmp 12) (.tmp 74) rfl wc.heap.size (arrI on) rfl rfl 60 _ (heap_alloc_new _ _) (by rw [arrI_size, HON.out.len]; exact HI60.out) (by rw [arrI_size, HON.out.len]; rfl) (one_arr _) ?_))
                  generalize World.setRow _ _ _ = w5 at *
                  clear gp zp hld
                  refine (put_any b R x on (.map (some M)) p w5 HD5.out (by omega) (by omega)).mono ?_
                  rintro e w6 ⟨⟨v6, rfl⟩, hw6⟩
                  have HD6 := Lib.hid (show BenchAt w6 b R x (on.set (p : Int).toNat 0) (.map (some M)) by rw [hw6]; exact HD5.out.set (by omega) 0)
                  have HB6 := Lib.hid (show Below wA.heap.size wA w6 by rw [hw6]; exact bset HB5.out hbs _)
                  have HG6 := Lib.hid (show w6.heap[wc.heap.size]? = some (.cells (arrI on) 60 (0, 0)) by rw [hw6, Go.Deep.blk_setCell_other _ _ _ _ (by simp; omega)]; exact HG1.out)
                  clear hw6 gp5 zp5 hbw HD5 HB5 HG1
                  go_wp2_with fail
                  refine (take_any b R x (on.set (p : Int).toNat 0) (.map (some M)) q w6 HD6.out (by omega) (by omega)).mono ?_
                  rintro e w7 ⟨⟨v7, rfl⟩, hw7⟩
                  have HD7 := Lib.hid (show BenchAt w7 b R x (stepOn on p q) (.map (some M)) by rw [hw7]; exact HD6.out.set (by omega) 1)
                  have HB7 := Lib.hid (show Below wA.heap.size wA w7 by rw [hw7]; exact bset HB6.out hbs _)
                  have HG7 := Lib.hid (show w7.heap[wc.heap.size]? = some (.cells (arrI on) 60 (0, 0)) by rw [hw7, Go.Deep.blk_setCell_other _ _ _ _ (by simp; omega)]; exact HG6.out)
                  clear hw7 HD6 HB6 HG6
                  have HON7 := Lib.hid (HON.out.step (p := p) (by omega) (by omega) v1 v8)
                  have HNE : Hid ((!decide (on = stepOn on p q)) = true) := Lib.hid (by simp [step_other HON.out v8 v1 HTH.out])
                  obtain ⟨i3, hi3, _, _, _⟩ := info_parts num3
                  have hne : ∀ w' : World, (binOp .neq 60 (.agg (arrI on)) (.agg (arrI (stepOn on p q)))).run Try.prog w' = .ok (.bool (!decide (on = stepOn on p q))) w' := fun w' => run_neq_arr (P := Try.prog) w' 60 3 9 .i64 i3 Try.underlying60 hi3 (by kernel_rfl) Try.underlying3 on (stepOn on p q) HON.out.len HON7.out.len
                  rw [HNE.out] at hne
                  have HNN := Lib.hid hne
                  clear hne hi3 HNE
                  go_upto_region 20 with fail
                  refine wp_region_flow [] [] [0, 1, 2, 3, 4, 5] (by kernel_rfl) (by kernel_rfl) ?_
                  intro wd hBd hh
                  clear hh
                  have HD8 := Lib.hid (HD7.out.up hBd); have HB8 := Lib.hid (btr HB7.out hBd)
                  have HG8 := Lib.hid ((hBd.block _ (Array.getElem?_eq_some_iff.1 HG7.out).1).trans HG7.out)
                  have HLD := Lib.hid (fun l : Later wd => (HD8.out.up l.le).load)
                  have hne := HNN.out
                  clear hBd HD7 HB7 HG7
                  simp only [flowP, flow, pickL, List.getElem?_cons_succ, List.getElem?_cons_zero]
                  refine wpQuiet_nil ?_
                  repeat (first
                    | (refine wpQuiet_load_row rfl 60 (.tmp 12) rfl wc.heap.size rfl 60 (arrI on) (0, 0) _ HG8.out Try.underlying60 rfl (by rw [arrI_size, HON.out.len]; exact HI60.out) ?_)
                    | (refine wpQuiet_load_part rfl 60 (.tmp 87) rfl ⟨b, 2, none⟩ rfl _ HLD.out ?_)
                    | (quiet_step (fail)))
                  refine wpQuiet_nil ?_
                  refine only_done ?_
                  clear hne
                  have HGN := Lib.hid (show cpGo R (W.drop (k + 1)) (P.drop (k + 1)) (stepOn on p q) (n + 1) = (rA, rE) from by have h := HGO.out; simpa using h)
                  clear HGO
                  go_wp2_with fail
                  go_roundw
                  case rel => exact ⟨k + 1, stepOn on p q, n + 1, by omega, by first | rfl | simp, by go_num, by omega, by omega, HD8.out, HON7.out, HGN, HB8.out⟩
                  case measure => simp [intOf]; omega
          · have hfu : (!hasB on q && (sumL on == R)) = false := by rw [hth]; rfl
            rw [hfu, hth] at HGO
            have HHQ := Lib.hid (fun wz hD => HH.out q wz hD (by omega) (by omega))
            rw [hth] at HHQ
            have HTH := Lib.hid hth; clear hth hfu
            by_cases hp0 : p = 0
            · have hpp : (p != 0) = false := by simp [hp0]
              rw [hpp] at HGO
              subst hp0
              go_wp2_with fail
              refine wp_region_flow [] [([0, 1], 2, true), ([3, 4, 5, 7, 8], 6, true)] [9, 10, 11] (by kernel_rfl) (by kernel_rfl) ?_
              intro wc hBc hh
              clear hh
              have HDC := Lib.hid (HDD.out.up hBc); have HBC := Lib.hid (btr HB.out hBc)
              have r0 := HR0.out _ HBC.out
              have rz := Nat.lt_of_lt_of_le hws HBC.out.size
              have hL := @Later.cell wc
              clear hBc gw hbz HDD HB
              simp only [flowP, flow, pickL, List.getElem?_cons_succ, List.getElem?_cons_zero]
              refine wpQuiet_nil ?_
              repeat (go_big_quiet_step (fail))
              refine wpQuiet_nil ?_
              go_wp2_with fail
              refine (HHQ.out _ HDC.out).mono ?_
              rintro e w' ⟨rfl, rfl⟩
              go_wp2
              refine seg_grow ⟨⟨_, bz _⟩, rfl⟩ ?_
              repeat (go_big_quiet_step (fail))
              refine wpQuiet_nil ?_
              go_wp2
              refine seg_grow ⟨⟨_, bz _⟩, rfl⟩ ?_
              repeat (go_big_quiet_step (fail))
              refine wpQuiet_nil ?_
              refine only_done ?_
              rw [if_neg (by decide), Bool.false_and, if_neg (by decide)] at HGO
              have gp := GP.out _ HBC.out; have zp := ZP.out _ HBC.out
              have hld := HDC.out.load
              have hi60 : (Try.prog.info? 60).map (·.size) = some 9 := by kernel_rfl
              have HI60 := Lib.hid hi60; clear hi60
              have hB5 := below_box wc #[Value.int IntKind.i64 0, Value.int IntKind.i64 0, Value.int IntKind.i64 0, Value.int IntKind.i64 0, Value.int IntKind.i64 0, Value.int IntKind.i64 0, Value.int IntKind.i64 0, Value.int IntKind.i64 0, Value.int IntKind.i64 0] (arrI on) 60
              have HB5 := Lib.hid (btr HBC.out hB5); have HD5 := Lib.hid (HDC.out.up hB5); have HG1 := Lib.hid (heap_box wc #[Value.int IntKind.i64 0, Value.int IntKind.i64 0, Value.int IntKind.i64 0, Value.int IntKind.i64 0, Value.int IntKind.i64 0, Value.int IntKind.i64 0, Value.int IntKind.i64 0, Value.int IntKind.i64 0, Value.int IntKind.i64 0] (arrI on) 60)
              have gp5 := GP.out _ HB5.out; have zp5 := ZP.out _ HB5.out; have hbw := (Array.getElem?_eq_some_iff.1 HG1.out).1
              have hbc := HDC.out.lt
              clear hB5 r0 rz hL
              go_wp2_with (first
                | (refine wpList_load_var rfl 60 _ rfl _ rfl _ hld ?_)
                | (refine wpList_store_row rfl 60 (.tmp 12) (.tmp 74) rfl wc.heap.size (arrI on) rfl rfl 60 _ (heap_alloc_new _ _) (by rw [arrI_size, HON.out.len]; exact HI60.out) (by rw [arrI_size, HON.out.len]; rfl) (one_arr _) ?_))
              generalize World.setRow _ _ _ = w5 at *
              clear gp zp hld
              refine (put_any b R x on (.map (some M)) 0 w5 HD5.out (by omega) (by omega)).mono ?_
              rintro e w6 ⟨⟨v6, rfl⟩, hw6⟩
              have HD6 := Lib.hid (show BenchAt w6 b R x (on.set (0 : Int).toNat 0) (.map (some M)) by rw [hw6]; exact HD5.out.set (by omega) 0)
              have HB6 := Lib.hid (show Below wA.heap.size wA w6 by rw [hw6]; exact bset HB5.out hbs _)
              have HG6 := Lib.hid (show w6.heap[wc.heap.size]? = some (.cells (arrI on) 60 (0, 0)) by rw [hw6, Go.Deep.blk_setCell_other _ _ _ _ (by simp; omega)]; exact HG1.out)
              clear hw6 gp5 zp5 hbw HD5 HB5 HG1
              go_wp2_with fail
              refine (take_any b R x (on.set (0 : Int).toNat 0) (.map (some M)) q w6 HD6.out (by omega) (by omega)).mono ?_
              rintro e w7 ⟨⟨v7, rfl⟩, hw7⟩
              have HD7 := Lib.hid (show BenchAt w7 b R x (stepOn on 0 q) (.map (some M)) by rw [hw7]; exact HD6.out.set (by omega) 1)
              have HB7 := Lib.hid (show Below wA.heap.size wA w7 by rw [hw7]; exact bset HB6.out hbs _)
              have HG7 := Lib.hid (show w7.heap[wc.heap.size]? = some (.cells (arrI on) 60 (0, 0)) by rw [hw7, Go.Deep.blk_setCell_other _ _ _ _ (by simp; omega)]; exact HG6.out)
              clear hw7 HD6 HB6 HG6
              have HON7 := Lib.hid (HON.out.step (p := 0) (by omega) (by omega) v1 v8)
              have HNE : Hid ((!decide (on = stepOn on 0 q)) = false) := Lib.hid (by rw [step_same HON.out v1 v8 HTH.out]; simp)
              obtain ⟨i3, hi3, _, _, _⟩ := info_parts num3
              have hne : ∀ w' : World, (binOp .neq 60 (.agg (arrI on)) (.agg (arrI (stepOn on 0 q)))).run Try.prog w' = .ok (.bool (!decide (on = stepOn on 0 q))) w' := fun w' => run_neq_arr (P := Try.prog) w' 60 3 9 .i64 i3 Try.underlying60 hi3 (by kernel_rfl) Try.underlying3 on (stepOn on 0 q) HON.out.len HON7.out.len
              rw [HNE.out] at hne
              have HNN := Lib.hid hne
              clear hne hi3 HNE
              go_upto_region 20 with fail
              refine wp_region_flow [] [] [0, 1, 2, 3, 4, 5] (by kernel_rfl) (by kernel_rfl) ?_
              intro wd hBd hh
              clear hh
              have HD8 := Lib.hid (HD7.out.up hBd); have HB8 := Lib.hid (btr HB7.out hBd)
              have HG8 := Lib.hid ((hBd.block _ (Array.getElem?_eq_some_iff.1 HG7.out).1).trans HG7.out)
              have HLD := Lib.hid (fun l : Later wd => (HD8.out.up l.le).load)
              have hne := HNN.out
              clear hBd HD7 HB7 HG7
              simp only [flowP, flow, pickL, List.getElem?_cons_succ, List.getElem?_cons_zero]
              refine wpQuiet_nil ?_
              repeat (first
                | (refine wpQuiet_load_row rfl 60 (.tmp 12) rfl wc.heap.size rfl 60 (arrI on) (0, 0) _ HG8.out Try.underlying60 rfl (by rw [arrI_size, HON.out.len]; exact HI60.out) ?_)
                | (refine wpQuiet_load_part rfl 60 (.tmp 87) rfl ⟨b, 2, none⟩ rfl _ HLD.out ?_)
                | (quiet_step (fail)))
              refine wpQuiet_nil ?_
              refine only_done ?_
              clear hne
              have HGN := Lib.hid (show cpGo R (W.drop (k + 1)) (P.drop (k + 1)) (stepOn on 0 q) (n + 0) = (rA, rE) from by have h := HGO.out; simpa using h)
              clear HGO
              go_wp2_with fail
              go_roundw
              case rel => exact ⟨k + 1, stepOn on 0 q, n + 0, by omega, by first | rfl | simp, by go_num, by omega, by omega, HD8.out, HON7.out, HGN, HB8.out⟩
              case measure => simp [intOf]; omega
            · have hpp : (p != 0) = true := by simp [hp0]
              rw [hpp] at HGO
              go_wp2_with fail
              refine wp_region_flow [] [([0, 1], 2, true), ([3, 4, 5, 7, 8], 6, true)] [9, 10, 11] (by kernel_rfl) (by kernel_rfl) ?_
              intro wc hBc hh
              clear hh
              have HDC := Lib.hid (HDD.out.up hBc); have HBC := Lib.hid (btr HB.out hBc)
              have r0 := HR0.out _ HBC.out
              have rz := Nat.lt_of_lt_of_le hws HBC.out.size
              have hL := @Later.cell wc
              clear hBc gw hbz HDD HB
              simp only [flowP, flow, pickL, List.getElem?_cons_succ, List.getElem?_cons_zero]
              refine wpQuiet_nil ?_
              repeat (go_big_quiet_step (fail))
              refine wpQuiet_nil ?_
              go_wp2_with fail
              refine (HHQ.out _ HDC.out).mono ?_
              rintro e w' ⟨rfl, rfl⟩
              go_wp2
              refine seg_grow ⟨⟨_, bz _⟩, rfl⟩ ?_
              repeat (go_big_quiet_step (fail))
              refine wpQuiet_nil ?_
              go_wp2
              refine seg_grow ⟨⟨_, bz _⟩, rfl⟩ ?_
              repeat (go_big_quiet_step (fail))
              refine wpQuiet_nil ?_
              refine only_done ?_
              rw [if_pos (by decide)] at HGO
              have hra := HGO.out
              simp only [Prod.mk.injEq] at hra
              obtain ⟨rfl, rfl⟩ := hra
              have gp := GP.out _ HBC.out; have zp := ZP.out _ HBC.out
              go_wp2_with fail
              go_ret2
              exact ⟨rfl, HBW.out _ HBC.out⟩
        · have hke : k = W.length := by omega
          have hra := HG.out
          rw [List.drop_eq_nil_of_le (by omega)] at hra
          unfold cpGo at hra
          simp only [Prod.mk.injEq] at hra
          obtain ⟨rfl, rfl⟩ := hra
          clear hke HG
          go_wp2_with fail
          go_ret2
          exact ⟨rfl, HBW.out _ HB.out⟩
    · rw [hpo] at HWI
      rw [if_pos rfl]
      clear hpo hpl
      go_enter Try.func17, Try.ntmps17
      go_wp2_with fail
      refine (HO.out _ (HX.out.mono (bal (bz _) _))).mono ?_
      rintro e w2 ⟨b, rfl, hb, hDD, hB2⟩
      obtain ⟨hcc, hf⟩ := bcell hB2
      have hz := hB2.size
      simp only [World.size_alloc] at hz
      have HB2 := Lib.hid (btr (bal (bz w) _) hB2)
      clear hB2 hDD
      go_wp2_with fail
      refine (HWI.out _ (HY.out.mono HB2.out)).mono ?_
      rintro e w3 ⟨rfl, hB3⟩
      go_wp2_with fail
      go_ret2
      exact ⟨rfl, btr HB2.out hB3⟩
  · rw [if_pos hpl]
    have t2 : ((P.length : Int) != (W.length : Int)) = true := by simp; omega
    clear hpl
    go_enter Try.func17, Try.ntmps17
    go_wp2_with fail
    refine (HO.out _ (HX.out.mono (bal (bz _) _))).mono ?_
    rintro e w2 ⟨b, rfl, hb, hDD, hB2⟩
    obtain ⟨hcc, hf⟩ := bcell hB2
    have hz := hB2.size
    simp only [World.size_alloc] at hz
    have HB2 := Lib.hid (btr (bal (bz w) _) hB2)
    clear hB2 hDD
    go_wp2_with fail
    go_ret2
    exact ⟨rfl, HB2.out⟩
end Go.Proofs.Ytjajdpggoggoiaa

namespace Go.Proofs.Ytjajdpggoggoiaa
open Go.RowKit Go.Shelf

theorem i64_and1 (n : Int) : bits .and .i64 n 1 = n % 2 := by
  have h1 : (BitVec.ofInt 64 1).toNat = 2 ^ 1 - 1 := by decide
  have key : (BitVec.ofInt 64 n &&& BitVec.ofInt 64 1).toNat = (n % ((2 ^ 64 : Nat) : Int)).toNat % 2 ^ 1 := by
    rw [BitVec.toNat_and, BitVec.toNat_ofInt, h1, Nat.and_two_pow_sub_one_eq_mod]
  show IntKind.i64.wrap ((BitVec.ofInt 64 n &&& BitVec.ofInt 64 1).toNat : Nat) = n % 2
  rw [key, IntKind.wrap_i64]
  omega
theorem i64_or (a b : Nat) (ha : a < 1024) (hb : b < 1024) : bits .or .i64 (a : Int) (b : Int) = ((a ||| b : Nat) : Int) := by
  have key : (BitVec.ofInt 64 (a : Int) ||| BitVec.ofInt 64 (b : Int)).toNat = a ||| b := by
    rw [BitVec.toNat_or, BitVec.toNat_ofInt, BitVec.toNat_ofInt]
    congr 1 <;> omega
  have hlt : a ||| b < 2 ^ 10 := Nat.or_lt_two_pow ha hb
  show IntKind.i64.wrap ((BitVec.ofInt 64 (a : Int) ||| BitVec.ofInt 64 (b : Int)).toNat : Nat) = ((a ||| b : Nat) : Int)
  rw [key, IntKind.wrap_i64]
  omega
/-- Bit i of a set. -/
def bitN (S i : Nat) : Nat := S / 2 ^ i % 2
def onOf (S : Nat) : List Int := (List.range 9).map fun i => (bitN S i : Int)
theorem onOf_len (S : Nat) : (onOf S).length = 9 := by simp [onOf]
theorem onOf_at (S i : Nat) (h : i < 9) : (onOf S)[i]?.getD 0 = (bitN S i : Int) := by simp [onOf, h]
theorem bitN_le (S i : Nat) : bitN S i ≤ 1 := by unfold bitN; omega
set_option maxRecDepth 100000 in
theorem onOf_put : ∀ S, S < 512 → ∀ p, p < 9 → bitN S p = 1 → 2 ^ p ≤ S ∧ onOf (S - 2 ^ p) = (onOf S).set p 0 := by decide +kernel
set_option maxRecDepth 100000 in
theorem onOf_take : ∀ S, S < 512 → ∀ p, p < 9 → bitN S p = 0 → S ||| 2 ^ p = S + 2 ^ p ∧ S + 2 ^ p < 512 ∧ onOf (S + 2 ^ p) = (onOf S).set p 1 := by decide +kernel
set_option maxRecDepth 100000 in
theorem onOf_same : ∀ S, S < 512 → ∀ p, p < 9 → bitN S p = 1 → S ||| 2 ^ p = S ∧ (onOf S).set p 1 = onOf S := by decide +kernel
theorem shr_and (S i : Nat) : (S : Int) / 2 ^ i % 2 = ((bitN S i : Nat) : Int) := by
  unfold bitN
  rw [show (2 : Int) ^ i = ((2 ^ i : Nat) : Int) by simp, ← Int.natCast_ediv]
  omega
set_option maxRecDepth 100000 in
set_option maxHeartbeats 2000000 in
theorem size_any (S : Nat) (w : World) (_hS : S < 512) : Calls Try.prog 48 #[.int .i64 S] w fun e w' => e = .returned (.int .i64 (sumL (onOf S))) ∧ w = w' := by
  have hbit : ∀ y ∈ onOf S, 0 ≤ y ∧ y ≤ 1 := fun y hy => by
    obtain ⟨i, _, rfl⟩ := List.mem_map.1 hy
    have := bitN_le S i; omega
  have hl := onOf_len S
  go_enter Try.func48, Try.ntmps48
  go_wp2_with fail
  go_loopw [3, 4] (fun s3 i wr => ∃ k : Nat, k ≤ 9 ∧ i = .int .i64 k ∧ s3 = .int .i64 (sumL ((onOf S).take k)) ∧ w = wr) (fun _ i _ => 9 - (intOf i).toNat)
  case atStart => exact ⟨0, Nat.zero_le _, rfl, rfl, rfl⟩
  case round =>
    obtain ⟨k, hk, rfl, rfl, rfl⟩ := hrel
    by_cases hlt : k < 9
    · have hand := i64_and1 ((S : Int) / 2 ^ k)
      rw [shr_and] at hand
      have HT : Hid (sumL ((onOf S).take (k + 1)) = sumL ((onOf S).take k) + (bitN S k : Int)) := Lib.hid (by
        rw [List.take_succ_eq_append_getElem (by omega), sumL_snoc]; simp [onOf])
      have hb := bitN_le S k
      obtain ⟨s0, s1⟩ := sumL_bd (onOf S) hbit k (by omega)
      generalize sumL ((onOf S).take k) = s at *
      generalize bitN S k = q at *
      go_wp2_with fail
      go_roundw
      case rel => exact ⟨k + 1, by omega, by go_num, by rw [HT.out], trivial⟩
      case measure => simp [intOf]; omega
    · have he : (onOf S).take k = onOf S := by rw [List.take_of_length_le (by omega)]
      rw [he]
      have hd : ¬ (k : Int) < 9 := by omega
      clear he
      go_wp2_with fail
      go_ret
      exact ⟨rfl, rfl⟩
end Go.Proofs.Ytjajdpggoggoiaa

namespace Go.Proofs.Ytjajdpggoggoiaa
open Go.RowKit Go.Shelf

theorem onOf_hasB (S i : Nat) (h : i < 9) : hasB (onOf S) (i : Int) = (bitN S i == 1) := by
  have := bitN_le S i
  unfold hasB bitV
  rw [Int.toNat_natCast, onOf_at S i h, Bool.eq_iff_iff]
  simp only [decide_eq_true_eq, beq_iff_eq]
  omega
theorem set_take {S q : Nat} (hS : S < 512) (hO : OnOk (onOf S)) (hq : bitN S q = 0) (q9 : q < 9) : ∃ S2 : Nat, S ||| 2 ^ q = S2 ∧ S2 < 512 ∧ onOf S2 = stepOn (onOf S) 0 (q : Int) := by
  obtain ⟨h1, h2, h3⟩ := onOf_take S hS q q9 hq
  refine ⟨_, rfl, by rw [h1]; exact h2, ?_⟩
  rw [h1, h3]
  unfold stepOn
  rw [Int.toNat_natCast]
  have : (onOf S).set (0 : Int).toNat 0 = onOf S := by
    apply List.ext_getElem
    · simp
    · intro j h1 h2
      rw [List.getElem_set]
      by_cases e : (0 : Int).toNat = j
      · rw [if_pos e]
        have h0 := hO.zero
        subst e
        simp [onOf] at h0 ⊢
        omega
      · rw [if_neg e]
  rw [this]
theorem set_swap {S p q : Nat} (hS : S < 512) (hp : bitN S p = 1) (hq : bitN S q = 0) (p9 : p < 9) (q9 : q < 9) : 2 ^ p ≤ S ∧ ∃ S2 : Nat, (S - 2 ^ p) ||| 2 ^ q = S2 ∧ S2 < 512 ∧ onOf S2 = stepOn (onOf S) (p : Int) (q : Int) := by
  obtain ⟨h1, h2⟩ := onOf_put S hS p p9 hp
  have hne : p ≠ q := by intro e; subst e; omega
  have hb : bitN (S - 2 ^ p) q = 0 := by
    have e := onOf_at (S - 2 ^ p) q q9
    rw [h2, set_get _ _ _ _ (by rw [onOf_len]; exact p9), if_neg hne, onOf_at S q q9] at e
    omega
  obtain ⟨k1, k2, k3⟩ := onOf_take (S - 2 ^ p) (Nat.lt_of_le_of_lt (Nat.sub_le _ _) hS) q q9 hb
  refine ⟨h1, _, rfl, by rw [k1]; exact k2, ?_⟩
  rw [k1, k3, h2]
  unfold stepOn
  rw [Int.toNat_natCast, Int.toNat_natCast]
theorem pow_bd {p : Nat} (h : p < 9) : 2 ^ p < 512 ∧ IntKind.i64.wrap ((2 : Int) ^ p) = ((2 ^ p : Nat) : Int) := by
  have h1 : 2 ^ p < 2 ^ 9 := Nat.pow_lt_pow_right (by omega) h
  rw [show ((2 : Int) ^ p) = ((2 ^ p : Nat) : Int) by simp]
  generalize 2 ^ p = m at *
  exact ⟨by omega, IntWalk.i64_in _ (by omega)⟩
set_option maxRecDepth 100000 in
set_option maxHeartbeats 4000000 in
theorem rcheckplan_any (R : Int) (x y : Value) (W P : List Int) (w : World) (hx0 : RdI w .i64 x W) (hy0 : RdI w .i64 y P) (hl : W.length ≤ 1000) (hlp : P.length ≤ 1000) : Calls Try.prog 18 #[.agg #[.int .i64 R, x], y] w (PlanOk R W P w) := by
  obtain ⟨a, c, rfl, hca, hcm, hx⟩ := hx0.form
  obtain ⟨a', c', rfl, hca', hcm', hy⟩ := hy0.form
  clear hcm hcm'
  unfold PlanOk planR
  have HC := Lib.hid (fun wz hx => rcheckday_any R (.slice a W.length c) W wz hx hl)
  have HX := Lib.hid hx0; have HY := Lib.hid hy0
  clear hx0 hy0
  by_cases hc : checkD R W = 0
  · rw [if_neg (by simpa using hc)]
    have hd := okD_of hc
    have h16 := hd.l16
    rw [hc] at HC
    clear hc
    by_cases hpl : P.length = W.length
    · rw [if_neg (by simpa using hpl)]
      have t2 : ((P.length : Int) != (W.length : Int)) = false := by simp [hpl]
      have HPL := Lib.hid hpl
      obtain ⟨res, hres⟩ : ∃ res, (if P.any (outB 0 8) = true then ((0 : Int), (3 : Int)) else cpGo R W P zeros 0) = res := ⟨_, rfl⟩
      rw [hres]
      have HRES := Lib.hid hres
      obtain ⟨rA, rE⟩ := res
      have HD := Lib.hid hd
      clear hpl hres hd
      go_enter Try.func18, Try.ntmps18
      go_wp2_with fail
      refine (HC.out _ (HX.out.mono (bal (bz _) _))).mono ?_
      rintro e w2 ⟨rfl, hB2⟩
      have hr0 : (w.alloc (.cells #[.int .i64 R, .slice a W.length c] 24)).cell? ⟨w.heap.size, 0, none⟩ = some (.int .i64 R) := cnew rfl rfl
      have hr1 : (w.alloc (.cells #[.int .i64 R, .slice a W.length c] 24)).cell? ⟨w.heap.size, 1, none⟩ = some (.slice a W.length c) := cnew rfl rfl
      have HR0 := Lib.hid (fun wz (hB : Below w2.heap.size w2 wz) => ((btr hB2 hB).cell (p := ⟨w.heap.size, 0, none⟩) (by simp)).trans hr0)
      have HR1 := Lib.hid (fun wz (hB : Below w2.heap.size w2 wz) => ((btr hB2 hB).cell (p := ⟨w.heap.size, 1, none⟩) (by simp)).trans hr1)
      have HBW := Lib.hid (fun wz (hB : Below w2.heap.size w2 wz) => btr (bal (bz w) _) (btr hB2 hB))
      have hws : w.heap.size < w2.heap.size := by have := hB2.size; simp at this; omega
      have e1 := HR1.out _ (bz w2)
      clear hr0 hr1 hB2
      go_wp2_with fail
      go_loopw [6] (fun i wr => ∃ k : Nat, k ≤ P.length ∧ i = .int .i64 k ∧ Hid (∀ j, j < k → 0 ≤ P[j]?.getD 0 ∧ P[j]?.getD 0 ≤ 8) ∧ w2 = wr) (fun i _ => P.length - (intOf i).toNat)
      case atStart => exact ⟨0, Nat.zero_le _, rfl, Lib.hid (fun j h => by omega), rfl⟩
      case round =>
        obtain ⟨k, hk, rfl, HPB, rfl⟩ := hrel
        by_cases hlt : k < P.length
        · obtain ⟨by', oy, rfl, hby, hcy⟩ := hy (by omega)
          have gp := ((HBW.out _ (bz w2)).cell (p := ⟨by', oy + k, none⟩) hby).trans (hcy k hlt)
          have zp : by' < w2.heap.size := by omega
          have HANY := Lib.hid (fun (h : ¬ (0 ≤ P[k]?.getD 0 ∧ P[k]?.getD 0 ≤ 8)) => (show rA = 0 ∧ rE = 3 from by
            have hh : P.any (outB 0 8) = true := List.any_eq_true.2 ⟨P[k], List.getElem_mem hlt, by simp [hlt] at h; simp [outB]; omega⟩
            have := HRES.out
            rw [if_pos hh] at this
            simp only [Prod.mk.injEq] at this
            omega))
          have HPN := Lib.hid (fun (h : 0 ≤ P[k]?.getD 0 ∧ P[k]?.getD 0 ≤ 8) => (show ∀ j, j < k + 1 → 0 ≤ P[j]?.getD 0 ∧ P[j]?.getD 0 ≤ 8 from fun j hj => by
            by_cases e : j = k
            · subst e; exact h
            · exact HPB.out j (by omega)))
          clear hy hcy HPB
          generalize P[k]?.getD 0 = p at *
          by_cases p0 : p < 0
          · obtain ⟨rfl, rfl⟩ := HANY.out (by omega)
            have z1 : decide (p < 0) = true := decide_eq_true p0
            go_wp2_with fail
            go_ret2
            exact ⟨rfl, HBW.out _ (bz _)⟩
          · have z1 : decide (p < 0) = false := decide_eq_false p0
            by_cases p8 : 8 < p
            · obtain ⟨rfl, rfl⟩ := HANY.out (by omega)
              have z2 : decide (8 < p) = true := decide_eq_true p8
              go_wp2_with fail
              go_ret2
              exact ⟨rfl, HBW.out _ (bz _)⟩
            · have z2 : decide (8 < p) = false := decide_eq_false p8
              have HPB := Lib.hid (HPN.out (by omega))
              clear HPN HANY p0 p8
              go_wp2_with fail
              go_roundw
              case rel => exact ⟨k + 1, by omega, by go_num, HPB, trivial⟩
              case measure => simp [intOf]; omega
        · have HG : Hid (cpGo R W P zeros 0 = (rA, rE)) := Lib.hid (by
            have hh : ¬ P.any (outB 0 8) = true := by
              rw [List.any_eq_true]
              rintro ⟨z, hz, hz2⟩
              obtain ⟨j, hj, rfl⟩ := List.getElem_of_mem hz
              have := HPB.out j (by omega)
              simp [hj] at this
              simp [outB] at hz2
              omega
            have := HRES.out
            rw [if_neg hh] at this; exact this)
          have HPB2 : Hid (∀ k, k < P.length → 0 ≤ P[k]?.getD 0 ∧ P[k]?.getD 0 ≤ 8) := Lib.hid (fun j hj => HPB.out j (by omega))
          clear HPB HRES
          go_wp2_with fail
          go_loopw [7, 8, 9, 10, 11] (fun s7 s8 i _ _ wr => ∃ (k S : Nat) (n : Int), k ≤ W.length ∧ s7 = .int .i64 S ∧ s8 = .int .i64 n ∧ i = .int .i64 k ∧ 0 ≤ n ∧ n ≤ k ∧ S < 512 ∧ OnOk (onOf S) ∧ Hid (cpGo R (W.drop k) (P.drop k) (onOf S) n = (rA, rE)) ∧ Below w2.heap.size w2 wr) (fun _ _ i _ _ _ => W.length - (intOf i).toNat)
          case atStart => exact ⟨0, 0, 0, Nat.zero_le _, rfl, rfl, rfl, by omega, by omega, by omega, by rw [show onOf 0 = zeros by decide]; exact zeros_ok, by rw [show onOf 0 = zeros by decide]; exact HG, bz _⟩
          case round =>
            clear HG e1
            obtain ⟨k, S, n, hk, rfl, rfl, rfl, n0, n1, hS, hOn, HG, hB⟩ := hrel
            have HON := Lib.hid hOn; have HB := Lib.hid hB
            clear hOn hB
            have hkw : P.length = W.length := HPL.out
            by_cases hlt2 : k < W.length
            · have hkp : k < P.length := by omega
              clear hlt
              obtain ⟨bx, ox, rfl, hbx, hcx⟩ := hx (by omega)
              obtain ⟨by', oy, rfl, hby, hcy⟩ := hy (by omega)
              have GW := Lib.hid (fun wz (hB : Below w2.heap.size w2 wz) => (show wz.cell? ⟨bx, ox + k, none⟩ = some (Value.int .i64 (want W k)) from ((HBW.out _ hB).cell (p := ⟨bx, ox + k, none⟩) hbx).trans (hcx k hlt2)))
              have GP := Lib.hid (fun wz (hB : Below w2.heap.size w2 wz) => ((HBW.out _ hB).cell (p := ⟨by', oy + k, none⟩) hby).trans (hcy k hkp))
              have ZW := Lib.hid (fun wz (hB : Below w2.heap.size w2 wz) => Nat.lt_of_lt_of_le hbx (HBW.out _ hB).size)
              have ZP := Lib.hid (fun wz (hB : Below w2.heap.size w2 wz) => Nat.lt_of_lt_of_le hby (HBW.out _ hB).size)
              obtain ⟨v1, v8⟩ := HD.out.at hlt2
              obtain ⟨p0, p8⟩ := HPB2.out k hkp
              have HGO := Lib.hid (show cpGo R (want W k :: W.drop (k + 1)) (P[k]?.getD 0 :: P.drop (k + 1)) (onOf S) n = (rA, rE) from by
                have h := HG.out
                rw [List.drop_eq_getElem_cons hlt2, List.drop_eq_getElem_cons hkp] at h
                have e1 : want W k = W[k] := by simp [want, hlt2]
                have e2 : P[k]?.getD 0 = P[k] := by simp [hkp]
                rw [e1, e2]; exact h)
              clear hx hy hcx hcy HG hbx hby hkw
              generalize want W k = qi at *
              generalize P[k]?.getD 0 = pi at *
              obtain ⟨q, rfl⟩ := Int.eq_ofNat_of_zero_le (show 0 ≤ qi by omega)
              obtain ⟨p, rfl⟩ := Int.eq_ofNat_of_zero_le p0
              have q9 : q < 9 := by omega
              have p9 : p < 9 := by omega
              have q1 : 1 ≤ q := by omega
              clear v1 v8 p0 p8
              have HSZ := Lib.hid (fun wz => size_any S wz hS)
              have handq := i64_and1 ((S : Int) / 2 ^ q)
              rw [shr_and] at handq
              have handp := i64_and1 ((S : Int) / 2 ^ p)
              rw [shr_and] at handp
              have hHq := onOf_hasB S q q9
              have hHp := onOf_hasB S p p9
              have r1 := HR1.out _ HB.out; have rz := Nat.lt_of_lt_of_le hws HB.out.size
              have gw := GW.out _ HB.out; have zw := ZW.out _ HB.out
              unfold cpGo fullB at HGO
              rw [hHq, hHp] at HGO
              clear hHq hHp
              have bq := bitN_le S q
              have bp := bitN_le S p
              obtain ⟨hp2, hpw⟩ := pow_bd p9
              obtain ⟨hq2, hqw⟩ := pow_bd q9
              rcases Nat.lt_or_ge 0 (bitN S q) with hth | hth
              · have hb1 : bitN S q = 1 := by omega
                rw [hb1] at handq HGO
                have HB1 := Lib.hid hb1
                clear hth hb1 bq
                rw [show ((1 : Nat) == 1) = true from rfl] at HGO
                simp only [Bool.not_true, Bool.false_and] at HGO
                by_cases hp0 : p = 0
                · have hpp : (((p : Nat) : Int) != 0) = false := by simp [hp0]
                  rw [hpp] at HGO
                  rw [if_neg (by decide), if_neg (by decide), if_pos trivial] at HGO
                  have hHQ : hasB (onOf S) (q : Int) = true := by rw [onOf_hasB S q q9, HB1.out]; rfl
                  have hsm := step_same HON.out (w := (q : Int)) (by omega) (by omega) hHQ
                  subst hp0
                  have HGN := Lib.hid (show cpGo R (W.drop (k + 1)) (P.drop (k + 1)) (onOf S) (n + 0) = (rA, rE) from by have h := HGO.out; rw [show (((0 : Nat) : Int)) = 0 from rfl, hsm] at h; exact h)
                  have HON2 := HON
                  clear HGO hsm hHQ
                  go_wp2_with fail
                  refine wp_region_flow [] [([0, 1, 2, 3, 5, 6], 4, true)] [7, 8, 9] (by kernel_rfl) (by kernel_rfl) ?_
                  intro wc hBc hh
                  clear hh
                  have HBC := Lib.hid (btr HB.out hBc)
                  have r0 := HR0.out _ HBC.out
                  have r1 := HR1.out _ HBC.out
                  have rz := Nat.lt_of_lt_of_le hws HBC.out.size
                  have gw := GW.out _ HBC.out; have zw := ZW.out _ HBC.out; have gp := GP.out _ HBC.out; have zp := ZP.out _ HBC.out
                  have hL := @Later.cell wc
                  clear hBc HB
                  simp only [flowP, flow, pickL, List.getElem?_cons_succ, List.getElem?_cons_zero]
                  refine wpQuiet_nil ?_
                  repeat (go_big_quiet_step (fail))
                  refine wpQuiet_nil ?_
                  go_wp2
                  refine seg_grow ⟨⟨_, bz _⟩, rfl⟩ ?_
                  repeat (go_big_quiet_step (fail))
                  refine wpQuiet_nil ?_
                  refine only_done ?_
                  have hS2 := hS
                  clear hL
                  go_wp2_with fail
                  go_roundw
                  case rel => exact ⟨k + 1, S, n + 0, by omega, rfl, by first | rfl | simp, by go_num, by omega, by omega, hS2, HON2.out, HGN, HBC.out⟩
                  case measure => simp [intOf]; omega
                · have hpp : (((p : Nat) : Int) != 0) = true := by simp [hp0]
                  rw [hpp] at HGO
                  rw [if_pos (by decide)] at HGO
                  go_wp2_with fail
                  refine wp_region_flow [] [([0, 1, 2, 3, 5, 6], 4, true)] [7, 8, 9] (by kernel_rfl) (by kernel_rfl) ?_
                  intro wc hBc hh
                  clear hh
                  have HBC := Lib.hid (btr HB.out hBc)
                  have r0 := HR0.out _ HBC.out
                  have r1 := HR1.out _ HBC.out
                  have rz := Nat.lt_of_lt_of_le hws HBC.out.size
                  have gw := GW.out _ HBC.out; have zw := ZW.out _ HBC.out; have gp := GP.out _ HBC.out; have zp := ZP.out _ HBC.out
                  have hL := @Later.cell wc
                  clear hBc HB
                  simp only [flowP, flow, pickL, List.getElem?_cons_succ, List.getElem?_cons_zero]
                  refine wpQuiet_nil ?_
                  repeat (go_big_quiet_step (fail))
                  refine wpQuiet_nil ?_
                  go_wp2
                  refine seg_grow ⟨⟨_, bz _⟩, rfl⟩ ?_
                  repeat (go_big_quiet_step (fail))
                  refine wpQuiet_nil ?_
                  refine only_done ?_
                  have hra := HGO.out
                  simp only [Prod.mk.injEq] at hra
                  obtain ⟨rfl, rfl⟩ := hra
                  go_wp2_with fail
                  go_ret2
                  exact ⟨rfl, HBW.out _ HBC.out⟩
              · have hb0 : bitN S q = 0 := by omega
                rw [hb0] at handq HGO
                have HB0 := Lib.hid hb0
                clear hth hb0 bq
                rw [show ((0 : Nat) == 1) = false from rfl] at HGO
                simp only [Bool.not_false, Bool.true_and] at HGO
                rcases hsu : (sumL (onOf S) == R) with _ | _
                · rw [hsu] at HGO
                  have HSU := Lib.hid hsu; clear hsu
                  by_cases hp0 : p = 0
                  · have hpp : (((p : Nat) : Int) != 0) = false := by simp [hp0]
                    rw [hpp] at HGO
                    rw [if_neg (by decide), Bool.false_and, if_neg (by decide), if_neg (by decide)] at HGO
                    subst hp0
                    obtain ⟨S2, s1, hS2, s3⟩ := set_take hS HON.out HB0.out q9
                    have hor := i64_or S (2 ^ q) (by omega) (by omega)
                    rw [s1] at hor
                    have HON2 := Lib.hid (show OnOk (onOf S2) by rw [s3]; exact HON.out.step (by omega) (by omega) (by omega) (by omega))
                    have HGN := Lib.hid (show cpGo R (W.drop (k + 1)) (P.drop (k + 1)) (onOf S2) (n + 1) = (rA, rE) from by rw [s3]; exact HGO.out)
                    clear HGO s1 s3
                    generalize 2 ^ q = mq at *
                    go_wp2_with fail
                    refine wp_region_flow [] [([0, 1, 2, 3, 5, 6], 4, true)] [7, 8, 9] (by kernel_rfl) (by kernel_rfl) ?_
                    intro wc hBc hh
                    clear hh
                    have HBC := Lib.hid (btr HB.out hBc)
                    have r0 := HR0.out _ HBC.out
                    have r1 := HR1.out _ HBC.out
                    have rz := Nat.lt_of_lt_of_le hws HBC.out.size
                    have gw := GW.out _ HBC.out; have zw := ZW.out _ HBC.out; have gp := GP.out _ HBC.out; have zp := ZP.out _ HBC.out
                    have hL := @Later.cell wc
                    clear hBc HB
                    simp only [flowP, flow, pickL, List.getElem?_cons_succ, List.getElem?_cons_zero]
                    refine wpQuiet_nil ?_
                    repeat (go_big_quiet_step (fail))
                    refine wpQuiet_nil ?_
                    go_wp2_with fail
                    refine (HSZ.out _).mono ?_
                    rintro e w' ⟨rfl, rfl⟩
                    have hsu := HSU.out
                    generalize sumL (onOf S) = su at *
                    go_wp2
                    refine seg_grow ⟨⟨_, bz _⟩, rfl⟩ ?_
                    repeat (go_big_quiet_step (fail))
                    refine wpQuiet_nil ?_
                    refine only_done ?_
                    clear hL
                    go_wp2_with fail
                    go_roundw
                    case rel => exact ⟨k + 1, S2, n + 1, by omega, rfl, by first | rfl | simp, by go_num, by omega, by omega, hS2, HON2.out, HGN, HBC.out⟩
                    case measure => simp [intOf]; omega
                  · have hpp : (((p : Nat) : Int) != 0) = true := by simp [hp0]
                    rw [hpp] at HGO
                    rw [if_pos (by decide)] at HGO
                    go_wp2_with fail
                    refine wp_region_flow [] [([0, 1, 2, 3, 5, 6], 4, true)] [7, 8, 9] (by kernel_rfl) (by kernel_rfl) ?_
                    intro wc hBc hh
                    clear hh
                    have HBC := Lib.hid (btr HB.out hBc)
                    have r0 := HR0.out _ HBC.out
                    have r1 := HR1.out _ HBC.out
                    have rz := Nat.lt_of_lt_of_le hws HBC.out.size
                    have gw := GW.out _ HBC.out; have zw := ZW.out _ HBC.out; have gp := GP.out _ HBC.out; have zp := ZP.out _ HBC.out
                    have hL := @Later.cell wc
                    clear hBc HB
                    simp only [flowP, flow, pickL, List.getElem?_cons_succ, List.getElem?_cons_zero]
                    refine wpQuiet_nil ?_
                    repeat (go_big_quiet_step (fail))
                    refine wpQuiet_nil ?_
                    go_wp2_with fail
                    refine (HSZ.out _).mono ?_
                    rintro e w' ⟨rfl, rfl⟩
                    have hsu := HSU.out
                    generalize sumL (onOf S) = su at *
                    go_wp2
                    refine seg_grow ⟨⟨_, bz _⟩, rfl⟩ ?_
                    repeat (go_big_quiet_step (fail))
                    refine wpQuiet_nil ?_
                    refine only_done ?_
                    have hra := HGO.out
                    simp only [Prod.mk.injEq] at hra
                    obtain ⟨rfl, rfl⟩ := hra
                    go_wp2_with fail
                    go_ret2
                    exact ⟨rfl, HBW.out _ HBC.out⟩
                · rw [hsu] at HGO
                  have HSU := Lib.hid hsu; clear hsu
                  by_cases hp0 : p = 0
                  · have hpp : (((p : Nat) : Int) != 0) = false := by simp [hp0]
                    rw [hpp] at HGO
                    rw [if_pos (by decide)] at HGO
                    go_wp2_with fail
                    refine wp_region_flow [] [([0, 1, 2, 3, 5, 6], 4, true)] [7, 8, 9] (by kernel_rfl) (by kernel_rfl) ?_
                    intro wc hBc hh
                    clear hh
                    have HBC := Lib.hid (btr HB.out hBc)
                    have r0 := HR0.out _ HBC.out
                    have r1 := HR1.out _ HBC.out
                    have rz := Nat.lt_of_lt_of_le hws HBC.out.size
                    have gw := GW.out _ HBC.out; have zw := ZW.out _ HBC.out; have gp := GP.out _ HBC.out; have zp := ZP.out _ HBC.out
                    have hL := @Later.cell wc
                    clear hBc HB
                    simp only [flowP, flow, pickL, List.getElem?_cons_succ, List.getElem?_cons_zero]
                    refine wpQuiet_nil ?_
                    repeat (go_big_quiet_step (fail))
                    refine wpQuiet_nil ?_
                    go_wp2_with fail
                    refine (HSZ.out _).mono ?_
                    rintro e w' ⟨rfl, rfl⟩
                    have hsu := HSU.out
                    generalize sumL (onOf S) = su at *
                    go_wp2
                    refine seg_grow ⟨⟨_, bz _⟩, rfl⟩ ?_
                    repeat (go_big_quiet_step (fail))
                    refine wpQuiet_nil ?_
                    refine only_done ?_
                    have hra := HGO.out
                    simp only [Prod.mk.injEq] at hra
                    obtain ⟨rfl, rfl⟩ := hra
                    go_wp2_with fail
                    go_ret2
                    exact ⟨rfl, HBW.out _ HBC.out⟩
                  · have hpp : (((p : Nat) : Int) != 0) = true := by simp [hp0]
                    rw [hpp] at HGO
                    rw [if_neg (by decide), Bool.true_and] at HGO
                    rcases Nat.lt_or_ge 0 (bitN S p) with hpb | hpb
                    · have hb1 : bitN S p = 1 := by omega
                      rw [hb1] at handp HGO
                      rw [if_neg (by decide), if_neg (by decide)] at HGO
                      obtain ⟨s0, S2, s1, hS2, s3⟩ := set_swap hS hb1 HB0.out p9 q9
                      obtain ⟨S1, hS1⟩ : ∃ S1, S - 2 ^ p = S1 := ⟨_, rfl⟩
                      have hS1b : S1 < 512 := by rw [← hS1]; exact Nat.lt_of_le_of_lt (Nat.sub_le _ _) hS
                      have hsub : (S : Int) - ((2 ^ p : Nat) : Int) = (S1 : Int) := by omega
                      rw [hS1] at s1
                      have hor := i64_or S1 (2 ^ q) (by omega) (by omega)
                      rw [s1] at hor
                      have HON2 := Lib.hid (show OnOk (onOf S2) by rw [s3]; exact HON.out.step (by omega) (by omega) (by omega) (by omega))
                      have HGN := Lib.hid (show cpGo R (W.drop (k + 1)) (P.drop (k + 1)) (onOf S2) (n + 1) = (rA, rE) from by rw [s3]; exact HGO.out)
                      have wS1 : IntKind.i64.wrap ((S : Int) - ((2 ^ p : Nat) : Int)) = (S1 : Int) := by rw [hsub]; exact IntWalk.i64_in _ (by omega)
                      clear HGO s0 s1 s3 hS1 hpb hb1 bp hsub
                      generalize 2 ^ q = mq at *
                      generalize 2 ^ p = mp at *
                      go_wp2_with fail
                      refine wp_region_flow [] [([0, 1, 2, 3, 5, 6], 4, true)] [7, 8, 9] (by kernel_rfl) (by kernel_rfl) ?_
                      intro wc hBc hh
                      clear hh
                      have HBC := Lib.hid (btr HB.out hBc)
                      have r0 := HR0.out _ HBC.out
                      have r1 := HR1.out _ HBC.out
                      have rz := Nat.lt_of_lt_of_le hws HBC.out.size
                      have gw := GW.out _ HBC.out; have zw := ZW.out _ HBC.out; have gp := GP.out _ HBC.out; have zp := ZP.out _ HBC.out
                      have hL := @Later.cell wc
                      clear hBc HB
                      simp only [flowP, flow, pickL, List.getElem?_cons_succ, List.getElem?_cons_zero]
                      refine wpQuiet_nil ?_
                      repeat (go_big_quiet_step (fail))
                      refine wpQuiet_nil ?_
                      go_wp2_with fail
                      refine (HSZ.out _).mono ?_
                      rintro e w' ⟨rfl, rfl⟩
                      have hsu := HSU.out
                      generalize sumL (onOf S) = su at *
                      go_wp2
                      refine seg_grow ⟨⟨_, bz _⟩, rfl⟩ ?_
                      repeat (go_big_quiet_step (fail))
                      refine wpQuiet_nil ?_
                      refine only_done ?_
                      clear hL
                      go_wp2_with fail
                      go_roundw
                      case rel => exact ⟨k + 1, S2, n + 1, by omega, rfl, by first | rfl | simp, by go_num, by omega, by omega, hS2, HON2.out, HGN, HBC.out⟩
                      case measure => simp [intOf]; omega
                    · have hb1 : bitN S p = 0 := by omega
                      rw [hb1] at handp HGO
                      rw [if_pos (by decide)] at HGO
                      clear hpb hb1 bp
                      go_wp2_with fail
                      refine wp_region_flow [] [([0, 1, 2, 3, 5, 6], 4, true)] [7, 8, 9] (by kernel_rfl) (by kernel_rfl) ?_
                      intro wc hBc hh
                      clear hh
                      have HBC := Lib.hid (btr HB.out hBc)
                      have r0 := HR0.out _ HBC.out
                      have r1 := HR1.out _ HBC.out
                      have rz := Nat.lt_of_lt_of_le hws HBC.out.size
                      have gw := GW.out _ HBC.out; have zw := ZW.out _ HBC.out; have gp := GP.out _ HBC.out; have zp := ZP.out _ HBC.out
                      have hL := @Later.cell wc
                      clear hBc HB
                      simp only [flowP, flow, pickL, List.getElem?_cons_succ, List.getElem?_cons_zero]
                      refine wpQuiet_nil ?_
                      repeat (go_big_quiet_step (fail))
                      refine wpQuiet_nil ?_
                      go_wp2_with fail
                      refine (HSZ.out _).mono ?_
                      rintro e w' ⟨rfl, rfl⟩
                      have hsu := HSU.out
                      generalize sumL (onOf S) = su at *
                      go_wp2
                      refine seg_grow ⟨⟨_, bz _⟩, rfl⟩ ?_
                      repeat (go_big_quiet_step (fail))
                      refine wpQuiet_nil ?_
                      refine only_done ?_
                      have hra := HGO.out
                      simp only [Prod.mk.injEq] at hra
                      obtain ⟨rfl, rfl⟩ := hra
                      go_wp2_with fail
                      go_ret2
                      exact ⟨rfl, HBW.out _ HBC.out⟩
            · have hke : k = W.length := by omega
              have hra := HG.out
              rw [List.drop_eq_nil_of_le (by omega)] at hra
              unfold cpGo at hra
              simp only [Prod.mk.injEq] at hra
              obtain ⟨rfl, rfl⟩ := hra
              have hlk : ¬ (k : Int) < (P.length : Int) := by omega
              clear hke HG hkw
              go_wp2_with fail
              go_ret2
              exact ⟨rfl, HBW.out _ HB.out⟩
    · rw [if_pos hpl]
      have t2 : ((P.length : Int) != (W.length : Int)) = true := by simp; omega
      clear hpl
      go_enter Try.func18, Try.ntmps18
      go_wp2_with fail
      refine (HC.out _ (HX.out.mono (bal (bz _) _))).mono ?_
      rintro e w2 ⟨rfl, hB2⟩
      obtain ⟨hcc, hf⟩ := bcell hB2
      have hz := hB2.size
      simp only [World.size_alloc] at hz
      have HB2 := Lib.hid (btr (bal (bz w) _) hB2)
      clear hB2
      go_wp2_with fail
      go_ret2
      exact ⟨rfl, HB2.out⟩
  · rw [if_pos hc]
    have t1 : (checkD R W != 0) = true := by simpa using hc
    clear hc
    generalize checkD R W = q at *
    go_enter Try.func18, Try.ntmps18
    go_wp2_with fail
    refine (HC.out _ (HX.out.mono (bal (bz _) _))).mono ?_
    rintro e w2 ⟨rfl, hB2⟩
    obtain ⟨hcc, hf⟩ := bcell hB2
    have hz := hB2.size
    simp only [World.size_alloc] at hz
    have HB2 := Lib.hid (btr (bal (bz w) _) hB2)
    clear hB2
    go_wp2_with fail
    refine (HC.out _ (HX.out.mono HB2.out)).mono ?_
    rintro e w3 ⟨rfl, hB3⟩
    go_wp2_with fail
    go_ret2
    exact ⟨rfl, btr HB2.out hB3⟩
end Go.Proofs.Ytjajdpggoggoiaa

namespace Go.Proofs.Ytjajdpggoggoiaa
open Go.RowKit Go.Shelf

theorem any_false {xs : List Int} {r : Int} (h : ∀ i, i < xs.length → eqB r (xs[i]?.getD 0) = false) : xs.any (eqB r) = false := by
  rw [List.any_eq_false]
  intro y hy
  obtain ⟨j, hj, rfl⟩ := List.getElem_of_mem hy
  have := h j hj
  simpa [hj] using this
theorem any_true {xs : List Int} {r : Int} {k : Nat} (hk : k < xs.length) (h : xs[k]?.getD 0 = r) : xs.any (eqB r) = true := by
  rw [List.any_eq_true]
  exact ⟨xs[k], List.getElem_mem hk, by simp [hk] at h; simp [eqB, h]⟩
set_option maxRecDepth 100000 in
set_option maxHeartbeats 400000 in
theorem rhas_any (x : Value) (xs : List Int) (r : Int) (w : World) (hx0 : RdI w .i64 x xs) (hl : xs.length ≤ 1000) :
    Calls Try.prog 39 #[x, .int .i64 r] w fun e w' => e = .returned (.bool (xs.any (eqB r))) ∧ w = w' := by
  obtain ⟨a, ca, rfl, _, hcm, hx⟩ := hx0.form
  clear hx0 hcm
  obtain ⟨b, hb⟩ : ∃ b, xs.any (eqB r) = b := ⟨_, rfl⟩
  rw [hb]
  have HB := Lib.hid hb; clear hb
  go_enter Try.func39, Try.ntmps39
  go_wp2_with fail
  go_loopw [5] (fun i wr => ∃ k : Nat, k ≤ xs.length ∧ i = .int .i64 k ∧ Hid (∀ i, i < k → eqB r (xs[i]?.getD 0) = false) ∧ w = wr) (fun i _ => xs.length - (intOf i).toNat)
  case atStart => exact ⟨0, Nat.zero_le _, rfl, Lib.hid (by intro i h1; omega), rfl⟩
  case round =>
    obtain ⟨k, hk, rfl, HT, rfl⟩ := hrel
    by_cases hlt : k < xs.length
    · obtain ⟨bx, ox, rfl, hbx, hcx⟩ := hx (by omega)
      have gx := hcx k hlt
      clear hx hcx
      have HAT := Lib.hid (any_true (r := r) hlt)
      generalize hp : xs[k]?.getD 0 = p at *
      have HP := Lib.hid hp; clear hp
      by_cases hb : p = r
      · obtain rfl : b = true := by rw [← HB.out]; exact HAT.out hb
        have t1 : (p == r) = true := by simp [hb]
        clear hb
        go_wp2_with fail
        go_ret
        exact ⟨rfl, rfl⟩
      · have t1 : (p == r) = false := by simp [hb]
        have HT1 : Hid (∀ i, i < k + 1 → eqB r (xs[i]?.getD 0) = false) := Lib.hid (fun i h1 => by
          by_cases e : i = k
          · subst e; rw [HP.out]; simp [eqB]; exact fun h => hb h.symm
          · exact HT.out i (by omega))
        clear hb HT
        go_wp2_with fail
        go_roundw
        case rel => exact ⟨k + 1, by omega, by go_num, HT1, trivial⟩
        case measure => simp [intOf]; omega
    · obtain rfl : b = false := by rw [← HB.out]; exact any_false fun i hi => HT.out i (by omega)
      go_wp2_with fail
      go_ret
      exact ⟨rfl, rfl⟩
set_option maxRecDepth 100000 in
set_option maxHeartbeats 1000000 in
theorem rruled_any (R : Int) (x : Value) (W : List Int) (r : Int) (w : World) (hx0 : RdI w .i64 x W) (hl : W.length ≤ 1000) :
    Calls Try.prog 51 #[.agg #[.int .i64 R, x], .int .i64 r] w fun e w' => e = .returned (.int .i64 (ruleE R W r)) ∧ Below w.heap.size w w' := by
  obtain ⟨a, c, rfl⟩ := hx0.ex _ rfl
  have HC := Lib.hid (fun wz hx => rcheckday_any R (.slice a W.length c) W wz hx hl)
  have HX := Lib.hid hx0
  clear hx0
  unfold ruleE
  by_cases hc : checkD R W = 0
  · rw [if_neg (by simpa using hc)]
    rw [hc] at HC
    clear hc
    by_cases h1 : r < 1
    · rw [if_pos (by simp [outB]; omega)]
      have d1 : decide (r < 1) = true := decide_eq_true h1
      go_enter Try.func51, Try.ntmps51
      go_wp2_with fail
      refine (HC.out _ (HX.out.mono (bal (bz _) _))).mono ?_
      rintro e w2 ⟨rfl, hB2⟩
      have HB2 := Lib.hid (btr (bal (bz w) _) hB2)
      clear hB2
      go_wp2_with fail
      go_ret
      exact ⟨rfl, HB2.out⟩
    · have d1 : decide (r < 1) = false := decide_eq_false h1
      by_cases h3 : 3 < r
      · rw [if_pos (by simp [outB]; omega)]
        have d3 : decide (3 < r) = true := decide_eq_true h3
        go_enter Try.func51, Try.ntmps51
        go_wp2_with fail
        refine (HC.out _ (HX.out.mono (bal (bz _) _))).mono ?_
        rintro e w2 ⟨rfl, hB2⟩
        have HB2 := Lib.hid (btr (bal (bz w) _) hB2)
        clear hB2
        go_wp2_with fail
        go_ret
        exact ⟨rfl, HB2.out⟩
      · rw [if_neg (by simp [outB]; omega)]
        have d3 : decide (3 < r) = false := decide_eq_false h3
        go_enter Try.func51, Try.ntmps51
        go_wp2_with fail
        refine (HC.out _ (HX.out.mono (bal (bz _) _))).mono ?_
        rintro e w2 ⟨rfl, hB2⟩
        have HB2 := Lib.hid (btr (bal (bz w) _) hB2)
        clear hB2
        go_wp2_with fail
        go_ret
        exact ⟨rfl, HB2.out⟩
  · rw [if_pos hc]
    have t1 : (checkD R W != 0) = true := by simpa using hc
    clear hc
    generalize checkD R W = q at *
    go_enter Try.func51, Try.ntmps51
    go_wp2_with fail
    refine (HC.out _ (HX.out.mono (bal (bz _) _))).mono ?_
    rintro e w2 ⟨rfl, hB2⟩
    obtain ⟨hcc, hf⟩ := bcell hB2
    have hz := hB2.size
    simp only [World.size_alloc] at hz
    have HB2 := Lib.hid (btr (bal (bz w) _) hB2)
    clear hB2
    go_wp2_with fail
    refine (HC.out _ (HX.out.mono HB2.out)).mono ?_
    rintro e w3 ⟨rfl, hB3⟩
    go_wp2_with fail
    go_ret
    exact ⟨rfl, btr HB2.out hB3⟩

def withoutL (l : List Int) (n : Int) : List Int := l.filter fun y => y != n
theorem without_succ (l : List Int) (n : Int) (k : Nat) (hk : k < l.length) : withoutL (l.take (k + 1)) n = if l[k]?.getD 0 != n then withoutL (l.take k) n ++ [l[k]?.getD 0] else withoutL (l.take k) n := by
  unfold withoutL
  rw [List.take_succ_eq_append_getElem hk, List.filter_append]
  have : l[k]?.getD 0 = l[k] := by simp [hk]
  rw [this]
  cases h : (l[k] != n) <;> simp [h]
theorem without_le (l : List Int) (n : Int) : (withoutL l n).length ≤ l.length := List.length_filter_le _ _
set_option maxRecDepth 100000 in
set_option maxHeartbeats 2000000 in
theorem without_any (x : Value) (l : List Int) (n : Int) (w : World) (hx0 : RdI w .i64 x l) (hl : l.length ≤ 500) :
    Calls Try.prog 73 #[x, .int .i64 n] w fun e w' => ∃ v, e = .returned v ∧ w'.ownsRow w.heap.size 3 1 v (withoutL l n).length ((withoutL l n).map (Value.int .i64)) ∧ Below w.heap.size w w' := by
  obtain ⟨a, ca, rfl, _, hcm, hx⟩ := hx0.form
  clear hx0 hcm
  go_enter Try.func73, Try.ntmps73
  go_wp2_with fail
  go_loopw [5, 6] (fun s5 i wr => ∃ (k : Nat) (v : Value), k ≤ l.length ∧ v = s5 ∧ i = .int .i64 k ∧ wr.ownsRow w.heap.size 3 1 v (withoutL (l.take k) n).length ((withoutL (l.take k) n).map (Value.int .i64)) ∧ Below w.heap.size w wr) (fun _ i _ => l.length - (intOf i).toNat)
  case atStart => exact ⟨0, _, Nat.zero_le _, rfl, rfl, World.ownsRow_nil _ _ _ _, bz _⟩
  case round =>
    obtain ⟨k, v, hk, rfl, rfl, hor, hB⟩ := hrel
    obtain ⟨av, cv, rfl⟩ := owns_form hor
    have hll := without_le (l.take k) n
    rw [List.length_take] at hll
    have HOR := Lib.hid hor; have HB := Lib.hid hB
    clear hor hB
    by_cases hlt : k < l.length
    · have HS := Lib.hid (without_succ l n k hlt)
      obtain ⟨bx, ox, rfl, hbx, hcx⟩ := hx (by omega)
      have gx := (HB.out.cell (p := ⟨bx, ox + k, none⟩) hbx).trans (hcx k hlt)
      have hbz2 := Nat.lt_of_lt_of_le hbx HB.out.size
      clear hx hcx
      generalize withoutL (l.take k) n = g at *
      generalize l[k]?.getD 0 = p at *
      cases hpn : (p != n)
      · go_wp2_with fail
        go_roundw
        case rel => exact ⟨k + 1, _, by omega, rfl, by go_num, by rw [HS.out, hpn]; exact HOR.out, HB.out⟩
        case measure => simp [intOf]; omega
      · have hbz : w.heap.size ≤ wr.heap.size := HB.out.size
        have hl1 : g.length ≤ 1000 := by omega
        have HPN := Lib.hid hpn
        go_wp2_with (at_builtin; refine wpList_append_num rfl _ _ rfl Try.underlying22 num3 HOR.out p rfl rfl rfl hl1 hbz ?_)
        intro v' w' hown hgrow
        have HBN := Lib.hid (append_below (bal HB.out _) (HOR.out.alloc _) hgrow (Nat.le_refl _))
        have HOWN := Lib.hid hown
        clear hown hgrow
        go_wp2_with fail
        go_roundw
        case rel => exact ⟨k + 1, v', by omega, rfl, by go_num, by rw [HS.out, HPN.out, if_pos rfl, List.length_append, List.map_append]; exact HOWN.out, HBN.out⟩
        case measure => simp [intOf]; omega
    · have hkl : l.take k = l := by rw [List.take_of_length_le (by omega)]
      have HOR2 := Lib.hid (show wr.ownsRow w.heap.size 3 1 _ (withoutL l n).length ((withoutL l n).map (Value.int .i64)) from by have h := HOR.out; rw [hkl] at h; exact h)
      rw [hkl]
      clear hkl
      go_wp2_with fail
      go_ret
      exact ⟨_, rfl, HOR2.out, HB.out⟩

/-- The next want of a reamer behind one, or 1000. -/
def nextD (W : List Int) (i : Nat) (r : Int) : Int := match (W.drop (i + 1)).findIdx? (eqB r) with | some j => ((i + 1 + j : Nat) : Int) | none => 1000
theorem nextD_last (W : List Int) (i : Nat) (r : Int) (h : W.length ≤ i + 1) : nextD W i r = 1000 := by
  unfold nextD; rw [List.drop_eq_nil_of_le h]; rfl
theorem nextD_step (W : List Int) (i : Nat) (r : Int) (h : i + 1 < W.length) : nextD W i r = if want W (i + 1) = r then ((i + 1 : Nat) : Int) else nextD W (i + 1) r := by
  unfold nextD
  rw [List.drop_eq_getElem_cons h, List.findIdx?_cons]
  have e : want W (i + 1) = W[i + 1] := by simp [want, h]
  rw [e]
  by_cases hq : W[i + 1] = r
  · rw [if_pos hq, if_pos (by simp [eqB, hq])]
  · rw [if_neg hq, if_neg (by simp [eqB]; exact fun h => hq h.symm)]
    cases (W.drop (i + 1 + 1)).findIdx? (eqB r) with
    | none => rfl
    | some j => simp; omega
theorem nextD_bd (W : List Int) (hl : W.length ≤ 1000) (i : Nat) (r : Int) : 0 ≤ nextD W i r ∧ nextD W i r ≤ 1000 := by
  unfold nextD
  cases h : (W.drop (i + 1)).findIdx? (eqB r) with
  | none => simp
  | some j =>
    rw [List.findIdx?_eq_some_iff_getElem] at h
    obtain ⟨hj, _⟩ := h
    rw [List.length_drop] at hj
    simp only; omega
/-- The best so far, and its next want. -/
def farS (W : List Int) (i : Nat) (q : Int × Int) (x : Int) : Int × Int := if nextD W i x > q.2 ∨ (nextD W i x = q.2 ∧ x < q.1) then (x, nextD W i x) else q
def awayK (W : List Int) (i : Nat) (l : List Int) : Int × Int := l.foldl (farS W i) (0, -1)
theorem awayK_succ (W : List Int) (i : Nat) (l : List Int) (k : Nat) (hk : k < l.length) : awayK W i (l.take (k + 1)) = farS W i (awayK W i (l.take k)) (l[k]?.getD 0) := by
  unfold awayK
  rw [List.take_succ_eq_append_getElem hk, List.foldl_append]
  simp [hk]
def awayD (W : List Int) (rule : Int) (l : List Int) (i : Nat) : Int := if rule = 3 then (awayK W i l).1 else l[0]?.getD 0
theorem awayK_bd (W : List Int) (hl : W.length ≤ 1000) (i : Nat) : ∀ l : List Int, -1 ≤ (awayK W i l).2 ∧ (awayK W i l).2 ≤ 1000 := by
  intro l
  unfold awayK
  have key : ∀ (l : List Int) (q : Int × Int), -1 ≤ q.2 ∧ q.2 ≤ 1000 → -1 ≤ (l.foldl (farS W i) q).2 ∧ (l.foldl (farS W i) q).2 ≤ 1000 := by
    intro l
    induction l with
    | nil => intro q h; exact h
    | cons x l ih =>
      intro q h
      refine ih _ ?_
      unfold farS
      have := nextD_bd W hl i x
      split
      · simp only; omega
      · exact h
  exact key l _ (by simp)
set_option maxRecDepth 100000 in
set_option maxHeartbeats 2000000 in
theorem away_any (R : Int) (x y : Value) (W l : List Int) (rule : Int) (i : Nat) (w : World) (hx0 : RdI w .i64 x W) (hy0 : RdI w .i64 y l) (hl : W.length ≤ 1000) (hll : l.length ≤ 1000) (h1 : 1 ≤ l.length) (hi : i < W.length) :
    Calls Try.prog 74 #[.agg #[.int .i64 R, x], .int .i64 rule, y, .int .i64 i] w fun e w' => e = .returned (.int .i64 (awayD W rule l i)) ∧ Below w.heap.size w w' := by
  obtain ⟨a, ca, rfl, _, hcm, hx⟩ := hx0.form
  obtain ⟨a', ca', rfl, _, hcm', hy⟩ := hy0.form
  clear hx0 hy0 hcm hcm'
  obtain ⟨bx, ox, rfl, hbx, hcx⟩ := hx (by omega)
  obtain ⟨by', oy, rfl, hby, hcy⟩ := hy (by omega)
  clear hx hy
  unfold awayD
  by_cases hr : rule = 3
  · rw [if_pos hr]
    have t1 : (rule != 3) = false := by simp [hr]
    clear hr
    obtain ⟨res, hres⟩ : ∃ res, (awayK W i l).1 = res := ⟨_, rfl⟩
    rw [hres]
    have HRES := Lib.hid hres; clear hres
    go_enter Try.func74, Try.ntmps74
    go_wp2_with fail
    have hr1 : (w.alloc (.cells #[.int .i64 R, .slice (some ⟨bx, ox, none⟩) W.length ca] 24)).cell? ⟨w.heap.size, 1, none⟩ = some (.slice (some ⟨bx, ox, none⟩) W.length ca) := cnew rfl rfl
    have HR1 := Lib.hid (fun wz (hB : Below (w.alloc (.cells #[.int .i64 R, .slice (some ⟨bx, ox, none⟩) W.length ca] 24)).heap.size (w.alloc (.cells #[.int .i64 R, .slice (some ⟨bx, ox, none⟩) W.length ca] 24)) wz) => (hB.cell (p := ⟨w.heap.size, 1, none⟩) (by simp)).trans hr1)
    have HBW := Lib.hid (fun wz (hB : Below (w.alloc (.cells #[.int .i64 R, .slice (some ⟨bx, ox, none⟩) W.length ca] 24)).heap.size (w.alloc (.cells #[.int .i64 R, .slice (some ⟨bx, ox, none⟩) W.length ca] 24)) wz) => btr (bal (bz w) _) hB)
    have hws : w.heap.size < (w.alloc (.cells #[.int .i64 R, .slice (some ⟨bx, ox, none⟩) W.length ca] 24)).heap.size := by simp
    clear hr1
    generalize (w.alloc (.cells #[.int .i64 R, .slice (some ⟨bx, ox, none⟩) W.length ca] 24)) = wA at *
    go_loopw [9, 10, 11, 12, 13] (fun s9 s10 i' _ _ wr => ∃ (k : Nat) (q : Int × Int), k ≤ l.length ∧ s9 = .int .i64 q.1 ∧ s10 = .int .i64 q.2 ∧ i' = .int .i64 k ∧ Hid (awayK W i (l.take k) = q) ∧ Below wA.heap.size wA wr) (fun _ _ i' _ _ _ => l.length - (intOf i').toNat)
    case atStart => exact ⟨0, (0, -1), Nat.zero_le _, rfl, rfl, rfl, Lib.hid rfl, bz _⟩
    case round =>
      obtain ⟨k, ⟨qb, qf⟩, hk, rfl, rfl, rfl, HQ, hB⟩ := hrel
      have HB := Lib.hid hB; clear hB
      by_cases hlt : k < l.length
      · have gy := ((HBW.out _ HB.out).cell (p := ⟨by', oy + k, none⟩) hby).trans (hcy k hlt)
        have hbd := awayK_bd W hl i (l.take k)
        rw [HQ.out] at hbd
        obtain ⟨f0, f1⟩ := hbd
        simp only at f0 f1
        have HQS := Lib.hid (awayK_succ W i l k hlt)
        rw [HQ.out] at HQS
        have r1 := HR1.out _ HB.out; have rz := Nat.lt_of_lt_of_le hws HB.out.size; have zy := Nat.lt_of_lt_of_le hby (HBW.out _ HB.out).size
        generalize l[k]?.getD 0 = p at *
        have GY := Lib.hid (fun wz (hB : Below wr.heap.size wr wz) => (hB.cell (World.block_lt_of_cell? wr _ gy)).trans gy)
        have ZY := Lib.hid (fun wz (hB : Below wr.heap.size wr wz) => Nat.lt_of_lt_of_le zy hB.size)
        have KW := Lib.hid (bz wr)
        clear gy zy
        go_wp2_with fail
        generalize hwm : wr = wm at KW
        rw [hwm] at GY ZY
        have HWM := Lib.hid (show Below wA.heap.size wA wm by rw [← hwm]; exact HB.out)
        go_loopw [12, 13] (fun s12 s13 wr => ∃ j : Nat, i ≤ j ∧ j < W.length ∧ s13 = .int .i64 j ∧ s12 = .int .i64 (nextD W j p) ∧ Below wm.heap.size wm wr) (fun _ s13 _ => (intOf s13).toNat)
        case atStart => exact ⟨W.length - 1, by omega, by omega, by congr 1; omega, by rw [nextD_last _ _ _ (by omega)], by rw [← hwm]; exact bz _⟩
        case round =>
          obtain ⟨j, hij, hjl, rfl, rfl, hB2⟩ := hrel
          clear hwm KW r1 rz HB
          have HB2 := Lib.hid hB2; have HBA := Lib.hid (btr HWM.out hB2)
          clear hB2
          obtain ⟨n0, n1⟩ := nextD_bd W hl j p
          by_cases hji : i < j
          · have hst := nextD_step W (j - 1) p (by omega)
            rw [show j - 1 + 1 = j by omega] at hst
            have HST := Lib.hid hst; clear hst
            have gx := ((HBW.out _ HBA.out).cell (p := ⟨bx, ox + j, none⟩) hbx).trans (hcx j hjl)
            have hj1 : (j : Int) - 1 = ((j - 1 : Nat) : Int) := by omega
            have HWJ : Hid (W[j]?.getD 0 = want W j) := Lib.hid rfl
            generalize W[j]?.getD 0 = u at *
            generalize nextD W j p = nx at *
            have HJ1 := Lib.hid hj1; clear hj1
            go_upto_region 11 with fail
            by_cases hup : u = p
            · have t2 : (u == p) = true := by simp [hup]
              have HUP := Lib.hid hup; clear hup
              refine wp_region_flow [] [] [0, 1, 2, 3, 4, 5, 6, 7, 8, 9] (by kernel_rfl) (by kernel_rfl) ?_
              intro wc hBc hh
              clear hh
              have HBC := Lib.hid (btr HBA.out hBc); have HBM := Lib.hid (btr HB2.out hBc)
              have c0 := HR1.out _ HBC.out; have z0 := Nat.lt_of_lt_of_le hws HBC.out.size
              have c1 := (hBc.cell (World.block_lt_of_cell? wr _ gx)).trans gx
              have z1 := Nat.lt_of_lt_of_le hbx (HBW.out _ HBC.out).size
              have c2 := GY.out _ HBM.out; have z2 := ZY.out _ HBM.out
              have hL := @Later.cell wc
              clear hBc gx
              simp only [flowP, flow, pickL, List.getElem?_cons_succ, List.getElem?_cons_zero]
              refine wpQuiet_nil ?_
              repeat (go_big_quiet_step (fail))
              refine wpQuiet_nil ?_
              refine only_done ?_
              clear c0 c1 c2 z0 z1 z2 hL
              go_wp2_with fail
              go_roundw
              case rel => exact ⟨j - 1, by omega, by omega, by rw [HJ1.out], by rw [HST.out, if_pos (by rw [← HWJ.out]; exact HUP.out)], HBM.out⟩
              case measure => simp [intOf]; omega
            · have t2 : (u == p) = false := by simp [hup]
              have HUP := Lib.hid hup; clear hup
              refine wp_region_flow [] [] [0, 1, 2, 3, 4, 5, 6, 7, 8, 9] (by kernel_rfl) (by kernel_rfl) ?_
              intro wc hBc hh
              clear hh
              have HBC := Lib.hid (btr HBA.out hBc); have HBM := Lib.hid (btr HB2.out hBc)
              have c0 := HR1.out _ HBC.out; have z0 := Nat.lt_of_lt_of_le hws HBC.out.size
              have c1 := (hBc.cell (World.block_lt_of_cell? wr _ gx)).trans gx
              have z1 := Nat.lt_of_lt_of_le hbx (HBW.out _ HBC.out).size
              have c2 := GY.out _ HBM.out; have z2 := ZY.out _ HBM.out
              have hL := @Later.cell wc
              clear hBc gx
              simp only [flowP, flow, pickL, List.getElem?_cons_succ, List.getElem?_cons_zero]
              refine wpQuiet_nil ?_
              repeat (go_big_quiet_step (fail))
              refine wpQuiet_nil ?_
              refine only_done ?_
              clear c0 c1 c2 z0 z1 z2 hL
              go_wp2_with fail
              go_roundw
              case rel => exact ⟨j - 1, by omega, by omega, by rw [HJ1.out], by rw [HST.out, if_neg (by rw [← HWJ.out]; exact HUP.out)], HBM.out⟩
              case measure => simp [intOf]; omega
          · have hje : i = j := by omega
            subst hje
            have gy := GY.out _ HB2.out; have zy := ZY.out _ HB2.out
            unfold farS at HQS
            generalize nextD W i p = nx at *
            by_cases h1 : nx > qf
            · rw [if_pos (.inl h1)] at HQS
              have d1 : decide (qf < nx) = true := decide_eq_true h1
              clear h1
              go_wp2_with fail
              go_roundw
              case rel => exact ⟨k + 1, (p, nx), by omega, rfl, rfl, by go_num, HQS, HBA.out⟩
              case measure => simp [intOf]; omega
            · have d1 : decide (qf < nx) = false := decide_eq_false h1
              by_cases h2 : nx = qf
              · have d2 : (nx == qf) = true := by simp [h2]
                by_cases h3 : p < qb
                · have d3 : decide (p < qb) = true := decide_eq_true h3
                  rw [if_pos (.inr ⟨h2, h3⟩)] at HQS
                  clear h1 h2 h3
                  go_wp2_with fail
                  go_roundw
                  case rel => exact ⟨k + 1, (p, nx), by omega, rfl, rfl, by go_num, HQS, HBA.out⟩
                  case measure => simp [intOf]; omega
                · have d3 : decide (p < qb) = false := decide_eq_false h3
                  rw [if_neg (by omega)] at HQS
                  clear h1 h2 h3
                  go_wp2_with fail
                  go_roundw
                  case rel => exact ⟨k + 1, (qb, qf), by omega, rfl, rfl, by go_num, HQS, HBA.out⟩
                  case measure => simp [intOf]; omega
              · have d2 : (nx == qf) = false := by simp [h2]
                rw [if_neg (by omega)] at HQS
                clear h1 h2
                go_wp2_with fail
                go_roundw
                case rel => exact ⟨k + 1, (qb, qf), by omega, rfl, rfl, by go_num, HQS, HBA.out⟩
                case measure => simp [intOf]; omega
      · have hke : l.take k = l := by rw [List.take_of_length_le (by omega)]
        have hq := HQ.out
        rw [hke] at hq
        have hres := HRES.out
        rw [hq] at hres
        simp only at hres
        subst hres
        clear hke hq
        go_wp2_with fail
        go_ret
        exact ⟨rfl, HBW.out _ HB.out⟩
  · rw [if_neg hr]
    have t1 : (rule != 3) = true := by simp [hr]
    have g0 := hcy 0 (by omega)
    rw [Nat.add_zero] at g0
    clear hr hcx hcy
    generalize l[0]?.getD 0 = p at *
    go_enter Try.func74, Try.ntmps74
    have g1 := (bal (bz w) (.cells #[.int .i64 R, .slice (some ⟨bx, ox, none⟩) W.length ca] 24)).cell (p := ⟨by', oy, none⟩) hby
    rw [g0] at g1
    go_wp2_with fail
    go_ret
    exact ⟨rfl, bal (bz _) _⟩
end Go.Proofs.Ytjajdpggoggoiaa

namespace Go.Proofs.Ytjajdpggoggoiaa
open Go.RowKit Go.Shelf

def rowI (w : World) (base : Nat) (u : Value) (xs : List Int) : Prop := w.ownsRow base 3 1 u xs.length (xs.map (Value.int .i64))
def apartV (u v : Value) : Prop := u.ownBlock = none ∨ u.ownBlock ≠ v.ownBlock
theorem apartV.symm {u v : Value} (h : apartV u v) : apartV v u := by
  rcases h with h1 | h1
  · cases hv : v.ownBlock with
    | none => exact .inl hv
    | some k => exact .inr (by rw [h1, hv]; simp)
  · exact .inr (Ne.symm h1)
/-- Three rows of numbers of the call's own that have no block in common. -/
structure Own3 (w : World) (base : Nat) (u v l : Value) (xs ys zs : List Int) : Prop where
  a : rowI w base u xs
  b : rowI w base v ys
  c : rowI w base l zs
  ab : apartV u v
  ac : apartV u l
  bc : apartV v l
theorem Own3.nil (w : World) (base : Nat) : Own3 w base (.slice none 0 0) (.slice none 0 0) (.slice none 0 0) [] [] [] := ⟨World.ownsRow_nil _ _ _ _, World.ownsRow_nil _ _ _ _, World.ownsRow_nil _ _ _ _, .inl rfl, .inl rfl, .inl rfl⟩
theorem Own3.later {w w' : World} {base : Nat} {u v l : Value} {xs ys zs : List Int} (h : Own3 w base u v l xs ys zs) (hb : Below w.heap.size w w') : Own3 w' base u v l xs ys zs :=
  ⟨owns_kept h.a hb, owns_kept h.b hb, owns_kept h.c hb, h.ab, h.ac, h.bc⟩
theorem Own3.swap {w : World} {base : Nat} {u v l : Value} {xs ys zs : List Int} (h : Own3 w base u v l xs ys zs) : Own3 w base v u l ys xs zs :=
  ⟨h.b, h.a, h.c, h.ab.symm, h.bc, h.ac⟩
theorem rowI.lt {w : World} {base : Nat} {u : Value} {xs : List Int} (h : rowI w base u xs) {k : Nat} (e : u.ownBlock = some k) : base ≤ k ∧ k < w.heap.size := World.ownsRow.lt h k e
/-- The third row is replaced by one that was made later. -/
theorem Own3.third {w w' : World} {base : Nat} {u v l l' : Value} {xs ys zs zs' : List Int} (h : Own3 w base u v l xs ys zs) (hb : Below w.heap.size w w') (hbase : base ≤ w.heap.size) (hl : rowI w' w.heap.size l' zs') : Own3 w' base u v l' xs ys zs' := by
  have h2 := h.later hb
  have far : ∀ {u xs}, rowI w base u xs → apartV u l' := fun {u xs} hu => by
    cases hub : u.ownBlock with
    | none => exact .inl hub
    | some k =>
      refine .inr ?_
      rw [hub]
      intro e
      have h1 := (hu.lt hub).2
      have h2 := (hl.lt e.symm).1
      omega
  exact ⟨h2.a, h2.b, owns_base hl hbase, h.ab, far h.a, far h.b⟩
/-- 'append' of a number to the first one. -/
theorem Own3.push {w : World} {base : Nat} {u v l : Value} {xs ys zs : List Int} {ops : Array Oper} {rest : List Oper} {o : Oper} {a : Act} {Q : Exit → Act → World → Prop} (hgd : o.guard = none) (s x : Operand)
    (ho : o.op = .call { callee := .builtin .append, args := #[s, x], argTypes := #[22, 22] })
    (h : Own3 w base u v l xs ys zs) (q : Int) (hs : a.eval s = u) (hx : a.eval x = .slice (some ⟨w.heap.size, 0, none⟩) 1 1) (hl : xs.length ≤ 1000) (hb : base ≤ w.heap.size)
    (H : ∀ u' w', Own3 w' base u' v l (xs ++ [q]) ys zs → (∀ z : World, Below z.heap.size z w → z.heap.size ≤ base → Below z.heap.size z w') → wpList Try.prog ops Q rest (a.put o.dst u') w') :
    wpList Try.prog ops Q (o :: rest) a (w.alloc (.cells #[.int .i64 q] 3)) := by
  obtain ⟨i0, hi, hz0, hz1, hz2⟩ := info_parts num3
  refine wpList_append_own_at _ hgd s x 22 ho base 3 i0 (.int .i64 0) 1 8 Try.underlying22 hi hz0 hz1 hz2 rfl (by decide) _ _ _ hs (World.ownsRow.alloc h.a _) ⟨w.heap.size, 0, none⟩ 1 1 [.int .i64 q] hx rfl (fun j u hj => ?_) (fun u hu => by simp at hu; subst hu; rfl)
    (by simp only [maxLen]; omega) (by omega) (by simp; omega) ?_
  · match j, hj with
    | 0, hj => simp at hj; subst hj; rw [Go.WideShapes.add_plain]; simp
  · intro u' w' h1 h2 _ h4
    have keep : ∀ {v ys}, rowI w base v ys → apartV u v → rowI w' base v ys := fun {v ys} hv ha => by
      refine (World.ownsRow.alloc hv _).kept h2 ?_
      rcases ha.symm with h5 | h5
      · exact .inl h5
      · exact .inr h5
    have ap : ∀ {v ys}, rowI w base v ys → apartV u v → apartV u' v := fun {v ys} hv ha => by
      rcases h4 with h4 | h4
      · unfold apartV; rw [h4]; exact ha
      · refine .inr ?_
        rw [h4]
        intro e'
        have := (hv.lt e'.symm).2
        simp at this
        omega
    refine H u' w' ⟨?_, keep h.b h.ab, keep h.c h.ac, ap h.b h.ab, ap h.c h.ac, h.bc⟩ fun z hz hzb => append_below (bal hz _) (World.ownsRow.alloc h.a _) h2 hzb
    unfold rowI
    rw [List.map_append, List.length_append]; exact h1
theorem own_newI (w : World) {base nb : Nat} (hnb : nb = w.heap.size) (hb : base ≤ w.heap.size) : rowI (w.alloc (.cells #[] 3)) base (.slice (some ⟨nb, 0, none⟩) 0 0) [] := by
  subst hnb
  exact ⟨rfl, .inr ⟨_, 0, #[], rfl, hb, heap_alloc_new _ _, Nat.le_refl _, by unfold maxLen; omega, rfl, rfl⟩⟩
/-- 'append' of numbers that are read to a row of the call's own. -/
theorem wpList_append_ints {w : World} {base : Nat} {v : Value} {xs ys : List Int} {ops : Array Oper} {rest : List Oper} {o : Oper} {a : Act} {Q : Exit → Act → World → Prop} (hgd : o.guard = none) (s x : Operand)
    (ho : o.op = .call { callee := .builtin .append, args := #[s, x], argTypes := #[22, 22] }) (h : rowI w base v xs) (hb : base ≤ w.heap.size) (hs : a.eval s = v)
    {ad : Addr} {n c : Nat} (hx : a.eval x = .slice (some ad) n c) (hn : n = ys.length) (hy : ∀ j u, (ys.map (Value.int .i64))[j]? = some u → w.cell? (ad.add j) = some u) (hl : xs.length ≤ 1000) (hl2 : ys.length ≤ 1000)
    (H : ∀ v' w', rowI w' base v' (xs ++ ys) → w.grownBy w' v.ownBlock → wpList Try.prog ops Q rest (a.put o.dst v') w') :
    wpList Try.prog ops Q (o :: rest) a w := by
  subst hn
  obtain ⟨i0, hi, hz0, hz1, hz2⟩ := info_parts num3
  refine wpList_append_own _ hgd s x 22 ho base 3 i0 (.int .i64 0) 1 8 Try.underlying22 hi hz0 hz1 hz2 rfl (by decide) _ _ _ hs h ad ys.length c (ys.map (Value.int .i64)) hx (by simp) hy (fun u hu => by obtain ⟨z, _, rfl⟩ := List.mem_map.1 hu; rfl)
    (by simp only [maxLen]; omega) (by omega) hb ?_
  intro v' w' h1 h2 _
  refine H v' w' ?_ h2
  unfold rowI
  rw [List.length_append, List.map_append]
  exact h1
theorem cellsI {w : World} {b o c : Nat} {xs : List Int} (h : RdI w .i64 (.slice (some ⟨b, o, none⟩) xs.length c) xs) : ∀ j u, (xs.map (Value.int .i64))[j]? = some u → w.cell? ((⟨b, o, none⟩ : Addr).add j) = some u := by
  intro j u hu
  obtain ⟨_, _, e, h1, h2, h⟩ := h
  cases e
  obtain ⟨b, off, e, _, h⟩ := h (by intro e; rw [e] at hu; simp at hu)
  cases e
  rw [Go.WideShapes.add_plain]; exact h j u hu

/-- The same, of any slice that is read, nil too. -/
theorem wpList_append_any {w : World} {base : Nat} {v : Value} {xs ys : List Int} {ops : Array Oper} {rest : List Oper} {o : Oper} {a : Act} {Q : Exit → Act → World → Prop} (hgd : o.guard = none) (s x : Operand)
    (ho : o.op = .call { callee := .builtin .append, args := #[s, x], argTypes := #[22, 22] }) (h : rowI w base v xs) (hb : base ≤ w.heap.size) (hs : a.eval s = v)
    {al : Option Addr} {c : Nat} (hx : a.eval x = .slice al ys.length c) (hy : RdI w .i64 (.slice al ys.length c) ys) (hl : xs.length ≤ 1000) (hl2 : ys.length ≤ 1000)
    (H : ∀ v' w', rowI w' base v' (xs ++ ys) → w.grownBy w' v.ownBlock → wpList Try.prog ops Q rest (a.put o.dst v') w') :
    wpList Try.prog ops Q (o :: rest) a w := by
  have nothing : ys = [] → (∀ ty, (Builtin.append_ #[22, 22] ty #[v, .slice al ys.length c]).run Try.prog w = .ok v w) → wpList Try.prog ops Q (o :: rest) a w := fun he hr => by
    refine wpList_plain hgd fun K hK => ?_
    unfold Oper.wp execOp
    simp only [ho, resolve, invoke, builtin, Sem.run_bind, Sem.run_pure, Result.andThen_ok, List.map_toArray, List.map_cons, List.map_nil, hs, hx, hr]
    refine hK _ _ (H v w ?_ ⟨rfl, rfl, rfl, Nat.le_refl _, fun _ _ _ => rfl⟩)
    rw [he, List.append_nil]; exact h
  obtain ⟨i0, hi, _, _, _⟩ := info_parts num3
  cases al with
  | none =>
    have he : ys = [] := by
      rcases Nat.eq_zero_or_pos ys.length with h0 | h0
      · exact List.eq_nil_of_length_eq_zero h0
      · obtain ⟨_, _, e, _, _, hc⟩ := hy.form
        cases e
        obtain ⟨_, _, e, _⟩ := hc h0
        cases e
    refine nothing he fun ty => ?_
    rw [he]
    exact run_append_none 22 ty i0 Try.underlying22 hi h c
  | some ad =>
    by_cases he : ys = []
    · refine wpList_append_ints hgd s x ho h hb hs hx rfl (fun j u hu => ?_) hl hl2 H
      rw [he] at hu; simp at hu
    · obtain ⟨_, _, e, _, _, hc⟩ := hy.form
      cases e
      obtain ⟨b, off, e, _, _⟩ := hc (List.length_pos_iff.2 he)
      cases e
      exact wpList_append_ints hgd s x ho h hb hs hx rfl (cellsI hy) hl hl2 H

/-- The bench in the order of a rule, the plan, and the wants that are fetched. -/
structure RunS where
  list : List Int
  plan : List Int
  fet : List Int
def runStep (R rule : Int) (W : List Int) (i : Nat) (s : RunS) : RunS :=
  if s.list.any (eqB (want W i)) then ⟨if rule = 2 then withoutL s.list (want W i) ++ [want W i] else s.list, s.plan ++ [0], s.fet⟩
  else if (s.list.length : Int) = R then ⟨withoutL s.list (awayD W rule s.list i) ++ [want W i], s.plan ++ [awayD W rule s.list i], s.fet ++ [(i : Int)]⟩
  else ⟨s.list ++ [want W i], s.plan ++ [0], s.fet ++ [(i : Int)]⟩
def runK (R rule : Int) (W : List Int) : Nat → RunS
  | 0 => ⟨[], [], []⟩
  | k + 1 => runStep R rule W k (runK R rule W k)
theorem runK_len (R rule : Int) (W : List Int) : ∀ k, (runK R rule W k).list.length ≤ k ∧ (runK R rule W k).plan.length = k ∧ (runK R rule W k).fet.length ≤ k
  | 0 => ⟨Nat.le_refl _, rfl, Nat.le_refl _⟩
  | k + 1 => by
    obtain ⟨h1, h2, h3⟩ := runK_len R rule W k
    have hw := fun n => without_le (runK R rule W k).list n
    unfold runK runStep
    split
    · simp only [List.length_append, List.length_singleton, h2]
      refine ⟨?_, trivial, by omega⟩
      split
      · rw [List.length_append, List.length_singleton]; have := hw (want W k); omega
      · omega
    · split
      · simp only [List.length_append, List.length_singleton, h2]
        have := hw (awayD W rule (runK R rule W k).list k)
        exact ⟨by omega, trivial, by omega⟩
      · simp only [List.length_append, List.length_singleton, h2]
        exact ⟨by omega, trivial, by omega⟩
set_option maxRecDepth 100000 in
set_option maxHeartbeats 4000000 in
theorem rrun_any (R : Int) (x : Value) (W : List Int) (rule : Int) (w : World) (hx0 : RdI w .i64 x W) (hd : OkD R W) :
    Calls Try.prog 52 #[.agg #[.int .i64 R, x], .int .i64 rule] w fun e w' => ∃ u v, e = .returned (.tuple #[u, v]) ∧ RdI w' .i64 u (runK R rule W W.length).plan ∧ RdI w' .i64 v (runK R rule W W.length).fet ∧ Below w.heap.size w w' := by
  have h16 := hd.l16
  obtain ⟨a, ca, rfl, _, hcm, hx⟩ := hx0.form
  have HX := Lib.hid hx0
  clear hx0 hcm
  go_enter Try.func52, Try.ntmps52
  have hr0 : (w.alloc (.cells #[.int .i64 R, .slice a W.length ca] 24)).cell? ⟨w.heap.size, 0, none⟩ = some (.int .i64 R) := cnew rfl rfl
  have hr1 : (w.alloc (.cells #[.int .i64 R, .slice a W.length ca] 24)).cell? ⟨w.heap.size, 1, none⟩ = some (.slice a W.length ca) := cnew rfl rfl
  have HR0 := Lib.hid (fun wz (hB : Below (w.alloc (.cells #[.int .i64 R, .slice a W.length ca] 24)).heap.size (w.alloc (.cells #[.int .i64 R, .slice a W.length ca] 24)) wz) => (hB.cell (p := ⟨w.heap.size, 0, none⟩) (by simp)).trans hr0)
  have HR1 := Lib.hid (fun wz (hB : Below (w.alloc (.cells #[.int .i64 R, .slice a W.length ca] 24)).heap.size (w.alloc (.cells #[.int .i64 R, .slice a W.length ca] 24)) wz) => (hB.cell (p := ⟨w.heap.size, 1, none⟩) (by simp)).trans hr1)
  have HBW := Lib.hid (fun wz (hB : Below (w.alloc (.cells #[.int .i64 R, .slice a W.length ca] 24)).heap.size (w.alloc (.cells #[.int .i64 R, .slice a W.length ca] 24)) wz) => btr (bal (bz w) _) hB)
  have hws : w.heap.size < (w.alloc (.cells #[.int .i64 R, .slice a W.length ca] 24)).heap.size := by simp
  clear hr0 hr1
  go_wp2_with fail
  generalize (w.alloc (.cells #[.int .i64 R, .slice a W.length ca] 24)) = wA at *
  go_loopw [6, 7, 8, 9, 10, 11] (fun s6 s7 s8 i _ _ wr => ∃ (k : Nat) (u v l : Value), k ≤ W.length ∧ u = s6 ∧ v = s7 ∧ l = s8 ∧ i = .int .i64 k ∧ Own3 wr wA.heap.size u v l (runK R rule W k).plan (runK R rule W k).fet (runK R rule W k).list ∧ Below wA.heap.size wA wr) (fun _ _ _ i _ _ _ => W.length - (intOf i).toNat)
  case atStart => exact ⟨0, _, _, _, Nat.zero_le _, rfl, rfl, rfl, rfl, Own3.nil _ _, bz _⟩
  case round =>
    obtain ⟨k, u, v, l, hk, rfl, rfl, rfl, rfl, hO, hB⟩ := hrel
    have HO := Lib.hid hO; have HB := Lib.hid hB
    obtain ⟨al, cl, rfl⟩ := owns_form hO.c
    clear hO hB
    have r1 := HR1.out _ HB.out; have rz := Nat.lt_of_lt_of_le hws HB.out.size
    by_cases hlt : k < W.length
    · obtain ⟨n1, n2, n3⟩ := runK_len R rule W k
      have HST : Hid (runK R rule W (k + 1) = runStep R rule W k (runK R rule W k)) := Lib.hid rfl
      unfold runStep at HST
      obtain ⟨bx, ox, rfl, hbx, hcx⟩ := hx (by omega)
      have GW := Lib.hid (fun wz (hB : Below wA.heap.size wA wz) => (show wz.cell? ⟨bx, ox + k, none⟩ = some (Value.int .i64 (want W k)) from ((HBW.out _ hB).cell (p := ⟨bx, ox + k, none⟩) hbx).trans (hcx k hlt)))
      have ZW := Lib.hid (fun wz (hB : Below wA.heap.size wA wz) => Nat.lt_of_lt_of_le hbx (HBW.out _ hB).size)
      have HAW := Lib.hid (fun y zs wz (hB : Below wA.heap.size wA wz) (hy : RdI wz .i64 y zs) (h1 : 1 ≤ zs.length) (h2 : zs.length ≤ 1000) => away_any R (.slice (some ⟨bx, ox, none⟩) W.length ca) y W zs rule k wz (HX.out.mono (HBW.out _ hB)) hy (by omega) h2 h1 hlt)
      clear hx hcx
      generalize want W k = q at *
      generalize runK R rule W k = rs at *
      obtain ⟨zs, xs, ys⟩ := rs
      simp only at n1 n2 n3 HO HST
      have HRD := Lib.hid (RdI.of_owns HO.out.c)
      have HHA := Lib.hid (rhas_any (.slice al zs.length cl) zs q wr HRD.out (by omega))
      have gw := GW.out _ HB.out; have zw := ZW.out _ HB.out
      go_upto_region 7 with fail
      rcases hha : zs.any (eqB q) with _ | _
      · rw [hha] at HHA
        rw [hha, if_neg (by decide)] at HST
        clear hha
        go_wp2_with fail
        refine HHA.out.mono ?_
        rintro e w' ⟨rfl, rfl⟩
        have HO1 := Lib.hid HO.out.swap
        have r0 := HR0.out _ HB.out
        go_wp2_with (at_builtin; refine Own3.push rfl _ _ rfl HO1.out (k : Int) rfl rfl (by omega) HB.out.size ?_)
        intro v2 w2 hO2 hB2
        have HO2 := Lib.hid hO2.swap; have HB2 := Lib.hid (hB2 wA HB.out (Nat.le_refl _))
        clear hO2 hB2 gw zw r0 r1 rz HRD HO1
        have r0 := HR0.out _ HB2.out; have r1 := HR1.out _ HB2.out; have rz := Nat.lt_of_lt_of_le hws HB2.out.size
        by_cases hfu : (zs.length : Int) = R
        · rw [if_pos hfu] at HST
          have t2 : ((zs.length : Int) == R) = true := by simp [hfu]
          have hz1 : 1 ≤ zs.length := by have := hd.r1; omega
          clear hfu
          have HRD := Lib.hid (RdI.of_owns HO2.out.c)
          have HA := Lib.hid (HAW.out _ zs _ HB2.out HRD.out hz1 (by omega))
          generalize awayD W rule zs k = ad at *
          go_wp2_with fail
          refine HA.out.mono ?_
          rintro e w3 ⟨rfl, hB3⟩
          have HO3 := Lib.hid (HO2.out.later hB3); have HB3 := Lib.hid (btr HB2.out hB3); have HRD3 := Lib.hid (HRD.out.mono hB3)
          clear hB3 HRD HO2 HB2 r0 r1 rz
          go_wp2_with fail
          refine (without_any _ zs ad w3 HRD3.out (by omega)).mono ?_
          rintro e w4 ⟨l4, rfl, hr4, hB4⟩
          have HO4 := Lib.hid (HO3.out.third hB4 HB3.out.size hr4); have HB4 := Lib.hid (btr HB3.out hB4)
          have hwl := without_le zs ad
          clear hB4 hr4 HO3 HB3 HRD3
          generalize withoutL zs ad = zs2 at *
          have r0 := HR0.out _ HB4.out; have r1 := HR1.out _ HB4.out; have rz := Nat.lt_of_lt_of_le hws HB4.out.size
          obtain ⟨al4, cl4, rfl⟩ := owns_form HO4.out.c
          have HRD4 := Lib.hid (RdI.of_owns HO4.out.c)
          have hbs4 := HB4.out.size
          go_wp2_with (at_builtin; refine wpList_append_any rfl _ _ rfl (own_newI w4 rfl (Nat.le_refl _)) (by simp) rfl rfl (HRD4.out.mono (bal (bz _) _)) (by simp) (by omega) ?_)
          intro v5 w5 hr5 hg5
          have hb5 := append_below (bal (bz w4) _) (own_newI w4 rfl (Nat.le_refl _)) hg5 (Nat.le_refl _)
          have HR5 := Lib.hid hr5; have HB5 := Lib.hid hb5
          have hs5 := hb5.size
          clear hr5 hg5 hb5 r0 r1 rz
          go_wp2_with (at_builtin; refine wpList_append_num rfl _ _ rfl Try.underlying22 num3 HR5.out q rfl rfl rfl (by omega) hs5 ?_)
          intro v6 w6 hown hgrow
          have hb6 := append_below (a := w4) (bal HB5.out _) (World.ownsRow.alloc HR5.out _) hgrow (Nat.le_refl _)
          have HO6 := Lib.hid (HO4.out.third (l' := v6) (zs' := zs2 ++ [q]) hb6 HB4.out.size (by unfold rowI; rw [List.length_append, List.map_append]; exact hown))
          have HB6 := Lib.hid (btr HB4.out hb6)
          clear hown hgrow hb6 HR5 HB5 HO4 HB4 HRD4 hs5 hbs4
          go_wp2_with (at_builtin; refine Own3.push rfl _ _ rfl HO6.out (ad) rfl rfl (by omega) HB6.out.size ?_)
          intro u' wp hOp hBp
          have HOP := Lib.hid hOp; have HBP := Lib.hid (hBp wA HB6.out (Nat.le_refl _))
          clear hOp hBp
          go_wp2_with fail
          go_roundw
          case rel => exact ⟨k + 1, _, _, _, by omega, rfl, rfl, rfl, by go_num, by rw [HST.out]; exact HOP.out, HBP.out⟩
          case measure => simp [intOf]; omega
        · rw [if_neg hfu] at HST
          have t2 : ((zs.length : Int) == R) = false := by simp [hfu]
          clear hfu
          have HO4 := HO2; have HB4 := HB2
          clear HO2 HB2
          have HRD4 := Lib.hid (RdI.of_owns HO4.out.c)
          have hbs4 := HB4.out.size
          go_wp2_with (at_builtin; refine wpList_append_any rfl _ _ rfl (own_newI w2 rfl (Nat.le_refl _)) (by simp) rfl rfl (HRD4.out.mono (bal (bz _) _)) (by simp) (by omega) ?_)
          intro v5 w5 hr5 hg5
          have hb5 := append_below (bal (bz w2) _) (own_newI w2 rfl (Nat.le_refl _)) hg5 (Nat.le_refl _)
          have HR5 := Lib.hid hr5; have HB5 := Lib.hid hb5
          have hs5 := hb5.size
          clear hr5 hg5 hb5 r0 r1 rz
          go_wp2_with (at_builtin; refine wpList_append_num rfl _ _ rfl Try.underlying22 num3 HR5.out q rfl rfl rfl (by omega) hs5 ?_)
          intro v6 w6 hown hgrow
          have hb6 := append_below (a := w2) (bal HB5.out _) (World.ownsRow.alloc HR5.out _) hgrow (Nat.le_refl _)
          have HO6 := Lib.hid (HO4.out.third (l' := v6) (zs' := zs ++ [q]) hb6 HB4.out.size (by unfold rowI; rw [List.length_append, List.map_append]; exact hown))
          have HB6 := Lib.hid (btr HB4.out hb6)
          clear hown hgrow hb6 HR5 HB5 HO4 HB4 HRD4 hs5 hbs4
          go_wp2_with (at_builtin; refine Own3.push rfl _ _ rfl HO6.out (0) rfl rfl (by omega) HB6.out.size ?_)
          intro u' wp hOp hBp
          have HOP := Lib.hid hOp; have HBP := Lib.hid (hBp wA HB6.out (Nat.le_refl _))
          clear hOp hBp
          go_wp2_with fail
          go_roundw
          case rel => exact ⟨k + 1, _, _, _, by omega, rfl, rfl, rfl, by go_num, by rw [HST.out]; exact HOP.out, HBP.out⟩
          case measure => simp [intOf]; omega
      · rw [hha] at HHA
        rw [hha, if_pos rfl] at HST
        clear hha
        by_cases hr2 : rule = 2
        · rw [if_pos hr2] at HST
          have t2 : (rule == 2) = true := by simp [hr2]
          clear hr2
          go_wp2_with fail
          refine HHA.out.mono ?_
          rintro e w' ⟨rfl, rfl⟩
          clear gw zw
          go_wp2_with fail
          refine (without_any _ zs q wr HRD.out (by omega)).mono ?_
          rintro e w4 ⟨l4, rfl, hr4, hB4⟩
          have HB4 := Lib.hid (btr HB.out hB4)
          have HOW := Lib.hid (HO.out.later hB4)
          have HR4 := Lib.hid hr4
          have hwl := without_le zs q
          have hwr : wr.heap.size ≤ w4.heap.size := hB4.size
          have HBR := Lib.hid hB4
          clear hB4 hr4
          generalize withoutL zs q = zs2 at *
          go_wp2_with (at_builtin; refine wpList_append_num rfl _ _ rfl Try.underlying22 num3 HR4.out q rfl rfl rfl (by omega) hwr ?_)
          intro l5 w5 hown hgrow
          have hb5 := append_below (a := wr) (bal HBR.out _) (HR4.out.alloc _) hgrow (Nat.le_refl _)
          have HO5 := Lib.hid (HO.out.third (l' := l5) (zs' := zs2 ++ [q]) hb5 HB.out.size (by unfold rowI; rw [List.length_append, List.map_append]; exact hown))
          have HB5 := Lib.hid (btr HB.out hb5)
          clear hown hgrow hb5 HOW HB4 HBR HR4
          go_wp2_with (at_builtin; refine Own3.push rfl _ _ rfl HO5.out (0) rfl rfl (by omega) HB5.out.size ?_)
          intro u' wp hOp hBp
          have HOP := Lib.hid hOp; have HBP := Lib.hid (hBp wA HB5.out (Nat.le_refl _))
          clear hOp hBp
          go_wp2_with fail
          go_roundw
          case rel => exact ⟨k + 1, _, _, _, by omega, rfl, rfl, rfl, by go_num, by rw [HST.out]; exact HOP.out, HBP.out⟩
          case measure => simp [intOf]; omega
        · rw [if_neg hr2] at HST
          have t2 : (rule == 2) = false := by simp [hr2]
          clear hr2
          go_wp2_with fail
          refine HHA.out.mono ?_
          rintro e w' ⟨rfl, rfl⟩
          clear gw zw
          go_wp2_with (at_builtin; refine Own3.push rfl _ _ rfl HO.out (0) rfl rfl (by omega) HB.out.size ?_)
          intro u' wp hOp hBp
          have HOP := Lib.hid hOp; have HBP := Lib.hid (hBp wA HB.out (Nat.le_refl _))
          clear hOp hBp
          go_wp2_with fail
          go_roundw
          case rel => exact ⟨k + 1, _, _, _, by omega, rfl, rfl, rfl, by go_num, by rw [HST.out]; exact HOP.out, HBP.out⟩
          case measure => simp [intOf]; omega
    · have hke : k = W.length := by omega
      subst hke
      have HP := Lib.hid (RdI.of_owns HO.out.a); have HF := Lib.hid (RdI.of_owns HO.out.b)
      go_wp2_with fail
      go_ret2
      exact ⟨_, _, rfl, HP.out, HF.out, HBW.out _ HB.out⟩
end Go.Proofs.Ytjajdpggoggoiaa

namespace Go.Proofs.Ytjajdpggoggoiaa
open Go.RowKit Go.Shelf

theorem rdI_nil (w : World) (k : IntKind) : RdI w k (.slice none 0 0) [] := ⟨none, 0, rfl, Nat.le_refl _, by unfold maxLen; omega, fun h => absurd rfl h⟩
theorem ruleE_ok {R : Int} {W : List Int} {r : Int} (h : ruleE R W r = 0) : checkD R W = 0 ∧ 1 ≤ r ∧ r ≤ 3 := by
  unfold ruleE at h
  by_cases hc : checkD R W = 0
  · rw [if_neg (by simpa using hc)] at h
    refine ⟨hc, ?_⟩
    cases hb : outB 1 3 r
    · simp [outB] at hb; omega
    · rw [hb] at h; cases h
  · rw [if_pos hc] at h; exact absurd h hc
def planL (R : Int) (W : List Int) (r : Int) : List Int := if ruleE R W r = 0 then (runK R r W W.length).plan else []
def fetL (R : Int) (W : List Int) (r : Int) : List Int := if ruleE R W r = 0 then (runK R r W W.length).fet else []
set_option maxRecDepth 100000 in
set_option maxHeartbeats 1000000 in
theorem rplan_any (R : Int) (x : Value) (W : List Int) (r : Int) (w : World) (hx0 : RdI w .i64 x W) (hl : W.length ≤ 1000) :
    Calls Try.prog 22 #[.agg #[.int .i64 R, x], .int .i64 r] w fun e w' => ∃ u, e = .returned (.tuple #[u, .int .i64 (ruleE R W r)]) ∧ RdI w' .i64 u (planL R W r) ∧ Below w.heap.size w w' := by
  obtain ⟨a, c, rfl⟩ := hx0.ex _ rfl
  have HR := Lib.hid (fun wz hx => rruled_any R (.slice a W.length c) W r wz hx hl)
  have HX := Lib.hid hx0
  unfold planL
  by_cases hc : ruleE R W r = 0
  · rw [if_pos hc]
    have HU := Lib.hid (fun wz hx => rrun_any R (.slice a W.length c) W r wz hx (okD_of (ruleE_ok hc).1))
    rw [hc] at HR ⊢
    clear hc hx0
    go_enter Try.func22, Try.ntmps22
    go_wp2_with fail
    refine (HR.out _ (HX.out.mono (bal (bz _) _))).mono ?_
    rintro e w2 ⟨rfl, hB2⟩
    obtain ⟨hcc, hf⟩ := bcell hB2
    have hz := hB2.size
    simp only [World.size_alloc] at hz
    have HB2 := Lib.hid (btr (bal (bz w) _) hB2)
    clear hB2
    go_wp2_with fail
    refine (HU.out _ (HX.out.mono HB2.out)).mono ?_
    rintro e w3 ⟨u, v, rfl, hu, hv, hB3⟩
    have HUU := Lib.hid hu; have HVV := Lib.hid hv; have HB3 := Lib.hid (btr HB2.out hB3)
    clear hu hv hB3
    go_wp2_with fail
    go_ret2
    exact ⟨_, rfl, HUU.out, HB3.out⟩
  · rw [if_neg hc]
    have t1 : (ruleE R W r != 0) = true := by simpa using hc
    clear hc hx0
    generalize ruleE R W r = q at *
    go_enter Try.func22, Try.ntmps22
    go_wp2_with fail
    refine (HR.out _ (HX.out.mono (bal (bz _) _))).mono ?_
    rintro e w2 ⟨rfl, hB2⟩
    obtain ⟨hcc, hf⟩ := bcell hB2
    have hz := hB2.size
    simp only [World.size_alloc] at hz
    have HB2 := Lib.hid (btr (bal (bz w) _) hB2)
    clear hB2
    go_wp2_with fail
    refine (HR.out _ (HX.out.mono HB2.out)).mono ?_
    rintro e w3 ⟨rfl, hB3⟩
    go_wp2_with fail
    go_ret2
    exact ⟨_, rfl, rdI_nil _ _, btr HB2.out hB3⟩
set_option maxRecDepth 100000 in
set_option maxHeartbeats 1000000 in
theorem rfetches_any (R : Int) (x : Value) (W : List Int) (r : Int) (w : World) (hx0 : RdI w .i64 x W) (hl : W.length ≤ 1000) :
    Calls Try.prog 24 #[.agg #[.int .i64 R, x], .int .i64 r] w fun e w' => ∃ u, e = .returned (.tuple #[u, .int .i64 (ruleE R W r)]) ∧ RdI w' .i64 u (fetL R W r) ∧ Below w.heap.size w w' := by
  obtain ⟨a, c, rfl⟩ := hx0.ex _ rfl
  have HR := Lib.hid (fun wz hx => rruled_any R (.slice a W.length c) W r wz hx hl)
  have HX := Lib.hid hx0
  unfold fetL
  by_cases hc : ruleE R W r = 0
  · rw [if_pos hc]
    have HU := Lib.hid (fun wz hx => rrun_any R (.slice a W.length c) W r wz hx (okD_of (ruleE_ok hc).1))
    rw [hc] at HR ⊢
    clear hc hx0
    go_enter Try.func24, Try.ntmps24
    go_wp2_with fail
    refine (HR.out _ (HX.out.mono (bal (bz _) _))).mono ?_
    rintro e w2 ⟨rfl, hB2⟩
    obtain ⟨hcc, hf⟩ := bcell hB2
    have hz := hB2.size
    simp only [World.size_alloc] at hz
    have HB2 := Lib.hid (btr (bal (bz w) _) hB2)
    clear hB2
    go_wp2_with fail
    refine (HU.out _ (HX.out.mono HB2.out)).mono ?_
    rintro e w3 ⟨u, v, rfl, hu, hv, hB3⟩
    have HUU := Lib.hid hu; have HVV := Lib.hid hv; have HB3 := Lib.hid (btr HB2.out hB3)
    clear hu hv hB3
    go_wp2_with fail
    go_ret2
    exact ⟨_, rfl, HVV.out, HB3.out⟩
  · rw [if_neg hc]
    have t1 : (ruleE R W r != 0) = true := by simpa using hc
    clear hc hx0
    generalize ruleE R W r = q at *
    go_enter Try.func24, Try.ntmps24
    go_wp2_with fail
    refine (HR.out _ (HX.out.mono (bal (bz _) _))).mono ?_
    rintro e w2 ⟨rfl, hB2⟩
    obtain ⟨hcc, hf⟩ := bcell hB2
    have hz := hB2.size
    simp only [World.size_alloc] at hz
    have HB2 := Lib.hid (btr (bal (bz w) _) hB2)
    clear hB2
    go_wp2_with fail
    refine (HR.out _ (HX.out.mono HB2.out)).mono ?_
    rintro e w3 ⟨rfl, hB3⟩
    go_wp2_with fail
    go_ret2
    exact ⟨_, rfl, rdI_nil _ _, btr HB2.out hB3⟩
end Go.Proofs.Ytjajdpggoggoiaa

namespace Go.Proofs.Ytjajdpggoggoiaa
open Go.RowKit Go.Shelf

def nl (l : List Nat) : List Int := l.map fun (n : Nat) => (n : Int)
theorem nl_len (l : List Nat) : (nl l).length = l.length := by simp [nl]
/-- The benches behind a want when one of the first k reamers is put away. -/
def swapK (S w k : Nat) : List Nat := ((List.range' 1 k).filter fun n => bitN S n == 1).map fun n => (S - 2 ^ n) ||| 2 ^ w
def afterN (R : Int) (S w : Nat) : List Nat := if bitN S w = 1 then [S] else if sumL (onOf S) < R then [S ||| 2 ^ w] else swapK S w 8
theorem swapK_succ (S w k : Nat) : swapK S w (k + 1) = if bitN S (1 + k) = 1 then swapK S w k ++ [(S - 2 ^ (1 + k)) ||| 2 ^ w] else swapK S w k := by
  unfold swapK
  rw [List.range'_concat, List.filter_append, List.map_append]
  simp only [Nat.one_mul]
  by_cases h : bitN S (1 + k) = 1 <;> simp [h]
theorem swapK_len (S w k : Nat) : (swapK S w k).length ≤ k := by
  unfold swapK
  rw [List.length_map]
  have := List.length_filter_le (fun n => bitN S n == 1) (List.range' 1 k)
  rw [List.length_range'] at this
  exact this
theorem rdI_one (w : World) (p : Int) (t : TypeId) : RdI (w.alloc (.cells #[.int .i64 p] t)) .i64 (.slice (some ⟨w.heap.size, 0, none⟩) 1 1) [p] := one_slice (cnew rfl rfl) (by simp)
theorem rdI_one2 (w : World) (o : Obj) (p : Int) (t : TypeId) : RdI ((w.alloc o).alloc (.cells #[.int .i64 p] t)) .i64 (.slice (some ⟨w.heap.size + 1, 0, none⟩) 1 1) [p] := one_slice (cnew (by simp) rfl) (by simp)
theorem rowI_one (w : World) {base nb : Nat} (p : Int) (hnb : nb = w.heap.size) (hb : base ≤ w.heap.size) : rowI (w.alloc (.cells #[.int .i64 p] 3)) base (.slice (some ⟨nb, 0, none⟩) 1 1) [p] := by
  subst hnb
  exact ⟨rfl, .inr ⟨_, 1, #[.int .i64 p], rfl, hb, heap_alloc_new _ _, Nat.le_refl _, by unfold maxLen; omega, rfl, rfl⟩⟩
set_option maxRecDepth 100000 in
set_option maxHeartbeats 2000000 in
theorem after_own (R : Int) (x : Value) (S q : Nat) (w : World) (hS : S < 512) (q9 : q < 9) :
    Calls Try.prog 59 #[.agg #[.int .i64 R, x], .int .i64 S, .int .i64 q] w fun e w' => ∃ v, e = .returned v ∧ rowI w' w.heap.size v (nl (afterN R S q)) ∧ Below w.heap.size w w' := by
  have handq := i64_and1 ((S : Int) / 2 ^ q)
  rw [shr_and] at handq
  have HSZ := Lib.hid (fun wz => size_any S wz hS)
  obtain ⟨hq2, hqw⟩ := pow_bd q9
  have bq := bitN_le S q
  unfold afterN
  by_cases h1 : bitN S q = 1
  · rw [if_pos h1]
    rw [h1] at handq
    clear h1 bq hqw hq2
    go_enter Try.func59, Try.ntmps59
    go_wp2_with fail
    go_ret
    exact ⟨_, rfl, rowI_one _ _ (by simp) (by simp), bal (bal (bz _) _) _⟩
  · rw [if_neg h1]
    have h0 : bitN S q = 0 := by omega
    have H0 := Lib.hid h0
    rw [h0] at handq
    clear h1 h0 bq
    have hr0 : (w.alloc (.cells #[.int .i64 R, x] 24)).cell? ⟨w.heap.size, 0, none⟩ = some (.int .i64 R) := cnew rfl rfl
    have HR0 := Lib.hid (fun wz (hB : Below (w.alloc (.cells #[.int .i64 R, x] 24)).heap.size (w.alloc (.cells #[.int .i64 R, x] 24)) wz) => (hB.cell (p := ⟨w.heap.size, 0, none⟩) (by simp)).trans hr0)
    have HBW := Lib.hid (fun wz (hB : Below (w.alloc (.cells #[.int .i64 R, x] 24)).heap.size (w.alloc (.cells #[.int .i64 R, x] 24)) wz) => btr (bal (bz w) _) hB)
    have hws : w.heap.size < (w.alloc (.cells #[.int .i64 R, x] 24)).heap.size := by simp
    clear hr0
    obtain ⟨A, hA⟩ : ∃ A, (if sumL (onOf S) < R then [S ||| 2 ^ q] else swapK S q 8) = A := ⟨_, rfl⟩
    rw [hA]
    have HA := Lib.hid hA
    clear hA
    go_enter Try.func59, Try.ntmps59
    go_upto_region 3 with fail
    generalize (w.alloc (.cells #[.int .i64 R, x] 24)) = wA at *
    refine wp_region_flow [] [([0, 2, 3], 1, true)] [4] (by kernel_rfl) (by kernel_rfl) ?_
    intro wc hBc hh
    clear hh
    have HBC := Lib.hid hBc
    have r0 := HR0.out _ hBc; have rz := Nat.lt_of_lt_of_le hws hBc.size
    have hL := @Later.cell wc
    clear hBc
    simp only [flowP, flow, pickL, List.getElem?_cons_succ, List.getElem?_cons_zero]
    refine wpQuiet_nil ?_
    repeat (go_big_quiet_step (fail))
    refine wpQuiet_nil ?_
    go_wp2_with fail
    refine (HSZ.out _).mono ?_
    rintro e w' ⟨rfl, rfl⟩
    generalize sumL (onOf S) = su at *
    go_wp2
    refine seg_grow ⟨⟨_, bz _⟩, rfl⟩ ?_
    repeat (go_big_quiet_step (fail))
    refine wpQuiet_nil ?_
    refine only_done ?_
    clear hL r0 rz
    by_cases hlt : su < R
    · have d1 : decide (su < R) = true := decide_eq_true hlt
      rw [d1]
      have hA := HA.out
      rw [if_pos hlt] at hA
      have hor := i64_or S (2 ^ q) (by omega) (by omega)
      obtain ⟨S2, hS2⟩ : ∃ S2, S ||| 2 ^ q = S2 := ⟨_, rfl⟩
      rw [hS2] at hA hor
      have HA2 := Lib.hid hA
      clear hlt hA hS2 HA
      generalize 2 ^ q = mq at *
      go_wp2_with fail
      go_ret
      exact ⟨_, rfl, by rw [← HA2.out]; exact rowI_one _ _ rfl (HBW.out _ HBC.out).size, bal (HBW.out _ HBC.out) _⟩
    · have d1 : decide (su < R) = false := decide_eq_false hlt
      rw [d1]
      have hA := HA.out
      rw [if_neg hlt] at hA
      have HA2 := Lib.hid hA
      clear hlt hA HA
      go_wp2_with fail
      go_loopw [7, 8] (fun s7 i wr => ∃ (k : Nat) (v : Value), k ≤ 8 ∧ v = s7 ∧ i = .int .i64 ((k : Int) + 1) ∧ rowI wr wA.heap.size v (nl (swapK S q k)) ∧ Below wA.heap.size wA wr) (fun _ i _ => 9 - (intOf i).toNat)
      case atStart => exact ⟨0, _, by omega, rfl, rfl, World.ownsRow_nil _ _ _ _, HBC.out⟩
      case round =>
        obtain ⟨k, v, hk, rfl, rfl, hor, hB⟩ := hrel
        obtain ⟨av, cv, rfl⟩ := owns_form hor
        have hlen := swapK_len S q k
        have HOR := Lib.hid hor; have HB := Lib.hid hB
        rw [nl_len] at *
        clear hor hB
        by_cases hlt : k < 8
        · have hd : decide ((k : Int) + 1 ≤ 8) = true := decide_eq_true (by omega)
          have HST := Lib.hid (swapK_succ S q k)
          have handk := i64_and1 ((S : Int) / 2 ^ (1 + k))
          rw [shr_and] at handk
          have bk := bitN_le S (1 + k)
          obtain ⟨hk2, hkw⟩ := pow_bd (show 1 + k < 9 by omega)
          have hk1 : ((k : Int) + 1) = ((1 + k : Nat) : Int) := by omega
          have hk3 : ((1 + k : Nat) : Int) + 1 = ((k + 1 : Nat) : Int) + 1 := by omega
          rw [hk1]
          generalize hj : 1 + k = j at *
          have HHJ := Lib.hid hj; clear hj
          rcases Nat.lt_or_ge 0 (bitN S j) with hb | hb
          · have hb1 : bitN S j = 1 := by omega
            rw [hb1] at handk
            have hst := HST.out
            rw [if_pos hb1] at hst
            obtain ⟨hle, _⟩ := onOf_put S hS j (by have := HHJ.out; omega) hb1
            obtain ⟨S1, hS1⟩ : ∃ S1, S - 2 ^ j = S1 := ⟨_, rfl⟩
            have hS1b : S1 < 512 := by rw [← hS1]; exact Nat.lt_of_le_of_lt (Nat.sub_le _ _) hS
            have hsub : (S : Int) - ((2 ^ j : Nat) : Int) = (S1 : Int) := by omega
            have wS1 : IntKind.i64.wrap ((S : Int) - ((2 ^ j : Nat) : Int)) = (S1 : Int) := by rw [hsub]; exact IntWalk.i64_in _ (by omega)
            have hor := i64_or S1 (2 ^ q) (by omega) (by omega)
            rw [hS1] at hst
            obtain ⟨S2, hS2⟩ : ∃ S2, S1 ||| 2 ^ q = S2 := ⟨_, rfl⟩
            rw [hS2] at hst hor
            have HST2 := Lib.hid hst
            clear hst HST hb hb1 hle hS1 hsub hS2 bk
            generalize 2 ^ j = mj at *
            generalize 2 ^ q = mq at *
            generalize swapK S q k = g at *
            have hbz : wA.heap.size ≤ wr.heap.size := HB.out.size
            go_upto_region 10 with fail
            refine wp_region_flow [] [([0, 1, 2, 3, 4, 5, 6, 7], 8, true), ([], 9, false), ([], 10, false)] [] (by kernel_rfl) (by kernel_rfl) ?_
            intro wc hBc hh
            clear hh
            have HBC := Lib.hid (btr HB.out hBc)
            have HORC := Lib.hid (owns_kept HOR.out hBc)
            have hbz2 : wA.heap.size ≤ wc.heap.size := HBC.out.size
            have hL := @Later.cell wc
            clear hBc HB HOR
            simp only [flowP, flow, pickL, List.getElem?_cons_succ, List.getElem?_cons_zero]
            refine wpQuiet_nil ?_
            repeat (go_big_quiet_step (fail))
            refine wpQuiet_nil ?_
            go_wp2
            refine seg_grow ⟨⟨_, bal (bz _) _⟩, rfl⟩ ?_
            refine wpQuiet_nil ?_
            refine wpList_append_num rfl _ _ rfl Try.underlying22 num3 HORC.out (S2 : Int) rfl rfl rfl (by rw [nl_len]; omega) hbz2 ?_
            intro v' w' hown hgrow
            have HBN := Lib.hid (append_below (bal HBC.out _) (World.ownsRow.alloc HORC.out _) hgrow (Nat.le_refl _))
            have HOWN := Lib.hid hown
            clear hown hgrow
            go_wp2
            refine seg_write ?_
            refine wpQuiet_nil ?_
            go_wp2
            refine seg_write ?_
            refine wpQuiet_nil ?_
            refine only_done ?_
            go_wp2_with fail
            go_roundw
            case rel =>
              refine ⟨k + 1, v', by omega, rfl, by have := HHJ.out; congr 1 <;> omega, ?_, HBN.out⟩
              rw [HST2.out]
              unfold rowI
              have h := HOWN.out
              rw [show nl (g ++ [S2]) = nl g ++ [(S2 : Int)] by simp [nl]]
              exact h
            case measure => simp [intOf]; have := HHJ.out; omega
          · have hb0 : bitN S j = 0 := by omega
            rw [hb0] at handk
            have hst := HST.out
            rw [if_neg (by omega)] at hst
            have HST2 := Lib.hid hst
            clear hst HST hb hb0 bk
            go_wp2_with fail
            go_roundw
            case rel => exact ⟨k + 1, _, by omega, rfl, by have := HHJ.out; congr 1 <;> omega, by rw [HST2.out]; exact HOR.out, HB.out⟩
            case measure => simp [intOf]; have := HHJ.out; omega
        · have hke : k = 8 := by omega
          have HR8 := Lib.hid (show rowI _ w.heap.size _ _ from owns_base HOR.out (Nat.le_of_lt hws))
          subst hke
          have hd : decide (((8 : Nat) : Int) + 1 ≤ 8) = false := by decide
          rw [HA2.out] at *
          go_wp2_with fail
          go_ret
          exact ⟨_, rfl, HR8.out, HBW.out _ HB.out⟩
theorem after_any (R : Int) (x : Value) (S q : Nat) (w : World) (hS : S < 512) (q9 : q < 9) :
    Calls Try.prog 59 #[.agg #[.int .i64 R, x], .int .i64 S, .int .i64 q] w fun e w' => ∃ v, e = .returned v ∧ RdI w' .i64 v (nl (afterN R S q)) ∧ Below w.heap.size w w' := by
  refine (after_own R x S q w hS q9).mono ?_
  rintro e w' ⟨v, rfl, hv, hB⟩
  exact ⟨v, rfl, RdI.of_owns hv, hB⟩
end Go.Proofs.Ytjajdpggoggoiaa
