/- BarrelScaled holds; no condition. -/
import Derived.Test.YtooddicegkiiiaaL9
import Derived.Test.YtooddicegkiiiaaP9
namespace Go.Proofs.Ytooddicegkiiiaa
open Go.RowKit Go.Shelf

theorem times_j {V : List (Int × Int)} (hV : OkV V) (hne : V ≠ []) {c : Int} (hc : 1 ≤ c) (hT : OkV (V.map (timesP c))) : jO (V.map (timesP c)) = jO V ∧ jA (V.map (timesP c)) = c * jA V ∧ jB (V.map (timesP c)) = c * jB V := by
  cases h : jO V
  · have hf : ¬ Free V := fun hf => by rw [(jO_free hV).2 hf] at h; cases h
    have hf2 : ¬ Free (V.map (timesP c)) := fun k => hf ((times_alike c hc V).free.2 k)
    cases h2 : jO (V.map (timesP c))
    · obtain ⟨_, a1, a2⟩ := j_false hT h2
      obtain ⟨_, b1, b2⟩ := j_false hV h
      rw [a1, a2, b1, b2]; simp
    · exact absurd ((jO_free hT).1 h2) hf2
  · obtain ⟨a, b, d⟩ := j_of hT (times_joined (j_true hV h) hne c hc)
    exact ⟨d, a, b⟩
theorem take_map_succ (f : Int × Int → Int × Int) (V : List (Int × Int)) (k : Nat) (hk : k < V.length) : (V.take (k + 1)).map f = (V.take k).map f ++ [f (pin V k)] := by
  rw [take_pin V k hk, List.map_append]; rfl

set_option maxRecDepth 100000 in
set_option maxHeartbeats 16000000 in
theorem barrelScaled_walk (x : Value) (V : List (Int × Int)) (z : Int) (w : World) (hx : RdP w x V) (z0 : 0 ≤ z) (z1 : z ≤ 255) :
    Calls Try.prog 13 #[x, .int .u8 z] w fun e w' => e = .returned (.bool true) ∧ Below w.heap.size w w' := by
  obtain ⟨a, c, rfl⟩ := hx.ex _ rfl
  obtain ⟨_, _, e, hca, _, hxf⟩ := hx.form
  cases e
  have CW := Lib.hid (fun wz (hB : Below w.heap.size w wz) => works_any wz)
  have CF := Lib.hid (fun wz (hB : Below w.heap.size w wz) => fine_any _ V wz (hx.mono hB))
  by_cases hc : checkP V = 0
  · rw [hc] at CF
    have hV := okPins_of hc
    have h5 := hV.l5
    have h1 := hV.l1
    have HV := Lib.hid hV.v
    have m0 : 0 ≤ z % 5 := by omega
    have m1 : z % 5 ≤ 4 := by omega
    obtain ⟨m, hm⟩ : ∃ m, 1 + z % 5 = m := ⟨_, rfl⟩
    have wm : IntKind.i64.wrap (1 + z % 5) = m := by rw [hm]; exact IntWalk.i64_in _ (by omega)
    have m2 : 1 ≤ m := by omega
    have m3 : m ≤ 5 := by omega
    clear hm m0 m1
    have CT := Lib.hid (fun wz (hB : Below w.heap.size w wz) => together_ok _ V wz (hx.mono hB) hc)
    have CC := Lib.hid (fun wz (hB : Below w.heap.size w wz) => clash_any _ V wz (hx.mono hB) (by omega))
    have HU := Lib.hid (fun (hT : checkP (V.map (timesP m)) = 0) => times_j hV.v (by intro h; rw [h] at h1; simp at h1) m2 (okPins_of hT).v)
    have HAL := Lib.hid (fun (hT : checkP (V.map (timesP m)) = 0) => (times_alike m m2 V).clash hc hT)
    have hbd := jbd hV.v hV.l5
    have hb : 0 ≤ jA V ∧ jA V ≤ 320000000000 ∧ 0 ≤ jB V ∧ jB V ≤ 320000000000 := by
      cases ho : jO V
      · have := hbd.2 ho; omega
      · have := hbd.1 ho; omega
    obtain ⟨b0, b1, b2, b3⟩ := hb
    clear hbd hc hV
    have KB0 := Lib.hid (bz w)
    go_enter Try.func13, Try.ntmps13
    go_wp2_with fail
    refine (CF.out _ KB0.out).mono ?_
    rintro e w1 ⟨rfl, hk⟩
    have KB1 := Lib.hid (btr KB0.out hk)
    clear KB0 hk
    go_wp2_with fail
    go_loopw [6, 7] (fun s6 i wr => ∃ (k : Nat) (v : Value), k ≤ V.length ∧ v = s6 ∧ i = .int .i64 k ∧ wr.ownsRow w.heap.size 55 2 v k (prs ((V.take k).map (timesP m))) ∧ Below w.heap.size w wr) (fun _ i _ => V.length - (intOf i).toNat)
    case atStart => exact ⟨0, _, Nat.zero_le _, rfl, rfl, World.ownsRow_nil _ _ _ _, KB1.out⟩
    case round =>
      obtain ⟨k, v, hk, rfl, rfl, hor, hBr⟩ := hrel
      obtain ⟨av, cv, rfl⟩ := owns_form hor
      clear KB1
      by_cases hlt : k < V.length
      · obtain ⟨bx, ox, rfl, hbx, hcx⟩ := hxf (by omega)
        have gx := (hBr.cell (p := ⟨bx, ox + k * 2, none⟩) hbx).trans (hcx k hlt).1
        have gy := (hBr.cell (p := ⟨bx, ox + k * 2 + 1, none⟩) hbx).trans (hcx k hlt).2
        change wr.cell? _ = some (Value.int .i64 (pin V k).1) at gx
        change wr.cell? _ = some (Value.int .i64 (pin V k).2) at gy
        obtain ⟨p1, p2, p3, p4⟩ := HV.out.at hlt
        have HS := Lib.hid (take_map_succ (timesP m) V k hlt)
        have hlk : ((V.take k).map (timesP m)).length = k := by rw [List.length_map, List.length_take]; omega
        have HOR := Lib.hid hor; have HB := Lib.hid hBr
        clear hor hBr hxf hcx
        generalize (V.take k).map (timesP m) = U at *
        rw [show timesP m (pin V k) = (m * (pin V k).1, m * (pin V k).2) from rfl] at HS
        generalize pin V k = q at *
        obtain ⟨q1, q2⟩ := q
        simp only at p1 p2 p3 p4 gx gy HS
        obtain ⟨r1, r2⟩ := mul_bd m q1 5 200 (by omega) (by omega) (by omega) (by omega)
        obtain ⟨r3, r4⟩ := mul_bd m q2 5 200 (by omega) (by omega) (by omega) (by omega)
        have w1 : IntKind.i64.wrap (m * q1) = m * q1 := IntWalk.i64_in _ (by omega)
        have w2 : IntKind.i64.wrap (m * q2) = m * q2 := IntWalk.i64_in _ (by omega)
        clear r1 r2 r3 r4
        go_wp2_with fail
        refine wp_region_flow [] [([0, 1, 2, 3, 4, 5, 6, 7, 8, 9, 10, 11, 12, 13, 14, 15], 16, true), ([], 17, false), ([], 18, false)] [] (by kernel_rfl) (by kernel_rfl) ?_
        intro wc hBc hh
        have d0 := (hBc.cell (World.block_lt_of_cell? wr _ gx)).trans gx
        have d1 := (hBc.cell (World.block_lt_of_cell? wr _ gy)).trans gy
        have z1' := World.block_lt_of_cell? wc _ d0
        simp only at z1'
        have hL := @Later.cell wc
        have HBC := Lib.hid (btr HB.out hBc)
        have HORC := Lib.hid (owns_kept HOR.out hBc)
        clear hh hBc gx gy
        simp only [flowP, flow, pickL, List.getElem?_cons_succ, List.getElem?_cons_zero]
        refine wpQuiet_nil ?_
        repeat (go_big_quiet_step (fail))
        refine wpQuiet_nil ?_
        go_wp2
        refine seg_grow ⟨⟨_, bal (bz _) _⟩, rfl⟩ ?_
        refine wpQuiet_nil ?_
        have hbz : w.heap.size ≤ wc.heap.size := HBC.out.size
        have hor2 : wc.ownsRow w.heap.size 55 2 (.slice av k cv) U.length (prs U) := by rw [hlk]; exact HORC.out
        have HLK := Lib.hid hlk
        refine wpList_append_pair rfl _ _ rfl Try.underlying22 info55 hor2 hbz (m * q1) (m * q2) rfl rfl rfl (by omega) ?_
        intro v' w' hown hgrow
        have HBN := Lib.hid (append_below (bal HBC.out _) (hor2.alloc _) hgrow (Nat.le_refl _))
        rw [List.length_append, hlk] at hown
        have HOWN := Lib.hid hown
        clear hown hgrow d0 d1 hor2 hlk
        go_wp2
        refine seg_write ?_
        refine wpQuiet_nil ?_
        go_wp2
        refine seg_write ?_
        refine wpQuiet_nil ?_
        refine only_done ?_
        go_wp2_with fail
        go_roundw
        case rel => exact ⟨k + 1, v', by omega, rfl, by go_num, by rw [HS.out]; exact HOWN.out, HBN.out⟩
        case measure => simp [intOf]; omega
      · have hkl : k = V.length := by omega
        rw [hkl, List.take_length] at hor
        have hrd : RdP wr (.slice av k cv) (V.map (timesP m)) := by have h := RdP.of_owns hor; rwa [← hkl] at h
        have HRD := Lib.hid hrd; have KBL := Lib.hid hBr
        clear hor hrd hBr hxf hkl
        have h5' : (V.map (timesP m)).length ≤ 5 := by rw [List.length_map]; exact h5
        generalize V.map (timesP m) = U at *
        by_cases hcu : checkP U = 0
        · obtain ⟨u1, u2, u3⟩ := HU.out hcu
          obtain ⟨l1, l2, l3⟩ := HAL.out hcu
          have HRD0 := HRD
          clear HRD
          obtain ⟨g1, g2⟩ := mul_bd m (jA V) 5 320000000000 (by omega) (by omega) (by omega) (by omega)
          obtain ⟨g3, g4⟩ := mul_bd m (jB V) 5 320000000000 (by omega) (by omega) (by omega) (by omega)
          have wA : IntKind.i64.wrap (m * jA V) = m * jA V := IntWalk.i64_in _ (by omega)
          have wB : IntKind.i64.wrap (m * jB V) = m * jB V := IntWalk.i64_in _ (by omega)
          have CFU := Lib.hid (fun wz hx => fine_any (.slice av k cv) U wz hx)
          rw [hcu] at CFU
          have CTU := Lib.hid (fun wz hx => together_ok (.slice av k cv) U wz hx hcu)
          rw [u1, u2, u3] at CTU
          have CCU := Lib.hid (fun wz hx => clash_any (.slice av k cv) U wz hx (by omega))
          rw [← l1, ← l2, ← l3] at CCU
          clear u1 u2 u3 l1 l2 l3 HU HAL g1 g2 g3 g4
          generalize clA V = qa at *
          generalize clK V = qk at *
          generalize clE' V = qe at *
          generalize jO V = o at *
          generalize jA V = A at *
          generalize jB V = Bp at *
          go_wp2_with fail
          refine (CFU.out _ HRD0.out).mono ?_
          rintro e w21 ⟨rfl, hk⟩
          have KB21 := Lib.hid (btr KBL.out hk)
          have HRD21 := Lib.hid (HRD0.out.mono hk)
          clear KBL HRD0 hk
          go_wp2_with fail
          refine (CT.out _ KB21.out).mono ?_
          rintro e w22 ⟨rfl, hk⟩
          have KB22 := Lib.hid (btr KB21.out hk)
          have HRD22 := Lib.hid (HRD21.out.mono hk)
          clear KB21 HRD21 hk
          go_wp2_with fail
          refine (CTU.out _ HRD22.out).mono ?_
          rintro e w23 ⟨rfl, hk⟩
          have KB23 := Lib.hid (btr KB22.out hk)
          have HRD23 := Lib.hid (HRD22.out.mono hk)
          clear KB22 HRD22 hk
          go_wp2_with fail
          refine (CC.out _ KB23.out).mono ?_
          rintro e w24 ⟨rfl, hk⟩
          have KB24 := Lib.hid (btr KB23.out hk)
          have HRD24 := Lib.hid (HRD23.out.mono hk)
          clear KB23 HRD23 hk
          go_wp2_with fail
          refine (CCU.out _ HRD24.out).mono ?_
          rintro e w25 ⟨rfl, hk⟩
          have KB25 := Lib.hid (btr KB24.out hk)
          have HRD25 := Lib.hid (HRD24.out.mono hk)
          clear KB24 HRD24 hk
          go_wp2_with fail
          refine (CW.out _ KB25.out).mono ?_
          rintro e w26 ⟨rfl, hk⟩
          have KB26 := Lib.hid (btr KB25.out hk)
          have HRD26 := Lib.hid (HRD25.out.mono hk)
          clear KB25 HRD25 hk
          go_wp2_with fail
          go_ret
          exact ⟨rfl, KB26.out⟩
        · have HRD0 := HRD
          clear HRD
          have hcb : (checkP U == 0) = false := by simpa using hcu
          have CFU := Lib.hid (fun wz hx => fine_any (.slice av k cv) U wz hx)
          rw [hcb] at CFU
          go_wp2_with fail
          refine (CFU.out _ HRD0.out).mono ?_
          rintro e w21 ⟨rfl, hk⟩
          have KB21 := Lib.hid (btr KBL.out hk)
          have HRD21 := Lib.hid (HRD0.out.mono hk)
          clear KBL HRD0 hk
          go_wp2_with fail
          refine (CW.out _ KB21.out).mono ?_
          rintro e w22 ⟨rfl, hk⟩
          have KB22 := Lib.hid (btr KB21.out hk)
          have HRD22 := Lib.hid (HRD21.out.mono hk)
          clear KB21 HRD21 hk
          go_wp2_with fail
          go_ret
          exact ⟨rfl, KB22.out⟩
  · have hcb : (checkP V == 0) = false := by simpa using hc
    rw [hcb] at CF
    have KB0 := Lib.hid (bz w)
    go_enter Try.func13, Try.ntmps13
    go_wp2_with fail
    refine (CF.out _ KB0.out).mono ?_
    rintro e w1 ⟨rfl, hk⟩
    have KB1 := Lib.hid (btr KB0.out hk)
    clear KB0 hk
    go_wp2_with fail
    refine (CW.out _ KB1.out).mono ?_
    rintro e w2 ⟨rfl, hk⟩
    have KB2 := Lib.hid (btr KB1.out hk)
    clear KB1 hk
    go_wp2_with fail
    go_ret
    exact ⟨rfl, KB2.out⟩
section
open Go.ChangeShapes Go.WideShapes Go.ChangeAt
set_option maxRecDepth 100000 in
theorem barrelScaled_lifted (os : Os) (started : os.Started) (H : Type) (enc : TypeId × Value → H) :
    ReturnsInHanded {} Try.checked os 13 .any (Rows.barrelScaledSpec.pre6 enc Try.prog Try.f13 Rows.barrelScaledRow.domain false) (Rows.barrelScaledSpec.post enc Try.prog Try.f13 false true false false) := by
  refine returnsInHanded_of_change (C := Try.checked) Try.own started (by kernel_rfl) Try.func13
    (ChangeSpec.witness6 (enc := enc) (C := Try.checked) false ⟨#[], #[.slice none 0 0, .int .u8 0], []⟩ 8 (by kernel_rfl) (by kernel_rfl) (by kernel_rfl) (by kernel_rfl)) ?_
  intro W base args ds gs before hval0 hW _ _
  have hval : ∀ (j : Nat) t v, Try.f13.params[j]? = some t → args[j]? = some v → Value.okWide Try.prog W .any base t v := hval0
  have hW' := hW
  obtain ⟨p, q, hA0, hV, rfl, hfz, hnd⟩ := hW
  have hA : DataW.TrodAll enc Try.prog W 0 (fun _ => true) true Try.f13.params.toList args.toList ds p := hA0
  have hA2 := hA
  have hlt : ∀ x ∈ p, x.block < W.heap.size := fun x hx => hW'.lt x (List.mem_append_left _ hx)
  rw [Try.params13] at hA hval
  obtain ⟨v0, vs0, d0, ds0, p0, q0, hargs, rfl, rfl, h0, r0⟩ := trodAll_cons hA
  obtain ⟨v1, vs1, d1, ds1, p1, q1, rfl, rfl, rfl, h1, r1⟩ := trodAll_cons r0
  obtain ⟨rfl, rfl, rfl⟩ := trodAll_nil r1
  obtain rfl : args = #[v0, v1] := by cases args; simp_all
  obtain ⟨rfl, rfl⟩ := trodVars_none hV
  obtain ⟨V0, hx0, hw0⟩ := open_pins (hval 0 22 v0 rfl rfl) h0 (fun x hx => hlt x (by simp [hx]))
  obtain ⟨a1, rfl, rfl, rfl, w1⟩ := open_int Try.underlying5 (hval 1 5 v1 rfl rfl) h1
  clear hA0 hval0
  simp only [List.append_nil] at hW' hA2
  refine (barrelScaled_walk v0 V0 a1 W hx0 (wf_u8 w1).1 (wf_u8 w1).2).mono fun e W' ⟨he, hb⟩ => ?_
  subst he
  exact ⟨_, rfl, law_post Try.laidOut Try.underlying4 hW' hA2 rfl rfl rfl rfl rfl (by kernel_rfl) hb⟩
theorem barrelScaled_holds : Rows.BarrelScaledSaid :=
  OpenClaim.holds_of_wide 13 Try.f13 rfl rfl rfl rfl rfl rfl rfl ⟨rfl, rfl, rfl, rfl, rfl⟩ rfl rfl rfl rfl rfl (by kernel_rfl) Try.func13 (by kernel_rfl)
    (of_decide_eq_true (by kernel_rfl)) (by unfold Func.isWrapper; first | (rw [if_pos (by decide +kernel)]; kernel_rfl) | (rw [if_neg (by decide +kernel)]; exact ⟨rfl, rfl⟩))
    (fun os started H enc _ => barrelScaled_lifted os started H enc)
end
end Go.Proofs.Ytooddicegkiiiaa
