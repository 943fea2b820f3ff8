/- RackUndone: Take undoes Put, and Put undoes Take; no condition. -/
import Derived.Test.YtnnfahdhmodejaaMLf
import Derived.Test.YtnnfahdhmodejaaMQu
import Derived.Test.YtnnfahdhmodejaaMGI
namespace Go.Proofs.Ytnnfahdhmodejaa
open Go.RowKit Go.Shelf

theorem cantake_lit (v : Value) (R : List (List Int)) (r : Nat) (b : Bool) (w : World) (hx0 : RdLL w v R) (hs : Sml R) (hr : r < R.length) (h : canB R r = b) :
    Calls Try.prog 42 #[v, .int .i64 r] w fun e w' => e = .returned (.bool b) ∧ Below w.heap.size w w' := by
  have := cantake_any v R r w hx0 hs hr; rwa [h] at this
set_option maxRecDepth 100000 in
set_option maxHeartbeats 3200000 in
theorem undone_core (x : Value) (s : List Int) (t p : Int) (w : World) (hx0 : RdI w .i64 x s) (ht : 0 ≤ t) (ht2 : t ≤ 255) (hp : 0 ≤ p) (hp2 : p ≤ 255) (hs : seqC s = 0) (hl : s.length < 12) :
    Calls Try.prog 8 #[x, .int .u8 t, .int .u8 p] w fun e w' => e = .returned (.bool true) ∧ Below w.heap.size w w' := by
  obtain ⟨N, hN, hN1, hN2⟩ : ∃ N : Int, 1 + t % 99 = N ∧ 1 ≤ N ∧ N ≤ 99 := ⟨_, rfl, by omega, by omega⟩
  have hbo := built_ok hs
  have HSR := Lib.hid (built_sml hs).1
  obtain ⟨q1, q2, q3, q4, q5⟩ := undone_put (R := (bldR s s.length).1) (n := N) hbo.1 (by omega) hN1 hN2
  obtain ⟨X, hX⟩ : ∃ X, X = (putR (bldR s s.length).1 N).1 := ⟨_, rfl⟩
  obtain ⟨i, hi⟩ : ∃ i, i = (putR (bldR s s.length).1 N).2 := ⟨_, rfl⟩
  rw [← hX] at q1 q2 q3 q4 q5
  rw [← hi] at q1 q3 q4
  have HQ1 := Lib.hid q1; have HQ2 := Lib.hid q2; have HQ3 := Lib.hid q3; have HQ5 := Lib.hid q5
  have hXl : 0 < X.length := by omega
  obtain ⟨k, hk, hkl⟩ : ∃ k : Nat, p % (X.length : Int) = (k : Int) ∧ k < X.length := by
    have h1 := Int.emod_nonneg p (show (X.length : Int) ≠ 0 by omega)
    have h2 := Int.emod_lt_of_pos p (show 0 < (X.length : Int) by omega)
    exact ⟨(p % (X.length : Int)).toNat, by omega, by omega⟩
  have HKL := Lib.hid hkl
  have HSS := Lib.hid hs
  clear q1 q2 q3 q4 q5 hX hi hbo
  have HF := Lib.hid (fine_any x s w hx0)
  rw [decide_eq_true hs] at HF
  obtain ⟨al, ca, rfl, _, _, _⟩ := hx0.form
  have KP0 := Lib.hid ((keepB (bz w)).and (keepI hx0))
  have HBU := Lib.hid (fun wz h => built_any (.slice al s.length ca) s wz h HSS.out)
  generalize (bldR s s.length).1 = R at *
  generalize (bldR s s.length).2 = O at *
  have n1 : ¬ (12 : Int) ≤ (s.length : Int) := by omega
  have n2 : (X.length : Int) ≠ 0 := by omega
  have n3 : (0 : Int) < (X.length : Int) := by omega
  have n4 : ¬ (X.length : Int) < 1 := by omega
  have n5 : (N != N) = false := by simp
  clear hx0 hs hkl hXl
  go_enter Try.func8, Try.ntmps8
  go_wp2_with fail
  refine HF.out.mono ?_
  rintro e w' ⟨rfl, rfl⟩
  go_wp2_with fail
  have gx := KP0.out.here.1
  refine (HBU.out _ gx).mono ?_
  rintro e w1 ⟨vr, vo, rfl, hRr, hRo, hB⟩
  obtain ⟨ptr, qtr, hv⟩ := exL hRr R.length rfl
  subst hv
  obtain ⟨pto, qto, hv⟩ := exL hRo O.length rfl
  subst hv
  have KP1 := Lib.hid (((KP0.out.up hB).and (keepL hRr)).and (keepL hRo))
  clear KP0
  clear hB hRr hRo
  clear gx
  go_wp2_with fail
  have gr := KP1.out.here.2.1
  refine (put_lit _ R X N i 0 _ gr HSR.out HQ1.out).mono ?_
  rintro e w2 ⟨vx2, rfl, hRx2, hB⟩
  obtain ⟨ptx2, qtx2, hv⟩ := exL hRx2 X.length rfl
  subst hv
  have KP2 := Lib.hid ((KP1.out.up hB).and (keepL hRx2))
  clear KP1
  clear hB hRx2
  clear gr
  go_wp2_with fail
  have gx2 := KP2.out.here.1
  refine (great_lit _ X _ gx2 HQ5.out).mono ?_
  rintro e w3 ⟨rfl, hB⟩
  have KP3 := Lib.hid (KP2.out.up hB)
  clear KP2
  clear hB
  clear gx2
  go_wp2_with fail
  have gx2 := KP3.out.here.1
  refine (rrackc_lit _ X 0 _ gx2 HQ5.out HQ2.out).mono ?_
  rintro e w4 ⟨rfl, hB⟩
  have KP4 := Lib.hid (KP3.out.up hB)
  clear KP3
  clear hB
  clear gx2
  go_wp2_with fail
  have gx2 := KP4.out.here.1
  refine (take_lit _ X R i N 0 _ gx2 HQ5.out HQ3.out).mono ?_
  rintro e w5 ⟨vy, rfl, hRy, hB⟩
  obtain ⟨pty, qty, hv⟩ := exL hRy R.length rfl
  subst hv
  have KP5 := Lib.hid ((KP4.out.up hB).and (keepL hRy))
  clear KP4
  clear hB hRy
  clear gx2
  go_wp2_with fail
  have gy := KP5.out.here.1
  have gr := KP5.out.here.2.2.2.1
  refine (same_lit _ _ R _ gy gr HSR.out).mono ?_
  rintro e w6 ⟨rfl, hB⟩
  have KP6 := Lib.hid (KP5.out.up hB)
  clear KP5
  clear hB
  clear gy gr
  cases hcb : canB X k with
  | false =>
    have HT := Lib.hid (take_no HQ2.out HKL.out hcb)
    have HCB := Lib.hid hcb
    clear hcb
    go_wp2_with fail
    have gx2 := KP6.out.here.2.1
    refine (take_lit _ X [] k 0 22 _ gx2 HQ5.out HT.out).mono ?_
    rintro e w7 ⟨vz, rfl, hRz, hB⟩
    obtain ⟨ptz, qtz, hv⟩ := exL hRz 0 rfl
    subst hv
    have KP7 := Lib.hid ((KP6.out.up hB).and (keepL hRz))
    clear KP6
    clear hB hRz
    clear gx2
    go_wp2_with fail
    have gx2 := KP7.out.here.2.2.1
    refine (cantake_lit _ X k false _ gx2 HQ5.out HKL.out HCB.out).mono ?_
    rintro e w8 ⟨rfl, hB⟩
    have KP8 := Lib.hid (KP7.out.up hB)
    clear KP7
    clear hB
    clear gx2
    go_wp2_with fail
    refine (works_any _).mono ?_
    rintro e w9 ⟨rfl, hB⟩
    have KP9 := Lib.hid (KP8.out.up hB)
    clear KP8
    clear hB
    go_wp2_with fail
    have gBelow := KP9.out.here.2.2.2.2.2.2
    go_ret
    exact ⟨rfl, gBelow⟩
  | true =>
    obtain ⟨p1, p2, p3, p4, p5, p6⟩ := undone_take HQ2.out HQ5.out HKL.out hcb
    have HCB := Lib.hid hcb
    clear hcb
    generalize (takeR X k).1 = Z at *
    generalize (takeR X k).2 = m at *
    have HP1 := Lib.hid p1; have HP2 := Lib.hid p2; have HP5 := Lib.hid p5; have HP6 := Lib.hid p6
    have m1 : ¬ m < 1 := by omega
    have m2 : ¬ 99 < m := by omega
    have m3 : ((k : Int) == (k : Int)) = true := by simp
    clear p1 p2 p3 p4 p5 p6
    go_wp2_with fail
    have gx2 := KP6.out.here.2.1
    refine (take_lit _ X Z k m 0 _ gx2 HQ5.out HP1.out).mono ?_
    rintro e w7 ⟨vz, rfl, hRz, hB⟩
    obtain ⟨ptz, qtz, hv⟩ := exL hRz Z.length rfl
    subst hv
    have KP7 := Lib.hid ((KP6.out.up hB).and (keepL hRz))
    clear KP6
    clear hB hRz
    clear gx2
    go_wp2_with fail
    have gx2 := KP7.out.here.2.2.1
    refine (cantake_lit _ X k true _ gx2 HQ5.out HKL.out HCB.out).mono ?_
    rintro e w8 ⟨rfl, hB⟩
    have KP8 := Lib.hid (KP7.out.up hB)
    clear KP7
    clear hB
    clear gx2
    go_wp2_with fail
    have gz := KP8.out.here.1
    refine (great_lit _ Z _ gz HP6.out).mono ?_
    rintro e w9 ⟨rfl, hB⟩
    have KP9 := Lib.hid (KP8.out.up hB)
    clear KP8
    clear hB
    clear gz
    go_wp2_with fail
    have gz := KP9.out.here.1
    refine (rrackc_lit _ Z 0 _ gz HP6.out HP2.out).mono ?_
    rintro e w10 ⟨rfl, hB⟩
    have KP10 := Lib.hid (KP9.out.up hB)
    clear KP9
    clear hB
    clear gz
    go_wp2_with fail
    have gz := KP10.out.here.1
    refine (put_lit _ Z X m k 0 _ gz HP6.out HP5.out).mono ?_
    rintro e w11 ⟨vww, rfl, hRww, hB⟩
    obtain ⟨ptww, qtww, hv⟩ := exL hRww X.length rfl
    subst hv
    have KP11 := Lib.hid ((KP10.out.up hB).and (keepL hRww))
    clear KP10
    clear hB hRww
    clear gz
    go_wp2_with fail
    have gww := KP11.out.here.1
    have gx2 := KP11.out.here.2.2.2.1
    refine (same_lit _ _ X _ gww gx2 HQ5.out).mono ?_
    rintro e w12 ⟨rfl, hB⟩
    have KP12 := Lib.hid (KP11.out.up hB)
    clear KP11
    clear hB
    clear gww gx2
    go_wp2_with fail
    refine (works_any _).mono ?_
    rintro e w13 ⟨rfl, hB⟩
    have KP13 := Lib.hid (KP12.out.up hB)
    clear KP12
    clear hB
    go_wp2_with fail
    have gBelow := KP13.out.here.2.2.2.2.2.2.2
    go_ret
    exact ⟨rfl, gBelow⟩
set_option maxRecDepth 100000 in
set_option maxHeartbeats 3200000 in
theorem rackUndone_walk (x : Value) (s : List Int) (t p : Int) (w : World) (hx0 : RdI w .i64 x s) (ht : 0 ≤ t) (ht2 : t ≤ 255) (hp : 0 ≤ p) (hp2 : p ≤ 255) :
    Calls Try.prog 8 #[x, .int .u8 t, .int .u8 p] w fun e w' => e = .returned (.bool true) ∧ Below w.heap.size w w' := by
  by_cases hs : seqC s = 0
  · by_cases hl : s.length < 12
    · exact undone_core x s t p w hx0 ht ht2 hp hp2 hs hl
    · have HF := Lib.hid (fine_any x s w hx0)
      rw [decide_eq_true hs] at HF
      obtain ⟨al, ca, rfl, _, _, _⟩ := hx0.form
      have n1 : (12 : Int) ≤ (s.length : Int) := by omega
      clear hx0 hs
      have KP0 := Lib.hid (keepB (bz w))
      go_enter Try.func8, Try.ntmps8
      go_wp2_with fail
      refine HF.out.mono ?_
      rintro e w' ⟨rfl, rfl⟩
      go_wp2_with fail
      refine (works_any _).mono ?_
      rintro e w1 ⟨rfl, hB⟩
      have KP1 := Lib.hid (KP0.out.up hB)
      clear KP0
      clear hB
      go_wp2_with fail
      have gBelow := KP1.out.here
      go_ret
      exact ⟨rfl, gBelow⟩
  · have HF := Lib.hid (fine_any x s w hx0)
    rw [decide_eq_false hs] at HF
    obtain ⟨al, ca, rfl, _, _, _⟩ := hx0.form
    clear hx0 hs
    have KP0 := Lib.hid (keepB (bz w))
    go_enter Try.func8, Try.ntmps8
    go_wp2_with fail
    refine HF.out.mono ?_
    rintro e w' ⟨rfl, rfl⟩
    go_wp2_with fail
    refine (works_any _).mono ?_
    rintro e w1 ⟨rfl, hB⟩
    have KP1 := Lib.hid (KP0.out.up hB)
    clear KP0
    clear hB
    go_wp2_with fail
    have gBelow := KP1.out.here
    go_ret
    exact ⟨rfl, gBelow⟩
section
open Go.ChangeShapes Go.WideShapes Go.ChangeAt
set_option maxRecDepth 100000 in
theorem rackUndone_lifted (os : Os) (started : os.Started) (H : Type) (enc : TypeId × Value → H) :
    ReturnsInHanded {} Try.checked os 8 .any (Rows.rackUndoneSpec.pre6 enc Try.prog Try.f8 Rows.rackUndoneRow.domain false) (Rows.rackUndoneSpec.post enc Try.prog Try.f8 false true false false) := by
  refine returnsInHanded_of_change (C := Try.checked) Try.own started (by kernel_rfl) Try.func8
    (ChangeSpec.witness6 (enc := enc) (C := Try.checked) false ⟨#[], #[.slice none 0 0, .int .u8 0, .int .u8 0], []⟩ 8 (by kernel_rfl) (by kernel_rfl) (by kernel_rfl) (by kernel_rfl)) ?_
  intro W base args ds gs before hval0 hW _ _
  have hval : ∀ (j : Nat) t v, Try.f8.params[j]? = some t → args[j]? = some v → Value.okWide Try.prog W .any base t v := hval0
  have hW' := hW
  obtain ⟨p, q, hA0, hV, rfl, hfz, hnd⟩ := hW
  have hA : DataW.TrodAll enc Try.prog W 0 (fun _ => true) true Try.f8.params.toList args.toList ds p := hA0
  have hA2 := hA
  have hlt : ∀ x ∈ p, x.block < W.heap.size := fun x hx => hW'.lt x (List.mem_append_left _ hx)
  rw [Try.params8] at hA hval
  obtain ⟨v0, vs0, d0, ds0, p0, q0, hargs, rfl, rfl, h0, r0⟩ := trodAll_cons hA
  obtain ⟨v1, vs1, d1, ds1, p1, q1, rfl, rfl, rfl, h1, r1⟩ := trodAll_cons r0
  obtain ⟨v2, vs2, d2, ds2, p2, q2, rfl, rfl, rfl, h2, r2⟩ := trodAll_cons r1
  obtain ⟨rfl, rfl, rfl⟩ := trodAll_nil r2
  obtain rfl : args = #[v0, v1, v2] := by cases args; simp_all
  obtain ⟨rfl, rfl⟩ := trodVars_none hV
  obtain ⟨X0, hx0, hw0⟩ := open_ints_rd Try.underlying31 Try.underlying3 (by kernel_rfl) (hval 0 31 v0 rfl rfl) h0 (fun x hx => hlt x (by simp [hx]))
  obtain ⟨a1, rfl, rfl, rfl, w1⟩ := open_int Try.underlying5 (hval 1 5 v1 rfl rfl) h1
  obtain ⟨a2, rfl, rfl, rfl, w2⟩ := open_int Try.underlying5 (hval 2 5 v2 rfl rfl) h2
  clear hA0 hval0
  simp only [List.append_nil] at hW' hA2
  refine (rackUndone_walk v0 X0 a1 a2 W hx0 (wf8 w1).1 (wf8 w1).2 (wf8 w2).1 (wf8 w2).2).mono fun e W' ⟨he, hb⟩ => ?_
  subst he
  exact ⟨_, rfl, law_post Try.laidOut Try.underlying4 hW' hA2 rfl rfl rfl rfl rfl (by kernel_rfl) hb⟩
theorem rackUndone_holds : Rows.RackUndoneSaid :=
  OpenClaim.holds_of_wide 8 Try.f8 rfl rfl rfl rfl rfl rfl rfl ⟨rfl, rfl, rfl, rfl, rfl⟩ rfl rfl rfl rfl rfl (by kernel_rfl) Try.func8 (by kernel_rfl)
    (of_decide_eq_true (by kernel_rfl)) (by unfold Func.isWrapper; first | (rw [if_pos (by decide +kernel)]; kernel_rfl) | (rw [if_neg (by decide +kernel)]; exact ⟨rfl, rfl⟩))
    (fun os started H enc _ => rackUndone_lifted os started H enc)
end
end Go.Proofs.Ytnnfahdhmodejaa
