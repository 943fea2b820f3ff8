/- RackTwo: two rising runs that have no index in common; no condition. -/
import Derived.Test.YtnnfahdhmodejaaMQh
import Derived.Test.YtnnfahdhmodejaaML13
import Derived.Test.YtnnfahdhmodejaaMGI
namespace Go.Proofs.Ytnnfahdhmodejaa
open Go.RowKit Go.Shelf

/-- Which run an index may come into, by numbers. -/
def tagB (bs : List Int) (i : Nat) : Int := if bs.length = 0 then 0 else elt bs (i % bs.length) % 3
theorem small_toNat {a : Int} {n : Nat} (h0 : 0 ≤ a) (h1 : a < (n : Int)) : ∃ j : Nat, a = (j : Int) ∧ j < n := ⟨a.toNat, by omega, by omega⟩
set_option maxRecDepth 100000 in
set_option maxHeartbeats 8000000 in
theorem two_core (x y : Value) (s bs : List Int) (w : World) (hx0 : RdI w .i64 x s) (hy0 : RdI w .u8 y bs) (hbs : ∀ i, i < bs.length → 0 ≤ elt bs i ∧ elt bs i ≤ 255) (hs : seqC s = 0) (h30 : bs.length ≤ 30) :
    Calls Try.prog 10 #[x, y] w fun e w' => e = .returned (.bool true) ∧ Below w.heap.size w w' := by
  have HSR := Lib.hid (built_sml hs).1
  have HMO := Lib.hid (twoG_most hs (tagB bs))
  have h12 := (seqC_ok hs).1
  have HSS := Lib.hid hs
  have HRU := Lib.hid (twoG_run s (tagB bs))
  have HLE := Lib.hid (twoG_len s (tagB bs))
  have HB3 := Lib.hid hbs
  have n1 : ¬ (30 : Int) < (bs.length : Int) := by omega
  have HF := Lib.hid (fine_any x s w hx0)
  rw [decide_eq_true hs] at HF
  obtain ⟨al, ca, rfl, _, _, _⟩ := hx0.form
  obtain ⟨bl, cb, rfl, _, _, _⟩ := hy0.form
  have KP0 := Lib.hid (((keepB (bz w)).and (keepI hx0)).and (keepI hy0))
  have HBU := Lib.hid (fun wz h => built_any (.slice al s.length ca) s wz h HSS.out)
  generalize (bldR s s.length).1 = R at *
  generalize (bldR s s.length).2 = O at *
  have HHT := Lib.hid (fun k => (show twoG s (tagB bs) (k + 1) = (if tagB bs k = 1 ∧ fitB s (twoG s (tagB bs) k).1 k = true then (twoG s (tagB bs) k).1 ++ [(k : Int)] else (twoG s (tagB bs) k).1, if tagB bs k = 2 ∧ fitB s (twoG s (tagB bs) k).2 k = true then (twoG s (tagB bs) k).2 ++ [(k : Int)] else (twoG s (tagB bs) k).2) from rfl))
  have HG0 := Lib.hid (show twoG s (tagB bs) 0 = ([], []) from rfl)
  have HTG := Lib.hid (fun k => (show tagB bs k = if bs.length = 0 then 0 else elt bs (k % bs.length) % 3 from rfl))
  generalize twoG s (tagB bs) = G at *
  generalize tagB bs = tg at *
  clear hx0 hy0 hs hbs
  go_enter Try.func10, Try.ntmps10
  go_wp2_with fail
  refine HF.out.mono ?_
  rintro e w' ⟨rfl, rfl⟩
  go_wp2_with fail
  have gx := KP0.out.here.2.1
  refine (HBU.out _ gx).mono ?_
  rintro e w1 ⟨vr, vo, rfl, hRr, hRo, hB⟩
  obtain ⟨ptr, qtr, hv⟩ := exL hRr R.length rfl
  subst hv
  obtain ⟨pto, qto, hv⟩ := exL hRo O.length rfl
  subst hv
  have KP1 := Lib.hid (((KP0.out.up hB).and (keepL hRr)).and (keepL hRo))
  clear KP0
  clear hB hRr hRo
  clear gx
  go_wp2_with fail
  have HHR := Lib.hid (KP1.out.here.2.1)
  have HHX := Lib.hid (KP1.out.here.2.2.2.1)
  have HHY := Lib.hid (KP1.out.here.2.2.1)
  have HBE := Lib.hid (KP1.out.here.2.2.2.2)
  clear KP1
  have hr20 := HSR.out.1
  go_loop [8, 9] (fun s8 s9 => ∃ k : Nat, k ≤ R.length ∧ k ≤ 2 ∧ s9 = .int .i64 k ∧ s8 = .int .i64 (rowsN R k : Nat)) (fun _ s9 => 2 - (intOf s9).toNat)
  case atStart => exact ⟨0, Nat.zero_le _, by omega, rfl, rfl⟩
  case round =>
    obtain ⟨k, hk, hk2, rfl, rfl⟩ := hrel
    by_cases hlt : k < R.length ∧ k < 2
    · obtain ⟨hl1, hl2⟩ := hlt
      obtain ⟨b, off, a', c', e1, hb, hc, hr⟩ := HHR.out.get k hl1
      cases e1
      have n4 := HSR.out.2 k
      have n5 := rowsN_bd HSR.out k
      have HSU := Lib.hid (show rowsN R (k + 1) = rowsN R k + (row R k).length from rfl)
      have t1 : (k : Int) < 2 := by omega
      have t2 : (k : Int) < (R.length : Int) := by omega
      clear hr
      generalize rowsN R k = rn at *
      go_wp2_with fail
      go_round
      case rel => exact ⟨k + 1, by omega, by omega, by go_num, by rw [HSU.out]; go_num⟩
      case measure => simp [intOf]; omega
    · have hend : rowsN R k = (row R 0).length + (row R 1).length := rowsN_two (by omega)
      have HMK : Hid ((G s.length).1.length + (G s.length).2.length ≤ rowsN R k ∧ rowsN R k ≤ 40) := Lib.hid ⟨by rw [hend]; exact HMO.out, by have := rowsN_bd HSR.out k; omega⟩
      clear hend
      generalize rowsN R k = rn at *
      by_cases hk' : k < R.length
      all_goals
        first
          | (have t1 : (k : Int) < (R.length : Int) := by omega)
          | (have t1 : ¬ (k : Int) < (R.length : Int) := by omega)
        try (have t2 : ¬ (k : Int) < 2 := by omega)
        clear hlt
        go_wp2_with fail
        go_loopw [10, 11, 12, 13] (fun s10 s11 s12 _ wr => ∃ (i : Nat) (u v : Value), i ≤ s.length ∧ u = s10 ∧ v = s11 ∧ s12 = .int .i64 i ∧ Own3 wr w1.heap.size u v (.slice none 0 0) (G i).1 (G i).2 [] ∧ Below w1.heap.size w1 wr) (fun _ _ s12 _ _ => s.length - (intOf s12).toNat)
        case atStart => exact ⟨0, _, _, Nat.zero_le _, rfl, rfl, rfl, by rw [HG0.out]; exact Own3.nil _ _, bz _⟩
        case round =>
          obtain ⟨i, u, v, hi, rfl, rfl, rfl, hO, hB⟩ := hrel
          have HO := Lib.hid hO; have HB := Lib.hid hB; clear hO hB
          have HHG := Lib.hid (HHT.out i)
          have hle12 := HLE.out i
          obtain ⟨hrun1, hrun2⟩ := HRU.out i
          by_cases hlt : i < s.length
          · generalize (G i).1 = A at *
            generalize (G i).2 = B at *
            obtain ⟨ga, ca2, ea⟩ := owns_form HO.out.a
            obtain ⟨gb, cb2, eb⟩ := owns_form HO.out.b
            subst ea
            subst eb
            by_cases hb0 : bs.length = 0
            · have ht : tg i = 0 := by rw [HTG.out, if_pos hb0]
              have t5 : ¬ (0 : Int) < (bs.length : Int) := by omega
              clear hb0 hrun1 hrun2
              have HN : Hid (G (i + 1) = (A, B)) := Lib.hid (by rw [HHG.out, if_neg (by omega), if_neg (by omega)])
              clear HHG
              go_upto_region 18 with fail
              go_quiet (fail)
              have hOw6 := HO.out.later (Below.drewN' nq (bz wr))
              have hBw6 : Below w1.heap.size w1 (wr.drewN nq) := btr HB.out (Below.drewN' nq (bz wr))
              generalize wr.drewN nq = w6 at *
              have HOw6 := Lib.hid hOw6; have HBw6 := Lib.hid hBw6
              clear hOw6 hBw6
              go_upto_region 20 with fail
              go_quiet (fail)
              have hOw7 := HOw6.out.later (Below.drewN' nq (bz w6))
              have hBw7 : Below w1.heap.size w1 (w6.drewN nq) := btr HBw6.out (Below.drewN' nq (bz w6))
              generalize w6.drewN nq = w7 at *
              have HOw7 := Lib.hid hOw7; have HBw7 := Lib.hid hBw7
              clear hOw7 hBw7
              go_wp2_with fail
              go_roundw
              case rel => exact ⟨i + 1, _, _, by omega, rfl, rfl, by go_num, by rw [HN.out]; exact HOw7.out, HBw7.out⟩
              case measure => simp [intOf]; omega
            · have hmod : (i : Int) % (bs.length : Int) = ((i % bs.length : Nat) : Int) := (Int.natCast_emod i bs.length).symm
              have hml : i % bs.length < bs.length := Nat.mod_lt _ (by omega)
              have hbv := HB3.out _ hml
              have htv : tg i = elt bs (i % bs.length) % 3 := by rw [HTG.out, if_neg hb0]
              obtain ⟨_, _, eb, _, _, hyf⟩ := HHY.out.form
              cases eb
              obtain ⟨bb, ob, rfl, hbb, hcb⟩ := hyf (by omega)
              have gby : wr.cell? ⟨bb, ob + i % bs.length, none⟩ = some (.int .u8 (elt bs (i % bs.length))) := (HB.out.cell (p := ⟨bb, ob + i % bs.length, none⟩) hbb).trans (hcb _ hml)
              have zbb := Nat.lt_of_lt_of_le hbb HB.out.size
              have t5 : (0 : Int) < (bs.length : Int) := by omega
              have t6 : (bs.length : Int) ≠ 0 := by omega
              obtain ⟨bx, ox, ex, hbx, hcx⟩ := HHX.out.get (by omega)
              cases ex
              have HCX := Lib.hid hcx
              clear hcb hcx hyf hb0
              generalize i % bs.length = im at *
              generalize elt bs im = by' at *
              have ht3 : 0 ≤ by' % 3 ∧ by' % 3 < 3 := by omega
              by_cases h1 : by' % 3 = 1
              · have ht : tg i = 1 := htv.trans h1
                clear ht3
                by_cases hz0 : A.length = 0
                · have hfit : fitB s A i = true := by unfold fitB; rw [decide_eq_true hz0]; rfl
                  clear hrun1 hrun2
                  have HN : Hid (G (i + 1) = (A ++ [(i : Int)], B)) := Lib.hid (by rw [HHG.out, if_pos ⟨ht, hfit⟩, if_neg (by omega)])
                  clear HHG hfit
                  have hl0 : A.length = 0 := hz0
                  obtain rfl : A = [] := List.eq_nil_of_length_eq_zero hl0
                  clear hz0 hl0
                  go_upto_region 18 with fail
                  go_quiet (fail)
                  have hOw6 := HO.out.later (Below.drewN' nq (bz wr))
                  have hBw6 : Below w1.heap.size w1 (wr.drewN nq) := btr HB.out (Below.drewN' nq (bz wr))
                  generalize wr.drewN nq = w6 at *
                  have HOw6 := Lib.hid hOw6; have HBw6 := Lib.hid hBw6
                  clear hOw6 hBw6
                  have hzb := HBw6.out.size
                  go_wp2_with (at_builtin; refine Own3.push rfl _ _ rfl HOw6.out (i : Int) rfl rfl (by omega) hzb ?_)
                  intro u7 w7 hO7 hk7
                  have hB7 : Below w1.heap.size w1 w7 := hk7 w1 HBw6.out (Nat.le_refl _)
                  obtain ⟨g7, c7, e7⟩ := owns_form hO7.a
                  subst e7
                  have HO7 := Lib.hid hO7; have HB7 := Lib.hid hB7
                  clear hO7 hB7 hk7 hzb
                  go_upto_region 20 with fail
                  go_quiet (fail)
                  have hOw8 := HO7.out.later (Below.drewN' nq (bz w7))
                  have hBw8 : Below w1.heap.size w1 (w7.drewN nq) := btr HB7.out (Below.drewN' nq (bz w7))
                  generalize w7.drewN nq = w8 at *
                  have HOw8 := Lib.hid hOw8; have HBw8 := Lib.hid hBw8
                  clear hOw8 hBw8
                  go_wp2_with fail
                  go_roundw
                  case rel => exact ⟨i + 1, _, _, by omega, rfl, rfl, by go_num, by rw [HN.out]; exact HOw8.out, HBw8.out⟩
                  case measure => simp [intOf]; omega
                · have hrun := hrun1
                  clear hrun1 hrun2
                  by_cases hle : lastTp s A ≤ elt s i
                  · have hfit : fitB s A i = true := by unfold fitB; rw [decide_eq_true hle, Bool.or_true]
                    have HN : Hid (G (i + 1) = (A ++ [(i : Int)], B)) := Lib.hid (by rw [HHG.out, if_pos ⟨ht, hfit⟩, if_neg (by omega)])
                    clear HHG hfit
                    obtain ⟨m, hm⟩ : ∃ m, A.length = m + 1 := ⟨A.length - 1, by omega⟩
                    obtain ⟨g, c, eu, hgz, gc, gf⟩ := HO.out.a.get m (by omega)
                    obtain ⟨ja, hja, hjl⟩ := small_toNat (hrun.bd m (by omega)).1 (hrun.bd m (by omega)).2
                    have hfl : elt s ja ≤ elt s i := by
                      have := hle
                      unfold lastTp at this
                      rwa [hm, Nat.add_sub_cancel, hja, Int.toNat_natCast] at this
                    rw [hm] at eu HO ⊢
                    cases eu
                    rw [hja] at gc
                    have gja := (HB.out.cell (p := ⟨bx, ox + ja, none⟩) hbx).trans (HCX.out ja (by omega))
                    have gsi := (HB.out.cell (p := ⟨bx, ox + i, none⟩) hbx).trans (HCX.out i hlt)
                    have zbx := Nat.lt_of_lt_of_le hbx HB.out.size
                    have HM := Lib.hid hm
                    have q1 : decide (elt s ja ≤ elt s i) = true := by simp [hfl]
                    have hm20 : m ≤ 12 := by omega
                    have hw1 : IntKind.i64.wrap (m : Int) = (m : Int) := IntWalk.i64_in _ (by omega)
                    have hw2 : ((m : Int) + 1 == 0) = false := by rw [beq_eq_false_iff_ne]; omega
                    have hw3 : (0 : Int) ≤ (m : Int) ∧ (m : Int) < (m : Int) + 1 := by omega
                    generalize elt s ja = sj at *
                    generalize elt s i = si at *
                    clear hm hja hle hrun
                    go_upto_region 18 with fail
                    go_quiet (fail)
                    have hOw6 := HO.out.later (Below.drewN' nq (bz wr))
                    have hBw6 : Below w1.heap.size w1 (wr.drewN nq) := btr HB.out (Below.drewN' nq (bz wr))
                    clear gc gf gja gsi zbx hgz q1 hfl hw1 hw2 hw3
                    generalize wr.drewN nq = w6 at *
                    have HOw6 := Lib.hid hOw6; have HBw6 := Lib.hid hBw6
                    clear hOw6 hBw6
                    have hzb := HBw6.out.size
                    go_wp2_with (at_builtin; refine Own3.push rfl _ _ rfl HOw6.out (i : Int) rfl rfl (by omega) hzb ?_)
                    intro u7 w7 hO7 hk7
                    have hB7 : Below w1.heap.size w1 w7 := hk7 w1 HBw6.out (Nat.le_refl _)
                    obtain ⟨g7, c7, e7⟩ := owns_form hO7.a
                    subst e7
                    have HO7 := Lib.hid hO7; have HB7 := Lib.hid hB7
                    clear hO7 hB7 hk7 hzb
                    go_upto_region 20 with fail
                    go_quiet (fail)
                    have hOw8 := HO7.out.later (Below.drewN' nq (bz w7))
                    have hBw8 : Below w1.heap.size w1 (w7.drewN nq) := btr HB7.out (Below.drewN' nq (bz w7))
                    generalize w7.drewN nq = w8 at *
                    have HOw8 := Lib.hid hOw8; have HBw8 := Lib.hid hBw8
                    clear hOw8 hBw8
                    go_wp2_with fail
                    go_roundw
                    case rel => exact ⟨i + 1, _, _, by omega, rfl, rfl, by go_num, by rw [HN.out]; exact HOw8.out, HBw8.out⟩
                    case measure => simp [intOf]; omega
                  · have hfit : fitB s A i = false := by unfold fitB; rw [decide_eq_false hle, decide_eq_false hz0]; rfl
                    have HN : Hid (G (i + 1) = (A, B)) := Lib.hid (by rw [HHG.out, if_neg (by rw [hfit]; simp), if_neg (by omega)])
                    clear HHG hfit
                    obtain ⟨m, hm⟩ : ∃ m, A.length = m + 1 := ⟨A.length - 1, by omega⟩
                    obtain ⟨g, c, eu, hgz, gc, gf⟩ := HO.out.a.get m (by omega)
                    obtain ⟨ja, hja, hjl⟩ := small_toNat (hrun.bd m (by omega)).1 (hrun.bd m (by omega)).2
                    have hfl : ¬ elt s ja ≤ elt s i := by
                      have := hle
                      unfold lastTp at this
                      rwa [hm, Nat.add_sub_cancel, hja, Int.toNat_natCast] at this
                    rw [hm] at eu HO ⊢
                    cases eu
                    rw [hja] at gc
                    have gja := (HB.out.cell (p := ⟨bx, ox + ja, none⟩) hbx).trans (HCX.out ja (by omega))
                    have gsi := (HB.out.cell (p := ⟨bx, ox + i, none⟩) hbx).trans (HCX.out i hlt)
                    have zbx := Nat.lt_of_lt_of_le hbx HB.out.size
                    have HM := Lib.hid hm
                    have q1 : decide (elt s ja ≤ elt s i) = false := by simp; omega
                    have hm20 : m ≤ 12 := by omega
                    have hw1 : IntKind.i64.wrap (m : Int) = (m : Int) := IntWalk.i64_in _ (by omega)
                    have hw2 : ((m : Int) + 1 == 0) = false := by rw [beq_eq_false_iff_ne]; omega
                    have hw3 : (0 : Int) ≤ (m : Int) ∧ (m : Int) < (m : Int) + 1 := by omega
                    generalize elt s ja = sj at *
                    generalize elt s i = si at *
                    clear hm hja hle hrun
                    go_upto_region 18 with fail
                    go_quiet (fail)
                    have hOw6 := HO.out.later (Below.drewN' nq (bz wr))
                    have hBw6 : Below w1.heap.size w1 (wr.drewN nq) := btr HB.out (Below.drewN' nq (bz wr))
                    clear gc gf gja gsi zbx hgz q1 hfl hw1 hw2 hw3
                    generalize wr.drewN nq = w6 at *
                    have HOw6 := Lib.hid hOw6; have HBw6 := Lib.hid hBw6
                    clear hOw6 hBw6
                    go_upto_region 20 with fail
                    go_quiet (fail)
                    have hOw7 := HOw6.out.later (Below.drewN' nq (bz w6))
                    have hBw7 : Below w1.heap.size w1 (w6.drewN nq) := btr HBw6.out (Below.drewN' nq (bz w6))
                    generalize w6.drewN nq = w7 at *
                    have HOw7 := Lib.hid hOw7; have HBw7 := Lib.hid hBw7
                    clear hOw7 hBw7
                    go_wp2_with fail
                    go_roundw
                    case rel => exact ⟨i + 1, _, _, by omega, rfl, rfl, by go_num, by rw [HN.out]; exact HOw7.out, HBw7.out⟩
                    case measure => simp [intOf]; omega
              · by_cases h2 : by' % 3 = 2
                · have ht : tg i = 2 := htv.trans h2
                  clear ht3
                  by_cases hz0 : B.length = 0
                  · have hfit : fitB s B i = true := by unfold fitB; rw [decide_eq_true hz0]; rfl
                    clear hrun1 hrun2
                    have HN : Hid (G (i + 1) = (A, B ++ [(i : Int)])) := Lib.hid (by rw [HHG.out, if_neg (by omega), if_pos ⟨ht, hfit⟩])
                    clear HHG hfit
                    go_upto_region 18 with fail
                    go_quiet (fail)
                    have hOw6 := HO.out.later (Below.drewN' nq (bz wr))
                    have hBw6 : Below w1.heap.size w1 (wr.drewN nq) := btr HB.out (Below.drewN' nq (bz wr))
                    generalize wr.drewN nq = w6 at *
                    have HOw6 := Lib.hid hOw6; have HBw6 := Lib.hid hBw6
                    clear hOw6 hBw6
                    have hl0 : B.length = 0 := hz0
                    obtain rfl : B = [] := List.eq_nil_of_length_eq_zero hl0
                    clear hz0 hl0
                    go_upto_region 20 with fail
                    go_quiet (fail)
                    have hOw7 := HOw6.out.later (Below.drewN' nq (bz w6))
                    have hBw7 : Below w1.heap.size w1 (w6.drewN nq) := btr HBw6.out (Below.drewN' nq (bz w6))
                    generalize w6.drewN nq = w7 at *
                    have HOw7 := Lib.hid hOw7; have HBw7 := Lib.hid hBw7
                    clear hOw7 hBw7
                    have HOs := Lib.hid HOw7.out.swap
                    clear HOw7
                    have hzb := HBw7.out.size
                    go_wp2_with (at_builtin; refine Own3.push rfl _ _ rfl HOs.out (i : Int) rfl rfl (by omega) hzb ?_)
                    intro u7 w8 hO7 hk7
                    have hB7 : Below w1.heap.size w1 w8 := hk7 w1 HBw7.out (Nat.le_refl _)
                    obtain ⟨g7, c7, e7⟩ := owns_form hO7.a
                    subst e7
                    have HO9 := Lib.hid hO7; have HB9 := Lib.hid hB7
                    clear hO7 hB7 hk7 hzb
                    have HO10 := Lib.hid HO9.out.swap; clear HO9
                    go_wp2_with fail
                    go_roundw
                    case rel => exact ⟨i + 1, _, _, by omega, rfl, rfl, by go_num, by rw [HN.out]; exact HO10.out, HB9.out⟩
                    case measure => simp [intOf]; omega
                  · have hrun := hrun2
                    clear hrun1 hrun2
                    by_cases hle : lastTp s B ≤ elt s i
                    · have hfit : fitB s B i = true := by unfold fitB; rw [decide_eq_true hle, Bool.or_true]
                      have HN : Hid (G (i + 1) = (A, B ++ [(i : Int)])) := Lib.hid (by rw [HHG.out, if_neg (by omega), if_pos ⟨ht, hfit⟩])
                      clear HHG hfit
                      go_upto_region 18 with fail
                      go_quiet (fail)
                      have hOw6 := HO.out.later (Below.drewN' nq (bz wr))
                      have hBw6 : Below w1.heap.size w1 (wr.drewN nq) := btr HB.out (Below.drewN' nq (bz wr))
                      generalize wr.drewN nq = w6 at *
                      have HOw6 := Lib.hid hOw6; have HBw6 := Lib.hid hBw6
                      clear hOw6 hBw6
                      obtain ⟨m, hm⟩ : ∃ m, B.length = m + 1 := ⟨B.length - 1, by omega⟩
                      obtain ⟨g, c, eu, hgz, gc, gf⟩ := HOw6.out.b.get m (by omega)
                      obtain ⟨ja, hja, hjl⟩ := small_toNat (hrun.bd m (by omega)).1 (hrun.bd m (by omega)).2
                      have hfl : elt s ja ≤ elt s i := by
                        have := hle
                        unfold lastTp at this
                        rwa [hm, Nat.add_sub_cancel, hja, Int.toNat_natCast] at this
                      rw [hm] at eu HOw6 ⊢
                      cases eu
                      rw [hja] at gc
                      have gja := (HBw6.out.cell (p := ⟨bx, ox + ja, none⟩) hbx).trans (HCX.out ja (by omega))
                      have gsi := (HBw6.out.cell (p := ⟨bx, ox + i, none⟩) hbx).trans (HCX.out i hlt)
                      have zbx := Nat.lt_of_lt_of_le hbx HBw6.out.size
                      have HM := Lib.hid hm
                      have q1 : decide (elt s ja ≤ elt s i) = true := by simp [hfl]
                      have hm20 : m ≤ 12 := by omega
                      have hw1 : IntKind.i64.wrap (m : Int) = (m : Int) := IntWalk.i64_in _ (by omega)
                      have hw2 : ((m : Int) + 1 == 0) = false := by rw [beq_eq_false_iff_ne]; omega
                      have hw3 : (0 : Int) ≤ (m : Int) ∧ (m : Int) < (m : Int) + 1 := by omega
                      generalize elt s ja = sj at *
                      generalize elt s i = si at *
                      clear hm hja hle hrun
                      go_upto_region 20 with fail
                      go_quiet (fail)
                      have hOw7 := HOw6.out.later (Below.drewN' nq (bz w6))
                      have hBw7 : Below w1.heap.size w1 (w6.drewN nq) := btr HBw6.out (Below.drewN' nq (bz w6))
                      clear gc gf gja gsi zbx hgz q1 hfl hw1 hw2 hw3
                      generalize w6.drewN nq = w7 at *
                      have HOw7 := Lib.hid hOw7; have HBw7 := Lib.hid hBw7
                      clear hOw7 hBw7
                      have HOs := Lib.hid HOw7.out.swap
                      clear HOw7
                      have hzb := HBw7.out.size
                      go_wp2_with (at_builtin; refine Own3.push rfl _ _ rfl HOs.out (i : Int) rfl rfl (by omega) hzb ?_)
                      intro u7 w8 hO7 hk7
                      have hB7 : Below w1.heap.size w1 w8 := hk7 w1 HBw7.out (Nat.le_refl _)
                      obtain ⟨g7, c7, e7⟩ := owns_form hO7.a
                      subst e7
                      have HO9 := Lib.hid hO7; have HB9 := Lib.hid hB7
                      clear hO7 hB7 hk7 hzb
                      have HO10 := Lib.hid HO9.out.swap; clear HO9
                      go_wp2_with fail
                      go_roundw
                      case rel => exact ⟨i + 1, _, _, by omega, rfl, rfl, by go_num, by rw [HN.out]; exact HO10.out, HB9.out⟩
                      case measure => simp [intOf]; omega
                    · have hfit : fitB s B i = false := by unfold fitB; rw [decide_eq_false hle, decide_eq_false hz0]; rfl
                      have HN : Hid (G (i + 1) = (A, B)) := Lib.hid (by rw [HHG.out, if_neg (by omega), if_neg (by rw [hfit]; simp)])
                      clear HHG hfit
                      go_upto_region 18 with fail
                      go_quiet (fail)
                      have hOw6 := HO.out.later (Below.drewN' nq (bz wr))
                      have hBw6 : Below w1.heap.size w1 (wr.drewN nq) := btr HB.out (Below.drewN' nq (bz wr))
                      generalize wr.drewN nq = w6 at *
                      have HOw6 := Lib.hid hOw6; have HBw6 := Lib.hid hBw6
                      clear hOw6 hBw6
                      obtain ⟨m, hm⟩ : ∃ m, B.length = m + 1 := ⟨B.length - 1, by omega⟩
                      obtain ⟨g, c, eu, hgz, gc, gf⟩ := HOw6.out.b.get m (by omega)
                      obtain ⟨ja, hja, hjl⟩ := small_toNat (hrun.bd m (by omega)).1 (hrun.bd m (by omega)).2
                      have hfl : ¬ elt s ja ≤ elt s i := by
                        have := hle
                        unfold lastTp at this
                        rwa [hm, Nat.add_sub_cancel, hja, Int.toNat_natCast] at this
                      rw [hm] at eu HOw6 ⊢
                      cases eu
                      rw [hja] at gc
                      have gja := (HBw6.out.cell (p := ⟨bx, ox + ja, none⟩) hbx).trans (HCX.out ja (by omega))
                      have gsi := (HBw6.out.cell (p := ⟨bx, ox + i, none⟩) hbx).trans (HCX.out i hlt)
                      have zbx := Nat.lt_of_lt_of_le hbx HBw6.out.size
                      have HM := Lib.hid hm
                      have q1 : decide (elt s ja ≤ elt s i) = false := by simp; omega
                      have hm20 : m ≤ 12 := by omega
                      have hw1 : IntKind.i64.wrap (m : Int) = (m : Int) := IntWalk.i64_in _ (by omega)
                      have hw2 : ((m : Int) + 1 == 0) = false := by rw [beq_eq_false_iff_ne]; omega
                      have hw3 : (0 : Int) ≤ (m : Int) ∧ (m : Int) < (m : Int) + 1 := by omega
                      generalize elt s ja = sj at *
                      generalize elt s i = si at *
                      clear hm hja hle hrun
                      go_upto_region 20 with fail
                      go_quiet (fail)
                      have hOw7 := HOw6.out.later (Below.drewN' nq (bz w6))
                      have hBw7 : Below w1.heap.size w1 (w6.drewN nq) := btr HBw6.out (Below.drewN' nq (bz w6))
                      clear gc gf gja gsi zbx hgz q1 hfl hw1 hw2 hw3
                      generalize w6.drewN nq = w7 at *
                      have HOw7 := Lib.hid hOw7; have HBw7 := Lib.hid hBw7
                      clear hOw7 hBw7
                      go_wp2_with fail
                      go_roundw
                      case rel => exact ⟨i + 1, _, _, by omega, rfl, rfl, by go_num, by rw [HN.out]; exact HOw7.out, HBw7.out⟩
                      case measure => simp [intOf]; omega
                · have h0 : by' % 3 = 0 := by omega
                  have ht : tg i = 0 := htv.trans h0
                  clear ht3 h1 h2 hrun1 hrun2
                  have HN : Hid (G (i + 1) = (A, B)) := Lib.hid (by rw [HHG.out, if_neg (by omega), if_neg (by omega)])
                  clear HHG
                  go_upto_region 18 with fail
                  go_quiet (fail)
                  have hOw6 := HO.out.later (Below.drewN' nq (bz wr))
                  have hBw6 : Below w1.heap.size w1 (wr.drewN nq) := btr HB.out (Below.drewN' nq (bz wr))
                  generalize wr.drewN nq = w6 at *
                  have HOw6 := Lib.hid hOw6; have HBw6 := Lib.hid hBw6
                  clear hOw6 hBw6
                  go_upto_region 20 with fail
                  go_quiet (fail)
                  have hOw7 := HOw6.out.later (Below.drewN' nq (bz w6))
                  have hBw7 : Below w1.heap.size w1 (w6.drewN nq) := btr HBw6.out (Below.drewN' nq (bz w6))
                  generalize w6.drewN nq = w7 at *
                  have HOw7 := Lib.hid hOw7; have HBw7 := Lib.hid hBw7
                  clear hOw7 hBw7
                  go_wp2_with fail
                  go_roundw
                  case rel => exact ⟨i + 1, _, _, by omega, rfl, rfl, by go_num, by rw [HN.out]; exact HOw7.out, HBw7.out⟩
                  case measure => simp [intOf]; omega
          · have hie : i = s.length := by omega
            subst hie
            have HRA := Lib.hid (run_risE HSS.out hrun1)
            have HRB := Lib.hid (run_risE HSS.out hrun2)
            have hmk := HMK.out
            generalize (G s.length).1 = A at *
            generalize (G s.length).2 = B at *
            obtain ⟨ga, ca2, ea⟩ := owns_form HO.out.a
            obtain ⟨gb, cb2, eb⟩ := owns_form HO.out.b
            subst ea
            subst eb
            have HAA := Lib.hid (keepI (RdI.of_owns HO.out.a))
            have HBB := Lib.hid (keepI (RdI.of_owns HO.out.b))
            have hsum : (A.length : Int) + (B.length : Int) ≤ (rn : Int) := by omega
            clear HO HHG hrun1 hrun2
            go_wp2_with fail
            refine (checkrising_lit _ _ s A _ _ wr (HHX.out.mono HB.out) (HAA.out.here) (by omega) (by omega) HRA.out).mono ?_
            rintro e w11 ⟨rfl, hB⟩
            have HB11 := Lib.hid hB; clear hB
            go_wp2_with fail
            refine (checkrising_lit _ _ s B _ _ w11 (HHX.out.mono (btr HB.out HB11.out)) (HBB.out _ HB11.out) (by omega) (by omega) HRB.out).mono ?_
            rintro e w12 ⟨rfl, hB⟩
            have HB12 := Lib.hid hB; clear hB
            go_wp2_with fail
            refine (works_any _).mono ?_
            rintro e w13 ⟨rfl, hB⟩
            have HB13 := Lib.hid hB; clear hB
            go_wp2_with fail
            go_ret
            exact ⟨rfl, btr (btr (btr (btr HBE.out HB.out) HB11.out) HB12.out) HB13.out⟩
set_option maxRecDepth 100000 in
set_option maxHeartbeats 3200000 in
theorem rackTwo_walk (x y : Value) (s bs : List Int) (w : World) (hx0 : RdI w .i64 x s) (hy0 : RdI w .u8 y bs) (hbs : ∀ i, i < bs.length → 0 ≤ elt bs i ∧ elt bs i ≤ 255) :
    Calls Try.prog 10 #[x, y] w fun e w' => e = .returned (.bool true) ∧ Below w.heap.size w w' := by
  by_cases hs : seqC s = 0
  · by_cases hl : bs.length ≤ 30
    · exact two_core x y s bs w hx0 hy0 hbs hs hl
    · have HF := Lib.hid (fine_any x s w hx0)
      rw [decide_eq_true hs] at HF
      obtain ⟨al, ca, rfl, _, _, _⟩ := hx0.form
      obtain ⟨bl, cb, rfl, _, _, _⟩ := hy0.form
      have n1 : (30 : Int) < (bs.length : Int) := by omega
      clear hx0 hs
      have KP0 := Lib.hid (keepB (bz w))
      go_enter Try.func10, Try.ntmps10
      go_wp2_with fail
      refine HF.out.mono ?_
      rintro e w' ⟨rfl, rfl⟩
      go_wp2_with fail
      refine (works_any _).mono ?_
      rintro e w1 ⟨rfl, hB⟩
      have KP1 := Lib.hid (KP0.out.up hB)
      clear KP0
      clear hB
      go_wp2_with fail
      have gBelow := KP1.out.here
      go_ret
      exact ⟨rfl, gBelow⟩
  · have HF := Lib.hid (fine_any x s w hx0)
    rw [decide_eq_false hs] at HF
    obtain ⟨al, ca, rfl, _, _, _⟩ := hx0.form
    obtain ⟨bl, cb, rfl, _, _, _⟩ := hy0.form
    clear hx0 hs
    have KP0 := Lib.hid (keepB (bz w))
    go_enter Try.func10, Try.ntmps10
    go_wp2_with fail
    refine HF.out.mono ?_
    rintro e w' ⟨rfl, rfl⟩
    go_wp2_with fail
    refine (works_any _).mono ?_
    rintro e w1 ⟨rfl, hB⟩
    have KP1 := Lib.hid (KP0.out.up hB)
    clear KP0
    clear hB
    go_wp2_with fail
    have gBelow := KP1.out.here
    go_ret
    exact ⟨rfl, gBelow⟩
section
open Go.ChangeShapes Go.WideShapes Go.ChangeAt
set_option maxRecDepth 100000 in
theorem rackTwo_lifted (os : Os) (started : os.Started) (H : Type) (enc : TypeId × Value → H) :
    ReturnsInHanded {} Try.checked os 10 .any (Rows.rackTwoSpec.pre6 enc Try.prog Try.f10 Rows.rackTwoRow.domain false) (Rows.rackTwoSpec.post enc Try.prog Try.f10 false true false false) := by
  refine returnsInHanded_of_change (C := Try.checked) Try.own started (by kernel_rfl) Try.func10
    (ChangeSpec.witness6 (enc := enc) (C := Try.checked) false ⟨#[], #[.slice none 0 0, .slice none 0 0], []⟩ 8 (by kernel_rfl) (by kernel_rfl) (by kernel_rfl) (by kernel_rfl)) ?_
  intro W base args ds gs before hval0 hW _ _
  have hval : ∀ (j : Nat) t v, Try.f10.params[j]? = some t → args[j]? = some v → Value.okWide Try.prog W .any base t v := hval0
  have hW' := hW
  obtain ⟨p, q, hA0, hV, rfl, hfz, hnd⟩ := hW
  have hA : DataW.TrodAll enc Try.prog W 0 (fun _ => true) true Try.f10.params.toList args.toList ds p := hA0
  have hA2 := hA
  have hlt : ∀ x ∈ p, x.block < W.heap.size := fun x hx => hW'.lt x (List.mem_append_left _ hx)
  rw [Try.params10] at hA hval
  obtain ⟨v0, vs0, d0, ds0, p0, q0, hargs, rfl, rfl, h0, r0⟩ := trodAll_cons hA
  obtain ⟨v1, vs1, d1, ds1, p1, q1, rfl, rfl, rfl, h1, r1⟩ := trodAll_cons r0
  obtain ⟨rfl, rfl, rfl⟩ := trodAll_nil r1
  obtain rfl : args = #[v0, v1] := by cases args; simp_all
  obtain ⟨rfl, rfl⟩ := trodVars_none hV
  obtain ⟨X0, hx0, hw0⟩ := open_ints_rd Try.underlying31 Try.underlying3 (by kernel_rfl) (hval 0 31 v0 rfl rfl) h0 (fun x hx => hlt x (by simp [hx]))
  obtain ⟨X1, hx1, hw1⟩ := open_ints_rd Try.underlying44 Try.underlying5 (by kernel_rfl) (hval 1 44 v1 rfl rfl) h1 (fun x hx => hlt x (by simp [hx]))
  clear hA0 hval0
  simp only [List.append_nil] at hW' hA2
  refine (rackTwo_walk v0 v1 X0 X1 W hx0 hx1 (fun i hi => wf8 (hw1 _ (elt_mem hi)))).mono fun e W' ⟨he, hb⟩ => ?_
  subst he
  exact ⟨_, rfl, law_post Try.laidOut Try.underlying4 hW' hA2 rfl rfl rfl rfl rfl (by kernel_rfl) hb⟩
theorem rackTwo_holds : Rows.RackTwoSaid :=
  OpenClaim.holds_of_wide 10 Try.f10 rfl rfl rfl rfl rfl rfl rfl ⟨rfl, rfl, rfl, rfl, rfl⟩ rfl rfl rfl rfl rfl (by kernel_rfl) Try.func10 (by kernel_rfl)
    (of_decide_eq_true (by kernel_rfl)) (by unfold Func.isWrapper; first | (rw [if_pos (by decide +kernel)]; kernel_rfl) | (rw [if_neg (by decide +kernel)]; exact ⟨rfl, rfl⟩))
    (fun os started H enc _ => rackTwo_lifted os started H enc)
end
end Go.Proofs.Ytnnfahdhmodejaa
