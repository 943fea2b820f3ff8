/- RackLongest: a longest rising run, and the fewest falling ones; no condition. -/
import Derived.Test.YtnnfahdhmodejaaMQg
import Derived.Test.YtnnfahdhmodejaaML13
import Derived.Test.YtnnfahdhmodejaaMGI
namespace Go.Proofs.Ytnnfahdhmodejaa
open Go.RowKit Go.Shelf

theorem u16_and1 (n : Int) : bits .and .u16 n 1 = n % 2 := by
  have h1 : (BitVec.ofInt 16 1).toNat = 2 ^ 1 - 1 := by decide
  have key : (BitVec.ofInt 16 n &&& BitVec.ofInt 16 1).toNat = (n % ((2 ^ 16 : Nat) : Int)).toNat % 2 ^ 1 := by
    rw [BitVec.toNat_and, BitVec.toNat_ofInt, h1, Nat.and_two_pow_sub_one_eq_mod]
  show IntKind.u16.wrap ((BitVec.ofInt 16 n &&& BitVec.ofInt 16 1).toNat : Nat) = n % 2
  rw [key]
  simp [IntKind.wrap, IntKind.signed, IntKind.bits]
  omega
/-- The numbers of the bits that are set. -/
def bitB (b i : Nat) : Bool := b / 2 ^ i % 2 == 1
def onB (b n : Nat) : List Int := ((List.range n).filter (bitB b)).map fun (i : Nat) => (i : Int)
theorem onB_succ (b n : Nat) : onB b (n + 1) = if bitB b n then onB b n ++ [(n : Int)] else onB b n := by
  unfold onB
  rw [List.range_succ, List.filter_append, List.map_append]
  cases h : bitB b n <;> simp [h]
theorem onB_le (b n : Nat) : (onB b n).length ≤ n := by
  have := List.length_filter_le (bitB b) (List.range n)
  rw [List.length_range] at this
  simpa [onB] using this
theorem onB_lis (b n : Nat) : LisTo (onB b n) n (onB b n).length := by
  have hp : (onB b n).Pairwise (· < ·) := by
    unfold onB
    rw [List.pairwise_map]
    exact (List.Pairwise.filter _ (List.pairwise_lt_range (n := n))).imp (fun h => by omega)
  intro i hi
  have hm := elt_mem hi
  obtain ⟨j, hj, e⟩ := List.mem_map.1 hm
  have hj := List.mem_range.1 (List.mem_filter.1 hj).1
  exact ⟨by omega, by omega, fun h0 => strict_of hp (i - 1) i (by omega) hi⟩
theorem own_risE {s : List Int} (hs : seqC s = 0) (b : Nat) : (risE s (onB b s.length) = (((onB b s.length).length : Int), 0) ∧ (onB b s.length).length ≤ (row (bldR s s.length).1 0).length) ∨ risE s (onB b s.length) = (0, 22) := by
  unfold risE
  rw [if_neg (by simp [hs]), (lisB_iff _ _).2 (onB_lis b s.length), if_neg (by simp)]
  cases hr : risB s (onB b s.length) with
  | true =>
    left
    rw [if_pos rfl]
    refine ⟨rfl, run_short ⟨fun i hi => ?_, fun i h0 hi => ?_, fun i h0 hi => (risB_iff _ _).1 hr i h0 hi⟩⟩
    · exact ⟨(onB_lis b s.length i hi).1, (onB_lis b s.length i hi).2.1⟩
    · exact (onB_lis b s.length i hi).2.2 h0
  | false => right; rw [if_neg (by simp)]
theorem pil_sml {s : List Int} (hs : seqC s = 0) : Sml (pilP s s.length).1 := by
  have h := pilOk s s.length
  have h12 := (seqC_ok hs).1
  exact ⟨by have := h.most; omega, fun i => by have := h.size i; omega⟩
set_option maxRecDepth 100000 in
set_option maxHeartbeats 8000000 in
theorem longest_core (x z : Value) (s : List Int) (b : Nat) (X : List (List Int)) (w : World) (hx0 : RdI w .i64 x s) (hz0 : RdLL w z X) (hb : b ≤ 65535) (hX : Sml X) (hs : seqC s = 0) :
    Calls Try.prog 9 #[x, .int .u16 b, z] w fun e w' => e = .returned (.bool true) ∧ Below w.heap.size w w' := by
  have HSR := Lib.hid (built_sml hs).1
  have h12 := (seqC_ok hs).1
  have HSS := Lib.hid hs
  have HSX := Lib.hid hX
  obtain ⟨A, hA1, hA2, hA3⟩ := rising_ok hs
  have HA1 := Lib.hid hA1
  have HA4 := Lib.hid (run_risE hs hA2)
  have HP1 := Lib.hid (fallsE_ok hs)
  have HP2 := Lib.hid (pil_falE hs)
  have HSP := Lib.hid (pil_sml hs)
  have HOW := Lib.hid (own_risE hs b)
  have HCV := Lib.hid (fun y => cover_most (A := A) (R := X) (y := y) hs hA2)
  have HAL := Lib.hid (show A.length ≤ 1000 by have := (built_sml hs).1.2 0; omega)
  have HA3 := Lib.hid hA3
  have HG := Lib.hid (fun wz h => great_lit z X wz h hX)
  have HF := Lib.hid (fine_any x s w hx0)
  rw [decide_eq_true hs] at HF
  obtain ⟨al, ca, rfl, _, _, _⟩ := hx0.form
  obtain ⟨zl, cz, rfl⟩ := hz0.sl
  have KP0 := Lib.hid (((keepB (bz w)).and (keepI hx0)).and (keepL hz0))
  have HBU := Lib.hid (fun wz h => built_any (.slice al s.length ca) s wz h HSS.out)
  generalize (bldR s s.length).1 = R at *
  generalize (bldR s s.length).2 = O at *
  generalize (pilP s s.length).1 = P at *
  rw [hA3] at HA4
  have HA5 := Lib.hid HA4.out
  generalize hM : (row R 0).length = M at *
  have HM := Lib.hid hM
  have hm20 : M ≤ 20 := by have := HSR.out.2 0; omega
  have hr20 := HSR.out.1
  clear hx0 hz0 hs hX hA1 hA2 hA3 hM HA4
  go_enter Try.func9, Try.ntmps9
  go_wp2_with fail
  refine HF.out.mono ?_
  rintro e w' ⟨rfl, rfl⟩
  go_wp2_with fail
  have gz := KP0.out.here.1
  refine (HG.out _ gz).mono ?_
  rintro e w1 ⟨rfl, hB⟩
  have KP1 := Lib.hid (KP0.out.up hB)
  clear KP0
  clear hB
  clear gz
  go_wp2_with fail
  have gx := KP1.out.here.2.1
  refine (HBU.out _ gx).mono ?_
  rintro e w2 ⟨vr, vo, rfl, hRr, hRo, hB⟩
  obtain ⟨ptr, qtr, hv⟩ := exL hRr R.length rfl
  subst hv
  obtain ⟨pto, qto, hv⟩ := exL hRo O.length rfl
  subst hv
  have KP2 := Lib.hid (((KP1.out.up hB).and (keepL hRr)).and (keepL hRo))
  clear KP1
  clear hB hRr hRo
  clear gx
  go_wp2_with fail
  have gx := KP2.out.here.2.2.2.1
  refine (rising_lit _ s A 0 _ gx (by omega) HA1.out).mono ?_
  rintro e w3 ⟨vup, rfl, hRup, hB⟩
  obtain ⟨ptup, qtup, hv⟩ := exI hRup A.length rfl
  subst hv
  have KP3 := Lib.hid ((KP2.out.up hB).and (keepI hRup))
  clear KP2
  clear hB hRup
  clear gx
  go_wp2_with fail
  have gx := KP3.out.here.2.2.2.2.1
  refine (falls_lit _ s P 0 _ gx (by omega) HP1.out).mono ?_
  rintro e w4 ⟨vdn, rfl, hRdn, hB⟩
  obtain ⟨ptdn, qtdn, hv⟩ := exL hRdn P.length rfl
  subst hv
  have KP4 := Lib.hid ((KP3.out.up hB).and (keepL hRdn))
  clear KP3
  clear hB hRdn
  clear gx
  by_cases hr0 : R.length = 0
  · have hM0 : M = 0 := by rw [← HM.out, row_ge (by omega)]; rfl
    have t1 : ¬ (0 : Int) < (R.length : Int) := by omega
    subst hM0
    clear hr0
    have HP2 := Lib.hid (show falE s P = ((0 : Int), 0) from HP2.out); have HA5 := Lib.hid (show risE s A = ((0 : Int), 0) from HA5.out)
    go_wp2_with fail
    have gx := KP4.out.here.2.2.2.2.2.1
    have gup := KP4.out.here.2.1
    refine (checkrising_lit _ _ s A (0 : Int) 0 _ gx gup (by omega) HAL.out HA5.out).mono ?_
    rintro e w5 ⟨rfl, hB⟩
    have KP5 := Lib.hid (KP4.out.up hB)
    clear KP4
    clear hB
    clear gx gup
    go_wp2_with fail
    have gx := KP5.out.here.2.2.2.2.2.1
    have gdn := KP5.out.here.1
    refine (checkfalls_lit _ _ s P (0 : Int) 0 _ gx gdn (by omega) HSP.out HP2.out).mono ?_
    rintro e w6 ⟨rfl, hB⟩
    have KP6 := Lib.hid (KP5.out.up hB)
    clear KP5
    clear hB
    clear gx gdn
    go_wp2_with fail
    have gx := KP6.out.here.2.2.2.2.2.1
    have gup := KP6.out.here.2.1
    refine (rcheckrising_lit _ _ s A (0 : Int) 0 _ gx gup (by omega) HAL.out HA5.out).mono ?_
    rintro e w7 ⟨rfl, hB⟩
    have KP7 := Lib.hid (KP6.out.up hB)
    clear KP6
    clear hB
    clear gx gup
    go_wp2_with fail
    have gx := KP7.out.here.2.2.2.2.2.1
    have gdn := KP7.out.here.1
    refine (rcheckfalls_lit _ _ s P (0 : Int) 0 _ gx gdn (by omega) HSP.out HP2.out).mono ?_
    rintro e w8 ⟨rfl, hB⟩
    have KP8 := Lib.hid (KP7.out.up hB)
    clear KP7
    clear hB
    clear gx gdn
    have n7 : ((0 : Int) != (0 : Int)) = false := by simp
    go_wp2_with fail
    have HHX := Lib.hid (KP8.out.here.2.2.2.2.2.1)
    have HHZ := Lib.hid (KP8.out.here.2.2.2.2.1)
    have HBE := Lib.hid (KP8.out.here.2.2.2.2.2.2)
    clear KP8 n7
    go_loopw [21, 22] (fun s21 s22 wr => ∃ (k : Nat) (u : Value), k ≤ s.length ∧ u = s21 ∧ s22 = .int .i64 k ∧ Own3 wr w8.heap.size u (.slice none 0 0) (.slice none 0 0) (onB b k) [] [] ∧ Below w8.heap.size w8 wr) (fun _ s22 _ => s.length - (intOf s22).toNat)
    case atStart => exact ⟨0, _, Nat.zero_le _, rfl, rfl, Own3.nil _ _, bz _⟩
    case round =>
      obtain ⟨k, u, hk, rfl, rfl, hO, hB⟩ := hrel
      obtain ⟨gu, cu, eu⟩ := owns_form hO.a
      subst eu
      have HO := Lib.hid hO; have HB := Lib.hid hB; clear hO hB
      have hll := onB_le b k
      by_cases hlt : k < s.length
      · have HS := Lib.hid (onB_succ b k)
        have hand := u16_and1 ((b : Int) / 2 ^ k)
        have hbit : ((b : Int) / 2 ^ k % 2 == 1) = bitB b k := by
          unfold bitB
          rw [Bool.eq_iff_iff]
          simp only [beq_iff_eq]
          rw [show (2 : Int) ^ k = ((2 ^ k : Nat) : Int) by simp, ← Int.natCast_ediv]
          omega
        generalize bitB b k = bb at *
        generalize onB b k = g at *
        cases bb
        · go_wp2_with fail
          go_roundw
          case rel => exact ⟨k + 1, _, by omega, rfl, by go_num, by rw [HS.out]; exact HO.out, HB.out⟩
          case measure => simp [intOf]; omega
        · have hzb := HB.out.size
          go_wp2_with (at_builtin; refine Own3.push rfl _ _ rfl HO.out (k : Int) rfl rfl (by omega) hzb ?_)
          intro u7 w7 hO7 hk7
          have hB7 : Below w8.heap.size w8 w7 := hk7 w8 HB.out (Nat.le_refl _)
          obtain ⟨g7, c7, e7⟩ := owns_form hO7.a
          subst e7
          have HO7 := Lib.hid hO7; have HB7 := Lib.hid hB7
          clear hO7 hB7 hk7 hzb
          go_wp2_with fail
          go_roundw
          case rel => exact ⟨k + 1, _, by omega, rfl, by go_num, by rw [HS.out]; exact HO7.out, HB7.out⟩
          case measure => simp [intOf]; omega
      · have hke : k = s.length := by omega
        subst hke
        have HOO := Lib.hid (keepI (RdI.of_owns HO.out.a))
        have hown := HOW.out
        generalize onB b s.length = g at *
        obtain ⟨y, c⟩ : Int × Int := (0, 0)
        obtain ⟨y, hy⟩ : ∃ y, y = (falE s X).1 := ⟨_, rfl⟩
        obtain ⟨c, hc⟩ : ∃ c, c = (falE s X).2 := ⟨_, rfl⟩
        have HFX : Hid (falE s X = (y, c)) := Lib.hid (by rw [hy, hc])
        have HYM : Hid (c = 0 → (0 : Int) ≤ y) := Lib.hid (fun h0 => by have h1 := HCV.out y (by rw [HFX.out, h0]); have h3 := HA3.out; omega)
        clear hy hc HO
        rcases hown with ⟨h1, h2⟩ | h1
        all_goals
          try (have hg0 : g.length = 0 := by omega
               have hg1 := List.eq_nil_of_length_eq_zero hg0
               subst hg1
               clear hg0)
          have HR1 := Lib.hid h1
          clear h1
          go_wp2_with fail
          refine (checkrising_lit _ _ s _ _ _ wr (HHX.out.mono HB.out) (HOO.out.here) (by omega) (by omega) HR1.out).mono ?_
          rintro e w31 ⟨rfl, hB⟩
          have HB31 := Lib.hid (btr HB.out hB); clear hB
          go_wp2_with fail
          refine (checkfalls_lit _ _ s X y c w31 (HHX.out.mono HB31.out) (HHZ.out.mono HB31.out) (by omega) HSX.out HFX.out).mono ?_
          rintro e w32 ⟨rfl, hB⟩
          have HB32 := Lib.hid (btr HB31.out hB); clear hB
          try (have h2' : (g.length : Int) ≤ (0 : Int) := by omega)
          by_cases hc0 : c = 0
          · have hym := HYM.out hc0
            subst hc0
            go_wp2_with fail
            refine (works_any _).mono ?_
            rintro e w33 ⟨rfl, hB⟩
            have HB33 := Lib.hid (btr HB32.out hB); clear hB
            go_wp2_with fail
            go_ret
            exact ⟨rfl, btr HBE.out HB33.out⟩
          · have t9 : (c != 0) = true := by simp [hc0]
            clear hc0
            go_wp2_with fail
            refine (works_any _).mono ?_
            rintro e w33 ⟨rfl, hB⟩
            have HB33 := Lib.hid (btr HB32.out hB); clear hB
            go_wp2_with fail
            go_ret
            exact ⟨rfl, btr HBE.out HB33.out⟩
  · have t1 : (0 : Int) < (R.length : Int) := by omega
    obtain ⟨b0, off0, a0, c0, e0, hb0, hc0, _⟩ := (KP4.out.here.2.2.2.1).get 0 (by omega)
    cases e0
    rw [HM.out, Nat.add_zero] at hc0
    clear hr0
    go_wp2_with fail
    have gx := KP4.out.here.2.2.2.2.2.1
    have gup := KP4.out.here.2.1
    refine (checkrising_lit _ _ s A (M : Int) 0 _ gx gup (by omega) HAL.out HA5.out).mono ?_
    rintro e w5 ⟨rfl, hB⟩
    have KP5 := Lib.hid (KP4.out.up hB)
    clear KP4
    clear hB
    clear gx gup
    go_wp2_with fail
    have gx := KP5.out.here.2.2.2.2.2.1
    have gdn := KP5.out.here.1
    refine (checkfalls_lit _ _ s P (M : Int) 0 _ gx gdn (by omega) HSP.out HP2.out).mono ?_
    rintro e w6 ⟨rfl, hB⟩
    have KP6 := Lib.hid (KP5.out.up hB)
    clear KP5
    clear hB
    clear gx gdn
    go_wp2_with fail
    have gx := KP6.out.here.2.2.2.2.2.1
    have gup := KP6.out.here.2.1
    refine (rcheckrising_lit _ _ s A (M : Int) 0 _ gx gup (by omega) HAL.out HA5.out).mono ?_
    rintro e w7 ⟨rfl, hB⟩
    have KP7 := Lib.hid (KP6.out.up hB)
    clear KP6
    clear hB
    clear gx gup
    go_wp2_with fail
    have gx := KP7.out.here.2.2.2.2.2.1
    have gdn := KP7.out.here.1
    refine (rcheckfalls_lit _ _ s P (M : Int) 0 _ gx gdn (by omega) HSP.out HP2.out).mono ?_
    rintro e w8 ⟨rfl, hB⟩
    have KP8 := Lib.hid (KP7.out.up hB)
    clear KP7
    clear hB
    clear gx gdn
    have n7 : ((M : Int) != (M : Int)) = false := by simp
    go_wp2_with fail
    have HHX := Lib.hid (KP8.out.here.2.2.2.2.2.1)
    have HHZ := Lib.hid (KP8.out.here.2.2.2.2.1)
    have HBE := Lib.hid (KP8.out.here.2.2.2.2.2.2)
    clear KP8 n7
    go_loopw [21, 22] (fun s21 s22 wr => ∃ (k : Nat) (u : Value), k ≤ s.length ∧ u = s21 ∧ s22 = .int .i64 k ∧ Own3 wr w8.heap.size u (.slice none 0 0) (.slice none 0 0) (onB b k) [] [] ∧ Below w8.heap.size w8 wr) (fun _ s22 _ => s.length - (intOf s22).toNat)
    case atStart => exact ⟨0, _, Nat.zero_le _, rfl, rfl, Own3.nil _ _, bz _⟩
    case round =>
      obtain ⟨k, u, hk, rfl, rfl, hO, hB⟩ := hrel
      obtain ⟨gu, cu, eu⟩ := owns_form hO.a
      subst eu
      have HO := Lib.hid hO; have HB := Lib.hid hB; clear hO hB
      have hll := onB_le b k
      by_cases hlt : k < s.length
      · have HS := Lib.hid (onB_succ b k)
        have hand := u16_and1 ((b : Int) / 2 ^ k)
        have hbit : ((b : Int) / 2 ^ k % 2 == 1) = bitB b k := by
          unfold bitB
          rw [Bool.eq_iff_iff]
          simp only [beq_iff_eq]
          rw [show (2 : Int) ^ k = ((2 ^ k : Nat) : Int) by simp, ← Int.natCast_ediv]
          omega
        generalize bitB b k = bb at *
        generalize onB b k = g at *
        cases bb
        · go_wp2_with fail
          go_roundw
          case rel => exact ⟨k + 1, _, by omega, rfl, by go_num, by rw [HS.out]; exact HO.out, HB.out⟩
          case measure => simp [intOf]; omega
        · have hzb := HB.out.size
          go_wp2_with (at_builtin; refine Own3.push rfl _ _ rfl HO.out (k : Int) rfl rfl (by omega) hzb ?_)
          intro u7 w7 hO7 hk7
          have hB7 : Below w8.heap.size w8 w7 := hk7 w8 HB.out (Nat.le_refl _)
          obtain ⟨g7, c7, e7⟩ := owns_form hO7.a
          subst e7
          have HO7 := Lib.hid hO7; have HB7 := Lib.hid hB7
          clear hO7 hB7 hk7 hzb
          go_wp2_with fail
          go_roundw
          case rel => exact ⟨k + 1, _, by omega, rfl, by go_num, by rw [HS.out]; exact HO7.out, HB7.out⟩
          case measure => simp [intOf]; omega
      · have hke : k = s.length := by omega
        subst hke
        have HOO := Lib.hid (keepI (RdI.of_owns HO.out.a))
        have hown := HOW.out
        generalize onB b s.length = g at *
        obtain ⟨y, c⟩ : Int × Int := (0, 0)
        obtain ⟨y, hy⟩ : ∃ y, y = (falE s X).1 := ⟨_, rfl⟩
        obtain ⟨c, hc⟩ : ∃ c, c = (falE s X).2 := ⟨_, rfl⟩
        have HFX : Hid (falE s X = (y, c)) := Lib.hid (by rw [hy, hc])
        have HYM : Hid (c = 0 → (M : Int) ≤ y) := Lib.hid (fun h0 => by have h1 := HCV.out y (by rw [HFX.out, h0]); have h3 := HA3.out; omega)
        clear hy hc HO
        rcases hown with ⟨h1, h2⟩ | h1
        all_goals
          try (have hg0 : g.length = 0 := by omega
               have hg1 := List.eq_nil_of_length_eq_zero hg0
               subst hg1
               clear hg0)
          have HR1 := Lib.hid h1
          clear h1
          go_wp2_with fail
          refine (checkrising_lit _ _ s _ _ _ wr (HHX.out.mono HB.out) (HOO.out.here) (by omega) (by omega) HR1.out).mono ?_
          rintro e w31 ⟨rfl, hB⟩
          have HB31 := Lib.hid (btr HB.out hB); clear hB
          go_wp2_with fail
          refine (checkfalls_lit _ _ s X y c w31 (HHX.out.mono HB31.out) (HHZ.out.mono HB31.out) (by omega) HSX.out HFX.out).mono ?_
          rintro e w32 ⟨rfl, hB⟩
          have HB32 := Lib.hid (btr HB31.out hB); clear hB
          try (have h2' : (g.length : Int) ≤ (M : Int) := by omega)
          by_cases hc0 : c = 0
          · have hym := HYM.out hc0
            subst hc0
            go_wp2_with fail
            refine (works_any _).mono ?_
            rintro e w33 ⟨rfl, hB⟩
            have HB33 := Lib.hid (btr HB32.out hB); clear hB
            go_wp2_with fail
            go_ret
            exact ⟨rfl, btr HBE.out HB33.out⟩
          · have t9 : (c != 0) = true := by simp [hc0]
            clear hc0
            go_wp2_with fail
            refine (works_any _).mono ?_
            rintro e w33 ⟨rfl, hB⟩
            have HB33 := Lib.hid (btr HB32.out hB); clear hB
            go_wp2_with fail
            go_ret
            exact ⟨rfl, btr HBE.out HB33.out⟩
set_option maxRecDepth 100000 in
set_option maxHeartbeats 3200000 in
theorem rackLongest_walk (x z : Value) (s : List Int) (b : Int) (X : List (List Int)) (w : World) (hx0 : RdI w .i64 x s) (hz0 : RdLL w z X) (hb0 : 0 ≤ b) (hb : b ≤ 65535) :
    Calls Try.prog 9 #[x, .int .u16 b, z] w fun e w' => e = .returned (.bool true) ∧ Below w.heap.size w w' := by
  obtain ⟨b, rfl⟩ := Int.eq_ofNat_of_zero_le hb0
  by_cases hs : seqC s = 0
  · cases hg : greatB X with
    | false => exact longest_core x z s b X w hx0 hz0 (by omega) (great_sml hg) hs
    | true =>
      have HF := Lib.hid (fine_any x s w hx0)
      rw [decide_eq_true hs] at HF
      obtain ⟨al, ca, rfl, _, _, _⟩ := hx0.form
      have HG := Lib.hid (great_any z X w hz0)
      rw [hg] at HG
      obtain ⟨zl, cz, rfl⟩ := hz0.sl
      clear hx0 hz0 hs hg
      have KP0 := Lib.hid (keepB (bz w))
      go_enter Try.func9, Try.ntmps9
      go_wp2_with fail
      refine HF.out.mono ?_
      rintro e w' ⟨rfl, rfl⟩
      go_wp2_with fail
      refine HG.out.mono ?_
      rintro e w' ⟨rfl, rfl⟩
      go_wp2_with fail
      refine (works_any _).mono ?_
      rintro e w1 ⟨rfl, hB⟩
      have KP1 := Lib.hid (KP0.out.up hB)
      clear KP0
      clear hB
      go_wp2_with fail
      have gBelow := KP1.out.here
      go_ret
      exact ⟨rfl, gBelow⟩
  · have HF := Lib.hid (fine_any x s w hx0)
    rw [decide_eq_false hs] at HF
    obtain ⟨al, ca, rfl, _, _, _⟩ := hx0.form
    obtain ⟨zl, cz, rfl⟩ := hz0.sl
    clear hx0 hz0 hs
    have KP0 := Lib.hid (keepB (bz w))
    go_enter Try.func9, Try.ntmps9
    go_wp2_with fail
    refine HF.out.mono ?_
    rintro e w' ⟨rfl, rfl⟩
    go_wp2_with fail
    refine (works_any _).mono ?_
    rintro e w1 ⟨rfl, hB⟩
    have KP1 := Lib.hid (KP0.out.up hB)
    clear KP0
    clear hB
    go_wp2_with fail
    have gBelow := KP1.out.here
    go_ret
    exact ⟨rfl, gBelow⟩
section
open Go.ChangeShapes Go.WideShapes Go.ChangeAt
set_option maxRecDepth 100000 in
theorem rackLongest_lifted (os : Os) (started : os.Started) (H : Type) (enc : TypeId × Value → H) :
    ReturnsInHanded {} Try.checked os 9 .any (Rows.rackLongestSpec.pre6 enc Try.prog Try.f9 Rows.rackLongestRow.domain false) (Rows.rackLongestSpec.post enc Try.prog Try.f9 false true false false) := by
  refine returnsInHanded_of_change (C := Try.checked) Try.own started (by kernel_rfl) Try.func9
    (ChangeSpec.witness6 (enc := enc) (C := Try.checked) false ⟨#[], #[.slice none 0 0, .int .u16 0, .slice none 0 0], []⟩ 8 (by kernel_rfl) (by kernel_rfl) (by kernel_rfl) (by kernel_rfl)) ?_
  intro W base args ds gs before hval0 hW _ _
  have hval : ∀ (j : Nat) t v, Try.f9.params[j]? = some t → args[j]? = some v → Value.okWide Try.prog W .any base t v := hval0
  have hW' := hW
  obtain ⟨p, q, hA0, hV, rfl, hfz, hnd⟩ := hW
  have hA : DataW.TrodAll enc Try.prog W 0 (fun _ => true) true Try.f9.params.toList args.toList ds p := hA0
  have hA2 := hA
  have hlt : ∀ x ∈ p, x.block < W.heap.size := fun x hx => hW'.lt x (List.mem_append_left _ hx)
  rw [Try.params9] at hA hval
  obtain ⟨v0, vs0, d0, ds0, p0, q0, hargs, rfl, rfl, h0, r0⟩ := trodAll_cons hA
  obtain ⟨v1, vs1, d1, ds1, p1, q1, rfl, rfl, rfl, h1, r1⟩ := trodAll_cons r0
  obtain ⟨v2, vs2, d2, ds2, p2, q2, rfl, rfl, rfl, h2, r2⟩ := trodAll_cons r1
  obtain ⟨rfl, rfl, rfl⟩ := trodAll_nil r2
  obtain rfl : args = #[v0, v1, v2] := by cases args; simp_all
  obtain ⟨rfl, rfl⟩ := trodVars_none hV
  obtain ⟨X0, hx0, hw0⟩ := open_ints_rd Try.underlying31 Try.underlying3 (by kernel_rfl) (hval 0 31 v0 rfl rfl) h0 (fun x hx => hlt x (by simp [hx]))
  obtain ⟨a1, rfl, rfl, rfl, w1⟩ := open_int Try.underlying52 (hval 1 52 v1 rfl rfl) h1
  obtain ⟨X2, hx2⟩ := open_rows (hval 2 22 v2 rfl rfl) h2 (fun x hx => hlt x (by simp [hx]))
  clear hA0 hval0
  simp only [List.append_nil] at hW' hA2
  refine (rackLongest_walk v0 v2 X0 a1 X2 W hx0 hx2 (wf16 w1).1 (wf16 w1).2).mono fun e W' ⟨he, hb⟩ => ?_
  subst he
  exact ⟨_, rfl, law_post Try.laidOut Try.underlying4 hW' hA2 rfl rfl rfl rfl rfl (by kernel_rfl) hb⟩
theorem rackLongest_holds : Rows.RackLongestSaid :=
  OpenClaim.holds_of_wide 9 Try.f9 rfl rfl rfl rfl rfl rfl rfl ⟨rfl, rfl, rfl, rfl, rfl⟩ rfl rfl rfl rfl rfl (by kernel_rfl) Try.func9 (by kernel_rfl)
    (of_decide_eq_true (by kernel_rfl)) (by unfold Func.isWrapper; first | (rw [if_pos (by decide +kernel)]; kernel_rfl) | (rw [if_neg (by decide +kernel)]; exact ⟨rfl, rfl⟩))
    (fun os started H enc _ => rackLongest_lifted os started H enc)
end
end Go.Proofs.Ytnnfahdhmodejaa
