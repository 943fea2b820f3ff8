/- The document's Group. -/
import Derived.Test.YtooddicegkiiiaaR12
namespace Go.Proofs.Ytooddicegkiiiaa
open Go.RowKit Go.Shelf

/-- Whether a list takes the best one's place. -/
def btr2 (V : List (Int × Int)) (x b : List Nat) : Bool := (cgE V (natL x) == 0) && (decide (b.length < x.length) || ((x.length == b.length) && befB (natL x) (natL b)))
/-- The best of the lists that the bits below m say. -/
def rgrK (V : List (Int × Int)) : Nat → List Nat
  | 0 => []
  | m + 1 => if btr2 V (lst m V.length) (rgrK V m) then lst m V.length else rgrK V m
def rgrN (V : List (Int × Int)) : List Nat := if checkP V = 0 then rgrK V (2 ^ V.length) else []
def RGrpOk (V : List (Int × Int)) (w : World) (e : Ending) (w' : World) : Prop := ∃ v, e = .returned (.tuple #[v, .int .i64 (checkP V)]) ∧ RdI w' .i64 v (natL (rgrN V)) ∧ Below w.heap.size w w'
theorem rgrK_le (V : List (Int × Int)) : ∀ m, (rgrK V m).length ≤ V.length
  | 0 => Nat.zero_le _
  | m + 1 => by
    rw [rgrK]
    split
    · exact lst_le _ _
    · exact rgrK_le V m
set_option maxRecDepth 100000 in
set_option maxHeartbeats 2000000 in
theorem rgroup_any (x : Value) (V : List (Int × Int)) (w : World) (hx0 : RdP w x V) (hl : V.length ≤ 1000) :
    Calls Try.prog 36 #[x] w (RGrpOk V w) := by
  obtain ⟨a, ca, rfl, hca, hca2, _⟩ := hx0.form
  clear hca2
  unfold RGrpOk
  have HK := Lib.hid (fun w' hx => rcheck_any (.slice a V.length ca) V w' hx hl)
  have HX0 := Lib.hid hx0; clear hx0
  by_cases hc : checkP V = 0
  · rw [show rgrN V = rgrK V (2 ^ V.length) from by unfold rgrN; rw [if_pos hc], hc]
    rw [hc] at HK
    have hV := okPins_of hc
    have h1 := hV.l1; have h5 := hV.l5
    clear hc hV
    have hsh : IntKind.i64.wrap ((2 : Int) ^ V.length) = ((2 ^ V.length : Nat) : Int) ∧ 2 ^ V.length ≤ 32 := by
      generalize V.length = n at h1 h5
      match n, h1, h5 with
      | 1, _, _ => decide
      | 2, _, _ => decide
      | 3, _, _ => decide
      | 4, _, _ => decide
      | 5, _, _ => decide
    obtain ⟨hsh, hm32⟩ := hsh
    have HG := Lib.hid (fun b y w' (hx : RdP w' (.slice a V.length ca) V) hy hle => rcheckgroup_any (.slice a V.length ca) y V (natL (lst b V.length)) w' hx hy hl hle)
    have HLE := Lib.hid (rgrK_le V)
    generalize 2 ^ V.length = M at *
    go_enter Try.func36, Try.ntmps36
    go_wp2_with fail
    refine (HK.out _ HX0.out).mono ?_
    rintro e w2 ⟨rfl, hB2⟩
    have HB2 := Lib.hid hB2; clear hB2
    go_wp2_with fail
    go_loopw [4, 5, 6] (fun s4 i _ wr => ∃ (k : Nat) (v : Value), k ≤ M ∧ v = s4 ∧ i = .int .i64 k ∧ RdI wr .i64 v (natL (rgrK V k)) ∧ Below w.heap.size w wr) (fun _ i _ _ => M - (intOf i).toNat)
    case atStart => exact ⟨0, _, Nat.zero_le _, rfl, rfl, rdI_nil _ _, HB2.out⟩
    case round =>
      obtain ⟨k, v, hk, rfl, rfl, hv, hB⟩ := hrel
      obtain ⟨av, cv, rfl, hcv, hcv2, _⟩ := hv.form
      have hbl := HLE.out k
      rw [natL_len] at hv hcv ⊢
      have HVV := Lib.hid hv; have HB := Lib.hid hB
      clear hv hB hcv2
      by_cases hlt : k < M
      · have hxl := lst_le k V.length
        have HS : Hid (rgrK V (k + 1) = if btr2 V (lst k V.length) (rgrK V k) then lst k V.length else rgrK V k) := Lib.hid rfl
        unfold btr2 at HS
        have HG2 := Lib.hid (fun y w' hx hy => HG.out k y w' hx hy (by rw [natL_len]; omega))
        have HLI := Lib.hid (fun w' => listed_any k V.length w' (by omega))
        have HBF := Lib.hid (fun x y w' hx hy he hle => before_any x y (natL (lst k V.length)) (natL (rgrK V k)) w' hx hy he hle)
        rw [natL_len, natL_len] at HBF
        generalize lst k V.length = g at *
        generalize rgrK V k = b at *
        generalize cgE V (natL g) = ce at *
        generalize befB (natL g) (natL b) = bf at *
        go_wp2_with fail
        refine (HLI.out _).mono ?_
        rintro e w3 ⟨xv, rfl, hxv, hB3⟩
        obtain ⟨ax, cx, rfl, hcx, hcx2, _⟩ := hxv.form
        rw [natL_len] at hxv hcx ⊢
        have HXV := Lib.hid hxv; have HB3 := Lib.hid hB3
        clear hxv hB3 hcx2
        go_wp2_with fail
        refine (HG2.out _ _ (HX0.out.mono (btr HB.out HB3.out)) HXV.out).mono ?_
        rintro e w4 ⟨rfl, hB4⟩
        have HB4 := Lib.hid (btr HB.out (btr HB3.out hB4))
        have HXV4 := Lib.hid (HXV.out.mono hB4)
        have HVV4 := Lib.hid (HVV.out.mono (btr HB3.out hB4))
        clear hB4
        by_cases hce : ce = 0
        · subst hce
          rcases Nat.lt_trichotomy b.length g.length with hbg | hbg | hbg
          · have t1 : decide ((b.length : Int) < (g.length : Int)) = true := decide_eq_true (by omega)
            have t2 : decide (b.length < g.length) = true := decide_eq_true hbg
            rw [t2] at HS
            go_wp2_with fail
            go_roundw
            case rel => exact ⟨k + 1, _, by omega, rfl, by go_num, by rw [HS.out]; exact HXV4.out, HB4.out⟩
            case measure => simp [intOf]; omega
          · have t1 : decide ((b.length : Int) < (g.length : Int)) = false := decide_eq_false (by omega)
            have t2 : decide (b.length < g.length) = false := decide_eq_false (by omega)
            have t3 : ((g.length : Int) == (b.length : Int)) = true := by simp; omega
            have t4 : (g.length == b.length) = true := by simp; omega
            rw [t2, t4] at HS
            have HBF2 := Lib.hid (HBF.out _ _ _ HXV4.out HVV4.out hbg.symm (by omega))
            have HE := Lib.hid hbg; clear hbg
            cases bf
            · go_wp2_with fail
              refine HBF2.out.mono ?_
              rintro e w5 ⟨rfl, hB5⟩
              go_wp2_with fail
              go_roundw
              case rel => exact ⟨k + 1, _, by omega, rfl, by go_num, by rw [HS.out]; exact HVV4.out.mono hB5, btr HB4.out hB5⟩
              case measure => simp [intOf]; omega
            · go_wp2_with fail
              refine HBF2.out.mono ?_
              rintro e w5 ⟨rfl, hB5⟩
              go_wp2_with fail
              go_roundw
              case rel => exact ⟨k + 1, _, by omega, rfl, by go_num, by rw [HS.out]; exact HXV4.out.mono hB5, btr HB4.out hB5⟩
              case measure => simp [intOf]; omega
          · have t1 : decide ((b.length : Int) < (g.length : Int)) = false := decide_eq_false (by omega)
            have t2 : decide (b.length < g.length) = false := decide_eq_false (by omega)
            have t3 : ((g.length : Int) == (b.length : Int)) = false := by simp; omega
            have t4 : (g.length == b.length) = false := by simp; omega
            rw [t2, t4] at HS
            go_wp2_with fail
            go_roundw
            case rel => exact ⟨k + 1, _, by omega, rfl, by go_num, by rw [HS.out]; exact HVV4.out, HB4.out⟩
            case measure => simp [intOf]; omega
        · have t1 : (ce == 0) = false := by simpa using hce
          rw [t1] at HS
          clear hce
          go_wp2_with fail
          go_roundw
          case rel => exact ⟨k + 1, _, by omega, rfl, by go_num, by rw [HS.out]; exact HVV4.out, HB4.out⟩
          case measure => simp [intOf]; omega
      · have hkl : k = M := by omega
        go_wp2_with fail
        go_ret2
        exact ⟨_, rfl, by rw [← hkl]; exact HVV.out, HB.out⟩
  · rw [show rgrN V = [] from by unfold rgrN; rw [if_neg hc]]
    have hcb : (checkP V != 0) = true := by simpa using hc
    have hce : (checkP V == 0) = false := by simpa using hc
    clear hc
    generalize checkP V = q at *
    go_enter Try.func36, Try.ntmps36
    go_wp2_with fail
    refine (HK.out _ HX0.out).mono ?_
    rintro e w2 ⟨rfl, hB2⟩
    go_wp2_with fail
    refine (HK.out _ (HX0.out.mono hB2)).mono ?_
    rintro e w3 ⟨rfl, hB3⟩
    go_wp2_with fail
    go_ret2
    exact ⟨_, rfl, rdI_nil _ _, btr hB2 hB3⟩
end Go.Proofs.Ytooddicegkiiiaa
