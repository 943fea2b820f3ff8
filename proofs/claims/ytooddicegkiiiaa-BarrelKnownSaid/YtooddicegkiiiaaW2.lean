/- CheckGroup of the program. -/
import Derived.Test.YtooddicegkiiiaaW1
namespace Go.Proofs.Ytooddicegkiiiaa
open Go.RowKit Go.Shelf

/-- Strictly increasing numbers of pins, from N on. -/
def incB (n : Nat) : Int → List Int → Bool
  | _, [] => true
  | N, i :: r => !outB N ((n : Int) - 1) i && incB n (i + 1) r
/-- The indexes as numbers. -/
def ixs (g : List Int) : List Nat := g.map Int.toNat
theorem incB_spec (n : Nat) : ∀ (g : List Int) (N : Int), 0 ≤ N → incB n N g = true → natL (ixs g) = g ∧ (ixs g).Pairwise (· < ·) ∧ (∀ i ∈ ixs g, N ≤ (i : Int) ∧ i < n)
  | [], _, _, _ => ⟨rfl, List.Pairwise.nil, by simp [ixs]⟩
  | i :: r, N, hN, h => by
    simp only [incB, Bool.and_eq_true, Bool.not_eq_true'] at h
    obtain ⟨h1, h2⟩ := h
    have hi : N ≤ i ∧ i ≤ (n : Int) - 1 := by simp [outB] at h1; omega
    obtain ⟨i1, i2, i3⟩ := incB_spec n r (i + 1) (by omega) h2
    refine ⟨?_, ?_, ?_⟩
    · simp only [ixs, natL, List.map_cons] at i1 ⊢
      rw [i1, Int.toNat_of_nonneg (by omega)]
    · simp only [ixs, List.map_cons, List.pairwise_cons] at i2 ⊢
      refine ⟨fun a ha => ?_, i2⟩
      have := (i3 a ha).1
      omega
    · intro a ha
      simp only [ixs, List.map_cons, List.mem_cons] at ha
      rcases ha with rfl | ha
      · omega
      · have := i3 a ha; omega
theorem incB_inc {V : List (Int × Int)} {g : List Int} (h : incB V.length 0 g = true) : natL (ixs g) = g ∧ Inc V (ixs g) := by
  obtain ⟨h1, h2, h3⟩ := incB_spec _ g 0 (by omega) h
  exact ⟨h1, h2, fun i hi => (h3 i hi).2⟩
/-- What CheckGroup returns. -/
def cgE (V : List (Int × Int)) (g : List Int) : Int := if checkP V ≠ 0 then checkP V else if incB V.length 0 g then (if Grp V (ixs g) then 0 else 21) else 2

set_option maxRecDepth 100000 in
set_option maxHeartbeats 1000000 in
theorem checkgroup_any (x y : Value) (V : List (Int × Int)) (g : List Int) (w : World) (hx0 : RdP w x V) (hy0 : RdI w .i64 y g) (hl : V.length ≤ 1000) (hg : g.length ≤ 1000) :
    Calls Try.prog 37 #[x, y] w fun e w' => e = .returned (.int .i64 (cgE V g)) ∧ Below w.heap.size w w' := by
  obtain ⟨a, ca, rfl, _, _, _⟩ := hx0.form
  by_cases hc : checkP V = 0
  · have hV := okPins_of hc
    have h1 := hV.l1; have h5 := hV.l5
    have HO := Lib.hid (open_ok _ _ V [] w hx0 (rdI_nil _ _) (by simp) (by rw [openE_nil]; exact hc))
    have e1 : cgE V g = if incB V.length 0 g then (if Grp V (ixs g) then 0 else 21) else 2 := by unfold cgE; rw [if_neg (by simpa using hc)]
    have E1 := Lib.hid e1; clear e1 hc
    obtain ⟨ay, cy, rfl, hcy, hcy2, hy⟩ := hy0.form
    clear hcy2
    go_enter Try.func37, Try.ntmps37
    go_wp2_with fail
    refine HO.out.mono ?_
    rintro e w2 ⟨b, rfl, hb, hD, hB2⟩
    have HD := Lib.hid hD; have HB2 := Lib.hid hB2; have HY0 := Lib.hid hy0
    clear hD hB2 hb hy0
    go_wp2_with fail
    go_loopw [7, 9, 20] (fun s7 _ s20 wr => ∃ (k : Nat) (N : Int), k ≤ g.length ∧ s20 = .int .i64 k ∧ s7 = .int .i64 N ∧ 0 ≤ N ∧ N ≤ 5 ∧ incB V.length 0 g = incB V.length N (g.drop k) ∧ Below w2.heap.size w2 wr) (fun _ _ s20 _ => g.length - (intOf s20).toNat)
    case atStart => exact ⟨0, 0, Nat.zero_le _, rfl, rfl, by omega, by omega, by rw [List.drop_zero], bz _⟩
    case round =>
      obtain ⟨k, N, hk, rfl, rfl, hN0, hN5, hI, hB⟩ := hrel
      by_cases hlt : k < g.length
      · obtain ⟨by', oy, rfl, hby, hcell⟩ := hy (by omega)
        have gk := ((btr HB2.out hB).cell (p := ⟨by', oy + k, none⟩) hby).trans (hcell k hlt)
        have hd : g.drop k = (g[k]?.getD 0) :: g.drop (k + 1) := by
          rw [List.drop_eq_getElem_cons hlt]; simp [hlt]
        rw [hd] at hI
        simp only [incB] at hI
        have HB := Lib.hid hB
        clear hy hcell hd hB
        generalize g[k]?.getD 0 = gk' at *
        cases ho : [gk'].any (outB N ((V.length : Int) - 1))
        · have hr : N ≤ gk' ∧ gk' ≤ (V.length : Int) - 1 := by simp [outB] at ho; omega
          have ho2 : outB N ((V.length : Int) - 1) gk' = false := by simpa using ho
          rw [ho2] at hI
          obtain ⟨r1, r2⟩ := hr
          have HH := Lib.hid ho; have HI := Lib.hid hI; clear ho hI ho2
          go_wp2_with fail
          refine (within_any _ [gk'] _ _ _ (slice_one _ _ _) (by simp)).mono ?_
          rintro e w3 ⟨rfl, hB3⟩
          rw [HH.out]
          go_wp2_with fail
          go_roundw
          case rel =>
            refine ⟨k + 1, gk' + 1, by omega, by go_num, rfl, by omega, by omega, ?_, btr HB.out (btr (bal (bz _) _) hB3)⟩
            have := HI.out; simpa using this
          case measure => simp [intOf]; omega
        · have ho2 : outB N ((V.length : Int) - 1) gk' = true := by simpa using ho
          rw [ho2] at hI
          have HH := Lib.hid ho; have HI := Lib.hid hI; clear ho hI ho2
          go_wp2_with fail
          refine (within_any _ [gk'] _ _ _ (slice_one _ _ _) (by simp)).mono ?_
          rintro e w3 ⟨rfl, hB3⟩
          rw [HH.out]
          go_wp2_with fail
          go_ret
          refine ⟨ret_int ?_, btr HB2.out (btr HB.out (btr (bal (bz _) _) hB3))⟩
          rw [E1.out, HI.out]; rfl
      · have hkl : k = g.length := by omega
        have hI' : incB V.length 0 g = true := by rw [hI, hkl, List.drop_length]; rfl
        obtain ⟨i1, i2⟩ := incB_inc hI'
        have HI := Lib.hid hI'; have HI1 := Lib.hid i1; have HI2 := Lib.hid i2
        have HG := Lib.hid (isgroup_any b V _ (ixs g) wr (HD.out.mono hB) (by rw [i1]; exact HY0.out.mono (btr HB2.out hB)) i2 (by simp [ixs]; omega))
        clear hI hI' i1 i2 hkl
        generalize hq : decide (Grp V (ixs g)) = q at *
        have HQ := Lib.hid hq; clear hq
        go_wp2_with fail
        refine HG.out.mono ?_
        rintro e w3 ⟨rfl, rfl⟩
        cases q
        · go_wp2_with fail
          go_ret
          refine ⟨ret_int ?_, btr HB2.out hB⟩
          rw [E1.out, HI.out, if_pos rfl, if_neg (by have := HQ.out; simpa using this)]
        · go_wp2_with fail
          go_ret
          refine ⟨ret_int ?_, btr HB2.out hB⟩
          rw [E1.out, HI.out, if_pos rfl, if_pos (by have := HQ.out; simpa using this)]
  · have HO := Lib.hid (open_no _ _ V [] w hx0 (rdI_nil _ _) hl (by simp) (by rw [openE_nil]; exact hc))
    have e1 : cgE V g = checkP V := by unfold cgE; rw [if_pos (by simpa using hc)]
    rw [e1]; clear e1
    rw [openE_nil] at HO
    have hcb : (checkP V != 0) = true := by simpa using hc
    have hce : (checkP V == 0) = false := by simpa using hc
    clear hc
    generalize checkP V = q at *
    obtain ⟨ay, cy, rfl, hcy, hcy2, hy⟩ := hy0.form
    clear hcy2 hy hy0
    go_enter Try.func37, Try.ntmps37
    go_wp2_with fail
    refine HO.out.mono ?_
    rintro e w2 ⟨rfl, hB2⟩
    go_wp2_with fail
    go_ret
    exact ⟨rfl, hB2⟩
end Go.Proofs.Ytooddicegkiiiaa
