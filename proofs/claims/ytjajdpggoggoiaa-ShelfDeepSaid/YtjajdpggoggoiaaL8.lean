/- ShelfDeep holds; no condition. -/
import Derived.Test.YtjajdpggoggoiaaH4
namespace Go.Proofs.Ytjajdpggoggoiaa
open Go.RowKit Go.Shelf

theorem depL_at {W : List Int} {i : Nat} (hi : i < W.length) : (depL W W.length)[i]?.getD 0 = depthD W i := by simp [depL, hi]
theorem mem_take_pos {W : List Int} {i : Nat} (hi : i ≤ W.length) {x : Int} : x ∉ W.take i ↔ ∀ k, k < i → want W k ≠ x := by
  rw [mem_take hi]; constructor
  · intro h k hk e; exact h ⟨k, hk, e⟩
  · rintro h ⟨k, hk, e⟩; exact h k hk e

set_option maxRecDepth 100000 in
set_option maxHeartbeats 16000000 in
theorem shelfDeep_walk (R : Int) (x : Value) (W : List Int) (w : World) (hx0 : RdI w .i64 x W) :
    Calls Try.prog 8 #[.agg #[.int .i64 R, x]] w fun e w' => e = .returned (.bool true) ∧ Below w.heap.size w w' := by
  obtain ⟨a, c, rfl⟩ := hx0.ex _ rfl
  obtain ⟨_, _, e, hca, _, hxf⟩ := hx0.form
  cases e
  by_cases hc : checkD R W = 0
  · obtain ⟨wA, hwA⟩ : ∃ wA, w.alloc (.cells #[.int .i64 R, .slice a W.length c] 24) = wA := ⟨_, rfl⟩
    have HBA := Lib.hid (show Below w.heap.size w wA by rw [← hwA]; exact bal (bz w) _)
    have hr0 : wA.cell? ⟨w.heap.size, 0, none⟩ = some (.int .i64 R) := by rw [← hwA]; exact cnew rfl rfl
    have hr1 : wA.cell? ⟨w.heap.size, 1, none⟩ = some (.slice a W.length c) := by rw [← hwA]; exact cnew rfl rfl
    have hrz : w.heap.size < wA.heap.size := by rw [← hwA]; simp
    have HR0 := Lib.hid (fun wz (hB : Below wA.heap.size wA wz) => (hB.cell (p := ⟨w.heap.size, 0, none⟩) hrz).trans hr0)
    have HR1 := Lib.hid (fun wz (hB : Below wA.heap.size wA wz) => (hB.cell (p := ⟨w.heap.size, 1, none⟩) hrz).trans hr1)
    have HRZ := Lib.hid (fun wz (hB : Below wA.heap.size wA wz) => Nat.lt_of_lt_of_le hrz hB.size)
    have HX := Lib.hid (hx0.mono HBA.out)
    clear hr0 hr1 hrz hx0
    have CW := Lib.hid (fun wz (hB : Below wA.heap.size wA wz) => works_any wz)
    have CF := Lib.hid (fun wz (hB : Below wA.heap.size wA wz) => fine_yes R _ W wz (HX.out.mono hB) hc)
    have hd := okD_of hc
    have h16 := hd.l16
    have C2 := Lib.hid (fun wz (hB : Below wA.heap.size wA wz) => fetched_any R _ W 2 wz (HX.out.mono hB) hc (by omega) (by omega))
    have C3 := Lib.hid (fun wz (hB : Below wA.heap.size wA wz) => depths_any R _ W wz (HX.out.mono hB) (by omega))
    have hdp : dpsL R W = depL W W.length := by unfold dpsL; rw [if_pos hc]
    rw [hdp, hc] at C3
    have hal := depL_len W W.length
    have hat : ∀ i, i < W.length → (depL W W.length)[i]?.getD 0 = depthD W i ∧ 0 ≤ depthD W i ∧ depthD W i ≤ 8 ∧ (decide (depthD W i = 0) = !decide (want W i ∈ W.take i)) ∧ decide ((i : Int) ∈ fetR R 2 W) = decide (depthD W i = 0 ∨ R < depthD W i) := fun i hi => by
      obtain ⟨g1, g2, g3⟩ := depth_bd hd hi
      refine ⟨depL_at hi, g1, g2, ?_, ?_⟩
      · rw [← mem_take_pos (by omega)] at g3
        by_cases h : depthD W i = 0
        · rw [decide_eq_true h]; simp [g3.1 h]
        · rw [decide_eq_false h, eq_comm, Bool.not_eq_false', decide_eq_true_eq]
          exact Classical.byContradiction fun h2 => h (g3.2 h2)
      · refine decide_eq_decide.2 ?_
        unfold fetR
        rw [mem_fet hi, deep_run hd hi, Classical.not_not]
    have HAT := Lib.hid hat
    have HXF := Lib.hid hxf
    have hFR : (fetR R 2 W).length ≤ W.length := fetR_len
    clear hc hdp hd hat hxf
    generalize fetR R 2 W = F at *
    generalize depL W W.length = A at *
    have KB0 := Lib.hid (bz wA)
    go_enter Try.func8, Try.ntmps8
    go_upto_region 1 with fail
    try rw [hwA]
    clear hwA
    have r0 := HR0.out _ KB0.out; have r1 := HR1.out _ KB0.out; have rz := HRZ.out _ KB0.out
    go_wp2_with fail
    clear r0 r1 rz
    refine (CF.out _ KB0.out).mono ?_
    rintro e w1 ⟨rfl, hk⟩
    have KB1 := Lib.hid (btr KB0.out hk)
    clear KB0 hk
    have r0 := HR0.out _ KB1.out; have r1 := HR1.out _ KB1.out; have rz := HRZ.out _ KB1.out
    go_wp2_with fail
    clear r0 r1 rz
    refine (C2.out _ KB1.out).mono ?_
    rintro e w2 ⟨u2, rfl, fF, hk⟩
    obtain ⟨aF, cF, hv⟩ := fF.ex F.length rfl
    subst hv
    have KB2 := Lib.hid (btr KB1.out hk)
    have HF2 := Lib.hid fF
    clear KB1 fF hk
    have r0 := HR0.out _ KB2.out; have r1 := HR1.out _ KB2.out; have rz := HRZ.out _ KB2.out
    go_wp2_with fail
    clear r0 r1 rz
    refine (C3.out _ KB2.out).mono ?_
    rintro e w3 ⟨u3, rfl, fA, hk⟩
    obtain ⟨aA, cA, hv⟩ := fA.ex W.length hal
    subst hv
    have KB3 := Lib.hid (btr KB2.out hk)
    have HF3 := Lib.hid (HF2.out.mono hk)
    have HA3 := Lib.hid fA
    clear KB2 HF2 fA hk
    have r0 := HR0.out _ KB3.out; have r1 := HR1.out _ KB3.out; have rz := HRZ.out _ KB3.out
    go_wp2_with fail
    clear r0 r1 rz
    obtain ⟨_, _, e, hcA, _, haf⟩ := HA3.out.form
    rw [hal] at e hcA haf
    cases e
    have HAF := Lib.hid haf
    have HFF := HF3
    clear haf
    go_loopw [7] (fun s7 wr => ∃ k : Nat, k ≤ W.length ∧ s7 = .int .i64 k ∧ Below w3.heap.size w3 wr) (fun s7 _ => W.length - (intOf s7).toNat)
    case atStart => exact ⟨0, by omega, rfl, bz _⟩
    case round =>
      obtain ⟨k, hk, rfl, hBr⟩ := hrel
      have HBN := Lib.hid hBr
      have HBR := Lib.hid (btr KB3.out hBr)
      clear hBr
      by_cases hlt : k < W.length
      · obtain ⟨bx, ox, rfl, hbx, hcx⟩ := HXF.out (by omega)
        obtain ⟨ba, oa, rfl, hba, hcA2⟩ := HAF.out (by omega)
        have HBW := Lib.hid (btr HBA.out HBR.out)
        have gx := (HBW.out.cell (p := ⟨bx, ox + k, none⟩) hbx).trans (hcx k hlt)
        have zx := Nat.lt_of_lt_of_le hbx HBW.out.size
        change wr.cell? _ = some (Value.int .i64 (want W k)) at gx
        obtain ⟨at1, at2, at3, at4, at5⟩ := HAT.out k hlt
        have ga := (HBN.out.cell (p := ⟨ba, oa + k, none⟩) hba).trans (hcA2 k hlt)
        have za := Nat.lt_of_lt_of_le hba HBN.out.size
        rw [at1] at ga
        have hs := run_cutToI bx ox W.length c k (by omega)
        have HRD := Lib.hid (fun n => (rdI_pre ((HX.out.mono HBR.out).mono (Below.drewN' n (bz wr))) (k := k) hk))
        have HRF := Lib.hid (fun n => (HFF.out.mono HBN.out).mono (Below.drewN' n (bz wr)))
        have HHS := Lib.hid (fun wz hx => rhas_any (.slice (some ⟨bx, ox, none⟩) k c) (W.take k) (want W k) wz hx (by rw [List.length_take]; omega))
        have HHT := Lib.hid (fun wz hx => rhas_any (.slice aF F.length cF) F (k : Int) wz hx (by omega))
        rw [any_eqB] at HHS HHT
        rw [at5] at HHT
        have r0 := HR0.out _ HBR.out; have r1 := HR1.out _ HBR.out; have rz := HRZ.out _ HBR.out
        obtain ⟨bb, hbb⟩ : ∃ bb, decide (want W k ∈ W.take k) = bb := ⟨_, rfl⟩
        rw [hbb] at HHS at4
        clear at1 at5 hbb hcx hcA2
        generalize want W k = q at *
        generalize depthD W k = p at *
        by_cases c0 : p = 0
        · subst c0
          rw [decide_eq_true rfl] at at4
          obtain rfl : bb = false := by cases bb; rfl; exact absurd at4 (by decide)
          rw [decide_eq_true (.inl rfl)] at HHT
          clear at4
          go_upto_region 10 with fail
          go_quiet ((go_at_call 39; exact Calls.quiet_of_same ((HHS.out _ (HRD.out _)).mono (fun e w' h => ⟨h.1, h.2.symm⟩))))
          go_upto_region 11 with fail
          go_big_quiet ((go_at_call 39; exact ((HHT.out _ (HRF.out _)).mono (fun e w' h => ⟨h.1, _, h.2.symm⟩))))
          go_wp2_with fail
          go_roundw
          case rel => exact ⟨k + 1, by omega, rfl, Below.drewN' _ HBN.out⟩
          case measure => simp [intOf]; omega
        · rw [decide_eq_false c0] at at4
          obtain rfl : bb = true := by cases bb; exact absurd at4 (by decide); rfl
          have d0 : decide (p < 0) = false := decide_eq_false (by omega)
          have d8 : decide (8 < p) = false := decide_eq_false (by omega)
          have dz : (p == 0) = false := by simpa using c0
          by_cases c1 : R < p
          · have d1 : decide (R < p) = true := decide_eq_true c1
            rw [decide_eq_true (.inr c1)] at HHT
            clear at4
            go_upto_region 10 with fail
            go_quiet ((go_at_call 39; exact Calls.quiet_of_same ((HHS.out _ (HRD.out _)).mono (fun e w' h => ⟨h.1, h.2.symm⟩))))
            go_upto_region 11 with fail
            go_big_quiet ((go_at_call 39; exact ((HHT.out _ (HRF.out _)).mono (fun e w' h => ⟨h.1, _, h.2.symm⟩))))
            go_wp2_with fail
            go_roundw
            case rel => exact ⟨k + 1, by omega, rfl, Below.drewN' _ HBN.out⟩
            case measure => simp [intOf]; omega
          · have d1 : decide (R < p) = false := decide_eq_false c1
            rw [decide_eq_false (by rintro (h | h); exact c0 h; exact c1 h)] at HHT
            clear at4
            go_upto_region 10 with fail
            go_quiet ((go_at_call 39; exact Calls.quiet_of_same ((HHS.out _ (HRD.out _)).mono (fun e w' h => ⟨h.1, h.2.symm⟩))))
            go_upto_region 11 with fail
            go_big_quiet ((go_at_call 39; exact ((HHT.out _ (HRF.out _)).mono (fun e w' h => ⟨h.1, _, h.2.symm⟩))))
            go_wp2_with fail
            go_roundw
            case rel => exact ⟨k + 1, by omega, rfl, Below.drewN' _ HBN.out⟩
            case measure => simp [intOf]; omega
      · have hke : k = W.length := by omega
        subst hke
        clear hlt hk
        have r0 := HR0.out _ HBR.out; have r1 := HR1.out _ HBR.out; have rz := HRZ.out _ HBR.out
        go_wp2_with fail
        clear r0 r1 rz
        refine (CW.out _ HBR.out).mono ?_
        rintro e w1 ⟨rfl, hk⟩
        have KB1 := Lib.hid (btr HBR.out hk)
        clear HBR hk
        have r0 := HR0.out _ KB1.out; have r1 := HR1.out _ KB1.out; have rz := HRZ.out _ KB1.out
        go_wp2_with fail
        clear r0 r1 rz
        go_ret
        exact ⟨rfl, btr HBA.out KB1.out⟩
  · obtain ⟨wA, hwA⟩ : ∃ wA, w.alloc (.cells #[.int .i64 R, .slice a W.length c] 24) = wA := ⟨_, rfl⟩
    have HBA := Lib.hid (show Below w.heap.size w wA by rw [← hwA]; exact bal (bz w) _)
    have hr0 : wA.cell? ⟨w.heap.size, 0, none⟩ = some (.int .i64 R) := by rw [← hwA]; exact cnew rfl rfl
    have hr1 : wA.cell? ⟨w.heap.size, 1, none⟩ = some (.slice a W.length c) := by rw [← hwA]; exact cnew rfl rfl
    have hrz : w.heap.size < wA.heap.size := by rw [← hwA]; simp
    have HR0 := Lib.hid (fun wz (hB : Below wA.heap.size wA wz) => (hB.cell (p := ⟨w.heap.size, 0, none⟩) hrz).trans hr0)
    have HR1 := Lib.hid (fun wz (hB : Below wA.heap.size wA wz) => (hB.cell (p := ⟨w.heap.size, 1, none⟩) hrz).trans hr1)
    have HRZ := Lib.hid (fun wz (hB : Below wA.heap.size wA wz) => Nat.lt_of_lt_of_le hrz hB.size)
    have HX := Lib.hid (hx0.mono HBA.out)
    clear hr0 hr1 hrz hx0
    have CW := Lib.hid (fun wz (hB : Below wA.heap.size wA wz) => works_any wz)
    have CF := Lib.hid (fun wz (hB : Below wA.heap.size wA wz) => fine_no R _ W wz (HX.out.mono hB) hc)
    clear hc hxf
    have KB0 := Lib.hid (bz wA)
    go_enter Try.func8, Try.ntmps8
    go_upto_region 1 with fail
    try rw [hwA]
    clear hwA
    have r0 := HR0.out _ KB0.out; have r1 := HR1.out _ KB0.out; have rz := HRZ.out _ KB0.out
    go_wp2_with fail
    clear r0 r1 rz
    refine (CF.out _ KB0.out).mono ?_
    rintro e w1 ⟨rfl, hk⟩
    have KB1 := Lib.hid (btr KB0.out hk)
    clear KB0 hk
    have r0 := HR0.out _ KB1.out; have r1 := HR1.out _ KB1.out; have rz := HRZ.out _ KB1.out
    go_wp2_with fail
    clear r0 r1 rz
    refine (CW.out _ KB1.out).mono ?_
    rintro e w2 ⟨rfl, hk⟩
    have KB2 := Lib.hid (btr KB1.out hk)
    clear KB1 hk
    have r0 := HR0.out _ KB2.out; have r1 := HR1.out _ KB2.out; have rz := HRZ.out _ KB2.out
    go_wp2_with fail
    clear r0 r1 rz
    go_ret
    exact ⟨rfl, btr HBA.out KB2.out⟩
section
open Go.ChangeShapes Go.WideShapes Go.ChangeAt
set_option maxRecDepth 100000 in
theorem shelfDeep_lifted (os : Os) (started : os.Started) (H : Type) (enc : TypeId × Value → H) :
    ReturnsInHanded {} Try.checked os 8 .any (Rows.shelfDeepSpec.pre6 enc Try.prog Try.f8 Rows.shelfDeepRow.domain false) (Rows.shelfDeepSpec.post enc Try.prog Try.f8 false true false false) := by
  refine returnsInHanded_of_change (C := Try.checked) Try.own started (by kernel_rfl) Try.func8
    (ChangeSpec.witness6 (enc := enc) (C := Try.checked) false ⟨#[], #[.agg #[.int .i64 0, .slice none 0 0]], []⟩ 8 (by kernel_rfl) (by kernel_rfl) (by kernel_rfl) (by kernel_rfl)) ?_
  intro W base args ds gs before hval0 hW _ _
  have hval : ∀ (j : Nat) t v, Try.f8.params[j]? = some t → args[j]? = some v → Value.okWide Try.prog W .any base t v := hval0
  have hW' := hW
  obtain ⟨p, q, hA0, hV, rfl, hfz, hnd⟩ := hW
  have hA : DataW.TrodAll enc Try.prog W 0 (fun _ => true) true Try.f8.params.toList args.toList ds p := hA0
  have hA2 := hA
  have hlt : ∀ x ∈ p, x.block < W.heap.size := fun x hx => hW'.lt x (List.mem_append_left _ hx)
  rw [Try.params8] at hA hval
  obtain ⟨v0, vs0, d0, ds0, p0, q0, hargs, rfl, rfl, h0, r0⟩ := trodAll_cons hA
  obtain ⟨rfl, rfl, rfl⟩ := trodAll_nil r0
  obtain rfl : args = #[v0] := by cases args; simp_all
  obtain ⟨rfl, rfl⟩ := trodVars_none hV
  obtain ⟨R0, x0, X0, rfl, hx0⟩ := open_day (hval 0 24 v0 rfl rfl) h0 (fun x hx => hlt x (by simp [hx]))
  clear hA0 hval0
  simp only [List.append_nil] at hW' hA2
  refine (shelfDeep_walk R0 x0 X0 W hx0).mono fun e W' ⟨he, hb⟩ => ?_
  subst he
  exact ⟨_, rfl, law_post Try.laidOut Try.underlying4 hW' hA2 rfl rfl rfl rfl rfl (by kernel_rfl) hb⟩
theorem shelfDeep_holds : Rows.ShelfDeepSaid :=
  OpenClaim.holds_of_wide 8 Try.f8 rfl rfl rfl rfl rfl rfl rfl ⟨rfl, rfl, rfl, rfl, rfl⟩ rfl rfl rfl rfl rfl (by kernel_rfl) Try.func8 (by kernel_rfl)
    (of_decide_eq_true (by kernel_rfl)) (by unfold Func.isWrapper; first | (rw [if_pos (by decide +kernel)]; kernel_rfl) | (rw [if_neg (by decide +kernel)]; exact ⟨rfl, rfl⟩))
    (fun os started H enc _ => shelfDeep_lifted os started H enc)
end
end Go.Proofs.Ytjajdpggoggoiaa
