/- ShelfBound holds; no condition. -/
import Derived.Test.YtjajdpggoggoiaaH4
namespace Go.Proofs.Ytjajdpggoggoiaa
open Go.RowKit Go.Shelf

set_option maxRecDepth 100000 in
set_option maxHeartbeats 16000000 in
theorem shelfBound_walk (R : Int) (x : Value) (W : List Int) (w : World) (hx0 : RdI w .i64 x W) :
    Calls Try.prog 10 #[.agg #[.int .i64 R, x]] w fun e w' => e = .returned (.bool true) ∧ Below w.heap.size w w' := by
  obtain ⟨a, c, rfl⟩ := hx0.ex _ rfl
  obtain ⟨_, _, e, hca, _, hxf⟩ := hx0.form
  cases e
  by_cases hc : checkD R W = 0
  · obtain ⟨wA, hwA⟩ : ∃ wA, w.alloc (.cells #[.int .i64 R, .slice a W.length c] 24) = wA := ⟨_, rfl⟩
    have HBA := Lib.hid (show Below w.heap.size w wA by rw [← hwA]; exact bal (bz w) _)
    have hr0 : wA.cell? ⟨w.heap.size, 0, none⟩ = some (.int .i64 R) := by rw [← hwA]; exact cnew rfl rfl
    have hr1 : wA.cell? ⟨w.heap.size, 1, none⟩ = some (.slice a W.length c) := by rw [← hwA]; exact cnew rfl rfl
    have hrz : w.heap.size < wA.heap.size := by rw [← hwA]; simp
    have HR0 := Lib.hid (fun wz (hB : Below wA.heap.size wA wz) => (hB.cell (p := ⟨w.heap.size, 0, none⟩) hrz).trans hr0)
    have HR1 := Lib.hid (fun wz (hB : Below wA.heap.size wA wz) => (hB.cell (p := ⟨w.heap.size, 1, none⟩) hrz).trans hr1)
    have HRZ := Lib.hid (fun wz (hB : Below wA.heap.size wA wz) => Nat.lt_of_lt_of_le hrz hB.size)
    have HX := Lib.hid (hx0.mono HBA.out)
    clear hr0 hr1 hrz hx0
    have CW := Lib.hid (fun wz (hB : Below wA.heap.size wA wz) => works_any wz)
    have CF := Lib.hid (fun wz (hB : Below wA.heap.size wA wz) => fine_yes R _ W wz (HX.out.mono hB) hc)
    have C1 := Lib.hid (fun wz (hB : Below wA.heap.size wA wz) => fewest_yes R _ W wz (HX.out.mono hB) hc)
    have C2 := Lib.hid (fun wz (hB : Below wA.heap.size wA wz) => fetched_any R _ W 1 wz (HX.out.mono hB) hc (by omega) (by omega))
    have C3 := Lib.hid (fun wz (hB : Below wA.heap.size wA wz) => fetched_any R _ W 2 wz (HX.out.mono hB) hc (by omega) (by omega))
    have hd := okD_of hc
    have h16 := hd.l16; have hr1 := hd.r1; have hr6 := hd.r6
    have ht := (run_lazy (rule := 3) hd).trace hd
    have b1 := bound_run hd (rule := 1) (by omega) ht; have b2 := bound_run hd (rule := 2) (by omega) ht
    have g1 := few_any (rule := 1) hd; have g2 := few_any (rule := 2) hd
    have d1 := diff_le ht
    have n1 := fetN_bd W (runL R 3 W) W.length
    have e1 := enough (rule := 1) hd; have e2 := enough (rule := 2) hd; have e3 := enough (rule := 3) hd
    rw [← few_run hd] at b1 b2 d1 n1 e3
    rw [← fetR_fetN] at b1 b2 g1 g2 e1 e2
    change _ ≤ fewN R W * R at b1; change _ ≤ fewN R W * R at b2
    change fewN R W ≤ _ at g1; change fewN R W ≤ _ at g2; change _ ≤ fewN R W at d1; change _ ≤ fewN R W ∧ fewN R W ≤ _ at n1; change _ → fewN R W = _ at e3
    have hq : 0 ≤ fewN R W * R ∧ fewN R W * R ≤ 96 := by
      have : R = 1 ∨ R = 2 ∨ R = 3 ∨ R = 4 ∨ R = 5 ∨ R = 6 := by omega
      rcases this with rfl | rfl | rfl | rfl | rfl | rfl <;> omega
    have hwq : IntKind.i64.wrap (fewN R W * R) = fewN R W * R := IntWalk.i64_in _ (by omega)
    obtain ⟨Q, hQ⟩ : ∃ Q, fewN R W * R = Q := ⟨_, rfl⟩
    rw [hQ] at b1 b2 hq
    have hwq2 : IntKind.i64.wrap (fewN R W * R) = Q := by rw [hwq, hQ]
    obtain ⟨D, hD⟩ : ∃ D, diffN W W.length = D := ⟨_, rfl⟩
    rw [hD] at d1 e1 e2 e3
    have HD := Lib.hid hD
    have HE1 := Lib.hid e1; have HE2 := Lib.hid e2; have HE3 := Lib.hid e3
    have HXF := Lib.hid hxf
    have hFR : (fetR R 1 W).length ≤ W.length := fetR_len
    have hFR2 : (fetR R 2 W).length ≤ W.length := fetR_len
    clear hc ht hd e1 e2 e3 hQ hwq hxf hD
    generalize fewN R W = n at *
    generalize fetR R 1 W = F1 at *
    generalize fetR R 2 W = F2 at *
    have KB0 := Lib.hid (bz wA)
    go_enter Try.func10, Try.ntmps10
    go_upto_region 1 with fail
    try rw [hwA]
    clear hwA
    have r0 := HR0.out _ KB0.out; have r1 := HR1.out _ KB0.out; have rz := HRZ.out _ KB0.out
    go_wp2_with fail
    clear r0 r1 rz
    refine (CF.out _ KB0.out).mono ?_
    rintro e w1 ⟨rfl, hk⟩
    have KB1 := Lib.hid (btr KB0.out hk)
    clear KB0 hk
    have r0 := HR0.out _ KB1.out; have r1 := HR1.out _ KB1.out; have rz := HRZ.out _ KB1.out
    go_wp2_with fail
    clear r0 r1 rz
    refine (C1.out _ KB1.out).mono ?_
    rintro e w2 ⟨rfl, hk⟩
    have KB2 := Lib.hid (btr KB1.out hk)
    clear KB1 hk
    have r0 := HR0.out _ KB2.out; have r1 := HR1.out _ KB2.out; have rz := HRZ.out _ KB2.out
    go_wp2_with fail
    clear r0 r1 rz
    refine (C2.out _ KB2.out).mono ?_
    rintro e w3 ⟨u2, rfl, fA, hk⟩
    obtain ⟨aA, cA, hv⟩ := fA.ex F1.length rfl
    subst hv
    have KB3 := Lib.hid (btr KB2.out hk)
    have HA3 := Lib.hid fA
    clear KB2 fA hk
    have r0 := HR0.out _ KB3.out; have r1 := HR1.out _ KB3.out; have rz := HRZ.out _ KB3.out
    go_wp2_with fail
    clear r0 r1 rz
    refine (C3.out _ KB3.out).mono ?_
    rintro e w4 ⟨u3, rfl, fB, hk⟩
    obtain ⟨aB, cB, hv⟩ := fB.ex F2.length rfl
    subst hv
    have KB4 := Lib.hid (btr KB3.out hk)
    have HA4 := Lib.hid (HA3.out.mono hk)
    have HB4 := Lib.hid fB
    clear KB3 HA3 fB hk
    have r0 := HR0.out _ KB4.out; have r1 := HR1.out _ KB4.out; have rz := HRZ.out _ KB4.out
    go_upto_region 7 with fail
    generalize n * R = Q0 at *
    clear r0 r1 rz
    have r0 := HR0.out _ KB4.out; have r1 := HR1.out _ KB4.out; have rz := HRZ.out _ KB4.out
    go_wp2_with fail
    clear r0 r1 rz
    go_loopw [9, 10] (fun s9 s10 wr => ∃ (k : Nat) (d : Int), k ≤ W.length ∧ s10 = .int .i64 k ∧ s9 = .int .i64 d ∧ Hid (diffN W k = d) ∧ 0 ≤ d ∧ d ≤ k ∧ Below wA.heap.size wA wr) (fun _ s10 _ => W.length - (intOf s10).toNat)
    case atStart => exact ⟨0, 0, by omega, rfl, rfl, Lib.hid rfl, by omega, by omega, KB4.out⟩
    case round =>
      obtain ⟨k, d, hk, rfl, rfl, HDK, hd0, hdk, hBr⟩ := hrel
      clear KB4 HA4 HB4
      have HBR := Lib.hid hBr
      clear hBr
      by_cases hlt : k < W.length
      · obtain ⟨bx, ox, rfl, hbx, hcx⟩ := HXF.out (by omega)
        have HBW := Lib.hid (btr HBA.out HBR.out)
        have gx := (HBW.out.cell (p := ⟨bx, ox + k, none⟩) hbx).trans (hcx k hlt)
        have zx := Nat.lt_of_lt_of_le hbx HBW.out.size
        change wr.cell? _ = some (Value.int .i64 (want W k)) at gx
        have hs := run_cutToI bx ox W.length c k (by omega)
        have hst := diffN_succ W k
        rw [HDK.out] at hst
        have HRD := Lib.hid (fun n => (rdI_pre ((HX.out.mono HBR.out).mono (Below.drewN' n (bz wr))) (k := k) hk))
        have HHS := Lib.hid (fun wz hx => rhas_any (.slice (some ⟨bx, ox, none⟩) k c) (W.take k) (want W k) wz hx (by rw [List.length_take]; omega))
        rw [any_eqB] at HHS
        obtain ⟨bb, hbb⟩ : ∃ bb, decide (want W k ∈ W.take k) = bb := ⟨_, rfl⟩
        rw [hbb] at HHS
        have r0 := HR0.out _ HBR.out; have r1 := HR1.out _ HBR.out; have rz := HRZ.out _ HBR.out
        have hst2 : diffN W (k + 1) = d + if bb = true then 0 else 1 := by rw [hst, ← hbb]; simp
        have HST := Lib.hid hst2
        clear hst hst2 hbb hcx HXF
        generalize want W k = q at *
        go_upto_region 12 with fail
        go_quiet ((go_at_call 39; exact Calls.quiet_of_same ((HHS.out _ (HRD.out _)).mono (fun e w' h => ⟨h.1, h.2.symm⟩))))
        cases bb with
        | true =>
          have HST2 := Lib.hid (show diffN W (k + 1) = d by rw [HST.out]; simp)
          clear HST
          go_wp2_with fail
          go_roundw
          case rel => exact ⟨k + 1, d, by omega, rfl, rfl, HST2, by omega, by omega, Below.drewN' _ HBR.out⟩
          case measure => simp [intOf]; omega
        | false =>
          have HST2 := Lib.hid (show diffN W (k + 1) = d + 1 by rw [HST.out]; simp)
          clear HST
          go_wp2_with fail
          go_roundw
          case rel => exact ⟨k + 1, d + 1, by omega, rfl, rfl, HST2, by omega, by omega, Below.drewN' _ HBR.out⟩
          case measure => simp [intOf]; omega
      · have hke : k = W.length := by omega
        subst hke
        have hdD : d = D := by rw [← HDK.out, HD.out]
        subst hdD
        clear HDK HD hlt hk
        by_cases hDR : R < d
        · clear HE1 HE2 HE3
          have r0 := HR0.out _ HBR.out; have r1 := HR1.out _ HBR.out; have rz := HRZ.out _ HBR.out
          go_wp2_with fail
          clear r0 r1 rz
          refine (CW.out _ HBR.out).mono ?_
          rintro e w1 ⟨rfl, hk⟩
          have KB1 := Lib.hid (btr HBR.out hk)
          clear HBR hk
          have r0 := HR0.out _ KB1.out; have r1 := HR1.out _ KB1.out; have rz := HRZ.out _ KB1.out
          go_wp2_with fail
          clear r0 r1 rz
          go_ret
          exact ⟨rfl, btr HBA.out KB1.out⟩
        · have n1' := HE3.out (by omega)
          have n2 := HE1.out (by omega); have n3 := HE2.out (by omega)
          clear HE1 HE2 HE3
          have r0 := HR0.out _ HBR.out; have r1 := HR1.out _ HBR.out; have rz := HRZ.out _ HBR.out
          go_wp2_with fail
          clear r0 r1 rz
          refine (CW.out _ HBR.out).mono ?_
          rintro e w1 ⟨rfl, hk⟩
          have KB1 := Lib.hid (btr HBR.out hk)
          clear HBR hk
          have r0 := HR0.out _ KB1.out; have r1 := HR1.out _ KB1.out; have rz := HRZ.out _ KB1.out
          go_wp2_with fail
          clear r0 r1 rz
          go_ret
          exact ⟨rfl, btr HBA.out KB1.out⟩
  · obtain ⟨wA, hwA⟩ : ∃ wA, w.alloc (.cells #[.int .i64 R, .slice a W.length c] 24) = wA := ⟨_, rfl⟩
    have HBA := Lib.hid (show Below w.heap.size w wA by rw [← hwA]; exact bal (bz w) _)
    have hr0 : wA.cell? ⟨w.heap.size, 0, none⟩ = some (.int .i64 R) := by rw [← hwA]; exact cnew rfl rfl
    have hr1 : wA.cell? ⟨w.heap.size, 1, none⟩ = some (.slice a W.length c) := by rw [← hwA]; exact cnew rfl rfl
    have hrz : w.heap.size < wA.heap.size := by rw [← hwA]; simp
    have HR0 := Lib.hid (fun wz (hB : Below wA.heap.size wA wz) => (hB.cell (p := ⟨w.heap.size, 0, none⟩) hrz).trans hr0)
    have HR1 := Lib.hid (fun wz (hB : Below wA.heap.size wA wz) => (hB.cell (p := ⟨w.heap.size, 1, none⟩) hrz).trans hr1)
    have HRZ := Lib.hid (fun wz (hB : Below wA.heap.size wA wz) => Nat.lt_of_lt_of_le hrz hB.size)
    have HX := Lib.hid (hx0.mono HBA.out)
    clear hr0 hr1 hrz hx0
    have CW := Lib.hid (fun wz (hB : Below wA.heap.size wA wz) => works_any wz)
    have CF := Lib.hid (fun wz (hB : Below wA.heap.size wA wz) => fine_no R _ W wz (HX.out.mono hB) hc)
    clear hc hxf
    have KB0 := Lib.hid (bz wA)
    go_enter Try.func10, Try.ntmps10
    go_upto_region 1 with fail
    try rw [hwA]
    clear hwA
    have r0 := HR0.out _ KB0.out; have r1 := HR1.out _ KB0.out; have rz := HRZ.out _ KB0.out
    go_wp2_with fail
    clear r0 r1 rz
    refine (CF.out _ KB0.out).mono ?_
    rintro e w1 ⟨rfl, hk⟩
    have KB1 := Lib.hid (btr KB0.out hk)
    clear KB0 hk
    have r0 := HR0.out _ KB1.out; have r1 := HR1.out _ KB1.out; have rz := HRZ.out _ KB1.out
    go_wp2_with fail
    clear r0 r1 rz
    refine (CW.out _ KB1.out).mono ?_
    rintro e w2 ⟨rfl, hk⟩
    have KB2 := Lib.hid (btr KB1.out hk)
    clear KB1 hk
    have r0 := HR0.out _ KB2.out; have r1 := HR1.out _ KB2.out; have rz := HRZ.out _ KB2.out
    go_wp2_with fail
    clear r0 r1 rz
    go_ret
    exact ⟨rfl, btr HBA.out KB2.out⟩
section
open Go.ChangeShapes Go.WideShapes Go.ChangeAt
set_option maxRecDepth 100000 in
theorem shelfBound_lifted (os : Os) (started : os.Started) (H : Type) (enc : TypeId × Value → H) :
    ReturnsInHanded {} Try.checked os 10 .any (Rows.shelfBoundSpec.pre6 enc Try.prog Try.f10 Rows.shelfBoundRow.domain false) (Rows.shelfBoundSpec.post enc Try.prog Try.f10 false true false false) := by
  refine returnsInHanded_of_change (C := Try.checked) Try.own started (by kernel_rfl) Try.func10
    (ChangeSpec.witness6 (enc := enc) (C := Try.checked) false ⟨#[], #[.agg #[.int .i64 0, .slice none 0 0]], []⟩ 8 (by kernel_rfl) (by kernel_rfl) (by kernel_rfl) (by kernel_rfl)) ?_
  intro W base args ds gs before hval0 hW _ _
  have hval : ∀ (j : Nat) t v, Try.f10.params[j]? = some t → args[j]? = some v → Value.okWide Try.prog W .any base t v := hval0
  have hW' := hW
  obtain ⟨p, q, hA0, hV, rfl, hfz, hnd⟩ := hW
  have hA : DataW.TrodAll enc Try.prog W 0 (fun _ => true) true Try.f10.params.toList args.toList ds p := hA0
  have hA2 := hA
  have hlt : ∀ x ∈ p, x.block < W.heap.size := fun x hx => hW'.lt x (List.mem_append_left _ hx)
  rw [Try.params10] at hA hval
  obtain ⟨v0, vs0, d0, ds0, p0, q0, hargs, rfl, rfl, h0, r0⟩ := trodAll_cons hA
  obtain ⟨rfl, rfl, rfl⟩ := trodAll_nil r0
  obtain rfl : args = #[v0] := by cases args; simp_all
  obtain ⟨rfl, rfl⟩ := trodVars_none hV
  obtain ⟨R0, x0, X0, rfl, hx0⟩ := open_day (hval 0 24 v0 rfl rfl) h0 (fun x hx => hlt x (by simp [hx]))
  clear hA0 hval0
  simp only [List.append_nil] at hW' hA2
  refine (shelfBound_walk R0 x0 X0 W hx0).mono fun e W' ⟨he, hb⟩ => ?_
  subst he
  exact ⟨_, rfl, law_post Try.laidOut Try.underlying4 hW' hA2 rfl rfl rfl rfl rfl (by kernel_rfl) hb⟩
theorem shelfBound_holds : Rows.ShelfBoundSaid :=
  OpenClaim.holds_of_wide 10 Try.f10 rfl rfl rfl rfl rfl rfl rfl ⟨rfl, rfl, rfl, rfl, rfl⟩ rfl rfl rfl rfl rfl (by kernel_rfl) Try.func10 (by kernel_rfl)
    (of_decide_eq_true (by kernel_rfl)) (by unfold Func.isWrapper; first | (rw [if_pos (by decide +kernel)]; kernel_rfl) | (rw [if_neg (by decide +kernel)]; exact ⟨rfl, rfl⟩))
    (fun os started H enc _ => shelfBound_lifted os started H enc)
end
end Go.Proofs.Ytjajdpggoggoiaa
