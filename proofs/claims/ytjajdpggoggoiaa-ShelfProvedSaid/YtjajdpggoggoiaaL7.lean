/- ShelfProved holds; no condition. -/
import Derived.Test.YtjajdpggoggoiaaH7
namespace Go.Proofs.Ytjajdpggoggoiaa
open Go.RowKit Go.Shelf

/-- CheckTimes, where the times are right. -/
theorem timesR_yes {R : Int} {W T : List Int} (hc : checkD R W = 0) (h : okT W.length 0 T = true) : timesR R W T = (provN R W T, 0) := by
  unfold timesR
  rw [if_neg (by simpa using hc), if_neg (by rw [h]; simp)]
theorem checktimes_yes (R : Int) (x y : Value) (W T : List Int) (w : World) (hx0 : RdI w .i64 x W) (hy0 : RdI w .i64 y T) (hc : checkD R W = 0) (ht : okT W.length 0 T = true) (hl : T.length ≤ 1000) :
    Calls Try.prog 28 #[.agg #[.int .i64 R, x], y] w fun e w' => e = .returned (.tuple #[.int .i64 (provN R W T), .int .i64 0]) ∧ Below w.heap.size w w' := by
  have := checktimes_any R x y W T w hx0 hy0 (by have := (okD_of hc).l16; omega) hl
  unfold TimesOk at this
  rwa [timesR_yes hc ht] at this
theorem rchecktimes_yes (R : Int) (x y : Value) (W T : List Int) (w : World) (hx0 : RdI w .i64 x W) (hy0 : RdI w .i64 y T) (hc : checkD R W = 0) (ht : okT W.length 0 T = true) (hl : T.length ≤ 1000) :
    Calls Try.prog 29 #[.agg #[.int .i64 R, x], y] w fun e w' => e = .returned (.tuple #[.int .i64 (provN R W T), .int .i64 0]) ∧ Below w.heap.size w w' := by
  have := rchecktimes_any R x y W T w hx0 hy0 (by have := (okD_of hc).l16; omega) hl
  unfold TimesOk at this
  rwa [timesR_yes hc ht] at this
theorem checkplan_yes (R : Int) (x y : Value) (W P : List Int) (n : Int) (w : World) (hx0 : RdI w .i64 x W) (hy0 : RdI w .i64 y P) (hl : W.length ≤ 1000) (hlp : P.length ≤ 1000) (h : planR R W P = (n, 0)) :
    Calls Try.prog 17 #[.agg #[.int .i64 R, x], y] w fun e w' => e = .returned (.tuple #[.int .i64 n, .int .i64 0]) ∧ Below w.heap.size w w' := by
  have := checkplan_any R x y W P w hx0 hy0 hl hlp
  unfold PlanOk at this
  rwa [h] at this
theorem timesP_len {R : Int} {W : List Int} (hc : checkD R W = 0) : (timesP R W).length ≤ 1000 := by
  have h16 := (okD_of hc).l16
  have := chainF_len (befT R W) (W.length + 2) (befT R W (W.length + 1))
  unfold timesP
  rw [List.length_reverse]; omega

set_option maxRecDepth 100000 in
set_option maxHeartbeats 16000000 in
theorem shelfProved_walk (R : Int) (x z : Value) (W Z : List Int) (m : Int) (w : World) (hx0 : RdI w .i64 x W) (hz0 : RdI w .u8 z Z) (hzb : ∀ b ∈ Z, 0 ≤ b ∧ b ≤ 255) :
    Calls Try.prog 7 #[.agg #[.int .i64 R, x], z, .int .u16 m] w fun e w' => e = .returned (.bool true) ∧ Below w.heap.size w w' := by
  obtain ⟨a, c, rfl⟩ := hx0.ex _ rfl
  obtain ⟨az, cz, rfl⟩ := hz0.ex _ rfl
  by_cases hc : checkD R W = 0
  · by_cases hz : 30 < Z.length
    · obtain ⟨wA, hwA⟩ : ∃ wA, w.alloc (.cells #[.int .i64 R, .slice a W.length c] 24) = wA := ⟨_, rfl⟩
      have HBA := Lib.hid (show Below w.heap.size w wA by rw [← hwA]; exact bal (bz w) _)
      have hr0 : wA.cell? ⟨w.heap.size, 0, none⟩ = some (.int .i64 R) := by rw [← hwA]; exact cnew rfl rfl
      have hr1 : wA.cell? ⟨w.heap.size, 1, none⟩ = some (.slice a W.length c) := by rw [← hwA]; exact cnew rfl rfl
      have hrz : w.heap.size < wA.heap.size := by rw [← hwA]; simp
      have HR0 := Lib.hid (fun wz (hB : Below wA.heap.size wA wz) => (hB.cell (p := ⟨w.heap.size, 0, none⟩) hrz).trans hr0)
      have HR1 := Lib.hid (fun wz (hB : Below wA.heap.size wA wz) => (hB.cell (p := ⟨w.heap.size, 1, none⟩) hrz).trans hr1)
      have HRZ := Lib.hid (fun wz (hB : Below wA.heap.size wA wz) => Nat.lt_of_lt_of_le hrz hB.size)
      have HX := Lib.hid (hx0.mono HBA.out)
      clear hr0 hr1 hrz hx0
      have CW := Lib.hid (fun wz (hB : Below wA.heap.size wA wz) => works_any wz)
      have CF := Lib.hid (fun wz (hB : Below wA.heap.size wA wz) => fine_yes R _ W wz (HX.out.mono hB) hc)
      have hz2 : (30 : Int) < (Z.length : Int) := by omega
      clear hc hz
      have KB0 := Lib.hid (bz wA)
      go_enter Try.func7, Try.ntmps7
      go_upto_region 1 with fail
      try rw [hwA]
      clear hwA
      have r0 := HR0.out _ KB0.out; have r1 := HR1.out _ KB0.out; have rz := HRZ.out _ KB0.out
      go_wp2_with fail
      clear r0 r1 rz
      refine (CF.out _ KB0.out).mono ?_
      rintro e w1 ⟨rfl, hk⟩
      have KB1 := Lib.hid (btr KB0.out hk)
      clear KB0 hk
      have r0 := HR0.out _ KB1.out; have r1 := HR1.out _ KB1.out; have rz := HRZ.out _ KB1.out
      go_wp2_with fail
      clear r0 r1 rz
      refine (CW.out _ KB1.out).mono ?_
      rintro e w2 ⟨rfl, hk⟩
      have KB2 := Lib.hid (btr KB1.out hk)
      clear KB1 hk
      have r0 := HR0.out _ KB2.out; have r1 := HR1.out _ KB2.out; have rz := HRZ.out _ KB2.out
      go_wp2_with fail
      clear r0 r1 rz
      go_ret
      exact ⟨rfl, btr HBA.out KB2.out⟩
    · obtain ⟨wA, hwA⟩ : ∃ wA, w.alloc (.cells #[.int .i64 R, .slice a W.length c] 24) = wA := ⟨_, rfl⟩
      have HBA := Lib.hid (show Below w.heap.size w wA by rw [← hwA]; exact bal (bz w) _)
      have hr0 : wA.cell? ⟨w.heap.size, 0, none⟩ = some (.int .i64 R) := by rw [← hwA]; exact cnew rfl rfl
      have hr1 : wA.cell? ⟨w.heap.size, 1, none⟩ = some (.slice a W.length c) := by rw [← hwA]; exact cnew rfl rfl
      have hrz : w.heap.size < wA.heap.size := by rw [← hwA]; simp
      have HR0 := Lib.hid (fun wz (hB : Below wA.heap.size wA wz) => (hB.cell (p := ⟨w.heap.size, 0, none⟩) hrz).trans hr0)
      have HR1 := Lib.hid (fun wz (hB : Below wA.heap.size wA wz) => (hB.cell (p := ⟨w.heap.size, 1, none⟩) hrz).trans hr1)
      have HRZ := Lib.hid (fun wz (hB : Below wA.heap.size wA wz) => Nat.lt_of_lt_of_le hrz hB.size)
      have HX := Lib.hid (hx0.mono HBA.out)
      clear hr0 hr1 hrz hx0
      have HZ := Lib.hid (hz0.mono HBA.out)
      have CW := Lib.hid (fun wz (hB : Below wA.heap.size wA wz) => works_any wz)
      have CF := Lib.hid (fun wz (hB : Below wA.heap.size wA wz) => fine_yes R _ W wz (HX.out.mono hB) hc)
      have C1 := Lib.hid (fun wz (hB : Below wA.heap.size wA wz) => fewest_yes R _ W wz (HX.out.mono hB) hc)
      have C2 := Lib.hid (fun wz (hB : Below wA.heap.size wA wz) => fetched_any R _ W 3 wz (HX.out.mono hB) hc (by omega) (by omega))
      have hl1000 : W.length ≤ 1000 := by have := (okD_of hc).l16; omega
      have C3 := Lib.hid (fun wz (hB : Below wA.heap.size wA wz) => ptimes_any R _ W wz (HX.out.mono hB) hl1000)
      have htl : timsL R W = timesP R W := by unfold timsL; rw [if_pos hc]
      rw [htl, hc] at C3
      obtain ⟨ht1, ht2⟩ := timesP_ok (okD_of hc)
      have ht3 := timesP_len hc
      have C4 := Lib.hid (fun wz (hB : Below wA.heap.size wA wz) => fun y hy => checktimes_yes R _ y W (timesP R W) wz (HX.out.mono hB) hy hc ht1 ht3)
      have C5 := Lib.hid (fun wz (hB : Below wA.heap.size wA wz) => fun y hy => rchecktimes_yes R _ y W (timesP R W) wz (HX.out.mono hB) hy hc ht1 ht3)
      rw [ht2] at C4 C5
      have C6 := Lib.hid (fun wz (hB : Below wA.heap.size wA wz) => planned_any R _ (.slice az Z.length cz) W Z wz (HX.out.mono hB) (HZ.out.mono hB) hc (by omega) hzb)
      have C7 := Lib.hid (fun wz (hB : Below wA.heap.size wA wz) => fun y p n hy hl (h : planR R W p = (n, 0)) => checkplan_yes R _ y W p n wz (HX.out.mono hB) hy hl1000 hl h)
      have C8 := Lib.hid (fun wz (hB : Below wA.heap.size wA wz) => some_any R _ W m wz (HX.out.mono hB) (okD_of hc).l16)
      have C9 := Lib.hid (fun wz (hB : Below wA.heap.size wA wz) => fun y T hy (ht : okT W.length 0 T = true) hl => checktimes_yes R _ y W T wz (HX.out.mono hB) hy hc ht hl)
      have HPV := Lib.hid (fun (T : List Int) (ht : okT W.length 0 T = true) => prov_le (okD_of hc) ht)
      have hfl : ((fetR R 3 W).length : Int) = fewN R W := by rw [fetR_fetN, ← few_run (okD_of hc)]; rfl
      have hz2 : ¬ (30 : Int) < (Z.length : Int) := by omega
      change Hid (∀ wz, Below wA.heap.size wA wz → ∀ y, RdI wz .i64 y (timesP R W) → Calls Try.prog 28 #[.agg #[.int .i64 R, .slice a W.length c], y] wz fun e w' => e = .returned (.tuple #[.int .i64 (fewN R W), .int .i64 0]) ∧ Below wz.heap.size wz w') at C4
      change Hid (∀ wz, Below wA.heap.size wA wz → ∀ y, RdI wz .i64 y (timesP R W) → Calls Try.prog 29 #[.agg #[.int .i64 R, .slice a W.length c], y] wz fun e w' => e = .returned (.tuple #[.int .i64 (fewN R W), .int .i64 0]) ∧ Below wz.heap.size wz w') at C5
      change Hid (∀ wz, Below wA.heap.size wA wz → Calls Try.prog 37 #[.agg #[.int .i64 R, .slice a W.length c], .slice az Z.length cz] wz fun e w' => ∃ u p n, e = .returned (.tuple #[u, .int .i64 n]) ∧ RdI w' .i64 u p ∧ p.length ≤ 16 ∧ planR R W p = (n, 0) ∧ fewN R W ≤ n ∧ Below wz.heap.size wz w') at C6
      change Hid (∀ T, okT W.length 0 T = true → provN R W T ≤ fewN R W) at HPV
      clear hc hz htl ht1 ht2 ht3 hl1000 hz0 HZ hzb
      generalize timesP R W = TT at *
      generalize fetR R 3 W = F at *
      generalize fewN R W = n at *
      have KB0 := Lib.hid (bz wA)
      go_enter Try.func7, Try.ntmps7
      go_upto_region 1 with fail
      try rw [hwA]
      clear hwA
      have r0 := HR0.out _ KB0.out; have r1 := HR1.out _ KB0.out; have rz := HRZ.out _ KB0.out
      go_wp2_with fail
      clear r0 r1 rz
      refine (CF.out _ KB0.out).mono ?_
      rintro e w1 ⟨rfl, hk⟩
      have KB1 := Lib.hid (btr KB0.out hk)
      clear KB0 hk
      have r0 := HR0.out _ KB1.out; have r1 := HR1.out _ KB1.out; have rz := HRZ.out _ KB1.out
      go_wp2_with fail
      clear r0 r1 rz
      refine (C1.out _ KB1.out).mono ?_
      rintro e w2 ⟨rfl, hk⟩
      have KB2 := Lib.hid (btr KB1.out hk)
      clear KB1 hk
      have r0 := HR0.out _ KB2.out; have r1 := HR1.out _ KB2.out; have rz := HRZ.out _ KB2.out
      go_wp2_with fail
      clear r0 r1 rz
      refine (C2.out _ KB2.out).mono ?_
      rintro e w3 ⟨u2, rfl, fF, hk⟩
      obtain ⟨aF, cF, hv⟩ := fF.ex F.length rfl
      subst hv
      have KB3 := Lib.hid (btr KB2.out hk)
      have HF3 := Lib.hid fF
      clear KB2 fF hk
      have r0 := HR0.out _ KB3.out; have r1 := HR1.out _ KB3.out; have rz := HRZ.out _ KB3.out
      go_wp2_with fail
      clear r0 r1 rz
      refine (C3.out _ KB3.out).mono ?_
      rintro e w4 ⟨u3, rfl, fT, hk⟩
      have KB4 := Lib.hid (btr KB3.out hk)
      have HF4 := Lib.hid (HF3.out.mono hk)
      have HT4 := Lib.hid fT
      clear KB3 HF3 fT hk
      have r0 := HR0.out _ KB4.out; have r1 := HR1.out _ KB4.out; have rz := HRZ.out _ KB4.out
      go_wp2_with fail
      clear r0 r1 rz
      refine (C4.out _ KB4.out _ HT4.out).mono ?_
      rintro e w5 ⟨rfl, hk⟩
      have KB5 := Lib.hid (btr KB4.out hk)
      have HF5 := Lib.hid (HF4.out.mono hk)
      have HT5 := Lib.hid (HT4.out.mono hk)
      clear KB4 HF4 HT4 hk
      have r0 := HR0.out _ KB5.out; have r1 := HR1.out _ KB5.out; have rz := HRZ.out _ KB5.out
      go_wp2_with fail
      clear r0 r1 rz
      refine (C5.out _ KB5.out _ HT5.out).mono ?_
      rintro e w6 ⟨rfl, hk⟩
      have KB6 := Lib.hid (btr KB5.out hk)
      have HF6 := Lib.hid (HF5.out.mono hk)
      have HT6 := Lib.hid (HT5.out.mono hk)
      clear KB5 HF5 HT5 hk
      have r0 := HR0.out _ KB6.out; have r1 := HR1.out _ KB6.out; have rz := HRZ.out _ KB6.out
      go_wp2_with fail
      clear r0 r1 rz
      refine (C6.out _ KB6.out).mono ?_
      rintro e w7 ⟨u6, p, nn, rfl, fP, hp16, hpr, hnn, hk⟩
      have KB7 := Lib.hid (btr KB6.out hk)
      have HF7 := Lib.hid (HF6.out.mono hk)
      have HT7 := Lib.hid (HT6.out.mono hk)
      have HP7 := Lib.hid fP
      clear KB6 HF6 HT6 fP hk
      have HPR := Lib.hid hpr
      clear hpr
      have r0 := HR0.out _ KB7.out; have r1 := HR1.out _ KB7.out; have rz := HRZ.out _ KB7.out
      go_wp2_with fail
      clear r0 r1 rz
      refine (C7.out _ KB7.out _ _ _ HP7.out (by omega) HPR.out).mono ?_
      rintro e w8 ⟨rfl, hk⟩
      have KB8 := Lib.hid (btr KB7.out hk)
      have HF8 := Lib.hid (HF7.out.mono hk)
      have HT8 := Lib.hid (HT7.out.mono hk)
      have HP8 := Lib.hid (HP7.out.mono hk)
      clear KB7 HF7 HT7 HP7 hk
      have r0 := HR0.out _ KB8.out; have r1 := HR1.out _ KB8.out; have rz := HRZ.out _ KB8.out
      go_wp2_with fail
      clear r0 r1 rz
      refine wp_region_flow [] [([0, 1, 2], 3, true), ([], 4, true)] [5, 6, 7, 8, 9] (by kernel_rfl) (by kernel_rfl) ?_
      intro w9 hk hh
      clear hh
      have KB9 := Lib.hid (btr KB8.out hk)
      have HF9 := Lib.hid (HF8.out.mono hk)
      have HT9 := Lib.hid (HT8.out.mono hk)
      have HP9 := Lib.hid (HP8.out.mono hk)
      have r0 := HR0.out _ KB9.out; have r1 := HR1.out _ KB9.out; have rz := HRZ.out _ KB9.out
      have hL := @Later.cell w9
      have HW := Lib.hid (bz w9)
      clear KB8 HF8 HT8 HP8 hk
      simp only [flowP, flow, pickL, List.getElem?_cons_succ, List.getElem?_cons_zero]
      refine wpQuiet_nil ?_
      repeat (go_big_quiet_step (fail))
      refine wpQuiet_nil ?_
      go_wp2_with fail
      refine (C8.out _ KB9.out).mono ?_
      rintro e wk ⟨u8, T8, rfl, f8, ht8, hl8, hk⟩
      have KBk := Lib.hid (btr KB9.out hk)
      have H8 := Lib.hid f8
      have HPT := Lib.hid (HPV.out T8 ht8)
      have HT8 := Lib.hid ht8
      have HW2 := Lib.hid (btr HW.out hk)
      clear HW f8 ht8
      go_wp2
      refine seg_grow ⟨⟨_, HW2.out⟩, rfl⟩ ?_
      clear hk
      repeat (go_big_quiet_step (fail))
      refine wpQuiet_nil ?_
      go_wp2_with fail
      refine (C9.out _ KBk.out _ _ H8.out HT8.out (by omega)).mono ?_
      rintro e wl ⟨rfl, hk⟩
      have KBl := Lib.hid (btr KBk.out hk)
      have HW3 := Lib.hid (btr HW2.out hk)
      have hpt := HPT.out
      generalize provN R W T8 = pv at *
      go_wp2
      refine seg_grow ⟨⟨_, HW3.out⟩, rfl⟩ ?_
      clear hk
      repeat (go_big_quiet_step (fail))
      refine wpQuiet_nil ?_
      refine only_done ?_
      clear r0 r1 rz hL
      have r0 := HR0.out _ KBl.out; have r1 := HR1.out _ KBl.out; have rz := HRZ.out _ KBl.out
      go_wp2_with fail
      clear r0 r1 rz
      refine (CW.out _ KBl.out).mono ?_
      rintro e w10 ⟨rfl, hk⟩
      have KB10 := Lib.hid (btr KBl.out hk)
      clear KBl hk
      have r0 := HR0.out _ KB10.out; have r1 := HR1.out _ KB10.out; have rz := HRZ.out _ KB10.out
      go_wp2_with fail
      clear r0 r1 rz
      go_ret
      exact ⟨rfl, btr HBA.out KB10.out⟩
  · obtain ⟨wA, hwA⟩ : ∃ wA, w.alloc (.cells #[.int .i64 R, .slice a W.length c] 24) = wA := ⟨_, rfl⟩
    have HBA := Lib.hid (show Below w.heap.size w wA by rw [← hwA]; exact bal (bz w) _)
    have hr0 : wA.cell? ⟨w.heap.size, 0, none⟩ = some (.int .i64 R) := by rw [← hwA]; exact cnew rfl rfl
    have hr1 : wA.cell? ⟨w.heap.size, 1, none⟩ = some (.slice a W.length c) := by rw [← hwA]; exact cnew rfl rfl
    have hrz : w.heap.size < wA.heap.size := by rw [← hwA]; simp
    have HR0 := Lib.hid (fun wz (hB : Below wA.heap.size wA wz) => (hB.cell (p := ⟨w.heap.size, 0, none⟩) hrz).trans hr0)
    have HR1 := Lib.hid (fun wz (hB : Below wA.heap.size wA wz) => (hB.cell (p := ⟨w.heap.size, 1, none⟩) hrz).trans hr1)
    have HRZ := Lib.hid (fun wz (hB : Below wA.heap.size wA wz) => Nat.lt_of_lt_of_le hrz hB.size)
    have HX := Lib.hid (hx0.mono HBA.out)
    clear hr0 hr1 hrz hx0
    have CW := Lib.hid (fun wz (hB : Below wA.heap.size wA wz) => works_any wz)
    have CF := Lib.hid (fun wz (hB : Below wA.heap.size wA wz) => fine_no R _ W wz (HX.out.mono hB) hc)
    clear hc
    have KB0 := Lib.hid (bz wA)
    go_enter Try.func7, Try.ntmps7
    go_upto_region 1 with fail
    try rw [hwA]
    clear hwA
    have r0 := HR0.out _ KB0.out; have r1 := HR1.out _ KB0.out; have rz := HRZ.out _ KB0.out
    go_wp2_with fail
    clear r0 r1 rz
    refine (CF.out _ KB0.out).mono ?_
    rintro e w1 ⟨rfl, hk⟩
    have KB1 := Lib.hid (btr KB0.out hk)
    clear KB0 hk
    have r0 := HR0.out _ KB1.out; have r1 := HR1.out _ KB1.out; have rz := HRZ.out _ KB1.out
    go_wp2_with fail
    clear r0 r1 rz
    refine (CW.out _ KB1.out).mono ?_
    rintro e w2 ⟨rfl, hk⟩
    have KB2 := Lib.hid (btr KB1.out hk)
    clear KB1 hk
    have r0 := HR0.out _ KB2.out; have r1 := HR1.out _ KB2.out; have rz := HRZ.out _ KB2.out
    go_wp2_with fail
    clear r0 r1 rz
    go_ret
    exact ⟨rfl, btr HBA.out KB2.out⟩
section
open Go.ChangeShapes Go.WideShapes Go.ChangeAt
set_option maxRecDepth 100000 in
theorem shelfProved_lifted (os : Os) (started : os.Started) (H : Type) (enc : TypeId × Value → H) :
    ReturnsInHanded {} Try.checked os 7 .any (Rows.shelfProvedSpec.pre6 enc Try.prog Try.f7 Rows.shelfProvedRow.domain false) (Rows.shelfProvedSpec.post enc Try.prog Try.f7 false true false false) := by
  refine returnsInHanded_of_change (C := Try.checked) Try.own started (by kernel_rfl) Try.func7
    (ChangeSpec.witness6 (enc := enc) (C := Try.checked) false ⟨#[], #[.agg #[.int .i64 0, .slice none 0 0], .slice none 0 0, .int .u16 0], []⟩ 8 (by kernel_rfl) (by kernel_rfl) (by kernel_rfl) (by kernel_rfl)) ?_
  intro W base args ds gs before hval0 hW _ _
  have hval : ∀ (j : Nat) t v, Try.f7.params[j]? = some t → args[j]? = some v → Value.okWide Try.prog W .any base t v := hval0
  have hW' := hW
  obtain ⟨p, q, hA0, hV, rfl, hfz, hnd⟩ := hW
  have hA : DataW.TrodAll enc Try.prog W 0 (fun _ => true) true Try.f7.params.toList args.toList ds p := hA0
  have hA2 := hA
  have hlt : ∀ x ∈ p, x.block < W.heap.size := fun x hx => hW'.lt x (List.mem_append_left _ hx)
  rw [Try.params7] at hA hval
  obtain ⟨v0, vs0, d0, ds0, p0, q0, hargs, rfl, rfl, h0, r0⟩ := trodAll_cons hA
  obtain ⟨v1, vs1, d1, ds1, p1, q1, rfl, rfl, rfl, h1, r1⟩ := trodAll_cons r0
  obtain ⟨v2, vs2, d2, ds2, p2, q2, rfl, rfl, rfl, h2, r2⟩ := trodAll_cons r1
  obtain ⟨rfl, rfl, rfl⟩ := trodAll_nil r2
  obtain rfl : args = #[v0, v1, v2] := by cases args; simp_all
  obtain ⟨rfl, rfl⟩ := trodVars_none hV
  obtain ⟨R0, x0, X0, rfl, hx0⟩ := open_day (hval 0 24 v0 rfl rfl) h0 (fun x hx => hlt x (by simp [hx]))
  obtain ⟨X1, hx1, hw1⟩ := open_ints_rd Try.underlying39 Try.underlying5 (by kernel_rfl) (hval 1 39 v1 rfl rfl) h1 (fun x hx => hlt x (by simp [hx]))
  obtain ⟨a2, rfl, rfl, rfl, w2⟩ := open_int Try.underlying40 (hval 2 40 v2 rfl rfl) h2
  clear hA0 hval0
  simp only [List.append_nil] at hW' hA2
  refine (shelfProved_walk R0 x0 v1 X0 X1 a2 W hx0 hx1 (fun b hb => wf8 (hw1 b hb))).mono fun e W' ⟨he, hb⟩ => ?_
  subst he
  exact ⟨_, rfl, law_post Try.laidOut Try.underlying4 hW' hA2 rfl rfl rfl rfl rfl (by kernel_rfl) hb⟩
theorem shelfProved_holds : Rows.ShelfProvedSaid :=
  OpenClaim.holds_of_wide 7 Try.f7 rfl rfl rfl rfl rfl rfl rfl ⟨rfl, rfl, rfl, rfl, rfl⟩ rfl rfl rfl rfl rfl (by kernel_rfl) Try.func7 (by kernel_rfl)
    (of_decide_eq_true (by kernel_rfl)) (by unfold Func.isWrapper; first | (rw [if_pos (by decide +kernel)]; kernel_rfl) | (rw [if_neg (by decide +kernel)]; exact ⟨rfl, rfl⟩))
    (fun os started H enc _ => shelfProved_lifted os started H enc)
end
end Go.Proofs.Ytjajdpggoggoiaa
