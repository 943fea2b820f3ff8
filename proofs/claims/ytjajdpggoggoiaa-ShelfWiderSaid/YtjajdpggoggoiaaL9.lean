/- ShelfWider holds; no condition. -/
import Derived.Test.YtjajdpggoggoiaaH4
namespace Go.Proofs.Ytjajdpggoggoiaa
open Go.RowKit Go.Shelf

theorem kindR_yes {R : Int} {W : List Int} (hc : checkD R W = 0) {p : Nat} (hp : p < W.length) : kindR R W (p : Int) = (kindD R W p, 0) := by
  unfold kindR
  rw [if_neg (by simpa using hc), if_neg (by omega), Int.toNat_natCast]
theorem pkind_yes (R : Int) (x : Value) (W : List Int) (p : Nat) (w : World) (hx0 : RdI w .i64 x W) (hc : checkD R W = 0) (hp : p < W.length) :
    Calls Try.prog 31 #[.agg #[.int .i64 R, x], .int .i64 (p : Int)] w fun e w' => e = .returned (.tuple #[.int .i64 (kindD R W p), .int .i64 0]) ∧ Below w.heap.size w w' := by
  have := pkind_any R x W p w hx0 (by have := (okD_of hc).l16; omega)
  rwa [kindR_yes hc hp] at this
theorem checkD_room {R R' : Int} {W : List Int} (hc : checkD R W = 0) (h1 : 1 ≤ R') (h6 : R' ≤ 6) : checkD R' W = 0 := by
  have e1 : outB 1 6 R' = false := by unfold outB; rw [decide_eq_false_iff_not]; omega
  have hr := (okD_of hc).r1; have hr6 := (okD_of hc).r6
  have e2 : outB 1 6 R = false := by unfold outB; rw [decide_eq_false_iff_not]; omega
  unfold checkD at hc ⊢
  rw [e1]; rw [e2] at hc; exact hc
/-- What the law asks of a want. -/
theorem wide_at {R R' : Int} {W : List Int} (hd : OkD R W) (hd' : OkD R' W) (h : R ≤ R') {i : Nat} (hi : i < W.length) :
    (kindD R W i = 0 ∧ decide ((i : Int) ∈ fetR R 3 W) = false ∨ kindD R W i = 1 ∨ kindD R W i = 2 ∧ decide ((i : Int) ∈ fetR R 3 W) = true) ∧
    (decide ((i : Int) ∈ fetR R' 2 W) = false ∨ decide ((i : Int) ∈ fetR R' 2 W) = true ∧ decide ((i : Int) ∈ fetR R 2 W) = true) := by
  have hk := kindD_is hd hi
  obtain ⟨k1, k2⟩ := kind_run hd hi hk
  unfold fetR
  simp only [mem_fet hi, decide_eq_true_eq, decide_eq_false_iff_not, Classical.not_not]
  refine ⟨?_, ?_⟩
  · rcases hk with ⟨h1, _⟩ | ⟨h1, _⟩ | ⟨h1, _⟩
    · exact .inr (.inr ⟨h1, k1 h1⟩)
    · exact .inl ⟨h1, k2 h1⟩
    · exact .inr (.inl h1)
  · by_cases hm : want W i ∈ runL R' 2 W i
    · exact .inl hm
    · exact .inr ⟨hm, fun h2 => hm (lru_wider hd hd' h hi h2)⟩

set_option maxRecDepth 100000 in
set_option maxHeartbeats 16000000 in
theorem shelfWider_walk (R : Int) (x : Value) (W : List Int) (m : Int) (w : World) (hx0 : RdI w .i64 x W) (hm0 : 0 ≤ m) (hm1 : m < 256) :
    Calls Try.prog 9 #[.agg #[.int .i64 R, x], .int .u8 m] w fun e w' => e = .returned (.bool true) ∧ Below w.heap.size w w' := by
  obtain ⟨a, c, rfl⟩ := hx0.ex _ rfl
  by_cases hc : checkD R W = 0
  · by_cases hs : R + m % 6 < 6
    · have hd := okD_of hc
      have h16 := hd.l16; have hr1 := hd.r1; have hr6 := hd.r6
      obtain ⟨t, ht⟩ : ∃ t, m % 6 = t := ⟨_, rfl⟩
      have t0 : 0 ≤ t := by omega
      have t5 : t < 6 := by omega
      obtain ⟨R', hR'⟩ : ∃ R', R + t = R' := ⟨_, rfl⟩
      have hb' : R' < 6 := by omega
      have hR1 : 1 ≤ R' := by omega
      have hR6 : R' ≤ 6 := by omega
      have hRR : R ≤ R' := by omega
      have hc' := checkD_room hc hR1 hR6
      have hd' := okD_of hc'
      have HWA := Lib.hid (fun i hi => wide_at hd hd' hRR (i := i) hi)
      have hfew : fewN R' W ≤ fewN R W := few_wider hd hd' hRR
      have hn0 : 0 ≤ fewN R' W := by unfold fewN; rw [few_run hd']; exact (fetN_bd _ _ _).1
      have hF1 : (fetR R 2 W).length ≤ W.length := fetR_len
      have hF2 : (fetR R' 2 W).length ≤ W.length := fetR_len
      have hF3 : (fetR R 3 W).length ≤ W.length := fetR_len
      have HC := Lib.hid hc; have HC' := Lib.hid hc' 
      obtain ⟨wA, hwA⟩ : ∃ wA, w.alloc (.cells #[.int .i64 R, .slice a W.length c] 24) = wA := ⟨_, rfl⟩
      have HBA := Lib.hid (show Below w.heap.size w wA by rw [← hwA]; exact bal (bz w) _)
      have hr0 : wA.cell? ⟨w.heap.size, 0, none⟩ = some (.int .i64 R) := by rw [← hwA]; exact cnew rfl rfl
      have hr1 : wA.cell? ⟨w.heap.size, 1, none⟩ = some (.slice a W.length c) := by rw [← hwA]; exact cnew rfl rfl
      have hrz : w.heap.size < wA.heap.size := by rw [← hwA]; simp
      have HR0 := Lib.hid (fun wz (hB : Below wA.heap.size wA wz) => (hB.cell (p := ⟨w.heap.size, 0, none⟩) hrz).trans hr0)
      have HR1 := Lib.hid (fun wz (hB : Below wA.heap.size wA wz) => (hB.cell (p := ⟨w.heap.size, 1, none⟩) hrz).trans hr1)
      have HRZ := Lib.hid (fun wz (hB : Below wA.heap.size wA wz) => Nat.lt_of_lt_of_le hrz hB.size)
      have HX := Lib.hid (hx0.mono HBA.out)
      clear hr0 hr1 hrz hx0
      have CF := Lib.hid (fun wz (hB : Below wA.heap.size wA wz) => fine_yes R _ W wz (HX.out.mono hB) hc)
      clear hc hc' hd hd'
      have KB0 := Lib.hid (bz wA)
      go_enter Try.func9, Try.ntmps9
      go_upto_region 1 with fail
      try rw [hwA]
      clear hwA
      have r0 := HR0.out _ KB0.out; have r1 := HR1.out _ KB0.out; have rz := HRZ.out _ KB0.out
      go_wp2_with fail
      clear r0 r1 rz
      refine (CF.out _ KB0.out).mono ?_
      rintro e w1 ⟨rfl, hk⟩
      have KB1 := Lib.hid (btr KB0.out hk)
      clear KB0 hk
      have r0 := HR0.out _ KB1.out; have r1 := HR1.out _ KB1.out; have rz := HRZ.out _ KB1.out
      have hrow := heap_alloc_new w1 (.cells #[.int .i64 0, .slice none 0 0] 24)
      go_wp2_with (refine wpList_store_row rfl 24 (.tmp 5) (.tmp 24) rfl w1.heap.size #[.int .i64 R, .slice a W.length c] rfl rfl 24 _ hrow (by kernel_rfl) rfl rfl ?_)
      obtain ⟨wB, hwB⟩ : ∃ wB, w1.alloc (.cells #[.int .i64 R', .slice a W.length c] 24) = wB := ⟨_, rfl⟩
      rw [hwB]
      have HBAB := Lib.hid (show Below wA.heap.size wA wB by rw [← hwB]; exact bal KB1.out _)
      have r0x : wB.cell? ⟨w1.heap.size, 0, none⟩ = some (.int .i64 R') := by rw [← hwB]; exact cnew rfl rfl
      have r1x : wB.cell? ⟨w1.heap.size, 1, none⟩ = some (.slice a W.length c) := by rw [← hwB]; exact cnew rfl rfl
      have rzx : w1.heap.size < wB.heap.size := by rw [← hwB]; simp
      have HR0x := Lib.hid (fun wz (hB : Below wB.heap.size wB wz) => (hB.cell (p := ⟨w1.heap.size, 0, none⟩) rzx).trans r0x)
      have HR1x := Lib.hid (fun wz (hB : Below wB.heap.size wB wz) => (hB.cell (p := ⟨w1.heap.size, 1, none⟩) rzx).trans r1x)
      have HRZx := Lib.hid (fun wz (hB : Below wB.heap.size wB wz) => Nat.lt_of_lt_of_le rzx hB.size)
      clear r0x r1x rzx hwB hrow
      have HR0b := Lib.hid (fun wz (hB : Below wB.heap.size wB wz) => HR0.out _ (btr HBAB.out hB))
      have HR1b := Lib.hid (fun wz (hB : Below wB.heap.size wB wz) => HR1.out _ (btr HBAB.out hB))
      have HRZb := Lib.hid (fun wz (hB : Below wB.heap.size wB wz) => HRZ.out _ (btr HBAB.out hB))
      have HXb := Lib.hid (HX.out.mono HBAB.out)
      have HBB := Lib.hid (btr HBA.out HBAB.out)
      clear HR0 HR1 HRZ HX HBA HBAB CF KB1
      have HR0 := HR0b; have HR1 := HR1b; have HRZ := HRZb; have HX := HXb; have HBA := HBB
      clear HR0b HR1b HRZb HXb HBB
      have KBB := Lib.hid (bz wB)
      have CW := Lib.hid (fun wz (hB : Below wB.heap.size wB wz) => works_any wz)
      have C1 := Lib.hid (fun wz (hB : Below wB.heap.size wB wz) => fewest_yes R _ W wz (HX.out.mono hB) HC.out)
      have C2 := Lib.hid (fun wz (hB : Below wB.heap.size wB wz) => fewest_yes R' _ W wz (HX.out.mono hB) HC'.out)
      have C3 := Lib.hid (fun wz (hB : Below wB.heap.size wB wz) => fetched_any R _ W 2 wz (HX.out.mono hB) HC.out (by omega) (by omega))
      have C4 := Lib.hid (fun wz (hB : Below wB.heap.size wB wz) => fetched_any R' _ W 2 wz (HX.out.mono hB) HC'.out (by omega) (by omega))
      have C5 := Lib.hid (fun wz (hB : Below wB.heap.size wB wz) => fetched_any R _ W 3 wz (HX.out.mono hB) HC.out (by omega) (by omega))
      have CK := Lib.hid (fun wz (hB : Below wB.heap.size wB wz) => fun p hp => pkind_yes R _ W p wz (HX.out.mono hB) HC.out hp)
      clear HC HC'
      generalize fewN R W = n at *
      generalize fewN R' W = n' at *
      generalize fetR R 2 W = F1 at *
      generalize fetR R' 2 W = F2 at *
      generalize fetR R 3 W = F3 at *
      refine (C1.out _ KBB.out).mono ?_
      rintro e w2 ⟨rfl, hk⟩
      have KB2 := Lib.hid (btr KBB.out hk)
      clear KBB hk
      have r0 := HR0.out _ KB2.out; have r1 := HR1.out _ KB2.out; have rz := HRZ.out _ KB2.out
      have r0x := HR0x.out _ KB2.out; have r1x := HR1x.out _ KB2.out; have rzx := HRZx.out _ KB2.out
      go_wp2_with fail
      clear r0 r1 rz r0x r1x rzx
      refine (C2.out _ KB2.out).mono ?_
      rintro e w3 ⟨rfl, hk⟩
      have KB3 := Lib.hid (btr KB2.out hk)
      clear KB2 hk
      have r0 := HR0.out _ KB3.out; have r1 := HR1.out _ KB3.out; have rz := HRZ.out _ KB3.out
      have r0x := HR0x.out _ KB3.out; have r1x := HR1x.out _ KB3.out; have rzx := HRZx.out _ KB3.out
      go_wp2_with fail
      clear r0 r1 rz r0x r1x rzx
      refine (C3.out _ KB3.out).mono ?_
      rintro e w4 ⟨u3, rfl, fP, hk⟩
      obtain ⟨aP, cP, hv⟩ := fP.ex F1.length rfl
      subst hv
      have KB4 := Lib.hid (btr KB3.out hk)
      have HP4 := Lib.hid fP
      clear KB3 fP hk
      have r0 := HR0.out _ KB4.out; have r1 := HR1.out _ KB4.out; have rz := HRZ.out _ KB4.out
      have r0x := HR0x.out _ KB4.out; have r1x := HR1x.out _ KB4.out; have rzx := HRZx.out _ KB4.out
      go_wp2_with fail
      clear r0 r1 rz r0x r1x rzx
      refine (C4.out _ KB4.out).mono ?_
      rintro e w5 ⟨u4, rfl, fQ, hk⟩
      obtain ⟨aQ, cQ, hv⟩ := fQ.ex F2.length rfl
      subst hv
      have KB5 := Lib.hid (btr KB4.out hk)
      have HP5 := Lib.hid (HP4.out.mono hk)
      have HQ5 := Lib.hid fQ
      clear KB4 HP4 fQ hk
      have r0 := HR0.out _ KB5.out; have r1 := HR1.out _ KB5.out; have rz := HRZ.out _ KB5.out
      have r0x := HR0x.out _ KB5.out; have r1x := HR1x.out _ KB5.out; have rzx := HRZx.out _ KB5.out
      go_wp2_with fail
      clear r0 r1 rz r0x r1x rzx
      refine (C5.out _ KB5.out).mono ?_
      rintro e w6 ⟨u5, rfl, fS, hk⟩
      obtain ⟨aS, cS, hv⟩ := fS.ex F3.length rfl
      subst hv
      have KB6 := Lib.hid (btr KB5.out hk)
      have HP6 := Lib.hid (HP5.out.mono hk)
      have HQ6 := Lib.hid (HQ5.out.mono hk)
      have HS6 := Lib.hid fS
      clear KB5 HP5 HQ5 fS hk
      have r0 := HR0.out _ KB6.out; have r1 := HR1.out _ KB6.out; have rz := HRZ.out _ KB6.out
      have r0x := HR0x.out _ KB6.out; have r1x := HR1x.out _ KB6.out; have rzx := HRZx.out _ KB6.out
      go_wp2_with fail
      clear r0 r1 rz r0x r1x rzx
      have HP := HP6; have HQ := HQ6; have HS := HS6
      go_loopw [16, 17, 18, 19] (fun s16 _ _ _ wr => ∃ k : Nat, k ≤ W.length ∧ s16 = .int .i64 k ∧ Below w6.heap.size w6 wr) (fun s16 _ _ _ _ => W.length - (intOf s16).toNat)
      case atStart => exact ⟨0, by omega, rfl, bz _⟩
      case round =>
        obtain ⟨k, hk, rfl, hBr⟩ := hrel
        have HBN := Lib.hid hBr
        have HBR := Lib.hid (btr KB6.out hBr)
        clear hBr
        by_cases hlt : k < W.length
        · obtain ⟨at1, at2⟩ := HWA.out k hlt
          have CK2 := Lib.hid (CK.out _ HBR.out k hlt)
          have HS1 := Lib.hid (fun wz (hB : Below wr.heap.size wr wz) => rhas_any (.slice aS F3.length cS) F3 (k : Int) wz (HS.out.mono (btr HBN.out hB)) (by omega))
          have HS2 := Lib.hid (fun wz (hB : Below wr.heap.size wr wz) => rhas_any (.slice aQ F2.length cQ) F2 (k : Int) wz (HQ.out.mono (btr HBN.out hB)) (by omega))
          have HS3 := Lib.hid (fun wz (hB : Below wr.heap.size wr wz) => rhas_any (.slice aP F1.length cP) F1 (k : Int) wz (HP.out.mono (btr HBN.out hB)) (by omega))
          rw [any_eqB] at HS1 HS2 HS3
          generalize kindD R W k = kd at *
          generalize decide ((k : Int) ∈ F1) = b1 at *
          generalize decide ((k : Int) ∈ F2) = b2 at *
          generalize decide ((k : Int) ∈ F3) = b3 at *
          have r0 := HR0.out _ HBR.out; have r1 := HR1.out _ HBR.out; have rz := HRZ.out _ HBR.out
          have r0x := HR0x.out _ HBR.out; have r1x := HR1x.out _ HBR.out; have rzx := HRZx.out _ HBR.out
          go_wp2_with fail
          clear r0 r1 rz r0x r1x rzx
          refine CK2.out.mono ?_
          rintro e wk ⟨rfl, hk2⟩
          have HBK := Lib.hid hk2
          have HBR2 := Lib.hid (btr HBR.out hk2)
          clear hk2 HBR CK2
          rcases at1 with ⟨rfl, rfl⟩ | rfl | ⟨rfl, rfl⟩ <;> rcases at2 with rfl | ⟨rfl, rfl⟩
          · have r0 := HR0.out _ HBR2.out; have r1 := HR1.out _ HBR2.out; have rz := HRZ.out _ HBR2.out
            have r0x := HR0x.out _ HBR2.out; have r1x := HR1x.out _ HBR2.out; have rzx := HRZx.out _ HBR2.out
            go_wp2_with fail
            clear r0 r1 rz r0x r1x rzx
            refine (HS1.out _ HBK.out).mono ?_
            rintro e wk2 ⟨rfl, rfl⟩
            have r0 := HR0.out _ HBR2.out; have r1 := HR1.out _ HBR2.out; have rz := HRZ.out _ HBR2.out
            have r0x := HR0x.out _ HBR2.out; have r1x := HR1x.out _ HBR2.out; have rzx := HRZx.out _ HBR2.out
            go_wp2_with fail
            clear r0 r1 rz r0x r1x rzx
            refine (HS2.out _ HBK.out).mono ?_
            rintro e wk3 ⟨rfl, rfl⟩
            have r0 := HR0.out _ HBR2.out; have r1 := HR1.out _ HBR2.out; have rz := HRZ.out _ HBR2.out
            have r0x := HR0x.out _ HBR2.out; have r1x := HR1x.out _ HBR2.out; have rzx := HRZx.out _ HBR2.out
            go_wp2_with fail
            clear r0 r1 rz r0x r1x rzx
            go_roundw
            case rel => exact ⟨k + 1, by omega, rfl, btr HBN.out HBK.out⟩
            case measure => simp [intOf]; omega
          · have r0 := HR0.out _ HBR2.out; have r1 := HR1.out _ HBR2.out; have rz := HRZ.out _ HBR2.out
            have r0x := HR0x.out _ HBR2.out; have r1x := HR1x.out _ HBR2.out; have rzx := HRZx.out _ HBR2.out
            go_wp2_with fail
            clear r0 r1 rz r0x r1x rzx
            refine (HS1.out _ HBK.out).mono ?_
            rintro e wk2 ⟨rfl, rfl⟩
            have r0 := HR0.out _ HBR2.out; have r1 := HR1.out _ HBR2.out; have rz := HRZ.out _ HBR2.out
            have r0x := HR0x.out _ HBR2.out; have r1x := HR1x.out _ HBR2.out; have rzx := HRZx.out _ HBR2.out
            go_wp2_with fail
            clear r0 r1 rz r0x r1x rzx
            refine (HS2.out _ HBK.out).mono ?_
            rintro e wk3 ⟨rfl, rfl⟩
            have r0 := HR0.out _ HBR2.out; have r1 := HR1.out _ HBR2.out; have rz := HRZ.out _ HBR2.out
            have r0x := HR0x.out _ HBR2.out; have r1x := HR1x.out _ HBR2.out; have rzx := HRZx.out _ HBR2.out
            go_wp2_with fail
            clear r0 r1 rz r0x r1x rzx
            refine (HS3.out _ HBK.out).mono ?_
            rintro e wk4 ⟨rfl, rfl⟩
            have r0 := HR0.out _ HBR2.out; have r1 := HR1.out _ HBR2.out; have rz := HRZ.out _ HBR2.out
            have r0x := HR0x.out _ HBR2.out; have r1x := HR1x.out _ HBR2.out; have rzx := HRZx.out _ HBR2.out
            go_wp2_with fail
            clear r0 r1 rz r0x r1x rzx
            go_roundw
            case rel => exact ⟨k + 1, by omega, rfl, btr HBN.out HBK.out⟩
            case measure => simp [intOf]; omega
          · have r0 := HR0.out _ HBR2.out; have r1 := HR1.out _ HBR2.out; have rz := HRZ.out _ HBR2.out
            have r0x := HR0x.out _ HBR2.out; have r1x := HR1x.out _ HBR2.out; have rzx := HRZx.out _ HBR2.out
            go_wp2_with fail
            clear r0 r1 rz r0x r1x rzx
            refine (HS1.out _ HBK.out).mono ?_
            rintro e wk2 ⟨rfl, rfl⟩
            have r0 := HR0.out _ HBR2.out; have r1 := HR1.out _ HBR2.out; have rz := HRZ.out _ HBR2.out
            have r0x := HR0x.out _ HBR2.out; have r1x := HR1x.out _ HBR2.out; have rzx := HRZx.out _ HBR2.out
            go_wp2_with fail
            clear r0 r1 rz r0x r1x rzx
            refine (HS2.out _ HBK.out).mono ?_
            rintro e wk3 ⟨rfl, rfl⟩
            have r0 := HR0.out _ HBR2.out; have r1 := HR1.out _ HBR2.out; have rz := HRZ.out _ HBR2.out
            have r0x := HR0x.out _ HBR2.out; have r1x := HR1x.out _ HBR2.out; have rzx := HRZx.out _ HBR2.out
            go_wp2_with fail
            clear r0 r1 rz r0x r1x rzx
            go_roundw
            case rel => exact ⟨k + 1, by omega, rfl, btr HBN.out HBK.out⟩
            case measure => simp [intOf]; omega
          · have r0 := HR0.out _ HBR2.out; have r1 := HR1.out _ HBR2.out; have rz := HRZ.out _ HBR2.out
            have r0x := HR0x.out _ HBR2.out; have r1x := HR1x.out _ HBR2.out; have rzx := HRZx.out _ HBR2.out
            go_wp2_with fail
            clear r0 r1 rz r0x r1x rzx
            refine (HS1.out _ HBK.out).mono ?_
            rintro e wk2 ⟨rfl, rfl⟩
            have r0 := HR0.out _ HBR2.out; have r1 := HR1.out _ HBR2.out; have rz := HRZ.out _ HBR2.out
            have r0x := HR0x.out _ HBR2.out; have r1x := HR1x.out _ HBR2.out; have rzx := HRZx.out _ HBR2.out
            go_wp2_with fail
            clear r0 r1 rz r0x r1x rzx
            refine (HS2.out _ HBK.out).mono ?_
            rintro e wk3 ⟨rfl, rfl⟩
            have r0 := HR0.out _ HBR2.out; have r1 := HR1.out _ HBR2.out; have rz := HRZ.out _ HBR2.out
            have r0x := HR0x.out _ HBR2.out; have r1x := HR1x.out _ HBR2.out; have rzx := HRZx.out _ HBR2.out
            go_wp2_with fail
            clear r0 r1 rz r0x r1x rzx
            refine (HS3.out _ HBK.out).mono ?_
            rintro e wk4 ⟨rfl, rfl⟩
            have r0 := HR0.out _ HBR2.out; have r1 := HR1.out _ HBR2.out; have rz := HRZ.out _ HBR2.out
            have r0x := HR0x.out _ HBR2.out; have r1x := HR1x.out _ HBR2.out; have rzx := HRZx.out _ HBR2.out
            go_wp2_with fail
            clear r0 r1 rz r0x r1x rzx
            go_roundw
            case rel => exact ⟨k + 1, by omega, rfl, btr HBN.out HBK.out⟩
            case measure => simp [intOf]; omega
          · have r0 := HR0.out _ HBR2.out; have r1 := HR1.out _ HBR2.out; have rz := HRZ.out _ HBR2.out
            have r0x := HR0x.out _ HBR2.out; have r1x := HR1x.out _ HBR2.out; have rzx := HRZx.out _ HBR2.out
            go_wp2_with fail
            clear r0 r1 rz r0x r1x rzx
            refine (HS1.out _ HBK.out).mono ?_
            rintro e wk2 ⟨rfl, rfl⟩
            have r0 := HR0.out _ HBR2.out; have r1 := HR1.out _ HBR2.out; have rz := HRZ.out _ HBR2.out
            have r0x := HR0x.out _ HBR2.out; have r1x := HR1x.out _ HBR2.out; have rzx := HRZx.out _ HBR2.out
            go_wp2_with fail
            clear r0 r1 rz r0x r1x rzx
            refine (HS2.out _ HBK.out).mono ?_
            rintro e wk3 ⟨rfl, rfl⟩
            have r0 := HR0.out _ HBR2.out; have r1 := HR1.out _ HBR2.out; have rz := HRZ.out _ HBR2.out
            have r0x := HR0x.out _ HBR2.out; have r1x := HR1x.out _ HBR2.out; have rzx := HRZx.out _ HBR2.out
            go_wp2_with fail
            clear r0 r1 rz r0x r1x rzx
            go_roundw
            case rel => exact ⟨k + 1, by omega, rfl, btr HBN.out HBK.out⟩
            case measure => simp [intOf]; omega
          · have r0 := HR0.out _ HBR2.out; have r1 := HR1.out _ HBR2.out; have rz := HRZ.out _ HBR2.out
            have r0x := HR0x.out _ HBR2.out; have r1x := HR1x.out _ HBR2.out; have rzx := HRZx.out _ HBR2.out
            go_wp2_with fail
            clear r0 r1 rz r0x r1x rzx
            refine (HS1.out _ HBK.out).mono ?_
            rintro e wk2 ⟨rfl, rfl⟩
            have r0 := HR0.out _ HBR2.out; have r1 := HR1.out _ HBR2.out; have rz := HRZ.out _ HBR2.out
            have r0x := HR0x.out _ HBR2.out; have r1x := HR1x.out _ HBR2.out; have rzx := HRZx.out _ HBR2.out
            go_wp2_with fail
            clear r0 r1 rz r0x r1x rzx
            refine (HS2.out _ HBK.out).mono ?_
            rintro e wk3 ⟨rfl, rfl⟩
            have r0 := HR0.out _ HBR2.out; have r1 := HR1.out _ HBR2.out; have rz := HRZ.out _ HBR2.out
            have r0x := HR0x.out _ HBR2.out; have r1x := HR1x.out _ HBR2.out; have rzx := HRZx.out _ HBR2.out
            go_wp2_with fail
            clear r0 r1 rz r0x r1x rzx
            refine (HS3.out _ HBK.out).mono ?_
            rintro e wk4 ⟨rfl, rfl⟩
            have r0 := HR0.out _ HBR2.out; have r1 := HR1.out _ HBR2.out; have rz := HRZ.out _ HBR2.out
            have r0x := HR0x.out _ HBR2.out; have r1x := HR1x.out _ HBR2.out; have rzx := HRZx.out _ HBR2.out
            go_wp2_with fail
            clear r0 r1 rz r0x r1x rzx
            go_roundw
            case rel => exact ⟨k + 1, by omega, rfl, btr HBN.out HBK.out⟩
            case measure => simp [intOf]; omega
        · have hke : k = W.length := by omega
          subst hke
          clear hlt hk
          have r0 := HR0.out _ HBR.out; have r1 := HR1.out _ HBR.out; have rz := HRZ.out _ HBR.out
          have r0x := HR0x.out _ HBR.out; have r1x := HR1x.out _ HBR.out; have rzx := HRZx.out _ HBR.out
          go_wp2_with fail
          clear r0 r1 rz r0x r1x rzx
          refine (CW.out _ HBR.out).mono ?_
          rintro e w1 ⟨rfl, hk⟩
          have KB1 := Lib.hid (btr HBR.out hk)
          clear HBR hk
          have r0 := HR0.out _ KB1.out; have r1 := HR1.out _ KB1.out; have rz := HRZ.out _ KB1.out
          have r0x := HR0x.out _ KB1.out; have r1x := HR1x.out _ KB1.out; have rzx := HRZx.out _ KB1.out
          go_wp2_with fail
          clear r0 r1 rz r0x r1x rzx
          go_ret
          exact ⟨rfl, btr HBA.out KB1.out⟩
    · have hd := okD_of hc
      have h16 := hd.l16; have hr1 := hd.r1; have hr6 := hd.r6
      obtain ⟨t, ht⟩ : ∃ t, m % 6 = t := ⟨_, rfl⟩
      have t0 : 0 ≤ t := by omega
      have t5 : t < 6 := by omega
      have hb' : 6 ≤ R + t := by omega
      have hR1 : 1 ≤ (6 : Int) := by omega
      have hR6 : (6 : Int) ≤ 6 := by omega
      have hRR : R ≤ (6 : Int) := by omega
      have hc' := checkD_room hc hR1 hR6
      have hd' := okD_of hc'
      have HWA := Lib.hid (fun i hi => wide_at hd hd' hRR (i := i) hi)
      have hfew : fewN (6 : Int) W ≤ fewN R W := few_wider hd hd' hRR
      have hn0 : 0 ≤ fewN (6 : Int) W := by unfold fewN; rw [few_run hd']; exact (fetN_bd _ _ _).1
      have hF1 : (fetR R 2 W).length ≤ W.length := fetR_len
      have hF2 : (fetR (6 : Int) 2 W).length ≤ W.length := fetR_len
      have hF3 : (fetR R 3 W).length ≤ W.length := fetR_len
      have HC := Lib.hid hc; have HC' := Lib.hid hc' 
      obtain ⟨wA, hwA⟩ : ∃ wA, w.alloc (.cells #[.int .i64 R, .slice a W.length c] 24) = wA := ⟨_, rfl⟩
      have HBA := Lib.hid (show Below w.heap.size w wA by rw [← hwA]; exact bal (bz w) _)
      have hr0 : wA.cell? ⟨w.heap.size, 0, none⟩ = some (.int .i64 R) := by rw [← hwA]; exact cnew rfl rfl
      have hr1 : wA.cell? ⟨w.heap.size, 1, none⟩ = some (.slice a W.length c) := by rw [← hwA]; exact cnew rfl rfl
      have hrz : w.heap.size < wA.heap.size := by rw [← hwA]; simp
      have HR0 := Lib.hid (fun wz (hB : Below wA.heap.size wA wz) => (hB.cell (p := ⟨w.heap.size, 0, none⟩) hrz).trans hr0)
      have HR1 := Lib.hid (fun wz (hB : Below wA.heap.size wA wz) => (hB.cell (p := ⟨w.heap.size, 1, none⟩) hrz).trans hr1)
      have HRZ := Lib.hid (fun wz (hB : Below wA.heap.size wA wz) => Nat.lt_of_lt_of_le hrz hB.size)
      have HX := Lib.hid (hx0.mono HBA.out)
      clear hr0 hr1 hrz hx0
      have CF := Lib.hid (fun wz (hB : Below wA.heap.size wA wz) => fine_yes R _ W wz (HX.out.mono hB) hc)
      clear hc hc' hd hd'
      have KB0 := Lib.hid (bz wA)
      go_enter Try.func9, Try.ntmps9
      go_upto_region 1 with fail
      try rw [hwA]
      clear hwA
      have r0 := HR0.out _ KB0.out; have r1 := HR1.out _ KB0.out; have rz := HRZ.out _ KB0.out
      go_wp2_with fail
      clear r0 r1 rz
      refine (CF.out _ KB0.out).mono ?_
      rintro e w1 ⟨rfl, hk⟩
      have KB1 := Lib.hid (btr KB0.out hk)
      clear KB0 hk
      have r0 := HR0.out _ KB1.out; have r1 := HR1.out _ KB1.out; have rz := HRZ.out _ KB1.out
      have hrow := heap_alloc_new w1 (.cells #[.int .i64 0, .slice none 0 0] 24)
      go_wp2_with (refine wpList_store_row rfl 24 (.tmp 5) (.tmp 24) rfl w1.heap.size #[.int .i64 R, .slice a W.length c] rfl rfl 24 _ hrow (by kernel_rfl) rfl rfl ?_)
      obtain ⟨wB, hwB⟩ : ∃ wB, w1.alloc (.cells #[.int .i64 6, .slice a W.length c] 24) = wB := ⟨_, rfl⟩
      rw [hwB]
      have HBAB := Lib.hid (show Below wA.heap.size wA wB by rw [← hwB]; exact bal KB1.out _)
      have r0x : wB.cell? ⟨w1.heap.size, 0, none⟩ = some (.int .i64 6) := by rw [← hwB]; exact cnew rfl rfl
      have r1x : wB.cell? ⟨w1.heap.size, 1, none⟩ = some (.slice a W.length c) := by rw [← hwB]; exact cnew rfl rfl
      have rzx : w1.heap.size < wB.heap.size := by rw [← hwB]; simp
      have HR0x := Lib.hid (fun wz (hB : Below wB.heap.size wB wz) => (hB.cell (p := ⟨w1.heap.size, 0, none⟩) rzx).trans r0x)
      have HR1x := Lib.hid (fun wz (hB : Below wB.heap.size wB wz) => (hB.cell (p := ⟨w1.heap.size, 1, none⟩) rzx).trans r1x)
      have HRZx := Lib.hid (fun wz (hB : Below wB.heap.size wB wz) => Nat.lt_of_lt_of_le rzx hB.size)
      clear r0x r1x rzx hwB hrow
      have HR0b := Lib.hid (fun wz (hB : Below wB.heap.size wB wz) => HR0.out _ (btr HBAB.out hB))
      have HR1b := Lib.hid (fun wz (hB : Below wB.heap.size wB wz) => HR1.out _ (btr HBAB.out hB))
      have HRZb := Lib.hid (fun wz (hB : Below wB.heap.size wB wz) => HRZ.out _ (btr HBAB.out hB))
      have HXb := Lib.hid (HX.out.mono HBAB.out)
      have HBB := Lib.hid (btr HBA.out HBAB.out)
      clear HR0 HR1 HRZ HX HBA HBAB CF KB1
      have HR0 := HR0b; have HR1 := HR1b; have HRZ := HRZb; have HX := HXb; have HBA := HBB
      clear HR0b HR1b HRZb HXb HBB
      have KBB := Lib.hid (bz wB)
      have CW := Lib.hid (fun wz (hB : Below wB.heap.size wB wz) => works_any wz)
      have C1 := Lib.hid (fun wz (hB : Below wB.heap.size wB wz) => fewest_yes R _ W wz (HX.out.mono hB) HC.out)
      have C2 := Lib.hid (fun wz (hB : Below wB.heap.size wB wz) => fewest_yes 6 _ W wz (HX.out.mono hB) HC'.out)
      have C3 := Lib.hid (fun wz (hB : Below wB.heap.size wB wz) => fetched_any R _ W 2 wz (HX.out.mono hB) HC.out (by omega) (by omega))
      have C4 := Lib.hid (fun wz (hB : Below wB.heap.size wB wz) => fetched_any 6 _ W 2 wz (HX.out.mono hB) HC'.out (by omega) (by omega))
      have C5 := Lib.hid (fun wz (hB : Below wB.heap.size wB wz) => fetched_any R _ W 3 wz (HX.out.mono hB) HC.out (by omega) (by omega))
      have CK := Lib.hid (fun wz (hB : Below wB.heap.size wB wz) => fun p hp => pkind_yes R _ W p wz (HX.out.mono hB) HC.out hp)
      clear HC HC'
      generalize fewN R W = n at *
      generalize fewN 6 W = n' at *
      generalize fetR R 2 W = F1 at *
      generalize fetR 6 2 W = F2 at *
      generalize fetR R 3 W = F3 at *
      refine (C1.out _ KBB.out).mono ?_
      rintro e w2 ⟨rfl, hk⟩
      have KB2 := Lib.hid (btr KBB.out hk)
      clear KBB hk
      have r0 := HR0.out _ KB2.out; have r1 := HR1.out _ KB2.out; have rz := HRZ.out _ KB2.out
      have r0x := HR0x.out _ KB2.out; have r1x := HR1x.out _ KB2.out; have rzx := HRZx.out _ KB2.out
      go_wp2_with fail
      clear r0 r1 rz r0x r1x rzx
      refine (C2.out _ KB2.out).mono ?_
      rintro e w3 ⟨rfl, hk⟩
      have KB3 := Lib.hid (btr KB2.out hk)
      clear KB2 hk
      have r0 := HR0.out _ KB3.out; have r1 := HR1.out _ KB3.out; have rz := HRZ.out _ KB3.out
      have r0x := HR0x.out _ KB3.out; have r1x := HR1x.out _ KB3.out; have rzx := HRZx.out _ KB3.out
      go_wp2_with fail
      clear r0 r1 rz r0x r1x rzx
      refine (C3.out _ KB3.out).mono ?_
      rintro e w4 ⟨u3, rfl, fP, hk⟩
      obtain ⟨aP, cP, hv⟩ := fP.ex F1.length rfl
      subst hv
      have KB4 := Lib.hid (btr KB3.out hk)
      have HP4 := Lib.hid fP
      clear KB3 fP hk
      have r0 := HR0.out _ KB4.out; have r1 := HR1.out _ KB4.out; have rz := HRZ.out _ KB4.out
      have r0x := HR0x.out _ KB4.out; have r1x := HR1x.out _ KB4.out; have rzx := HRZx.out _ KB4.out
      go_wp2_with fail
      clear r0 r1 rz r0x r1x rzx
      refine (C4.out _ KB4.out).mono ?_
      rintro e w5 ⟨u4, rfl, fQ, hk⟩
      obtain ⟨aQ, cQ, hv⟩ := fQ.ex F2.length rfl
      subst hv
      have KB5 := Lib.hid (btr KB4.out hk)
      have HP5 := Lib.hid (HP4.out.mono hk)
      have HQ5 := Lib.hid fQ
      clear KB4 HP4 fQ hk
      have r0 := HR0.out _ KB5.out; have r1 := HR1.out _ KB5.out; have rz := HRZ.out _ KB5.out
      have r0x := HR0x.out _ KB5.out; have r1x := HR1x.out _ KB5.out; have rzx := HRZx.out _ KB5.out
      go_wp2_with fail
      clear r0 r1 rz r0x r1x rzx
      refine (C5.out _ KB5.out).mono ?_
      rintro e w6 ⟨u5, rfl, fS, hk⟩
      obtain ⟨aS, cS, hv⟩ := fS.ex F3.length rfl
      subst hv
      have KB6 := Lib.hid (btr KB5.out hk)
      have HP6 := Lib.hid (HP5.out.mono hk)
      have HQ6 := Lib.hid (HQ5.out.mono hk)
      have HS6 := Lib.hid fS
      clear KB5 HP5 HQ5 fS hk
      have r0 := HR0.out _ KB6.out; have r1 := HR1.out _ KB6.out; have rz := HRZ.out _ KB6.out
      have r0x := HR0x.out _ KB6.out; have r1x := HR1x.out _ KB6.out; have rzx := HRZx.out _ KB6.out
      go_wp2_with fail
      clear r0 r1 rz r0x r1x rzx
      have HP := HP6; have HQ := HQ6; have HS := HS6
      go_loopw [16, 17, 18, 19] (fun s16 _ _ _ wr => ∃ k : Nat, k ≤ W.length ∧ s16 = .int .i64 k ∧ Below w6.heap.size w6 wr) (fun s16 _ _ _ _ => W.length - (intOf s16).toNat)
      case atStart => exact ⟨0, by omega, rfl, bz _⟩
      case round =>
        obtain ⟨k, hk, rfl, hBr⟩ := hrel
        have HBN := Lib.hid hBr
        have HBR := Lib.hid (btr KB6.out hBr)
        clear hBr
        by_cases hlt : k < W.length
        · obtain ⟨at1, at2⟩ := HWA.out k hlt
          have CK2 := Lib.hid (CK.out _ HBR.out k hlt)
          have HS1 := Lib.hid (fun wz (hB : Below wr.heap.size wr wz) => rhas_any (.slice aS F3.length cS) F3 (k : Int) wz (HS.out.mono (btr HBN.out hB)) (by omega))
          have HS2 := Lib.hid (fun wz (hB : Below wr.heap.size wr wz) => rhas_any (.slice aQ F2.length cQ) F2 (k : Int) wz (HQ.out.mono (btr HBN.out hB)) (by omega))
          have HS3 := Lib.hid (fun wz (hB : Below wr.heap.size wr wz) => rhas_any (.slice aP F1.length cP) F1 (k : Int) wz (HP.out.mono (btr HBN.out hB)) (by omega))
          rw [any_eqB] at HS1 HS2 HS3
          generalize kindD R W k = kd at *
          generalize decide ((k : Int) ∈ F1) = b1 at *
          generalize decide ((k : Int) ∈ F2) = b2 at *
          generalize decide ((k : Int) ∈ F3) = b3 at *
          have r0 := HR0.out _ HBR.out; have r1 := HR1.out _ HBR.out; have rz := HRZ.out _ HBR.out
          have r0x := HR0x.out _ HBR.out; have r1x := HR1x.out _ HBR.out; have rzx := HRZx.out _ HBR.out
          go_wp2_with fail
          clear r0 r1 rz r0x r1x rzx
          refine CK2.out.mono ?_
          rintro e wk ⟨rfl, hk2⟩
          have HBK := Lib.hid hk2
          have HBR2 := Lib.hid (btr HBR.out hk2)
          clear hk2 HBR CK2
          rcases at1 with ⟨rfl, rfl⟩ | rfl | ⟨rfl, rfl⟩ <;> rcases at2 with rfl | ⟨rfl, rfl⟩
          · have r0 := HR0.out _ HBR2.out; have r1 := HR1.out _ HBR2.out; have rz := HRZ.out _ HBR2.out
            have r0x := HR0x.out _ HBR2.out; have r1x := HR1x.out _ HBR2.out; have rzx := HRZx.out _ HBR2.out
            go_wp2_with fail
            clear r0 r1 rz r0x r1x rzx
            refine (HS1.out _ HBK.out).mono ?_
            rintro e wk2 ⟨rfl, rfl⟩
            have r0 := HR0.out _ HBR2.out; have r1 := HR1.out _ HBR2.out; have rz := HRZ.out _ HBR2.out
            have r0x := HR0x.out _ HBR2.out; have r1x := HR1x.out _ HBR2.out; have rzx := HRZx.out _ HBR2.out
            go_wp2_with fail
            clear r0 r1 rz r0x r1x rzx
            refine (HS2.out _ HBK.out).mono ?_
            rintro e wk3 ⟨rfl, rfl⟩
            have r0 := HR0.out _ HBR2.out; have r1 := HR1.out _ HBR2.out; have rz := HRZ.out _ HBR2.out
            have r0x := HR0x.out _ HBR2.out; have r1x := HR1x.out _ HBR2.out; have rzx := HRZx.out _ HBR2.out
            go_wp2_with fail
            clear r0 r1 rz r0x r1x rzx
            go_roundw
            case rel => exact ⟨k + 1, by omega, rfl, btr HBN.out HBK.out⟩
            case measure => simp [intOf]; omega
          · have r0 := HR0.out _ HBR2.out; have r1 := HR1.out _ HBR2.out; have rz := HRZ.out _ HBR2.out
            have r0x := HR0x.out _ HBR2.out; have r1x := HR1x.out _ HBR2.out; have rzx := HRZx.out _ HBR2.out
            go_wp2_with fail
            clear r0 r1 rz r0x r1x rzx
            refine (HS1.out _ HBK.out).mono ?_
            rintro e wk2 ⟨rfl, rfl⟩
            have r0 := HR0.out _ HBR2.out; have r1 := HR1.out _ HBR2.out; have rz := HRZ.out _ HBR2.out
            have r0x := HR0x.out _ HBR2.out; have r1x := HR1x.out _ HBR2.out; have rzx := HRZx.out _ HBR2.out
            go_wp2_with fail
            clear r0 r1 rz r0x r1x rzx
            refine (HS2.out _ HBK.out).mono ?_
            rintro e wk3 ⟨rfl, rfl⟩
            have r0 := HR0.out _ HBR2.out; have r1 := HR1.out _ HBR2.out; have rz := HRZ.out _ HBR2.out
            have r0x := HR0x.out _ HBR2.out; have r1x := HR1x.out _ HBR2.out; have rzx := HRZx.out _ HBR2.out
            go_wp2_with fail
            clear r0 r1 rz r0x r1x rzx
            refine (HS3.out _ HBK.out).mono ?_
            rintro e wk4 ⟨rfl, rfl⟩
            have r0 := HR0.out _ HBR2.out; have r1 := HR1.out _ HBR2.out; have rz := HRZ.out _ HBR2.out
            have r0x := HR0x.out _ HBR2.out; have r1x := HR1x.out _ HBR2.out; have rzx := HRZx.out _ HBR2.out
            go_wp2_with fail
            clear r0 r1 rz r0x r1x rzx
            go_roundw
            case rel => exact ⟨k + 1, by omega, rfl, btr HBN.out HBK.out⟩
            case measure => simp [intOf]; omega
          · have r0 := HR0.out _ HBR2.out; have r1 := HR1.out _ HBR2.out; have rz := HRZ.out _ HBR2.out
            have r0x := HR0x.out _ HBR2.out; have r1x := HR1x.out _ HBR2.out; have rzx := HRZx.out _ HBR2.out
            go_wp2_with fail
            clear r0 r1 rz r0x r1x rzx
            refine (HS1.out _ HBK.out).mono ?_
            rintro e wk2 ⟨rfl, rfl⟩
            have r0 := HR0.out _ HBR2.out; have r1 := HR1.out _ HBR2.out; have rz := HRZ.out _ HBR2.out
            have r0x := HR0x.out _ HBR2.out; have r1x := HR1x.out _ HBR2.out; have rzx := HRZx.out _ HBR2.out
            go_wp2_with fail
            clear r0 r1 rz r0x r1x rzx
            refine (HS2.out _ HBK.out).mono ?_
            rintro e wk3 ⟨rfl, rfl⟩
            have r0 := HR0.out _ HBR2.out; have r1 := HR1.out _ HBR2.out; have rz := HRZ.out _ HBR2.out
            have r0x := HR0x.out _ HBR2.out; have r1x := HR1x.out _ HBR2.out; have rzx := HRZx.out _ HBR2.out
            go_wp2_with fail
            clear r0 r1 rz r0x r1x rzx
            go_roundw
            case rel => exact ⟨k + 1, by omega, rfl, btr HBN.out HBK.out⟩
            case measure => simp [intOf]; omega
          · have r0 := HR0.out _ HBR2.out; have r1 := HR1.out _ HBR2.out; have rz := HRZ.out _ HBR2.out
            have r0x := HR0x.out _ HBR2.out; have r1x := HR1x.out _ HBR2.out; have rzx := HRZx.out _ HBR2.out
            go_wp2_with fail
            clear r0 r1 rz r0x r1x rzx
            refine (HS1.out _ HBK.out).mono ?_
            rintro e wk2 ⟨rfl, rfl⟩
            have r0 := HR0.out _ HBR2.out; have r1 := HR1.out _ HBR2.out; have rz := HRZ.out _ HBR2.out
            have r0x := HR0x.out _ HBR2.out; have r1x := HR1x.out _ HBR2.out; have rzx := HRZx.out _ HBR2.out
            go_wp2_with fail
            clear r0 r1 rz r0x r1x rzx
            refine (HS2.out _ HBK.out).mono ?_
            rintro e wk3 ⟨rfl, rfl⟩
            have r0 := HR0.out _ HBR2.out; have r1 := HR1.out _ HBR2.out; have rz := HRZ.out _ HBR2.out
            have r0x := HR0x.out _ HBR2.out; have r1x := HR1x.out _ HBR2.out; have rzx := HRZx.out _ HBR2.out
            go_wp2_with fail
            clear r0 r1 rz r0x r1x rzx
            refine (HS3.out _ HBK.out).mono ?_
            rintro e wk4 ⟨rfl, rfl⟩
            have r0 := HR0.out _ HBR2.out; have r1 := HR1.out _ HBR2.out; have rz := HRZ.out _ HBR2.out
            have r0x := HR0x.out _ HBR2.out; have r1x := HR1x.out _ HBR2.out; have rzx := HRZx.out _ HBR2.out
            go_wp2_with fail
            clear r0 r1 rz r0x r1x rzx
            go_roundw
            case rel => exact ⟨k + 1, by omega, rfl, btr HBN.out HBK.out⟩
            case measure => simp [intOf]; omega
          · have r0 := HR0.out _ HBR2.out; have r1 := HR1.out _ HBR2.out; have rz := HRZ.out _ HBR2.out
            have r0x := HR0x.out _ HBR2.out; have r1x := HR1x.out _ HBR2.out; have rzx := HRZx.out _ HBR2.out
            go_wp2_with fail
            clear r0 r1 rz r0x r1x rzx
            refine (HS1.out _ HBK.out).mono ?_
            rintro e wk2 ⟨rfl, rfl⟩
            have r0 := HR0.out _ HBR2.out; have r1 := HR1.out _ HBR2.out; have rz := HRZ.out _ HBR2.out
            have r0x := HR0x.out _ HBR2.out; have r1x := HR1x.out _ HBR2.out; have rzx := HRZx.out _ HBR2.out
            go_wp2_with fail
            clear r0 r1 rz r0x r1x rzx
            refine (HS2.out _ HBK.out).mono ?_
            rintro e wk3 ⟨rfl, rfl⟩
            have r0 := HR0.out _ HBR2.out; have r1 := HR1.out _ HBR2.out; have rz := HRZ.out _ HBR2.out
            have r0x := HR0x.out _ HBR2.out; have r1x := HR1x.out _ HBR2.out; have rzx := HRZx.out _ HBR2.out
            go_wp2_with fail
            clear r0 r1 rz r0x r1x rzx
            go_roundw
            case rel => exact ⟨k + 1, by omega, rfl, btr HBN.out HBK.out⟩
            case measure => simp [intOf]; omega
          · have r0 := HR0.out _ HBR2.out; have r1 := HR1.out _ HBR2.out; have rz := HRZ.out _ HBR2.out
            have r0x := HR0x.out _ HBR2.out; have r1x := HR1x.out _ HBR2.out; have rzx := HRZx.out _ HBR2.out
            go_wp2_with fail
            clear r0 r1 rz r0x r1x rzx
            refine (HS1.out _ HBK.out).mono ?_
            rintro e wk2 ⟨rfl, rfl⟩
            have r0 := HR0.out _ HBR2.out; have r1 := HR1.out _ HBR2.out; have rz := HRZ.out _ HBR2.out
            have r0x := HR0x.out _ HBR2.out; have r1x := HR1x.out _ HBR2.out; have rzx := HRZx.out _ HBR2.out
            go_wp2_with fail
            clear r0 r1 rz r0x r1x rzx
            refine (HS2.out _ HBK.out).mono ?_
            rintro e wk3 ⟨rfl, rfl⟩
            have r0 := HR0.out _ HBR2.out; have r1 := HR1.out _ HBR2.out; have rz := HRZ.out _ HBR2.out
            have r0x := HR0x.out _ HBR2.out; have r1x := HR1x.out _ HBR2.out; have rzx := HRZx.out _ HBR2.out
            go_wp2_with fail
            clear r0 r1 rz r0x r1x rzx
            refine (HS3.out _ HBK.out).mono ?_
            rintro e wk4 ⟨rfl, rfl⟩
            have r0 := HR0.out _ HBR2.out; have r1 := HR1.out _ HBR2.out; have rz := HRZ.out _ HBR2.out
            have r0x := HR0x.out _ HBR2.out; have r1x := HR1x.out _ HBR2.out; have rzx := HRZx.out _ HBR2.out
            go_wp2_with fail
            clear r0 r1 rz r0x r1x rzx
            go_roundw
            case rel => exact ⟨k + 1, by omega, rfl, btr HBN.out HBK.out⟩
            case measure => simp [intOf]; omega
        · have hke : k = W.length := by omega
          subst hke
          clear hlt hk
          have r0 := HR0.out _ HBR.out; have r1 := HR1.out _ HBR.out; have rz := HRZ.out _ HBR.out
          have r0x := HR0x.out _ HBR.out; have r1x := HR1x.out _ HBR.out; have rzx := HRZx.out _ HBR.out
          go_wp2_with fail
          clear r0 r1 rz r0x r1x rzx
          refine (CW.out _ HBR.out).mono ?_
          rintro e w1 ⟨rfl, hk⟩
          have KB1 := Lib.hid (btr HBR.out hk)
          clear HBR hk
          have r0 := HR0.out _ KB1.out; have r1 := HR1.out _ KB1.out; have rz := HRZ.out _ KB1.out
          have r0x := HR0x.out _ KB1.out; have r1x := HR1x.out _ KB1.out; have rzx := HRZx.out _ KB1.out
          go_wp2_with fail
          clear r0 r1 rz r0x r1x rzx
          go_ret
          exact ⟨rfl, btr HBA.out KB1.out⟩
  · obtain ⟨wA, hwA⟩ : ∃ wA, w.alloc (.cells #[.int .i64 R, .slice a W.length c] 24) = wA := ⟨_, rfl⟩
    have HBA := Lib.hid (show Below w.heap.size w wA by rw [← hwA]; exact bal (bz w) _)
    have hr0 : wA.cell? ⟨w.heap.size, 0, none⟩ = some (.int .i64 R) := by rw [← hwA]; exact cnew rfl rfl
    have hr1 : wA.cell? ⟨w.heap.size, 1, none⟩ = some (.slice a W.length c) := by rw [← hwA]; exact cnew rfl rfl
    have hrz : w.heap.size < wA.heap.size := by rw [← hwA]; simp
    have HR0 := Lib.hid (fun wz (hB : Below wA.heap.size wA wz) => (hB.cell (p := ⟨w.heap.size, 0, none⟩) hrz).trans hr0)
    have HR1 := Lib.hid (fun wz (hB : Below wA.heap.size wA wz) => (hB.cell (p := ⟨w.heap.size, 1, none⟩) hrz).trans hr1)
    have HRZ := Lib.hid (fun wz (hB : Below wA.heap.size wA wz) => Nat.lt_of_lt_of_le hrz hB.size)
    have HX := Lib.hid (hx0.mono HBA.out)
    clear hr0 hr1 hrz hx0
    have CW := Lib.hid (fun wz (hB : Below wA.heap.size wA wz) => works_any wz)
    have CF := Lib.hid (fun wz (hB : Below wA.heap.size wA wz) => fine_no R _ W wz (HX.out.mono hB) hc)
    clear hc
    have KB0 := Lib.hid (bz wA)
    go_enter Try.func9, Try.ntmps9
    go_upto_region 1 with fail
    try rw [hwA]
    clear hwA
    have r0 := HR0.out _ KB0.out; have r1 := HR1.out _ KB0.out; have rz := HRZ.out _ KB0.out
    go_wp2_with fail
    clear r0 r1 rz
    refine (CF.out _ KB0.out).mono ?_
    rintro e w1 ⟨rfl, hk⟩
    have KB1 := Lib.hid (btr KB0.out hk)
    clear KB0 hk
    have r0 := HR0.out _ KB1.out; have r1 := HR1.out _ KB1.out; have rz := HRZ.out _ KB1.out
    go_wp2_with fail
    clear r0 r1 rz
    refine (CW.out _ KB1.out).mono ?_
    rintro e w2 ⟨rfl, hk⟩
    have KB2 := Lib.hid (btr KB1.out hk)
    clear KB1 hk
    have r0 := HR0.out _ KB2.out; have r1 := HR1.out _ KB2.out; have rz := HRZ.out _ KB2.out
    go_wp2_with fail
    clear r0 r1 rz
    go_ret
    exact ⟨rfl, btr HBA.out KB2.out⟩
section
open Go.ChangeShapes Go.WideShapes Go.ChangeAt
set_option maxRecDepth 100000 in
theorem shelfWider_lifted (os : Os) (started : os.Started) (H : Type) (enc : TypeId × Value → H) :
    ReturnsInHanded {} Try.checked os 9 .any (Rows.shelfWiderSpec.pre6 enc Try.prog Try.f9 Rows.shelfWiderRow.domain false) (Rows.shelfWiderSpec.post enc Try.prog Try.f9 false true false false) := by
  refine returnsInHanded_of_change (C := Try.checked) Try.own started (by kernel_rfl) Try.func9
    (ChangeSpec.witness6 (enc := enc) (C := Try.checked) false ⟨#[], #[.agg #[.int .i64 0, .slice none 0 0], .int .u8 0], []⟩ 8 (by kernel_rfl) (by kernel_rfl) (by kernel_rfl) (by kernel_rfl)) ?_
  intro W base args ds gs before hval0 hW _ _
  have hval : ∀ (j : Nat) t v, Try.f9.params[j]? = some t → args[j]? = some v → Value.okWide Try.prog W .any base t v := hval0
  have hW' := hW
  obtain ⟨p, q, hA0, hV, rfl, hfz, hnd⟩ := hW
  have hA : DataW.TrodAll enc Try.prog W 0 (fun _ => true) true Try.f9.params.toList args.toList ds p := hA0
  have hA2 := hA
  have hlt : ∀ x ∈ p, x.block < W.heap.size := fun x hx => hW'.lt x (List.mem_append_left _ hx)
  rw [Try.params9] at hA hval
  obtain ⟨v0, vs0, d0, ds0, p0, q0, hargs, rfl, rfl, h0, r0⟩ := trodAll_cons hA
  obtain ⟨v1, vs1, d1, ds1, p1, q1, rfl, rfl, rfl, h1, r1⟩ := trodAll_cons r0
  obtain ⟨rfl, rfl, rfl⟩ := trodAll_nil r1
  obtain rfl : args = #[v0, v1] := by cases args; simp_all
  obtain ⟨rfl, rfl⟩ := trodVars_none hV
  obtain ⟨R0, x0, X0, rfl, hx0⟩ := open_day (hval 0 24 v0 rfl rfl) h0 (fun x hx => hlt x (by simp [hx]))
  obtain ⟨a1, rfl, rfl, rfl, w1⟩ := open_int Try.underlying5 (hval 1 5 v1 rfl rfl) h1
  clear hA0 hval0
  simp only [List.append_nil] at hW' hA2
  refine (shelfWider_walk R0 x0 X0 a1 W hx0 (wf8 w1).1 (Int.lt_add_one_of_le (wf8 w1).2)).mono fun e W' ⟨he, hb⟩ => ?_
  subst he
  exact ⟨_, rfl, law_post Try.laidOut Try.underlying4 hW' hA2 rfl rfl rfl rfl rfl (by kernel_rfl) hb⟩
theorem shelfWider_holds : Rows.ShelfWiderSaid :=
  OpenClaim.holds_of_wide 9 Try.f9 rfl rfl rfl rfl rfl rfl rfl ⟨rfl, rfl, rfl, rfl, rfl⟩ rfl rfl rfl rfl rfl (by kernel_rfl) Try.func9 (by kernel_rfl)
    (of_decide_eq_true (by kernel_rfl)) (by unfold Func.isWrapper; first | (rw [if_pos (by decide +kernel)]; kernel_rfl) | (rw [if_neg (by decide +kernel)]; exact ⟨rfl, rfl⟩))
    (fun os started H enc _ => shelfWider_lifted os started H enc)
end
end Go.Proofs.Ytjajdpggoggoiaa
