/- Times by bits. -/
import Derived.Test.YtjajdpggoggoiaaQ12
namespace Go.Proofs.Ytjajdpggoggoiaa
open Go.RowKit Go.Shelf

set_option maxRecDepth 100000 in
set_option maxHeartbeats 16000000 in
theorem some_any (R : Int) (x : Value) (W : List Int) (m : Int) (w : World) (hx0 : RdI w .i64 x W) (h16 : W.length ≤ 16) :
    Calls Try.prog 38 #[.agg #[.int .i64 R, x], .int .u16 m] w fun e w' => ∃ u T, e = .returned u ∧ RdI w' .i64 u T ∧ okT W.length 0 T = true ∧ T.length ≤ 16 ∧ Below w.heap.size w w' := by
  obtain ⟨a, c, rfl⟩ := hx0.ex _ rfl
  obtain ⟨wA, hwA⟩ : ∃ wA, w.alloc (.cells #[.int .i64 R, .slice a W.length c] 24) = wA := ⟨_, rfl⟩
  have HBA := Lib.hid (show Below w.heap.size w wA by rw [← hwA]; exact bal (bz w) _)
  have hr0 : wA.cell? ⟨w.heap.size, 0, none⟩ = some (.int .i64 R) := by rw [← hwA]; exact cnew rfl rfl
  have hr1 : wA.cell? ⟨w.heap.size, 1, none⟩ = some (.slice a W.length c) := by rw [← hwA]; exact cnew rfl rfl
  have hrz : w.heap.size < wA.heap.size := by rw [← hwA]; simp
  have HR0 := Lib.hid (fun wz (hB : Below wA.heap.size wA wz) => (hB.cell (p := ⟨w.heap.size, 0, none⟩) hrz).trans hr0)
  have HR1 := Lib.hid (fun wz (hB : Below wA.heap.size wA wz) => (hB.cell (p := ⟨w.heap.size, 1, none⟩) hrz).trans hr1)
  have HRZ := Lib.hid (fun wz (hB : Below wA.heap.size wA wz) => Nat.lt_of_lt_of_le hrz hB.size)
  have HX := Lib.hid (hx0.mono HBA.out)
  clear hr0 hr1 hrz hx0
  have KB0 := Lib.hid (bz wA)
  go_enter Try.func38, Try.ntmps38
  go_upto_region 1 with fail
  try rw [hwA]
  clear hwA
  have r0 := HR0.out _ KB0.out; have r1 := HR1.out _ KB0.out; have rz := HRZ.out _ KB0.out
  go_wp2_with fail
  clear r0 r1 rz
  go_loopw [5, 6] (fun s5 s6 wr => ∃ (k : Nat) (Y : List Nat), k ≤ W.length ∧ s6 = .int .i64 k ∧ rowI wr wA.heap.size s5 (nl Y) ∧ Hid (Y.Pairwise (· < ·) ∧ (∀ t ∈ Y, t < k)) ∧ Y.length ≤ k ∧ Below wA.heap.size wA wr) (fun _ s6 _ => W.length - (intOf s6).toNat)
  case atStart => exact ⟨0, [], by omega, rfl, World.ownsRow_nil _ _ _ _, Lib.hid ⟨.nil, fun t ht => by cases ht⟩, by simp, KB0.out⟩
  case round =>
    obtain ⟨k, Y, hk, rfl, hY, HYK, hYl, hBr⟩ := hrel
    have HBR := Lib.hid hBr
    have HY := Lib.hid hY
    clear hBr hY KB0
    by_cases hlt : k < W.length
    · have hk16 : (k : Int) < 16 := by omega
      by_cases hbb : (bits BinOp.and IntKind.u16 (m / 2 ^ k) 1 == 1) = true
      · have r0 := HR0.out _ HBR.out; have r1 := HR1.out _ HBR.out; have rz := HRZ.out _ HBR.out
        have HYZ := HBR.out.size
        go_wp2_with (at_builtin; refine wpList_append_num rfl _ _ rfl Try.underlying22 num3 HY.out (k : Int) rfl rfl rfl (by rw [nl_len]; omega) HYZ ?_)
        intro v' w' hown hgrow
        have HB2 := Lib.hid (append_below (bal HBR.out _) (World.ownsRow.alloc HY.out _) hgrow (Nat.le_refl _))
        have HO2 := Lib.hid (show rowI w' wA.heap.size v' (nl (Y ++ [k])) by unfold rowI; rw [show nl (Y ++ [k]) = nl Y ++ [(k : Int)] by simp [nl], List.length_append, List.map_append]; exact hown)
        have HP2 := Lib.hid (show (Y ++ [k]).Pairwise (· < ·) ∧ ∀ t ∈ Y ++ [k], t < k + 1 by
          refine ⟨List.pairwise_append.2 ⟨HYK.out.1, by simp, fun a ha b hb => ?_⟩, fun t ht => ?_⟩
          · simp at hb; subst hb; exact HYK.out.2 a ha
          · rcases List.mem_append.1 ht with g | g
            · have := HYK.out.2 t g; omega
            · simp at g; omega)
        clear hown hgrow hbb HYK HY HBR
        clear r0 r1 rz
        go_wp2_with fail
        go_roundw
        case rel => exact ⟨k + 1, Y ++ [k], by omega, rfl, HO2.out, HP2, by simp; omega, HB2.out⟩
        case measure => simp [intOf]; omega
      · have r0 := HR0.out _ HBR.out; have r1 := HR1.out _ HBR.out; have rz := HRZ.out _ HBR.out
        have hbf : (bits BinOp.and IntKind.u16 (m / 2 ^ k) 1 == 1) = false := by simpa using hbb
        clear hbb
        go_wp2_with fail
        go_roundw
        case rel => exact ⟨k + 1, Y, by omega, rfl, HY.out, Lib.hid ⟨HYK.out.1, fun t ht => by have := HYK.out.2 t ht; omega⟩, by omega, HBR.out⟩
        case measure => simp [intOf]; omega
    · have hke : k = W.length := by omega
      subst hke
      clear hlt hk
      have r0 := HR0.out _ HBR.out; have r1 := HR1.out _ HBR.out; have rz := HRZ.out _ HBR.out
      go_wp2_with fail
      clear r0 r1 rz
      go_ret
      refine ⟨_, nl Y, rfl, RdI.of_owns HY.out, nat_okT HYK.out.1 (fun t ht => by have := HYK.out.2 t ht; omega) (fun t _ => by omega), by rw [nl_len]; omega, btr HBA.out HBR.out⟩
end Go.Proofs.Ytjajdpggoggoiaa
