/- The document's Rounds. -/
import Derived.Test.YtdnaipiiponhpaaZ5
namespace Go.Proofs.Ytdnaipiiponhpaa
open Go.RowKit Go.Shelf

def rstep (V : List (Int × Int)) (out : List Int) (i k : Nat) : Int := (List.range k).foldl (fun n j => if meetB (V[j]?.getD (0, 0)) (V[i]?.getD (0, 0)) then max n (out[j]?.getD 0 + 1) else n) 1
theorem rstep_succ (V : List (Int × Int)) (out : List Int) (i k : Nat) : rstep V out i (k + 1) = if meetB (V[k]?.getD (0, 0)) (V[i]?.getD (0, 0)) then max (rstep V out i k) (out[k]?.getD 0 + 1) else rstep V out i k := by
  unfold rstep; rw [List.range_succ, List.foldl_append]; rfl
def rrL (V : List (Int × Int)) : Nat → List Int
  | 0 => []
  | k + 1 => rrL V k ++ [rstep V (rrL V k) k k]
theorem rrL_len (V : List (Int × Int)) : ∀ k, (rrL V k).length = k
  | 0 => rfl
  | k + 1 => by simp [rrL, rrL_len V k]
theorem rstep_bd (V : List (Int × Int)) (out : List Int) (i m : Nat) (h : ∀ j : Nat, 0 ≤ out[j]?.getD 0 ∧ out[j]?.getD 0 ≤ m) : ∀ k, 1 ≤ rstep V out i k ∧ rstep V out i k ≤ m + 1
  | 0 => by simp [rstep]; omega
  | k + 1 => by
    have h1 := rstep_bd V out i m h k
    have h2 := h k
    rw [rstep_succ]
    split
    · omega
    · exact h1
theorem rrL_bd (V : List (Int × Int)) : ∀ k j : Nat, 0 ≤ (rrL V k)[j]?.getD 0 ∧ (rrL V k)[j]?.getD 0 ≤ k
  | 0, j => by simp [rrL]
  | k + 1, j => by
    have h1 := rstep_bd V (rrL V k) k k (rrL_bd V k) k
    have h2 := rrL_bd V k j
    rcases Nat.lt_trichotomy j k with h | h | h
    · have e : (rrL V (k + 1))[j]? = (rrL V k)[j]? := by rw [rrL, List.getElem?_append_left (by rw [rrL_len]; exact h)]
      rw [e]; omega
    · have e : (rrL V (k + 1))[j]? = some (rstep V (rrL V k) k k) := by rw [rrL, List.getElem?_append_right (by rw [rrL_len]; omega), rrL_len]; simp [h]
      rw [e]; simp only [Option.getD_some]; omega
    · have e : (rrL V (k + 1))[j]? = none := by rw [List.getElem?_eq_none_iff, rrL_len]; omega
      rw [e]; simp; omega
def rrR (p : Int) (V : List (Int × Int)) : List Int := if checkR p V = 0 then rrL V V.length else []

set_option maxRecDepth 100000 in
set_option maxHeartbeats 4000000 in
theorem rrounds_any (p : Int) (x : Value) (V : List (Int × Int)) (w : World) (hx0 : RdP w x V) (hl : V.length ≤ 1000) :
    Calls Try.prog 37 #[.agg #[.int .i64 p, x]] w fun e w' => ∃ v, e = .returned (.tuple #[v, .int .i64 (checkR p V)]) ∧ RdI w' .i64 v (rrR p V) ∧ Below w.heap.size w w' := by
  obtain ⟨a, ca, rfl, _, _, hxf⟩ := hx0.form
  unfold rrR
  have H0 := Lib.hid fun w1 (hB : Below w.heap.size w w1) => rcheck_any p _ V w1 (hx0.mono hB) hl
  by_cases h : checkR p V = 0
  · obtain ⟨n, rfl, hV⟩ := cond_row h
    rw [if_pos h, h]
    rw [h] at H0
    clear h
    have h40 := hV.len
    go_enter Try.func37, Try.ntmps37
    go_wp2_with fail
    refine (H0.out _ (bal (bz _) _)).mono ?_
    rintro e w2 ⟨rfl, hB2⟩
    have c1 : w2.cell? ⟨w.heap.size, 1, none⟩ = some (.slice a V.length ca) := (hB2.cell (by simp)).trans (cnew rfl rfl)
    have z2 := World.block_lt_of_cell? w2 _ c1
    simp only at z2
    have HB3 := Lib.hid (btr (bal (bz w) _) hB2)
    clear hB2
    go_wp2
    go_loopw [4, 5, 6, 7, 13, 14, 15, 16, 17, 18, 19, 20, 21, 22, 23, 24, 25, 26, 27, 28, 29, 30, 31, 32, 33, 34, 35, 36, 37, 38, 39, 40, 41, 42, 43, 44, 45, 46] (fun v i _ _ _ _ _ _ _ _ _ _ _ _ _ _ _ _ _ _ _ _ _ _ _ _ _ _ _ _ _ _ _ _ _ _ _ _ wr => ∃ k : Nat, k ≤ V.length ∧ i = .int .i64 k ∧ Below w.heap.size w wr ∧ w.heap.size < wr.heap.size ∧ wr.cell? ⟨w.heap.size, 1, none⟩ = some (.slice a V.length ca) ∧ wr.ownsRow (w.heap.size + 1) 3 1 v (rrL V k).length ((rrL V k).map (Value.int .i64))) (fun v i _ _ _ _ _ _ _ _ _ _ _ _ _ _ _ _ _ _ _ _ _ _ _ _ _ _ _ _ _ _ _ _ _ _ _ _ _ => V.length - (intOf i).toNat)
    case atStart => exact ⟨0, Nat.zero_le _, rfl, HB3.out, z2, c1, World.ownsRow_nil _ _ _ _⟩
    case round =>
      obtain ⟨k, hk, rfl, hB, hz, d1, hO⟩ := hrel
      have hll := rrL_len V k
      have HO := Lib.hid hO; have HB := Lib.hid hB; clear hO hB c1
      by_cases hlt : k < V.length
      · obtain ⟨bx, ox, rfl, hbx, hcx⟩ := hxf (by omega)
        have HC := Lib.hid hcx
        have HST : Hid (rrL V (k + 1) = rrL V k ++ [rstep V (rrL V k) k k]) := Lib.hid rfl
        have HBD := Lib.hid (rstep_bd V (rrL V k) k k (rrL_bd V k))
        have HBE := Lib.hid (rrL_bd V k)
        obtain ⟨a9, c9, hv9⟩ := owns_form HO.out
        rw [hll] at hv9
        subst hv9
        have hov := HO.out
        have HR9 := Lib.hid (RdI.of_owns hov)
        generalize hout : rrL V k = out at *
        have HOUT := Lib.hid hout
        clear hxf hcx hov hout
        obtain ⟨wo, rfl⟩ : ∃ wo : World, wo = wr := ⟨_, rfl⟩
        go_wp2
        go_loopw [6, 7, 20, 21, 22, 23, 24, 25, 26, 27, 28, 29, 30, 31, 32, 33, 34, 35, 36, 37, 38, 39, 40, 41, 42] (fun m i _ _ _ _ _ _ _ _ _ _ _ _ _ _ _ _ _ _ _ _ _ _ _ wr => ∃ j : Nat, j ≤ k ∧ i = .int .i64 j ∧ m = .int .i64 (rstep V out k j) ∧ Below wo.heap.size wo wr) (fun m i _ _ _ _ _ _ _ _ _ _ _ _ _ _ _ _ _ _ _ _ _ _ _ _ => k - (intOf i).toNat)
        case atStart => exact ⟨0, Nat.zero_le _, rfl, rfl, bz _⟩
        case round =>
          obtain ⟨j, hj, rfl, rfl, hB2⟩ := hrel
          have e1 := (hB2.cell (p := ⟨w.heap.size, 1, none⟩) hz).trans d1
          have hz2 : w.heap.size < wr.heap.size := Nat.lt_of_lt_of_le hz hB2.size
          have HB2 := Lib.hid hB2
          by_cases hjk : j < k
          · have hbw := btr HB.out hB2
            have gj := (hbw.cell (p := ⟨bx, ox + j * 2, none⟩) hbx).trans (HC.out j (by omega)).1
            have gj2 := (hbw.cell (p := ⟨bx, ox + j * 2 + 1, none⟩) hbx).trans (HC.out j (by omega)).2
            have gk := (hbw.cell (p := ⟨bx, ox + k * 2, none⟩) hbx).trans (HC.out k hlt).1
            have gk2 := (hbw.cell (p := ⟨bx, ox + k * 2 + 1, none⟩) hbx).trans (HC.out k hlt).2
            have zx : bx < wr.heap.size := Nat.lt_of_lt_of_le hbx hbw.size
            have HST2 := Lib.hid (rstep_succ V out k j)
            have hbd := HBD.out j
            have hbe := HBE.out j
            have hjv : j < V.length := by omega
            clear hB2 hbw
            generalize V[j]?.getD (0, 0) = pj at *
            generalize V[k]?.getD (0, 0) = pk at *
            obtain ⟨j1, j2⟩ := pj
            obtain ⟨k1, k2⟩ := pk
            simp only at gj gj2 gk gk2
            have hr9 := (HR9.out.mono HB2.out).form
            obtain ⟨a8, c8, he8, hc8, hm8, hx8⟩ := hr9
            rw [hll] at he8
            simp only [Value.slice.injEq, true_and] at he8
            obtain ⟨rfl, rfl⟩ := he8
            obtain ⟨b9, o9, rfl, hb9, hc9⟩ := hx8 (by omega)
            have g9 := hc9 j (by omega)
            clear hx8 hc9 hm8
            generalize out[j]?.getD 0 = oj at *
            generalize rstep V out k j = rj at *
            go_wp2
            refine wp_region_flow [] [([0, 1, 2, 3, 4, 5, 6, 7, 8, 9], 10, true)] [] (by kernel_rfl) (by kernel_rfl) ?_
            intro wc hBc hh
            clear hh
            have f1 := (hBc.cell (p := ⟨w.heap.size, 1, none⟩) hz2).trans e1
            have fj := (hBc.cell (p := ⟨bx, ox + j * 2, none⟩) zx).trans gj
            have fj2 := (hBc.cell (p := ⟨bx, ox + j * 2 + 1, none⟩) zx).trans gj2
            have fk := (hBc.cell (p := ⟨bx, ox + k * 2, none⟩) zx).trans gk
            have fk2 := (hBc.cell (p := ⟨bx, ox + k * 2 + 1, none⟩) zx).trans gk2
            have f9 := (hBc.cell (p := ⟨b9, o9 + j, none⟩) hb9).trans g9
            have zc : w.heap.size < wc.heap.size := Nat.lt_of_lt_of_le hz2 hBc.size
            have zxc : bx < wc.heap.size := Nat.lt_of_lt_of_le zx hBc.size
            have z9c : b9 < wc.heap.size := Nat.lt_of_lt_of_le hb9 hBc.size
            have hL := @Later.cell wc
            have HBC := Lib.hid (btr HB2.out hBc)
            clear e1 gj gj2 gk gk2 g9 hBc
            simp only [flowP, flow, pickL, List.getElem?_cons_succ, List.getElem?_cons_zero]
            refine wpQuiet_nil ?_
            repeat (go_big_quiet_step (fail))
            refine wpQuiet_nil ?_
            go_wp2_with fail
            refine (meet_any j1 j2 k1 k2 wc).mono ?_
            rintro e w5 ⟨rfl, hB5⟩
            have f95 := (hB5.cell (p := ⟨b9, o9 + j, none⟩) z9c).trans f9
            have HB6 := Lib.hid (btr HBC.out hB5); have HB5 := Lib.hid hB5
            clear hB5
            generalize meetB (j1, j2) (k1, k2) = b at *
            go_wp2
            refine seg_grow ⟨⟨_, HB5.out⟩, rfl⟩ ?_
            refine wpQuiet_nil ?_
            refine only_done ?_
            clear hL f1 fj fj2 fk fk2 f9
            cases b
            · go_wp2
              exact ⟨⟨j + 1, by omega, by go_num, by rw [HST2.out]; rfl, HB6.out⟩, by simp [intOf]; omega⟩
            · have hw1 : IntKind.i64.wrap (oj + 1) = oj + 1 := IntWalk.i64_in _ (by omega)
              go_wp2
              refine ⟨⟨j + 1, by omega, by go_num, ?_, HB6.out⟩, by simp [intOf]; omega⟩
              rw [HST2.out]; first | rfl | (simp; omega)
          · obtain rfl : j = k := by omega
            have hO4 := owns_kept HO.out hB2
            have hB4 := btr HB.out hB2
            have HO4 := Lib.hid hO4; have HB4 := Lib.hid hB4
            have hbd := HBD.out j
            clear hO4 hB4 hB2
            generalize hrs : rstep V out j j = rj at *
            have HRS := Lib.hid hrs; clear hrs
            go_wp2_with (at_builtin; refine wpList_append_num rfl _ _ rfl Try.underlying34 num3 HO4.out _ rfl rfl (by omega) (by omega) ?_)
            intro v' w' hown' hgrow
            have hB8 : Below w.heap.size w w' := append_below (bal HB4.out _) (HO4.out.alloc _) hgrow (by omega)
            have hz8 : wr.heap.size ≤ w'.heap.size := by have := hgrow.size; simp at this; omega
            have hne : ∀ r, r < w.heap.size + 1 → w'.heap[r]? = wr.heap[r]? := fun r hr => (append_keep (HO4.out.alloc _) hgrow hr (by simp; omega)).trans (Below.heap_alloc _ _ _ (by omega))
            have y1 := (World.cell?_of_block (hne _ (by simp))).trans e1
            have HP := Lib.hid hown'; have HB8 := Lib.hid hB8
            clear hown' hgrow hB8 hne e1
            go_wp2
            refine ⟨⟨j + 1, by omega, by go_num, HB8.out, by omega, y1, by rw [HST.out, List.length_append, List.map_append, hll]; exact HP.out⟩, by simp [intOf]; omega⟩
      · obtain rfl : k = V.length := by omega
        go_wp2
        go_ret2
        exact ⟨_, rfl, RdI.of_owns (by simpa using HO.out), HB.out⟩
  · rw [if_neg h]
    generalize checkR p V = c at *
    have e0 : (c != 0) = true := by simpa using h
    clear h hxf
    go_enter Try.func37, Try.ntmps37
    go_wp2_with fail
    refine (H0.out _ (bal (bz _) _)).mono ?_
    rintro e w2 ⟨rfl, hB2⟩
    have hB3 := btr (bal (bz w) _) hB2
    have c0 : w2.cell? ⟨w.heap.size, 0, none⟩ = some (.int .i64 p) := (hB2.cell (by simp)).trans (cnew rfl rfl)
    have c1 : w2.cell? ⟨w.heap.size, 1, none⟩ = some (.slice a V.length ca) := (hB2.cell (by simp)).trans (cnew rfl rfl)
    go_wp2_with fail
    refine (H0.out _ hB3).mono ?_
    rintro e w3 ⟨rfl, hB4⟩
    go_wp2
    go_ret2
    exact ⟨_, rfl, rdI_nil _ _, btr hB3 hB4⟩
end Go.Proofs.Ytdnaipiiponhpaa
