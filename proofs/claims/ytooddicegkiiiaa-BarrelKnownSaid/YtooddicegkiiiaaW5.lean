/- Quiet of the program. -/
import Derived.Test.YtooddicegkiiiaaW4
namespace Go.Proofs.Ytooddicegkiiiaa
open Go.RowKit Go.Shelf

/-- No pin sounds. -/
def hushB (V : List (Int × Int)) (t : Int) : Bool := V.all fun x => !sndB x t
theorem hush_iff (V : List (Int × Int)) (t : Int) : hushB V t = true ↔ ∀ i, i < V.length → sndB (pin V i) t = false := by
  unfold hushB
  rw [List.all_eq_true]
  constructor
  · intro h i hi; simpa using h _ (pin_mem hi)
  · intro h x hx
    obtain ⟨i, hi, rfl⟩ := List.getElem_of_mem hx
    have := h i hi
    simp only [pin, hi, List.getElem?_eq_getElem, Option.getD_some] at this
    rw [this]; rfl
theorem mark_hush (V : List (Int × Int)) (t : Int) (hl : V.length ≤ 5) : decide (markK V t V.length = [0, 0, 0, 0, 0]) = hushB V t := by
  rw [Bool.eq_iff_iff, decide_eq_true_eq, hush_iff]
  constructor
  · intro h i hi
    have := markK_get V t V.length i (by omega)
    rw [h] at this
    cases hs : sndB (pin V i) t with
    | false => rfl
    | true =>
      rw [if_pos ⟨hi, hs⟩] at this
      match i, show i < 5 by omega with
      | 0, _ => simp at this
      | 1, _ => simp at this
      | 2, _ => simp at this
      | 3, _ => simp at this
      | 4, _ => simp at this
  · intro h
    rw [show ([0, 0, 0, 0, 0] : List Int) = markK V t 0 from (markK_zero V t).symm]
    apply List.ext_getElem
    · simp [markK]
    · intro i h1 h2
      simp only [markK, List.getElem_map, List.getElem_range]
      rw [if_neg, if_neg (by omega)]
      rintro ⟨h3, h4⟩
      rw [h i h3] at h4; cases h4
/-- The first quiet one of m times. -/
def quietO (V : List (Int × Int)) (t : Int) (m : Nat) : Option Nat := (List.range m).find? fun n => hushB V (t + (n : Int))
def quietN (V : List (Int × Int)) (t : Int) : Int := if openE V [t] = 0 then (match quietO V t (2 ^ V.length) with | some n => t + (n : Int) | none => 0) else 0
def quietE (V : List (Int × Int)) (t : Int) : Int := if openE V [t] = 0 then (match quietO V t (2 ^ V.length) with | some _ => 0 | none => 21) else openE V [t]
theorem quietO_none {V : List (Int × Int)} {t : Int} {m : Nat} (h : ∀ n, n < m → hushB V (t + (n : Int)) = false) : quietO V t m = none := by
  unfold quietO
  rw [List.find?_eq_none]
  intro n hn
  rw [h n (List.mem_range.1 hn)]; simp
theorem quietO_some {V : List (Int × Int)} {t : Int} {m n : Nat} (hn : n < m) (h : ∀ k, k < n → hushB V (t + (k : Int)) = false) (hh : hushB V (t + (n : Int)) = true) : quietO V t m = some n := by
  unfold quietO
  rw [List.find?_range_eq_some]
  exact ⟨hh, List.mem_range.2 hn, fun k hk => by rw [h k hk]; rfl⟩

set_option maxRecDepth 100000 in
set_option maxHeartbeats 1000000 in
theorem quiet_any (x : Value) (V : List (Int × Int)) (t : Int) (w : World) (hx0 : RdP w x V) (hl : V.length ≤ 1000) :
    Calls Try.prog 39 #[x, .int .i64 t] w fun e w' => e = .returned (.tuple #[.int .i64 (quietN V t), .int .i64 (quietE V t)]) ∧ Below w.heap.size w w' := by
  obtain ⟨a, ca, rfl, hca, hca2, _⟩ := hx0.form
  clear hca2
  by_cases hc : openE V [t] = 0
  · have hN0 : (∀ n : Nat, n < 2 ^ V.length → hushB V (t + (n : Int)) = false) → quietN V t = 0 ∧ quietE V t = 21 := by
      intro h; unfold quietN quietE; rw [if_pos hc, if_pos hc, quietO_none h]; exact ⟨rfl, rfl⟩
    have hN1 : ∀ n : Nat, n < 2 ^ V.length → (∀ k : Nat, k < n → hushB V (t + (k : Int)) = false) → hushB V (t + (n : Int)) = true → quietN V t = t + (n : Int) ∧ quietE V t = 0 := by
      intro n hn h1 h2; unfold quietN quietE; rw [if_pos hc, if_pos hc, quietO_some hn h1 h2]; exact ⟨rfl, rfl⟩
    have HN0 := Lib.hid hN0; have HN1 := Lib.hid hN1; clear hN0 hN1
    obtain ⟨hc1, hc2⟩ := openE_zero hc
    have hV := okPins_of hc1
    have h5 := hV.l5
    have hft : 0 ≤ t ∧ t ≤ 1000000000000 := by simp [outB] at hc2; omega
    obtain ⟨t0, t1⟩ := hft
    have HO := Lib.hid (fun w' (hx : RdP w' (.slice a V.length ca) V) y hy => open_ok _ y V [t] w' hx hy (by simp) hc)
    clear hc hc1 hc2
    have hm : 1 ≤ 2 ^ V.length ∧ 2 ^ V.length ≤ 32 := ⟨Nat.one_le_two_pow, by have := Nat.pow_le_pow_right (n := 2) (by omega) h5; omega⟩
    have hw : wrap64 ((2 : Int) ^ V.length) = ((2 ^ V.length : Nat) : Int) := by
      rw [show ((2 : Int) ^ V.length) = ((2 ^ V.length : Nat) : Int) by rw [Int.natCast_pow]; rfl]
      exact IntWalk.wrap64_in ((2 ^ V.length : Nat) : Int) (by omega)
    have HW := Lib.hid hw; clear hw
    obtain ⟨hm1, hm2⟩ := hm
    generalize 2 ^ V.length = m at *
    go_enter Try.func39, Try.ntmps39
    go_wp2_with fail
    refine (HO.out _ (hx0.mono (bal (bz _) _)) _ (slice_one w t 2)).mono ?_
    rintro e w2 ⟨b, rfl, hb, hD, hB2⟩
    obtain ⟨x', M, L, c, hb', _, _, _, hx1⟩ := id hD
    have d0 : w2.cell? ⟨b, 0, none⟩ = some x' := by rw [cell_of_row w2 _ 0 _ _ _ hb']; rfl
    have dz := (Array.getElem?_eq_some_iff.1 hb').1
    have HX1 := Lib.hid hx1; have HB2 := Lib.hid hB2
    clear hb' hx1 hD hB2
    go_wp2_with fail
    rw [HW.out]
    have hz78 : ∃ i3, Try.prog.info? 3 = some i3 := by obtain ⟨i3, h, _⟩ := info_parts num3; exact ⟨i3, h⟩
    obtain ⟨i3, hi3⟩ := hz78
    have HI3 := Lib.hid hi3; clear hi3
    go_loopw [9, 28] (fun _ i wr => ∃ k : Nat, k ≤ m ∧ i = .int .i64 k ∧ Below w2.heap.size w2 wr ∧ ∀ n, n < k → hushB V (t + (n : Int)) = false) (fun _ i _ => m - (intOf i).toNat)
    case atStart => exact ⟨0, Nat.zero_le _, rfl, bz _, fun n h => by omega⟩
    case round =>
      obtain ⟨k, hk, rfl, hB, hq⟩ := hrel
      have HQ := Lib.hid hq; have HB := Lib.hid hB; clear hq hB
      by_cases hlt : k < m
      · have HA := Lib.hid (at_any x' V (t + (k : Int)) wr (HX1.out.mono HB.out) hV.v h5 (by omega) (by omega))
        have hmk := mark_hush V (t + (k : Int)) h5
        have hml := markK_len V (t + (k : Int)) V.length
        have heq : ∀ w' : World, (Op.equalIn 10000 78 (.agg (arrI (markK V (t + (k : Int)) V.length))) (.agg #[.int .i64 0, .int .i64 0, .int .i64 0, .int .i64 0, .int .i64 0])).run Try.prog w' = .ok (hushB V (t + (k : Int))) w' := by
          intro w'
          have h := run_eq_arr (P := Try.prog) w' 9998 78 3 5 .i64 i3 (by kernel_rfl) HI3.out (by kernel_rfl) Try.underlying3 (markK V (t + (k : Int)) V.length) [0, 0, 0, 0, 0] hml rfl
          rw [hmk] at h
          exact h
        have HEQ := Lib.hid heq
        clear heq hmk hml
        generalize hq : hushB V (t + (k : Int)) = q at *
        have HH := Lib.hid hq; clear hq
        generalize markK V (t + (k : Int)) V.length = mm at *
        go_wp2_with fail
        refine HA.out.mono ?_
        rintro e w3 ⟨rfl, hB3⟩
        have hq3 := HEQ.out w3
        cases q
        · go_wp2_with fail
          go_roundw
          case rel =>
            refine ⟨k + 1, by omega, by go_num, btr HB.out hB3, fun n hn => ?_⟩
            by_cases e : n = k
            · subst e; exact HH.out
            · exact HQ.out n (by omega)
          case measure => simp [intOf]; omega
        · obtain ⟨n1, n2⟩ := HN1.out k hlt HQ.out HH.out
          have N1 := Lib.hid n1; have N2 := Lib.hid n2
          clear n1 n2
          go_wp2_with fail
          go_ret2
          exact ⟨by rw [N1.out, N2.out]; rfl, btr (bal (bz _) _) (btr HB2.out (btr HB.out hB3))⟩
      · have hkm : k = m := by omega
        have hq := HQ.out
        rw [hkm] at hq
        obtain ⟨n1, n2⟩ := HN0.out hq
        have N1 := Lib.hid n1; have N2 := Lib.hid n2
        clear n1 n2 hkm hq
        go_wp2_with fail
        go_ret2
        exact ⟨by rw [N1.out, N2.out]; rfl, btr (bal (bz _) _) (btr HB2.out HB.out)⟩
  · have e1 : quietN V t = 0 := by unfold quietN; rw [if_neg hc]
    have e2 : quietE V t = openE V [t] := by unfold quietE; rw [if_neg hc]
    rw [e1, e2]; clear e1 e2
    have HO := Lib.hid (fun w' (hx : RdP w' (.slice a V.length ca) V) y hy => open_no _ y V [t] w' hx hy hl (by simp) hc)
    have hcb : (openE V [t] != 0) = true := by simpa using hc
    have hce : (openE V [t] == 0) = false := by simpa using hc
    clear hc
    generalize openE V [t] = q at *
    go_enter Try.func39, Try.ntmps39
    go_wp2_with fail
    refine (HO.out _ (hx0.mono (bal (bz _) _)) _ (slice_one w t 2)).mono ?_
    rintro e w2 ⟨rfl, hB2⟩
    go_wp2_with fail
    go_ret2
    exact ⟨rfl, btr (bal (bz _) _) hB2⟩
end Go.Proofs.Ytooddicegkiiiaa
