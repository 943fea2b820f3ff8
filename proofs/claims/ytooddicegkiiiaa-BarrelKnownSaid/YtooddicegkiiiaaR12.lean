/- The document's Offsets. -/
import Derived.Test.YtooddicegkiiiaaR11
import Derived.Test.YtooddicegkiiiaaX3
namespace Go.Proofs.Ytooddicegkiiiaa
open Go.RowKit Go.Shelf

/-- The Offsets below k with which all pins sound together. -/
def rofN (V : List (Int × Int)) (i k : Nat) : List Nat := (List.range k).filter fun n => jO (setO V i (n : Int))
def rofL (V : List (Int × Int)) (i : Int) : List Int := if checkP V ≠ 0 then [] else if outB 0 ((V.length : Int) - 1) i then [] else natL (rofN V i.toNat (pin V i.toNat).1.toNat)
def ROffOk (V : List (Int × Int)) (i : Int) (w : World) (e : Ending) (w' : World) : Prop := ∃ v, e = .returned (.tuple #[v, .int .i64 (offE V i)]) ∧ RdI w' .i64 v (rofL V i) ∧ Below w.heap.size w w'
theorem rofN_succ (V : List (Int × Int)) (i k : Nat) : rofN V i (k + 1) = if jO (setO V i (k : Int)) then rofN V i k ++ [k] else rofN V i k := by
  unfold rofN
  rw [List.range_succ, List.filter_append]
  cases h : jO (setO V i (k : Int)) <;> simp [h]
theorem rofN_le (V : List (Int × Int)) (i k : Nat) : (rofN V i k).length ≤ k := by
  have := List.length_filter_le (fun n => jO (setO V i ((n : Nat) : Int))) (List.range k)
  rw [List.length_range] at this
  exact this
theorem setO_ok {V : List (Int × Int)} (hV : OkV V) {i n : Nat} (hi : i < V.length) (hn : (n : Int) < (pin V i).1) : OkV (setO V i (n : Int)) := by
  intro x hx
  rcases List.mem_or_eq_of_mem_set hx with h | rfl
  · exact hV x h
  · have := hV.at hi
    simp only
    omega
set_option maxRecDepth 100000 in
set_option maxHeartbeats 2000000 in
theorem roffsets_any (x : Value) (V : List (Int × Int)) (i : Int) (w : World) (hx0 : RdP w x V) (hl : V.length ≤ 1000) :
    Calls Try.prog 42 #[x, .int .i64 i] w (ROffOk V i w) := by
  obtain ⟨a, ca, rfl, hca, hca2, hx⟩ := hx0.form
  clear hca2
  unfold ROffOk
  have HK := Lib.hid (fun w' hx => rcheck_any (.slice a V.length ca) V w' hx hl)
  have HX0 := Lib.hid hx0; clear hx0
  by_cases hc : checkP V = 0
  · have e1 : offE V i = if outB 0 ((V.length : Int) - 1) i then 2 else 0 := by unfold offE; rw [if_neg (by simpa using hc)]
    have e2 : rofL V i = if outB 0 ((V.length : Int) - 1) i then [] else natL (rofN V i.toNat (pin V i.toNat).1.toNat) := by unfold rofL; rw [if_neg (by simpa using hc)]
    rw [e1, e2]; clear e1 e2
    have hV := okPins_of hc
    have h1 := hV.l1; have h5 := hV.l5
    rw [hc] at HK
    clear hc
    cases ho : outB 0 ((V.length : Int) - 1) i
    · have hb : 0 ≤ i ∧ i < V.length := by simp [outB] at ho; omega
      simp only [Bool.false_eq_true, if_false]
      clear ho
      obtain ⟨n, rfl⟩ := Int.eq_ofNat_of_zero_le hb.1
      have hn : n < V.length := by omega
      rw [Int.toNat_natCast]
      clear hb
      obtain ⟨p1, p2, p3, p4⟩ := hV.v.at hn
      have hSO := fun k (hk : ((k : Nat) : Int) < (pin V n).1) => setO_ok hV.v hn hk
      have HJ := Lib.hid (fun x w' k hx hk => rjoin_any x (setO V n ((k : Nat) : Int)) w' hx (hSO k hk) (by rw [setO_len]; exact h5))
      have HW := Lib.hid (fun k w' hx => with_any (.slice a V.length ca) V n ((k : Nat) : Int) w' hx hn (by omega))
      clear hSO p3 p4
      obtain ⟨bx, ox, rfl, hbx, hcx⟩ := hx (by omega)
      have gx : w.cell? ⟨bx, ox + n * 2, none⟩ = some (Value.int .i64 (pin V n).1) := (hcx n hn).1
      clear hcx hx hV
      obtain ⟨s, hs⟩ : ∃ s : Nat, (pin V n).1 = (s : Int) := Int.eq_ofNat_of_zero_le (by omega)
      rw [hs] at p1 p2 gx HJ ⊢
      rw [Int.toNat_natCast]
      clear hs
      have t1 : decide ((n : Int) < 0) = false := by simp
      have t2 : decide ((V.length : Int) ≤ (n : Int)) = false := by simp; omega
      have t3 : decide (V.length ≤ n) = false := by simp; omega
      have t4 : ¬ V.length ≤ n := by omega
      go_enter Try.func42, Try.ntmps42
      go_wp2_with fail
      refine (HK.out _ HX0.out).mono ?_
      rintro e w2 ⟨rfl, hB2⟩
      have HB2 := Lib.hid hB2; clear hB2
      go_wp2_with fail
      go_loopw [6, 7, 8, 9, 10] (fun s6 i _ _ _ wr => ∃ (k : Nat) (v : Value), k ≤ s ∧ v = s6 ∧ i = .int .i64 k ∧ wr.ownsRow w.heap.size 2 1 v (rofN V n k).length ((natL (rofN V n k)).map (Value.int .i64)) ∧ Below w.heap.size w wr) (fun _ i _ _ _ _ => s - (intOf i).toNat)
      case atStart => exact ⟨0, _, Nat.zero_le _, rfl, rfl, World.ownsRow_nil _ _ _ _, HB2.out⟩
      case round =>
        obtain ⟨k, v, hk, rfl, rfl, hor, hB⟩ := hrel
        obtain ⟨av, cv, rfl⟩ := owns_form hor
        have hll := rofN_le V n k
        have g0 := (hB.cell hbx).trans gx
        have HOR := Lib.hid hor; have HB := Lib.hid hB
        clear hor hB
        by_cases hlt : k < s
        · have HS := Lib.hid (rofN_succ V n k)
          have HJK := Lib.hid (fun x w' hx => HJ.out x w' k hx (by omega))
          generalize jO (setO V n (k : Int)) = bb at *
          generalize jA (setO V n (k : Int)) = ja at *
          generalize jB (setO V n (k : Int)) = jb at *
          generalize rofN V n k = g at *
          go_wp2_with fail
          refine (HW.out k _ (HX0.out.mono HB.out)).mono ?_
          rintro e w3 ⟨sv, rfl, hsv, hB3⟩
          go_wp2_with fail
          refine (HJK.out _ _ hsv).mono ?_
          rintro e w4 ⟨rfl, hB4⟩
          have hB34 := btr hB3 hB4
          have HB4 := Lib.hid (btr HB.out hB34)
          have HOR4 := Lib.hid (owns_kept HOR.out hB34)
          clear hsv hB3 hB4 hB34
          cases bb
          · go_wp2_with fail
            go_roundw
            case rel => exact ⟨k + 1, _, by omega, rfl, by go_num, by rw [HS.out]; exact HOR4.out, HB4.out⟩
            case measure => simp [intOf]; omega
          · have hbz : w.heap.size ≤ w4.heap.size := HB4.out.size
            have hl1 : (natL g).length ≤ 1000 := by rw [natL_len]; omega
            have hor2 : w4.ownsRow w.heap.size 2 1 (.slice av g.length cv) (natL g).length ((natL g).map (Value.int .i64)) := by rw [natL_len]; exact HOR4.out
            have HOR2 := Lib.hid hor2
            clear hor2
            go_wp2_with (at_builtin; refine wpList_append_num rfl _ _ rfl Try.underlying45 num2 HOR2.out (k : Int) rfl rfl rfl hl1 hbz ?_)
            intro v' w' hown hgrow
            have HBN := Lib.hid (append_below (bal HB4.out _) (HOR2.out.alloc _) hgrow (Nat.le_refl _))
            have HOWN := Lib.hid hown
            clear hown hgrow
            go_wp2_with fail
            go_roundw
            case rel =>
              refine ⟨k + 1, v', by omega, rfl, by go_num, ?_, HBN.out⟩
              have h := HS.out
              simp only [if_true] at h
              have h2 := HOWN.out
              rw [h, show natL (g ++ [k]) = natL g ++ [(k : Int)] by simp [natL], List.length_append]
              simpa [natL_len] using h2
            case measure => simp [intOf]; omega
        · have hkl : k = s := by omega
          have hor := HOR.out
          rw [← natL_len (rofN V n k)] at hor
          have hrd := RdI.of_owns hor
          rw [natL_len] at hrd
          have HORF := Lib.hid hrd
          clear hrd hor hkl
          go_wp2_with fail
          go_ret2
          exact ⟨_, rfl, by have h := HORF.out; rw [show k = s by omega] at h ⊢; exact h, HB.out⟩
    · simp only [if_true]
      have hb : i < 0 ∨ (0 ≤ i ∧ (V.length : Int) ≤ i) := by simp [outB] at ho; omega
      clear ho hx
      rcases hb with c1 | ⟨c1, c2⟩
      all_goals
        go_enter Try.func42, Try.ntmps42
        go_wp2_with fail
        refine (HK.out _ HX0.out).mono ?_
        rintro e w2 ⟨rfl, hB2⟩
        go_wp2_with fail
        go_ret2
        exact ⟨_, rfl, rdI_nil _ _, hB2⟩
  · have e1 : offE V i = checkP V := by unfold offE; rw [if_pos (by simpa using hc)]
    have e2 : rofL V i = [] := by unfold rofL; rw [if_pos (by simpa using hc)]
    rw [e1, e2]; clear e1 e2
    have hcb : (checkP V != 0) = true := by simpa using hc
    have hce : (checkP V == 0) = false := by simpa using hc
    clear hc hx
    generalize checkP V = q at *
    go_enter Try.func42, Try.ntmps42
    go_wp2_with fail
    refine (HK.out _ HX0.out).mono ?_
    rintro e w2 ⟨rfl, hB2⟩
    go_wp2_with fail
    refine (HK.out _ (HX0.out.mono hB2)).mono ?_
    rintro e w3 ⟨rfl, hB3⟩
    go_wp2_with fail
    go_ret2
    exact ⟨_, rfl, rdI_nil _ _, btr hB2 hB3⟩
end Go.Proofs.Ytooddicegkiiiaa
