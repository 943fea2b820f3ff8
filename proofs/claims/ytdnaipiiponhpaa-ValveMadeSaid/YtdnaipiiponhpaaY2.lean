/- The document's CheckPattern; every row of at most 1000 valves. -/
import Derived.Test.YtdnaipiiponhpaaY1
namespace Go.Proofs.Ytdnaipiiponhpaa
open Go.RowKit Go.Shelf

def rchkE (p : Int) (V : List (Int × Int)) (q : List Int) : Int :=
  if checkR p V ≠ 0 then checkR p V else if (q.length : Int) ≠ p then 15 else if q.any (outB 0 1) then 3 else if sortedB (runV V q) then 5 else 0

set_option maxRecDepth 100000 in
set_option maxHeartbeats 1000000 in
theorem rchkpat_any (p : Int) (x y : Value) (V : List (Int × Int)) (q : List Int) (w : World) (hx0 : RdP w x V) (hy0 : RdI w .i64 y q) (hl : V.length ≤ 1000) (hq : q.length ≤ 1000) :
    Calls Try.prog 30 #[.agg #[.int .i64 p, x], y] w fun e w' => e = .returned (.int .i64 (rchkE p V q)) ∧ Below w.heap.size w w' := by
  obtain ⟨a, ca, rfl, _, _, _⟩ := hx0.form
  obtain ⟨b, cb, rfl, _, _, hyf⟩ := hy0.form
  have H0 := Lib.hid fun w1 (hB : Below w.heap.size w w1) => rcheck_any p _ V w1 (hx0.mono hB) hl
  unfold rchkE
  by_cases h : checkR p V = 0
  · have hc0 : ¬ (checkR p V ≠ 0) := by simpa using h
    rw [if_neg hc0]
    rw [h] at H0
    obtain ⟨n, rfl, hV⟩ := cond_row h
    clear hc0 h
    have hp1 := hV.p1; have hp8 := hV.p8; have h40 := hV.len
    by_cases hlen : (q.length : Int) = n
    · obtain rfl : n = q.length := by omega
      clear hlen
      rw [if_neg (by simp)]
      obtain ⟨i0, hi, hz0, hz1, hz2⟩ := info_parts Try.info2
      obtain ⟨bq, oq, rfl, hbq, hcq⟩ := hyf (by omega)
      have HCQ := Lib.hid hcq; clear hyf hcq
      generalize hr : (if q.any (outB 0 1) = true then (3 : Int) else if sortedB (runV V q) = true then 5 else 0) = r
      have HR := Lib.hid hr; clear hr
      go_enter Try.func30, Try.ntmps30
      go_wp2_with fail
      refine (H0.out _ (bal (bz _) _)).mono ?_
      rintro e w2 ⟨rfl, hB2⟩
      have hB3 : Below w.heap.size w w2 := btr (bal (bz _) _) hB2
      have c0 : w2.cell? ⟨w.heap.size, 0, none⟩ = some (.int .i64 q.length) := (hB2.cell (by simp)).trans (cnew rfl rfl)
      have c1 : w2.cell? ⟨w.heap.size, 1, none⟩ = some (.slice a V.length ca) := (hB2.cell (by simp)).trans (cnew rfl rfl)
      have hzB := hB2.size
      simp only [World.size_alloc] at hzB
      go_wp2
      go_loopw [5, 6, 17, 18, 19, 20, 21, 22, 23, 24, 25, 26, 27, 28, 29, 30, 31, 32, 33, 34, 35, 36, 37, 38, 39, 40, 41] (fun o i _ _ _ _ _ _ _ _ _ _ _ _ _ _ _ _ _ _ _ _ _ _ _ _ _ wr => ∃ k : Nat, k ≤ q.length ∧ i = .int .i64 k ∧ Below w2.heap.size w2 wr ∧ wr.ownsRow w2.heap.size 2 1 o k ((q.take k).map (Value.int .i64)) ∧ ∀ s, s < k → outB 0 1 (q[s]?.getD 0) = false)
        (fun _ i _ _ _ _ _ _ _ _ _ _ _ _ _ _ _ _ _ _ _ _ _ _ _ _ _ _ => ((q.length : Int) - intOf i).toNat)
      case atStart => exact ⟨0, Nat.zero_le _, rfl, bz _, World.ownsRow_nil _ _ _ _, by intro s h; omega⟩
      case round =>
        obtain ⟨k, hk, rfl, hbr, hor, hall⟩ := hrel
        have HA := Lib.hid hall; have hO := Lib.hid hor; clear hall hor
        have hwz := hbr.size
        by_cases hkp : k < q.length
        · have hcc := ((hB3.trans (hbr.mono (by omega))).cell (p := ⟨bq, oq + k, none⟩) hbq).trans (HCQ.out k hkp)
          have htk : (q.take (k + 1)) = q.take k ++ [q[k]?.getD 0] := by
            rw [List.take_succ_eq_append_getElem hkp]; simp [hkp]
          have hanyk : outB 0 1 (q[k]?.getD 0) = true → q.any (outB 0 1) = true := fun h => by
            rw [List.any_eq_true]; exact ⟨q[k], List.getElem_mem hkp, by simpa [hkp] using h⟩
          have hob : outB 0 1 (q[k]?.getD 0) = decide (q[k]?.getD 0 < 0 ∨ 1 < q[k]?.getD 0) := rfl
          have HTK := Lib.hid htk; have HAK := Lib.hid hanyk; have HOB := Lib.hid hob
          have HV0 := Lib.hid (rfl : q[k]?.getD 0 = q[k]?.getD 0)
          clear htk hanyk hob
          generalize hv : q[k]?.getD 0 = v at *
          have HV := Lib.hid hv; clear hv HV0
          by_cases h0 : v < 0
          · go_wp2
            go_ret
            exact ⟨ret_int (by rw [← HR.out, if_pos (HAK.out (by rw [HOB.out]; simp [h0]))]), btr hB3 hbr⟩
          · by_cases h1 : 1 < v
            · go_wp2
              go_ret
              exact ⟨ret_int (by rw [← HR.out, if_pos (HAK.out (by rw [HOB.out]; simp [h1]))]), btr hB3 hbr⟩
            · go_wp2_with (at_builtin; refine wpList_append_own _ rfl _ _ 25 rfl w2.heap.size 2 i0 (.int .i64 0) 1 8 Try.underlying25 hi hz0 hz1 hz2 rfl (by decide) _ _ _ rfl (hO.out.alloc _) ⟨wr.heap.size, 0, none⟩ 1 1 [.int .i64 v] rfl rfl (cell_one_new _ _ _) (one_int _ _) (by simp only [maxLen]; omega) (by omega) (by simp; omega) ?_)
              intro v' w' hown' hgrow hnil
              have hB8 : Below w2.heap.size w2 w' := append_below (bal hbr _) (hO.out.alloc _) hgrow (Nat.le_refl _)
              have HOW := Lib.hid hown'; clear hown' hgrow hnil
              go_wp2
              refine ⟨⟨k + 1, by omega, by simp, hB8, ?_, fun s hs => ?_⟩, by simp [intOf]; omega⟩
              · rw [HTK.out, List.map_append, List.map_take]; exact HOW.out
              · by_cases e : s = k
                · subst e; rw [HV.out, HOB.out]; simp [h0, h1]
                · exact HA.out s (by omega)
        · obtain rfl : k = q.length := by omega
          have hany : q.any (outB 0 1) = false := by
            rw [List.any_eq_false]
            intro x hx
            obtain ⟨i, hi, rfl⟩ := List.getElem_of_mem hx
            have := HA.out i hi
            rw [List.getElem?_eq_getElem hi, Option.getD_some] at this
            simp [this]
          have hr2 : (if sortedB (runV V q) = true then (5 : Int) else 0) = r := by rw [← HR.out, hany]; rfl
          have HR2 := Lib.hid hr2; clear hr2 hany
          have hrd := hO.out
          rw [List.take_length] at hrd
          have hrd2 := RdI.of_owns hrd
          have HRD := Lib.hid hrd2; clear hrd hrd2
          have hzl : w.heap.size < w2.heap.size := by omega
          have d0 := (hbr.cell (p := ⟨w.heap.size, 0, none⟩) hzl).trans c0
          have d1 := (hbr.cell (p := ⟨w.heap.size, 1, none⟩) hzl).trans c1
          have hB9 := btr hB3 hbr
          go_wp2_with fail
          refine (runof_any _ _ V q wr (hx0.mono hB9) HRD.out (by omega) hq hl (fun v hv => by obtain ⟨h1, h2, h3⟩ := hV.ok v hv; omega)).mono ?_
          rintro e w3 ⟨v3, rfl, hown3, hB4⟩
          have hlr : (runV V q).length = q.length := runV_length _ _
          have hrd3 : RdI w3 .i64 v3 (runV V q) := RdI.of_owns hown3
          have HRD3 := Lib.hid hrd3; clear hown3 hrd3
          go_wp2_with fail
          refine (sorted_any _ _ w3 HRD3.out (by omega)).mono ?_
          rintro e w4 ⟨rfl, hB5⟩
          generalize hs : sortedB (runV V q) = s at *
          have HS := Lib.hid hs; clear hs
          cases s
          · go_wp2
            go_ret
            exact ⟨ret_int HR2.out, btr (btr hB9 hB4) hB5⟩
          · go_wp2
            go_ret
            exact ⟨ret_int HR2.out, btr (btr hB9 hB4) hB5⟩
    · rw [if_pos (by simpa using hlen)]
      have hne : ((q.length : Int) != (n : Int)) = true := by simpa using hlen
      go_enter Try.func30, Try.ntmps30
      go_wp2_with fail
      refine (H0.out _ (bal (bz _) _)).mono ?_
      rintro e w2 ⟨rfl, hB2⟩
      have hB3 : Below w.heap.size w w2 := btr (bal (bz _) _) hB2
      have c0 : w2.cell? ⟨w.heap.size, 0, none⟩ = some (.int .i64 n) := (hB2.cell (by simp)).trans (cnew rfl rfl)
      go_wp2
      go_ret
      exact ⟨rfl, hB3⟩
  · rw [if_pos h]
    generalize checkR p V = c at *
    have e0 : (c != 0) = true := by simpa using h
    clear h
    go_enter Try.func30, Try.ntmps30
    go_wp2_with fail
    refine (H0.out _ (bal (bz _) _)).mono ?_
    rintro e w2 ⟨rfl, hB2⟩
    have hB3 : Below w.heap.size w w2 := btr (bal (bz _) _) hB2
    have c0 : w2.cell? ⟨w.heap.size, 0, none⟩ = some (.int .i64 p) := (hB2.cell (by simp)).trans (cnew rfl rfl)
    have c1 : w2.cell? ⟨w.heap.size, 1, none⟩ = some (.slice a V.length ca) := (hB2.cell (by simp)).trans (cnew rfl rfl)
    go_wp2_with fail
    refine (H0.out _ hB3).mono ?_
    rintro e w3 ⟨rfl, hB4⟩
    go_wp2
    go_ret
    exact ⟨rfl, btr hB3 hB4⟩
end Go.Proofs.Ytdnaipiiponhpaa
