/- Sorts, CheckPattern and Run: what they answer; every row of at most 1000 valves. -/
import Derived.Test.YtdnaipiiponhpaaW4
namespace Go.Proofs.Ytdnaipiiponhpaa
open Go.RowKit Go.Shelf

theorem cond_row {p : Int} {V : List (Int × Int)} (h : checkR p V = 0) : ∃ n : Nat, p = n ∧ OkRow n V := by
  have hV := okRow_of h
  have h1 := hV.p1
  refine ⟨p.toNat, by omega, ?_⟩
  rw [show ((p.toNat : Nat) : Int) = p by omega]
  exact hV
/-- Pattern's answers. -/
def patE (p : Int) (V : List (Int × Int)) : Int := if checkR p V = 0 then patternE p.toNat V else checkR p V
def patL (p : Int) (V : List (Int × Int)) : List Int := if checkR p V = 0 then patternL p.toNat V else []
theorem rdI_nil (w : World) (k : IntKind) : RdI w k (.slice none 0 0) [] := ⟨none, 0, rfl, Nat.le_refl _, by unfold maxLen; omega, fun h => absurd rfl h⟩
theorem pattern_any (p : Int) (x : Value) (V : List (Int × Int)) (w : World) (hx0 : RdP w x V) (hl : V.length ≤ 1000) :
    Calls Try.prog 23 #[.agg #[.int .i64 p, x]] w fun e w' => ∃ v, e = .returned (.tuple #[v, .int .i64 (patE p V)]) ∧ RdI w' .i64 v (patL p V) ∧ Below w.heap.size w w' := by
  by_cases h : checkR p V = 0
  · obtain ⟨n, rfl, hV⟩ := cond_row h
    refine (pattern_ok n x V w hx0 hV).mono ?_
    rintro e w' ⟨v, rfl, h1, h2⟩
    refine ⟨v, ?_, ?_, h2⟩
    · unfold patE; rw [if_pos h]; rfl
    · unfold patL; rw [if_pos h]; exact h1
  · refine (pattern_no p x V w hx0 hl h).mono ?_
    rintro e w' ⟨rfl, h2⟩
    refine ⟨.slice none 0 0, ?_, ?_, h2⟩
    · unfold patE; rw [if_neg h]
    · unfold patL; rw [if_neg h]; exact rdI_nil _ _
/-- Sorts' answer. -/
def sortsE (p : Int) (V : List (Int × Int)) : Int := if patE p V = 0 then 23 else if patE p V = 5 then 0 else patE p V

set_option maxRecDepth 100000 in
set_option maxHeartbeats 400000 in
theorem sorts_any (p : Int) (x : Value) (V : List (Int × Int)) (w : World) (hx0 : RdP w x V) (hl : V.length ≤ 1000) :
    Calls Try.prog 27 #[.agg #[.int .i64 p, x]] w fun e w' => e = .returned (.int .i64 (sortsE p V)) ∧ Below w.heap.size w w' := by
  obtain ⟨a, ca, rfl, _, _, _⟩ := hx0.form
  have H0 := Lib.hid (pattern_any p _ V _ (hx0.mono (bal (bz w) (.cells #[.int .i64 p, .slice a V.length ca] 24))) hl)
  unfold sortsE
  generalize patE p V = c at *
  by_cases h0 : c = 0
  · subst h0
    go_enter Try.func27, Try.ntmps27
    go_wp2_with fail
    refine H0.out.mono ?_
    rintro e w2 ⟨v, rfl, _, hB2⟩
    go_wp2
    go_ret
    exact ⟨rfl, btr (bal (bz _) _) hB2⟩
  · by_cases h5 : c = 5
    · subst h5
      go_enter Try.func27, Try.ntmps27
      go_wp2_with fail
      refine H0.out.mono ?_
      rintro e w2 ⟨v, rfl, _, hB2⟩
      go_wp2
      go_ret
      exact ⟨rfl, btr (bal (bz _) _) hB2⟩
    · have e0 : (c == 0) = false := by simpa using h0
      have e5 : (c == 5) = false := by simpa using h5
      go_enter Try.func27, Try.ntmps27
      go_wp2_with fail
      refine H0.out.mono ?_
      rintro e w2 ⟨v, rfl, _, hB2⟩
      go_wp2
      go_ret
      exact ⟨rfl, btr (bal (bz _) _) hB2⟩

/-- CheckPattern's answer. -/
def chkPatE (p : Int) (V : List (Int × Int)) (q : List Int) : Int :=
  if checkR p V ≠ 0 then checkR p V else if (q.length : Int) ≠ p then 15 else if q.any (outB 0 1) then 3 else if sortedB ((runV V (fillK 8 q.length q)).take p.toNat) then 5 else 0

theorem fill8_set (k : Nat) (l : List Int) (hk : k < 8) : (fillK 8 k l).set k (l[k]?.getD 0) = fillK 8 (k + 1) l := fillK_step 8 k l hk

set_option maxRecDepth 100000 in
set_option maxHeartbeats 400000 in
theorem chkpat_no (p : Int) (x y : Value) (V : List (Int × Int)) (q : List Int) (w : World) (hx0 : RdP w x V) (hy0 : RdI w .i64 y q) (hl : V.length ≤ 1000) (_hq : q.length ≤ 1000) (h : checkR p V ≠ 0) :
    Calls Try.prog 29 #[.agg #[.int .i64 p, x], y] w fun e w' => e = .returned (.int .i64 (chkPatE p V q)) ∧ Below w.heap.size w w' := by
  obtain ⟨a, ca, rfl, _, _, _⟩ := hx0.form
  obtain ⟨b, cb, rfl, _, _, _⟩ := hy0.form
  have H0 := Lib.hid (open_no p _ V _ (hx0.mono (bal (bz w) (.cells #[.int .i64 p, .slice a V.length ca] 24))) hl h)
  unfold chkPatE
  rw [if_pos h]
  generalize checkR p V = c at *
  have e0 : (c != 0) = true := by simpa using h
  clear h
  go_enter Try.func29, Try.ntmps29
  go_wp2_with fail
  refine H0.out.mono ?_
  rintro e w2 ⟨rfl, hB2⟩
  go_wp2
  go_ret
  exact ⟨rfl, btr (bal (bz _) _) hB2⟩

set_option maxRecDepth 100000 in
set_option maxHeartbeats 1000000 in
theorem chkpat_ok (p : Nat) (x y : Value) (V : List (Int × Int)) (q : List Int) (w : World) (hx0 : RdP w x V) (hy0 : RdI w .i64 y q) (hV : OkRow p V) (hq : q.length ≤ 1000) :
    Calls Try.prog 29 #[.agg #[.int .i64 p, x], y] w fun e w' => e = .returned (.int .i64 (chkPatE p V q)) ∧ Below w.heap.size w w' := by
  have hp1 := hV.p1; have hp8 := hV.p8; have h40 := hV.len
  obtain ⟨a, ca, rfl, _, _, _⟩ := hx0.form
  obtain ⟨b, cb, rfl, _, _, hyf⟩ := hy0.form
  have H0 := Lib.hid (open_ok p _ V _ (hx0.mono (bal (bz w) (.cells #[.int .i64 p, .slice a V.length ca] 24))) hV)
  unfold chkPatE
  rw [if_neg (by rw [check_of_ok hV]; simp)]
  by_cases hlen : (q.length : Int) = p
  · obtain rfl : p = q.length := by omega
    clear hlen
    rw [if_neg (by simp)]
    cases hany : q.any (outB 0 1)
    · rw [if_neg (by simp), show ((q.length : Int)).toNat = q.length by omega]
      generalize hr : (if sortedB ((runV V (fillK 8 q.length q)).take q.length) = true then (5 : Int) else 0) = r
      have HR := Lib.hid hr; clear hr
      have hbits : ∀ k, k < q.length → 0 ≤ q[k]?.getD 0 ∧ q[k]?.getD 0 ≤ 1 := by
        intro k hk
        have h1 := List.any_eq_false.1 hany (q[k]'hk) (List.getElem_mem hk)
        simp only [outB, decide_eq_true_eq] at h1
        rw [List.getElem?_eq_getElem hk, Option.getD_some]
        omega
      have HA := Lib.hid hany; have HBT := Lib.hid hbits; clear hany hbits
      obtain ⟨bq, oq, rfl, hbq, hcq⟩ := hyf (by omega)
      have HCQ := Lib.hid hcq; clear hyf hcq
      go_enter Try.func29, Try.ntmps29
      go_wp2_with fail
      refine H0.out.mono ?_
      rintro e w2 ⟨bb, rfl, hb0, hb, hB2⟩
      have hB3 : Below w.heap.size w w2 := btr (bal (bz _) _) hB2
      obtain ⟨q0, q1, q2⟩ := id hb
      go_wp2_with fail
      refine (within_any _ q 0 1 _ (hy0.mono hB3) hq).mono ?_
      rintro e w3 ⟨rfl, hB4⟩
      rw [HA.out]
      have hb3 := hb.mono hB4
      have hB5 := btr hB3 hB4
      have hz3 := hB5.size
      have hx3 := hx0.mono hB5
      clear q0 q1 q2 hb hB2 hB3 hB4
      go_wp2
      go_loopw [8, 9, 34, 35, 36, 37, 38, 39, 40, 41, 42] (fun _ _ i _ _ _ _ _ _ _ _ wr => ∃ k : Nat, k ≤ q.length ∧ i = .int .i64 k ∧ Below w3.heap.size w3 wr ∧ wr.heap[w3.heap.size]? = some (.cells (arrI (fillK 8 k q)) 75 (0, 0)))
        (fun _ _ i _ _ _ _ _ _ _ _ _ => ((q.length : Int) - intOf i).toNat)
      case atStart => exact ⟨0, Nat.zero_le _, rfl, bal (bz _) _, by rw [fillK_zero]; exact heap_alloc_new _ _⟩
      case round =>
        obtain ⟨k, hk, rfl, hbr, hlr⟩ := hrel
        by_cases hkp : k < q.length
        · have hcc := ((hB5.trans (hbr.mono hz3)).cell (p := ⟨bq, oq + k, none⟩) hbq).trans (HCQ.out k hkp)
          have hbit := HBT.out k hkp
          have hff := frozen_of_row wr w3.heap.size k _ _ hlr
          have hc2 : ∃ v, wr.cell? ⟨w3.heap.size, k, none⟩ = some (.int .i64 v) := ⟨_, (cell_of_row wr _ _ _ _ _ hlr).trans (arrI_get _ _ (by rw [fillK_length]; omega))⟩
          obtain ⟨v0, hc2⟩ := hc2
          have hnew := heap_setCell_same wr w3.heap.size k _ _ (.int .i64 (q[k]?.getD 0)) hlr
          rw [arrI_set, fill8_set _ _ (by omega)] at hnew
          have hk8 : (k : Int) < 8 := by omega
          have HN := Lib.hid hnew; have HLR := Lib.hid hlr
          clear hnew hlr
          generalize q[k]?.getD 0 = v at *
          go_wp2
          exact ⟨⟨k + 1, by omega, by simp, bset hbr (by simp) _, HN.out⟩, by simp [intOf]; omega⟩
        · have hkk : k = q.length := by omega
          subst hkk
          have hbb := hb3.mono hbr
          have hxx := hx3.mono hbr
          have HLR := Lib.hid hlr
          have hgl := (Array.getElem?_eq_some_iff.1 hlr).1
          clear hlr
          have HLL := Lib.hid (fillK_length 8 q.length q)
          have HRUN := Lib.hid (show (runV V (fillK 8 q.length q)).length = 8 by rw [runV_length]; exact HLL.out)
          have hC : ∀ l' : Later wr, Calls Try.prog 58 #[.pointer (some ⟨bb, 0, none⟩), .agg (arrI (fillK 8 q.length q)), .int .i64 (V.length : Int)] l'.val fun e w'' => e = .returned (.agg (arrI (runV V (fillK 8 q.length q)))) ∧ ∃ x : Later wr, w'' = x.val := by
            intro l'
            have := run_any bb q.length _ V (fillK 8 q.length q) V.length l'.val (hbb.mono l'.le) (hxx.mono l'.le) (Nat.le_refl _) hV HLL.out
            rw [List.take_length] at this
            exact Calls.later this
          have hS : ∀ l' : Later wr, Calls Try.prog 64 #[.pointer (some ⟨bb, 0, none⟩), .agg (arrI (runV V (fillK 8 q.length q)))] l'.val fun e w'' => e = .returned (.bool (sortedB ((runV V (fillK 8 q.length q)).take q.length))) ∧ ∃ x : Later wr, w'' = x.val := by
            intro l'
            have := bsorted_any bb q.length _ (runV V (fillK 8 q.length q)) l'.val (hbb.mono l'.le) (by omega) (by omega) HRUN.out
            exact Calls.later this
          have HC := Lib.hid hC; have HS := Lib.hid hS; clear hC hS
          obtain ⟨q0, q1, q2⟩ := hbb
          have hL := @Later.cell wr
          generalize hv : sortedB ((runV V (fillK 8 q.length q)).take q.length) = sv at *
          have HV := Lib.hid hv; clear hv
          generalize fillK 8 q.length q = fq at *
          generalize runV V fq = rq at *
          go_wp2
          refine wp_region_later (by kernel_rfl) (by kernel_rfl) ?_
          repeat (first
            | (refine wpQuiet_load_row rfl 75 (.tmp 7) rfl w3.heap.size rfl 75 (arrI fq) (0, 0) _ HLR.out Try.underlying75 rfl (arr8 _ HLL.out) ?_)
            | (quiet_step (first | (go_at_call 58; exact HC.out _) | (go_at_call 64; exact HS.out _))))
          refine wpQuiet_nil ?_
          intro w6 hw6
          have hL6 : Below wr.heap.size wr w6 := by obtain ⟨⟨_, h⟩, rfl⟩ := hw6; exact h
          clear hw6
          cases sv
          · go_wp2
            go_ret
            exact ⟨ret_int (HR.out), btr (btr hB5 hbr) hL6⟩
          · go_wp2
            go_ret
            exact ⟨ret_int (HR.out), btr (btr hB5 hbr) hL6⟩
    · rw [if_pos rfl]
      have HA := Lib.hid hany; clear hany
      go_enter Try.func29, Try.ntmps29
      go_wp2_with fail
      refine H0.out.mono ?_
      rintro e w2 ⟨bb, rfl, hb0, hb, hB2⟩
      have hB3 : Below w.heap.size w w2 := btr (bal (bz _) _) hB2
      obtain ⟨q0, q1, q2⟩ := hb
      go_wp2_with fail
      refine (within_any _ q 0 1 _ (hy0.mono hB3) hq).mono ?_
      rintro e w3 ⟨rfl, hB4⟩
      rw [HA.out]
      go_wp2
      go_ret
      exact ⟨rfl, btr hB3 hB4⟩
  · rw [if_pos (by simpa using hlen)]
    go_enter Try.func29, Try.ntmps29
    go_wp2_with fail
    refine H0.out.mono ?_
    rintro e w2 ⟨bb, rfl, hb0, hb, hB2⟩
    obtain ⟨q0, q1, q2⟩ := hb
    have hne : ((q.length : Int) != (p : Int)) = true := by simpa using hlen
    go_wp2
    go_ret
    exact ⟨rfl, btr (bal (bz _) _) hB2⟩
end Go.Proofs.Ytdnaipiiponhpaa
