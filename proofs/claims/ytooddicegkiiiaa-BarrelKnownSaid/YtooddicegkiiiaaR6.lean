/- The document's CheckClash, Clash. -/
import Derived.Test.YtooddicegkiiiaaR5
namespace Go.Proofs.Ytooddicegkiiiaa
open Go.RowKit Go.Shelf

set_option maxRecDepth 100000 in
set_option maxHeartbeats 2000000 in
theorem rcc_bad (x : Value) (V : List (Int × Int)) (i k : Int) (w : World) (hx0 : RdP w x V) (hl : V.length ≤ 1000) (hc : checkP V = 0)
    (hbad : i < 0 ∨ (0 ≤ i ∧ V.length ≤ i) ∨ (0 ≤ i ∧ i < V.length ∧ k < 0) ∨ (0 ≤ i ∧ i < V.length ∧ 0 ≤ k ∧ V.length ≤ k) ∨ (0 ≤ i ∧ i < V.length ∧ 0 ≤ k ∧ k < V.length ∧ i = k)) :
    Calls Try.prog 32 #[x, .int .i64 i, .int .i64 k] w fun e w' => e = .returned (.tuple #[.int .i64 0, .int .i64 2]) ∧ Below w.heap.size w w' := by
  obtain ⟨a, ca, rfl, hca, _, _⟩ := hx0.form
  have HK := Lib.hid (fun w' hx => rcheck_any (.slice a V.length ca) V w' hx hl)
  rw [hc] at HK
  rcases hbad with h1 | ⟨h1, h2⟩ | ⟨h1, h2, h3⟩ | ⟨h1, h2, h3, h4⟩ | ⟨h1, h2, h3, h4, rfl⟩
  all_goals
    go_enter Try.func32, Try.ntmps32
    go_wp2_with fail
    refine (HK.out _ hx0).mono ?_
    rintro e w2 ⟨rfl, hB2⟩
    go_wp2_with fail
    go_ret2
    exact ⟨rfl, hB2⟩

set_option maxRecDepth 100000 in
set_option maxHeartbeats 2000000 in
theorem rcc_two (x : Value) (V : List (Int × Int)) (m n : Nat) (w : World) (hx0 : RdP w x V) (hc : checkP V = 0) (hm : m < V.length) (hn : n < V.length) (hmn : m ≠ n) :
    Calls Try.prog 32 #[x, .int .i64 m, .int .i64 n] w fun e w' => e = .returned (.tuple #[.int .i64 (if clB (pin V m) (pin V n) then gcdI (pin V m).1 (pin V n).1 else 0), .int .i64 (if clB (pin V m) (pin V n) then 0 else 14)]) ∧ Below w.heap.size w w' := by
  obtain ⟨a, ca, rfl, hca, hca2, hx⟩ := hx0.form
  clear hca2
  have hV := okPins_of hc
  have h5 := hV.l5
  have HK := Lib.hid (fun w' hx => rcheck_any (.slice a V.length ca) V w' hx (by omega))
  rw [hc] at HK
  obtain ⟨bx, ox, rfl, hbx, hcx⟩ := hx (by omega)
  have gm0 : w.cell? ⟨bx, ox + m * 2, none⟩ = some (Value.int .i64 (pin V m).1) := (hcx m hm).1
  have gm1 : w.cell? ⟨bx, ox + m * 2 + 1, none⟩ = some (Value.int .i64 (pin V m).2) := (hcx m hm).2
  have gn0 : w.cell? ⟨bx, ox + n * 2, none⟩ = some (Value.int .i64 (pin V n).1) := (hcx n hn).1
  have gn1 : w.cell? ⟨bx, ox + n * 2 + 1, none⟩ = some (Value.int .i64 (pin V n).2) := (hcx n hn).2
  obtain ⟨p1, p2, p3, p4⟩ := hV.v.at hm
  obtain ⟨q1, q2, q3, q4⟩ := hV.v.at hn
  have HC := Lib.hid (fun w' => clashes_any (pin V m) (pin V n) w' p1 p2 p3 p4 q1 q2 q3 q4)
  have HG := Lib.hid (fun w' => rcommon_i (pin V m).1 (pin V n).1 w' (by omega) (by omega) (by omega) (by omega))
  unfold kv at HC
  clear hx hcx hc hV
  generalize clB (pin V m) (pin V n) = b at *
  generalize gcdI (pin V m).1 (pin V n).1 = g at *
  generalize pin V m = p at *
  generalize pin V n = q at *
  obtain ⟨pa, pb⟩ := p
  obtain ⟨qa, qb⟩ := q
  simp only at *
  have hmi : ((m : Int) == (n : Int)) = false := by rw [beq_eq_false_iff_ne]; omega
  have HX0 := Lib.hid hx0; clear hx0
  cases b
  all_goals
    go_enter Try.func32, Try.ntmps32
    go_wp2_with fail
    refine (HK.out _ HX0.out).mono ?_
    rintro e w2 ⟨rfl, hB2⟩
    have c0 := (hB2.cell hbx).trans gm0
    have c1 := (hB2.cell hbx).trans gm1
    have c2 := (hB2.cell hbx).trans gn0
    have c3 := (hB2.cell hbx).trans gn1
    have z2 : bx < w2.heap.size := Nat.lt_of_lt_of_le hbx hB2.size
    have HB2 := Lib.hid hB2
    clear gm0 gm1 gn0 gn1 hB2
    go_wp2_with fail
    refine wp_region_flow [] [([0, 1, 2, 3, 4, 5, 6, 7], 8, true)] [9] (by kernel_rfl) (by kernel_rfl) ?_
    intro wc hBc hh
    have d0 := (hBc.cell z2).trans c0
    have d1 := (hBc.cell z2).trans c1
    have d2 := (hBc.cell z2).trans c2
    have d3 := (hBc.cell z2).trans c3
    have zc : bx < wc.heap.size := Nat.lt_of_lt_of_le z2 hBc.size
    have hL := @Later.cell wc
    have HBc := Lib.hid hBc
    clear hh hBc c0 c1 c2 c3
    simp only [flowP, flow, pickL, List.getElem?_cons_succ, List.getElem?_cons_zero]
    refine wpQuiet_nil ?_
    repeat (go_big_quiet_step (fail))
    refine wpQuiet_nil ?_
    go_wp2_with fail
    refine (HC.out _).mono ?_
    rintro e w5 ⟨rfl, hB5⟩
    go_wp2
    refine seg_grow ⟨⟨_, hB5⟩, rfl⟩ ?_
    repeat (go_big_quiet_step (fail))
    refine wpQuiet_nil ?_
    refine only_done ?_
    have e0 := (hB5.cell zc).trans d0
    have e1 := (hB5.cell zc).trans d1
    have e2 := (hB5.cell zc).trans d2
    have e3 := (hB5.cell zc).trans d3
    have z5 : bx < w5.heap.size := Nat.lt_of_lt_of_le zc hB5.size
    have HB5 := Lib.hid (btr HB2.out (btr HBc.out hB5))
    clear d0 d1 d2 d3 hL hB5
    go_wp2_with fail
  · go_ret2
    exact ⟨rfl, HB5.out⟩
  · refine wp_region_flow [] [([0, 1, 2, 3, 4, 5, 6, 7, 8, 9], 10, true)] [11, 12] (by kernel_rfl) (by kernel_rfl) ?_
    intro wc hBc hh
    have d0 := (hBc.cell z5).trans e0
    have d1 := (hBc.cell z5).trans e1
    have d2 := (hBc.cell z5).trans e2
    have d3 := (hBc.cell z5).trans e3
    have zc : bx < wc.heap.size := Nat.lt_of_lt_of_le z5 hBc.size
    have hL := @Later.cell wc
    have HBc := Lib.hid hBc
    clear hh hBc e0 e1 e2 e3
    simp only [flowP, flow, pickL, List.getElem?_cons_succ, List.getElem?_cons_zero]
    refine wpQuiet_nil ?_
    repeat (go_big_quiet_step (fail))
    refine wpQuiet_nil ?_
    go_wp2_with fail
    refine (HG.out _).mono ?_
    rintro e w6 ⟨rfl, hB6⟩
    go_wp2
    refine seg_grow ⟨⟨_, hB6⟩, rfl⟩ ?_
    repeat (go_big_quiet_step (fail))
    refine wpQuiet_nil ?_
    refine only_done ?_
    go_wp2_with fail
    go_ret2
    exact ⟨rfl, btr HB5.out (btr HBc.out hB6)⟩

set_option maxRecDepth 100000 in
set_option maxHeartbeats 1000000 in
theorem rcheckclash_any (x : Value) (V : List (Int × Int)) (i k : Int) (w : World) (hx0 : RdP w x V) (hl : V.length ≤ 1000) :
    Calls Try.prog 32 #[x, .int .i64 i, .int .i64 k] w fun e w' => e = .returned (.tuple #[.int .i64 (ccN V i k), .int .i64 (ccE V i k)]) ∧ Below w.heap.size w w' := by
  by_cases hc : checkP V = 0
  · have e1 : ccN V i k = if badTwo V i k then 0 else if clB (pin V i.toNat) (pin V k.toNat) then gcdI (pin V i.toNat).1 (pin V k.toNat).1 else 0 := by unfold ccN; rw [if_neg (by simpa using hc)]
    have e2 : ccE V i k = if badTwo V i k then 2 else if clB (pin V i.toNat) (pin V k.toNat) then 0 else 14 := by unfold ccE; rw [if_neg (by simpa using hc)]
    rw [e1, e2]; clear e1 e2
    have hbt : badTwo V i k = (decide (i < 0 ∨ (V.length : Int) - 1 < i) || decide (k < 0 ∨ (V.length : Int) - 1 < k) || decide (i = k)) := by simp [badTwo, outB]
    by_cases hg : 0 ≤ i ∧ i < V.length ∧ 0 ≤ k ∧ k < V.length ∧ i ≠ k
    · rw [show badTwo V i k = false from by rw [hbt]; simp; omega]
      obtain ⟨m, rfl⟩ := Int.eq_ofNat_of_zero_le hg.1
      obtain ⟨n, rfl⟩ := Int.eq_ofNat_of_zero_le hg.2.2.1
      exact rcc_two x V m n w hx0 hc (by omega) (by omega) (by omega)
    · rw [show badTwo V i k = true from by rw [hbt]; simp; omega]
      exact rcc_bad x V i k w hx0 hl hc (by omega)
  · obtain ⟨a, ca, rfl, _, _, _⟩ := hx0.form
    have HK := Lib.hid (fun w' hx => rcheck_any (.slice a V.length ca) V w' hx hl)
    have e1 : ccN V i k = 0 := by unfold ccN; rw [if_pos (by simpa using hc)]
    have e2 : ccE V i k = checkP V := by unfold ccE; rw [if_pos (by simpa using hc)]
    rw [e1, e2]; clear e1 e2
    have hcb : (checkP V != 0) = true := by simpa using hc
    have hce : (checkP V == 0) = false := by simpa using hc
    clear hc
    generalize checkP V = q at *
    go_enter Try.func32, Try.ntmps32
    go_wp2_with fail
    refine (HK.out _ hx0).mono ?_
    rintro e w2 ⟨rfl, hB2⟩
    go_wp2_with fail
    refine (HK.out _ (hx0.mono hB2)).mono ?_
    rintro e w3 ⟨rfl, hB3⟩
    go_wp2_with fail
    go_ret2
    exact ⟨rfl, btr hB2 hB3⟩
end Go.Proofs.Ytooddicegkiiiaa
