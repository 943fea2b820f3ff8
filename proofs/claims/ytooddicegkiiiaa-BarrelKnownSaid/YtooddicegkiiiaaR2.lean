/- The document's Sounds, Clashes, Join. -/
import Derived.Test.YtooddicegkiiiaaR1
namespace Go.Proofs.Ytooddicegkiiiaa
open Go.RowKit Go.Shelf

set_option maxRecDepth 100000 in
set_option maxHeartbeats 1000000 in
theorem rsounds_any (x : Value) (V : List (Int × Int)) (t : Int) (w : World) (hx0 : RdP w x V) (hl : V.length ≤ 1000) :
    Calls Try.prog 21 #[x, .int .i64 t] w (SndOk V t w) := by
  obtain ⟨a, ca, rfl, hca, hca2, _⟩ := hx0.form
  clear hca2
  unfold SndOk sndR
  by_cases hc : checkP V = 0
  · have hV := okPins_of hc
    have h5 := hV.l5
    have HC := Lib.hid (fun w' (hb : Below w.heap.size w w') => rcheck_any _ V w' (hx0.mono hb) hl)
    rw [hc] at HC
    by_cases ho : outB 0 1000000000000 t = true
    · have e : openE V [t] = 3 := by unfold openE; rw [if_neg (by simpa using hc)]; simp [ho]
      rw [e, if_neg (by omega)]; clear e
      have HT := Lib.hid (fun w' => istime_any t w')
      rw [ho] at HT
      clear hc ho
      go_enter Try.func21, Try.ntmps21
      go_wp2_with fail
      refine (HC.out _ (bz _)).mono ?_
      rintro e w2 ⟨rfl, hB2⟩
      go_wp2_with fail
      refine (HT.out _).mono ?_
      rintro e w3 ⟨rfl, rfl⟩
      go_wp2_with fail
      go_ret2
      exact ⟨.slice none 0 0, rfl, rdI_nil _ _, hB2⟩
    · have ho' : outB 0 1000000000000 t = false := by simpa using ho
      have e : openE V [t] = 0 := by unfold openE; rw [if_neg (by simpa using hc)]; simp [ho']
      rw [e, if_pos rfl]; clear e
      have hft : 0 ≤ t ∧ t ≤ 1000000000000 := by simp [outB] at ho'; omega
      have HT := Lib.hid (fun w' => istime_any t w')
      rw [ho'] at HT
      have HA := Lib.hid (fun w' (hb : Below w.heap.size w w') => rat_any _ V t w' (hx0.mono hb) hV.v h5 hft.1 (by omega))
      clear hc ho ho' hft
      go_enter Try.func21, Try.ntmps21
      go_wp2_with fail
      refine (HC.out _ (bz _)).mono ?_
      rintro e w2 ⟨rfl, hB2⟩
      go_wp2_with fail
      refine (HT.out _).mono ?_
      rintro e w3 ⟨rfl, rfl⟩
      go_wp2_with fail
      refine (HA.out _ hB2).mono ?_
      rintro e w3 ⟨v, rfl, hown, hB3⟩
      have HO := Lib.hid hown; clear hown
      go_wp2_with fail
      go_ret2
      exact ⟨v, rfl, RdI.of_owns HO.out, btr hB2 hB3⟩
  · have e : openE V [t] = checkP V := by unfold openE; rw [if_pos (by simpa using hc)]
    rw [e, if_neg hc]; clear e
    have HC := Lib.hid (fun w' (hb : Below w.heap.size w w') => rcheck_any _ V w' (hx0.mono hb) hl)
    have hcb : (checkP V != 0) = true := by simpa using hc
    clear hc
    generalize checkP V = q at *
    go_enter Try.func21, Try.ntmps21
    go_wp2_with fail
    refine (HC.out _ (bz _)).mono ?_
    rintro e w2 ⟨rfl, hB2⟩
    go_wp2_with fail
    refine (HC.out _ hB2).mono ?_
    rintro e w3 ⟨rfl, hB3⟩
    go_wp2_with fail
    go_ret2
    exact ⟨.slice none 0 0, rfl, rdI_nil _ _, btr hB2 hB3⟩

set_option maxRecDepth 100000 in
set_option maxHeartbeats 1000000 in
theorem clashes_any (a b : Int × Int) (w : World) (h1 : 1 ≤ a.1) (h2 : a.1 ≤ 200) (h3 : 0 ≤ a.2) (h4 : a.2 < a.1) (h5 : 1 ≤ b.1) (h6 : b.1 ≤ 200) (h7 : 0 ≤ b.2) (h8 : b.2 < b.1) :
    Calls Try.prog 47 #[kv a, kv b] w fun e w' => e = .returned (.bool (clB a b)) ∧ Below w.heap.size w w' := by
  have hcl : clB a b = !((a.2 - b.2).tmod (gcdI a.1 b.1) == 0) := by
    rw [tmod_zero _ _ (gcdI_pos a.1 b.1 h1)]; simp [clB]
  rw [hcl]; clear hcl
  have g1 := gcdI_pos a.1 b.1 h1
  have g2 := gcdI_le a.1 b.1 h1
  obtain ⟨t1, t2⟩ := tmod_bd (a.2 - b.2) (gcdI a.1 b.1) g1
  have w1 : IntKind.i64.wrap (a.2 - b.2) = a.2 - b.2 := IntWalk.i64_in _ (by omega)
  have w2 : IntKind.i64.wrap ((a.2 - b.2).tmod (gcdI a.1 b.1)) = (a.2 - b.2).tmod (gcdI a.1 b.1) := IntWalk.i64_in _ (by omega)
  have HC := Lib.hid (fun w' => rcommon_i a.1 b.1 w' (by omega) (by omega) (by omega) (by omega))
  obtain ⟨a1, a2⟩ := a
  obtain ⟨b1, b2⟩ := b
  unfold kv
  simp only at *
  generalize gcdI a1 b1 = c at *
  go_enter Try.func47, Try.ntmps47
  go_wp2_with fail
  refine wp_region_flow [] [([0, 1, 2, 3, 4, 5, 6, 7, 8], 9, true)] [10, 11, 12] (by kernel_rfl) (by kernel_rfl) ?_
  intro wc hBc hh
  have c0 : wc.cell? ⟨w.heap.size, 0, none⟩ = some (.int .i64 a1) := (hBc.cell (by simp; omega)).trans (cal _ (cnew rfl rfl))
  have c1 : wc.cell? ⟨w.heap.size, 1, none⟩ = some (.int .i64 a2) := (hBc.cell (by simp; omega)).trans (cal _ (cnew rfl rfl))
  have c2 : wc.cell? ⟨w.heap.size + 1, 0, none⟩ = some (.int .i64 b1) := (hBc.cell (by simp)).trans (cnew (by simp) rfl)
  have c3 : wc.cell? ⟨w.heap.size + 1, 1, none⟩ = some (.int .i64 b2) := (hBc.cell (by simp)).trans (cnew (by simp) rfl)
  have z := hBc.size
  simp only [World.size_alloc] at z
  have z0 : w.heap.size < wc.heap.size := by omega
  have z1 : w.heap.size + 1 < wc.heap.size := by omega
  have hL := @Later.cell wc
  have HB := Lib.hid hBc
  clear hh hBc
  simp only [flowP, flow, pickL, List.getElem?_cons_succ, List.getElem?_cons_zero]
  refine wpQuiet_nil ?_
  repeat (go_big_quiet_step (fail))
  refine wpQuiet_nil ?_
  go_wp2_with fail
  refine (HC.out _).mono ?_
  rintro e w5 ⟨rfl, hB5⟩
  go_wp2
  refine seg_grow ⟨⟨_, hB5⟩, rfl⟩ ?_
  repeat (go_big_quiet_step (fail))
  refine wpQuiet_nil ?_
  refine only_done ?_
  go_wp2_with fail
  go_ret
  exact ⟨rfl, btr (bal (bal (bz _) _) _) (btr HB.out hB5)⟩
end Go.Proofs.Ytooddicegkiiiaa
