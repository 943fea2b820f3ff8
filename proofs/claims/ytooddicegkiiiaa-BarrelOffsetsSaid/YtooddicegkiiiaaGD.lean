/- Merged texts: the document's functions. -/
import Derived.Test.YtooddicegkiiiaaGC
import Derived.Test.YtooddicegkiiiaaGB
import Derived.Test.YtooddicegkiiiaaGA
namespace Go.Proofs.Ytooddicegkiiiaa
open Go.RowKit Go.Shelf

theorem oddP_iff {v : Int × Int} : oddP v = decide (v.1 < 1 ∨ 200 < v.1 ∨ v.2 < 0 ∨ v.1 ≤ v.2) := by
  rw [Bool.eq_iff_iff]; simp [oddP, outB]; omega

set_option maxRecDepth 100000 in
set_option maxHeartbeats 1000000 in
theorem rcheck_any (x : Value) (V : List (Int × Int)) (w : World) (hx0 : RdP w x V) (hl : V.length ≤ 1000) :
    Calls Try.prog 23 #[x] w fun e w' => e = .returned (.int .i64 (checkP V)) ∧ Below w.heap.size w w' := by
  obtain ⟨a, ca, rfl, _, hca2, hx⟩ := hx0.form
  clear hx0 hca2
  by_cases hp : V.length < 1 ∨ 5 < V.length
  · have e : checkP V = 6 := by unfold checkP; rw [if_pos (by omega)]
    rw [e]; clear e
    by_cases h1 : V.length < 1
    · go_enter Try.func23, Try.ntmps23
      go_wp2_with fail
      go_ret
      exact ⟨rfl, bz _⟩
    · have h3 : 5 < V.length := by omega
      clear hp
      go_enter Try.func23, Try.ntmps23
      go_wp2_with fail
      go_ret
      exact ⟨rfl, bz _⟩
  · have e : checkP V = if V.any oddP then 3 else 0 := by unfold checkP; rw [if_neg (by omega)]
    rw [e]; clear e
    have hp1 : ¬ V.length < 1 := by omega
    have hp3 : ¬ 5 < V.length := by omega
    have hp4 : V.length ≤ 5 := by omega
    clear hp
    generalize hr : (if V.any oddP then (3 : Int) else 0) = r
    have HR := Lib.hid hr; clear hr
    go_enter Try.func23, Try.ntmps23
    go_wp2_with fail
    go_loopw [3] (fun i wr => ∃ k : Nat, k ≤ V.length ∧ i = .int .i64 k ∧ (∀ i, i < k → oddP (pin V i) = false) ∧ Below w.heap.size w wr) (fun i _ => V.length - (intOf i).toNat)
    case atStart => exact ⟨0, Nat.zero_le _, rfl, by intro i h1; omega, bz _⟩
    case round =>
      obtain ⟨k, hk, rfl, ht, hB⟩ := hrel
      have HT := Lib.hid ht; clear ht
      by_cases hlt : k < V.length
      · obtain ⟨bx, ox, rfl, hbx, hcx⟩ := hx (by omega)
        have gx := (hB.cell (p := ⟨bx, ox + k * 2, none⟩) hbx).trans (hcx k hlt).1
        have gy := (hB.cell (p := ⟨bx, ox + k * 2 + 1, none⟩) hbx).trans (hcx k hlt).2
        change wr.cell? _ = some (Value.int .i64 (pin V k).1) at gx
        change wr.cell? _ = some (Value.int .i64 (pin V k).2) at gy
        have fin : oddP (pin V k) = true → (3 : Int) = r := fun h => by
          rw [← HR.out, if_pos]
          rw [List.any_eq_true]
          exact ⟨_, pin_mem hlt, h⟩
        have FIN := Lib.hid fin; clear fin
        clear hx hcx
        generalize hq : pin V k = q at *
        have HQ := Lib.hid hq; clear hq
        obtain ⟨q1, q2⟩ := q
        simp only at gx gy
        have HO := Lib.hid (oddP_iff (v := (q1, q2)))
        by_cases b1 : q1 < 1
        · have d1 : decide (q1 < 1) = true := by simpa using b1
          have HB := Lib.hid hB; clear hB
          go_wp2_with fail
          go_quiet (fail)
          go_wp2_with fail
          go_ret
          exact ⟨ret_int (FIN.out (by rw [HO.out]; simp; omega)), Below.drewN' _ HB.out⟩
        · have d1 : decide (q1 < 1) = false := by simp; omega
          by_cases b2 : 200 < q1
          · have d2 : decide (200 < q1) = true := by simpa using b2
            have HB := Lib.hid hB; clear hB
            go_wp2_with fail
            go_quiet (fail)
            go_wp2_with fail
            go_ret
            exact ⟨ret_int (FIN.out (by rw [HO.out]; simp; omega)), Below.drewN' _ HB.out⟩
          · have d2 : decide (200 < q1) = false := by simp; omega
            by_cases b3 : q2 < 0
            · have d3 : decide (q2 < 0) = true := by simpa using b3
              have HB := Lib.hid hB; clear hB
              go_wp2_with fail
              go_quiet (fail)
              go_wp2_with fail
              go_ret
              exact ⟨ret_int (FIN.out (by rw [HO.out]; simp; omega)), Below.drewN' _ HB.out⟩
            · have d3 : decide (q2 < 0) = false := by simp; omega
              by_cases b4 : q1 ≤ q2
              · have d4 : decide (q1 ≤ q2) = true := by simpa using b4
                have HB := Lib.hid hB; clear hB
                go_wp2_with fail
                go_quiet (fail)
                go_wp2_with fail
                go_ret
                exact ⟨ret_int (FIN.out (by rw [HO.out]; simp; omega)), Below.drewN' _ HB.out⟩
              · have d4 : decide (q1 ≤ q2) = false := by simp; omega
                have HB := Lib.hid hB; clear hB
                go_wp2_with fail
                go_quiet (fail)
                go_wp2_with fail
                go_roundw
                case rel =>
                  refine ⟨k + 1, by omega, by go_num, fun i h1 => ?_, Below.drewN' _ HB.out⟩
                  by_cases e : i = k
                  · subst e; rw [HQ.out, HO.out]; simp; omega
                  · exact HT.out i (by omega)
                case measure => simp [intOf]; omega
      · go_wp2_with fail
        go_ret
        refine ⟨ret_int ?_, hB⟩
        rw [← HR.out, if_neg]
        rw [Bool.not_eq_true, List.any_eq_false]
        intro v hv
        obtain ⟨i, hi, rfl⟩ := List.getElem_of_mem hv
        have := HT.out i (by omega)
        simpa [pin, hi] using this

set_option maxRecDepth 100000 in
theorem istime_any (t : Int) (w : World) : Calls Try.prog 58 #[.int .i64 t] w fun e w' => e = .returned (.bool (!outB 0 1000000000000 t)) ∧ w = w' := by
  by_cases h1 : t < 0
  · rw [show outB 0 1000000000000 t = true by simp [outB]; omega]
    go_enter Try.func58, Try.ntmps58
    go_wp2_with fail
    go_ret
    exact ⟨rfl, rfl⟩
  · by_cases h2 : 1000000000000 < t
    · rw [show outB 0 1000000000000 t = true by simp [outB]; omega]
      go_enter Try.func58, Try.ntmps58
      go_wp2_with fail
      go_ret
      exact ⟨ret_bool (by simp; omega), rfl⟩
    · rw [show outB 0 1000000000000 t = false by simp [outB]; omega]
      go_enter Try.func58, Try.ntmps58
      go_wp2_with fail
      go_ret
      exact ⟨rfl, rfl⟩

/-- The pins that sound, as the document says. -/
theorem snd_iff {x : Int × Int} {t : Int} (h0 : 0 ≤ x.2) (h1 : x.2 < x.1) : (t % x.1 == x.2) = sndB x t := by
  unfold sndB
  rw [Bool.eq_iff_iff, beq_iff_eq, decide_eq_true_eq, mod_iff h0 h1, Int.dvd_iff_emod_eq_zero]

def AtOk (V : List (Int × Int)) (t : Int) (w : World) (e : Ending) (w' : World) : Prop := ∃ v, e = .returned v ∧ w'.ownsRow w.heap.size 3 1 v (sndK V t V.length).length ((sndK V t V.length).map (Value.int .i64)) ∧ Below w.heap.size w w'
set_option maxRecDepth 100000 in
set_option maxHeartbeats 1000000 in
theorem rat_any (x : Value) (V : List (Int × Int)) (t : Int) (w : World) (hx0 : RdP w x V) (hV : OkV V) (hl : V.length ≤ 5) (t0 : 0 ≤ t) (t1 : t < 4611686018427387904) :
    Calls Try.prog 49 #[x, .int .i64 t] w (AtOk V t w) := by
  obtain ⟨a, ca, rfl, _, hca2, hx⟩ := hx0.form
  clear hx0 hca2
  go_enter Try.func49, Try.ntmps49
  go_wp2_with fail
  go_loopw [5, 6] (fun s5 s6 wr => ∃ (k : Nat) (o : Value), k ≤ V.length ∧ o = s5 ∧ s6 = .int .i64 k ∧ Below w.heap.size w wr ∧ wr.ownsRow w.heap.size 3 1 o (sndK V t k).length ((sndK V t k).map (Value.int .i64))) (fun _ s6 _ => V.length - (intOf s6).toNat)
  case atStart => exact ⟨0, _, Nat.zero_le _, rfl, rfl, bz _, World.ownsRow_nil _ _ _ _⟩
  case round =>
    obtain ⟨k, o, hk, rfl, rfl, hB, hor⟩ := hrel
    have hkl := sndK_le V t k
    by_cases hlt : k < V.length
    · obtain ⟨bx, ox, rfl, hbx, hcx⟩ := hx (by omega)
      have gx := (hB.cell (p := ⟨bx, ox + k * 2, none⟩) hbx).trans (hcx k hlt).1
      have gy := (hB.cell (p := ⟨bx, ox + k * 2 + 1, none⟩) hbx).trans (hcx k hlt).2
      change wr.cell? _ = some (Value.int .i64 (pin V k).1) at gx
      change wr.cell? _ = some (Value.int .i64 (pin V k).2) at gy
      obtain ⟨p1, p2, p3, p4⟩ := hV.at hlt
      have hst := sndK_succ V t k
      rw [← snd_iff p3 p4] at hst
      obtain ⟨ao, co, rfl, _, _⟩ := owns_clip hor
      have HST := Lib.hid hst; have HOR := Lib.hid hor; have HB := Lib.hid hB
      clear hst hor hB hx hcx
      generalize pin V k = q at *
      obtain ⟨q1, q2⟩ := q
      simp only at p1 p2 p3 p4 gx gy HST
      have w1 : IntKind.i64.wrap (t.tmod q1) = t % q1 := by
        rw [Int.tmod_eq_emod_of_nonneg t0]
        have := Int.emod_nonneg t (b := q1) (by omega)
        have := Int.emod_lt_of_pos t (b := q1) (by omega)
        exact IntWalk.i64_in _ (by omega)
      generalize hnn : (sndK V t k).length = m at *
      have HNN := Lib.hid hnn; clear hnn
      cases hs : (t % q1 == q2)
      · rw [hs] at HST
        have hs' := hs
        go_wp2_with fail
        go_quiet (fail)
        go_wp2_with fail
        go_roundw
        case rel =>
          refine ⟨k + 1, _, by omega, rfl, by go_num, Below.drewN' _ HB.out, ?_⟩
          have h := HST.out
          simp only [Bool.false_eq_true, if_false] at h
          rw [h, HNN.out]; exact owns_kept HOR.out (Below.drewN' _ (bz _))
        case measure => simp [intOf]; omega
      · rw [hs] at HST
        go_wp2_with fail
        go_quiet (fail)
        have hor2 : (wr.drewN nq).ownsRow w.heap.size 3 1 (.slice ao m co) (sndK V t k).length ((sndK V t k).map (Value.int .i64)) := by rw [HNN.out]; exact owns_kept HOR.out (Below.drewN' _ (bz _))
        have hbz : w.heap.size ≤ (wr.drewN nq).heap.size := HB.out.size
        have hl1 : (sndK V t k).length ≤ 1000 := by rw [HNN.out]; omega
        have HOR2 := Lib.hid hor2
        go_wp2_with (at_builtin; refine wpList_append_num rfl _ _ rfl Try.underlying25 num3 HOR2.out (k : Int) rfl rfl rfl hl1 hbz ?_)
        intro v' w' hown hgrow
        have HBN := Lib.hid (append_below (bal (Below.drewN' nq HB.out) _) (HOR2.out.alloc _) hgrow (Nat.le_refl _))
        have HOWN := Lib.hid hown
        clear hown hgrow
        go_wp2_with fail
        go_roundw
        case rel =>
          refine ⟨k + 1, v', by omega, rfl, by go_num, HBN.out, ?_⟩
          have h := HST.out
          simp only [if_true] at h
          rw [h, List.length_append, List.map_append]; exact HOWN.out
        case measure => simp [intOf]; omega
    · have hkl2 : k = V.length := by omega
      rw [hkl2] at hor
      have HOR := Lib.hid hor; clear hor hkl2 hkl
      go_wp2_with fail
      go_ret
      exact ⟨_, rfl, HOR.out, hB⟩
end Go.Proofs.Ytooddicegkiiiaa

namespace Go.Proofs.Ytooddicegkiiiaa
open Go.RowKit Go.Shelf

set_option maxRecDepth 100000 in
set_option maxHeartbeats 1000000 in
theorem rsounds_any (x : Value) (V : List (Int × Int)) (t : Int) (w : World) (hx0 : RdP w x V) (hl : V.length ≤ 1000) :
    Calls Try.prog 21 #[x, .int .i64 t] w (SndOk V t w) := by
  obtain ⟨a, ca, rfl, hca, hca2, _⟩ := hx0.form
  clear hca2
  unfold SndOk sndR
  by_cases hc : checkP V = 0
  · have hV := okPins_of hc
    have h5 := hV.l5
    have HC := Lib.hid (fun w' (hb : Below w.heap.size w w') => rcheck_any _ V w' (hx0.mono hb) hl)
    rw [hc] at HC
    by_cases ho : outB 0 1000000000000 t = true
    · have e : openE V [t] = 3 := by unfold openE; rw [if_neg (by simpa using hc)]; simp [ho]
      rw [e, if_neg (by omega)]; clear e
      have HT := Lib.hid (fun w' => istime_any t w')
      rw [ho] at HT
      clear hc ho
      go_enter Try.func21, Try.ntmps21
      go_wp2_with fail
      refine (HC.out _ (bz _)).mono ?_
      rintro e w2 ⟨rfl, hB2⟩
      go_wp2_with fail
      refine (HT.out _).mono ?_
      rintro e w3 ⟨rfl, rfl⟩
      go_wp2_with fail
      go_ret2
      exact ⟨.slice none 0 0, rfl, rdI_nil _ _, hB2⟩
    · have ho' : outB 0 1000000000000 t = false := by simpa using ho
      have e : openE V [t] = 0 := by unfold openE; rw [if_neg (by simpa using hc)]; simp [ho']
      rw [e, if_pos rfl]; clear e
      have hft : 0 ≤ t ∧ t ≤ 1000000000000 := by simp [outB] at ho'; omega
      have HT := Lib.hid (fun w' => istime_any t w')
      rw [ho'] at HT
      have HA := Lib.hid (fun w' (hb : Below w.heap.size w w') => rat_any _ V t w' (hx0.mono hb) hV.v h5 hft.1 (by omega))
      clear hc ho ho' hft
      go_enter Try.func21, Try.ntmps21
      go_wp2_with fail
      refine (HC.out _ (bz _)).mono ?_
      rintro e w2 ⟨rfl, hB2⟩
      go_wp2_with fail
      refine (HT.out _).mono ?_
      rintro e w3 ⟨rfl, rfl⟩
      go_wp2_with fail
      refine (HA.out _ hB2).mono ?_
      rintro e w3 ⟨v, rfl, hown, hB3⟩
      have HO := Lib.hid hown; clear hown
      go_wp2_with fail
      go_ret2
      exact ⟨v, rfl, RdI.of_owns HO.out, btr hB2 hB3⟩
  · have e : openE V [t] = checkP V := by unfold openE; rw [if_pos (by simpa using hc)]
    rw [e, if_neg hc]; clear e
    have HC := Lib.hid (fun w' (hb : Below w.heap.size w w') => rcheck_any _ V w' (hx0.mono hb) hl)
    have hcb : (checkP V != 0) = true := by simpa using hc
    clear hc
    generalize checkP V = q at *
    go_enter Try.func21, Try.ntmps21
    go_wp2_with fail
    refine (HC.out _ (bz _)).mono ?_
    rintro e w2 ⟨rfl, hB2⟩
    go_wp2_with fail
    refine (HC.out _ hB2).mono ?_
    rintro e w3 ⟨rfl, hB3⟩
    go_wp2_with fail
    go_ret2
    exact ⟨.slice none 0 0, rfl, rdI_nil _ _, btr hB2 hB3⟩

set_option maxRecDepth 100000 in
set_option maxHeartbeats 1000000 in
theorem clashes_any (a b : Int × Int) (w : World) (h1 : 1 ≤ a.1) (h2 : a.1 ≤ 200) (h3 : 0 ≤ a.2) (h4 : a.2 < a.1) (h5 : 1 ≤ b.1) (h6 : b.1 ≤ 200) (h7 : 0 ≤ b.2) (h8 : b.2 < b.1) :
    Calls Try.prog 47 #[kv a, kv b] w fun e w' => e = .returned (.bool (clB a b)) ∧ Below w.heap.size w w' := by
  have hcl : clB a b = !((a.2 - b.2).tmod (gcdI a.1 b.1) == 0) := by
    rw [tmod_zero _ _ (gcdI_pos a.1 b.1 h1)]; simp [clB]
  rw [hcl]; clear hcl
  have g1 := gcdI_pos a.1 b.1 h1
  have g2 := gcdI_le a.1 b.1 h1
  obtain ⟨t1, t2⟩ := tmod_bd (a.2 - b.2) (gcdI a.1 b.1) g1
  have w1 : IntKind.i64.wrap (a.2 - b.2) = a.2 - b.2 := IntWalk.i64_in _ (by omega)
  have w2 : IntKind.i64.wrap ((a.2 - b.2).tmod (gcdI a.1 b.1)) = (a.2 - b.2).tmod (gcdI a.1 b.1) := IntWalk.i64_in _ (by omega)
  have HC := Lib.hid (fun w' => rcommon_i a.1 b.1 w' (by omega) (by omega) (by omega) (by omega))
  obtain ⟨a1, a2⟩ := a
  obtain ⟨b1, b2⟩ := b
  unfold kv
  simp only at *
  generalize gcdI a1 b1 = c at *
  go_enter Try.func47, Try.ntmps47
  go_wp2_with fail
  refine wp_region_flow [] [([0, 1, 2, 3, 4, 5, 6, 7, 8], 9, true)] [10, 11, 12] (by kernel_rfl) (by kernel_rfl) ?_
  intro wc hBc hh
  have c0 : wc.cell? ⟨w.heap.size, 0, none⟩ = some (.int .i64 a1) := (hBc.cell (by simp; omega)).trans (cal _ (cnew rfl rfl))
  have c1 : wc.cell? ⟨w.heap.size, 1, none⟩ = some (.int .i64 a2) := (hBc.cell (by simp; omega)).trans (cal _ (cnew rfl rfl))
  have c2 : wc.cell? ⟨w.heap.size + 1, 0, none⟩ = some (.int .i64 b1) := (hBc.cell (by simp)).trans (cnew (by simp) rfl)
  have c3 : wc.cell? ⟨w.heap.size + 1, 1, none⟩ = some (.int .i64 b2) := (hBc.cell (by simp)).trans (cnew (by simp) rfl)
  have z := hBc.size
  simp only [World.size_alloc] at z
  have z0 : w.heap.size < wc.heap.size := by omega
  have z1 : w.heap.size + 1 < wc.heap.size := by omega
  have hL := @Later.cell wc
  have HB := Lib.hid hBc
  clear hh hBc
  simp only [flowP, flow, pickL, List.getElem?_cons_succ, List.getElem?_cons_zero]
  refine wpQuiet_nil ?_
  repeat (go_big_quiet_step (fail))
  refine wpQuiet_nil ?_
  go_wp2_with fail
  refine (HC.out _).mono ?_
  rintro e w5 ⟨rfl, hB5⟩
  go_wp2
  refine seg_grow ⟨⟨_, hB5⟩, rfl⟩ ?_
  repeat (go_big_quiet_step (fail))
  refine wpQuiet_nil ?_
  refine only_done ?_
  go_wp2_with fail
  go_ret
  exact ⟨rfl, btr (bal (bal (bz _) _) _) (btr HB.out hB5)⟩
end Go.Proofs.Ytooddicegkiiiaa

namespace Go.Proofs.Ytooddicegkiiiaa
open Go.RowKit Go.Shelf

theorem joinS_none (x : Int × Int) : joinS none x = none := rfl
theorem fold_none : ∀ V : List (Int × Int), V.foldl joinS none = none
  | [] => rfl
  | x :: V => by rw [List.foldl_cons, joinS_none]; exact fold_none V
theorem joinO_cut {V : List (Int × Int)} {k : Nat} (h : joinO (V.take k) = none) : joinO V = none := by
  have e : joinO V = (V.drop k).foldl joinS (joinO (V.take k)) := by
    unfold joinO; rw [← List.foldl_append, List.take_append_drop]
  rw [e, h]; exact fold_none _
theorem findN_none {t p : Int} {x : Int × Int} {s : Nat} (hs : (x.1 / gcdI p x.1).toNat = s) (h : ∀ m, m < s → ((t + (m : Int) * p) % x.1 == x.2) = false) : findN t p x = none := by
  unfold findN
  rw [hs, List.find?_eq_none]
  intro m hm
  have := h m (List.mem_range.1 hm)
  simpa using this
theorem findN_some {t p : Int} {x : Int × Int} {s n : Nat} (hs : (x.1 / gcdI p x.1).toNat = s) (hn : n < s) (h : ∀ m, m < n → ((t + (m : Int) * p) % x.1 == x.2) = false) (hf : ((t + (n : Int) * p) % x.1 == x.2) = true) : findN t p x = some n := by
  unfold findN
  rw [hs, List.find?_range_eq_some]
  refine ⟨by simpa using hf, List.mem_range.2 hn, fun m hm => ?_⟩
  have := h m hm
  simpa using this

set_option maxRecDepth 100000 in
set_option maxHeartbeats 4000000 in
theorem rjoin_any (x : Value) (V : List (Int × Int)) (w : World) (hx0 : RdP w x V) (hV : OkV V) (hl : V.length ≤ 5) :
    Calls Try.prog 63 #[x] w fun e w' => e = .returned (.tuple #[.int .i64 (jA V), .int .i64 (jB V), .bool (jO V)]) ∧ Below w.heap.size w w' := by
  obtain ⟨a, ca, rfl, hca, hca2, hx⟩ := hx0.form
  clear hca2 hx0
  have hnone : joinO V = none → jA V = 0 ∧ jB V = 0 ∧ jO V = false := fun h => by simp [jA, jB, jO, h]
  have hsome : ∀ t p, joinO V = some (t, p) → jA V = t ∧ jB V = p ∧ jO V = true := fun t p h => by simp [jA, jB, jO, h]
  have HNO := Lib.hid hnone; have HSO := Lib.hid hsome; clear hnone hsome
  go_enter Try.func63, Try.ntmps63
  go_wp2_with fail
  go_loopw [5, 6, 7, 8, 9] (fun f p i _ _ wr => ∃ (k : Nat) (F P : Int), k ≤ V.length ∧ i = .int .i64 k ∧ f = .int .i64 F ∧ p = .int .i64 P ∧ joinO (V.take k) = some (F, P) ∧ 0 ≤ F ∧ F < P ∧ P ≤ 200 ^ k ∧ Below w.heap.size w wr) (fun _ _ i _ _ _ => V.length - (intOf i).toNat)
  case atStart => exact ⟨0, 0, 1, Nat.zero_le _, rfl, rfl, rfl, rfl, by omega, by omega, by decide, bz _⟩
  case round =>
    obtain ⟨k, F, P, hk, rfl, rfl, rfl, hJ, hF0, hFP, hP, hB⟩ := hrel
    by_cases hlt : k < V.length
    · obtain ⟨bx, ox, rfl, hbx, hcx⟩ := hx (by omega)
      have gx := (hB.cell (p := ⟨bx, ox + k * 2, none⟩) hbx).trans (hcx k hlt).1
      have gy := (hB.cell (p := ⟨bx, ox + k * 2 + 1, none⟩) hbx).trans (hcx k hlt).2
      change wr.cell? _ = some (Value.int .i64 (pin V k).1) at gx
      change wr.cell? _ = some (Value.int .i64 (pin V k).2) at gy
      obtain ⟨p1, p2, p3, p4⟩ := hV.at hlt
      have hP5 := Int.le_trans hP (pow200 k (by omega))
      have htk := take_pin V k hlt
      have hjn := joinO_snoc (V.take k) (pin V k)
      rw [← htk, hJ] at hjn
      have hcut := fun h => joinO_cut (V := V) (k := k + 1) h
      have HJN := Lib.hid hjn; have HCUT := Lib.hid hcut; have HP := Lib.hid hP; have HB := Lib.hid hB
      have hbz : bx < wr.heap.size := Nat.lt_of_lt_of_le hbx hB.size
      clear hx hcx hJ htk hjn hcut hP hB
      generalize pin V k = q at *
      have HFN : Hid (∀ s : Nat, (q.1 / gcdI P q.1).toNat = s → (∀ m : Nat, m < s → ((F + (m : Int) * P) % q.1 == q.2) = false) → joinO (V.take (k + 1)) = none) :=
        Lib.hid (fun s h1 h2 => by rw [HJN.out]; simp [joinS, findN_none h1 h2])
      have HFS : Hid (∀ s n : Nat, (q.1 / gcdI P q.1).toNat = s → n < s → (∀ m : Nat, m < n → ((F + (m : Int) * P) % q.1 == q.2) = false) → ((F + (n : Int) * P) % q.1 == q.2) = true → joinO (V.take (k + 1)) = some (F + (n : Int) * P, P * (q.1 / gcdI P q.1))) :=
        Lib.hid (fun s n h1 h2 h3 h4 => by rw [HJN.out]; simp [joinS, findN_some h1 h2 h3 h4])
      obtain ⟨q1, q2⟩ := q
      simp only at p1 p2 p3 p4 gx gy HFN HFS
      have g1 := gcdI_pos P q1 (by omega)
      have g2 := Int.le_of_dvd (by omega) (gcdI_dvd_right P q1)
      obtain ⟨s1, s2, s3⟩ := steps_pos (p := P) (P := q1) (by omega) (by omega)
      clear s3
      have HC := Lib.hid (fun w' => rcommon_i P q1 w' (by omega) (by omega) (by omega) (by omega))
      have wd : IntKind.i64.wrap (q1.tdiv (gcdI P q1)) = q1 / gcdI P q1 := by rw [Int.tdiv_eq_ediv_of_nonneg (by omega)]; exact IntWalk.i64_in _ (by omega)
      obtain ⟨s, hs⟩ : ∃ s : Nat, q1 / gcdI P q1 = (s : Int) := Int.eq_ofNat_of_zero_le (by omega)
      rw [hs] at HFN HFS wd s1 s2
      simp only [Int.toNat_natCast] at HFN HFS
      clear hs
      have hc0 : (gcdI P q1 == 0) = false := by rw [beq_eq_false_iff_ne]; omega
      generalize gcdI P q1 = c at *
      go_wp2_with fail
      refine wp_region_flow [] [([0, 1, 2, 3, 4, 5, 6, 7, 8, 9, 10], 11, true)] [12, 13] (by kernel_rfl) (by kernel_rfl) ?_
      intro wc hBc hh
      have d0 := (hBc.cell (World.block_lt_of_cell? wr _ gx)).trans gx
      have d1 := (hBc.cell (World.block_lt_of_cell? wr _ gy)).trans gy
      have hbc : bx < wc.heap.size := Nat.lt_of_lt_of_le hbz hBc.size
      have hL := @Later.cell wc
      have HBc := Lib.hid hBc
      clear hh hBc gx gy
      simp only [flowP, flow, pickL, List.getElem?_cons_succ, List.getElem?_cons_zero]
      refine wpQuiet_nil ?_
      repeat (go_big_quiet_step (fail))
      refine wpQuiet_nil ?_
      go_wp2_with fail
      refine (HC.out _).mono ?_
      rintro e w5 ⟨rfl, hB5⟩
      go_wp2
      refine seg_grow ⟨⟨_, hB5⟩, rfl⟩ ?_
      repeat (go_big_quiet_step (fail))
      refine wpQuiet_nil ?_
      refine only_done ?_
      have e0 := (hB5.cell (World.block_lt_of_cell? wc _ d0)).trans d0
      have e1 := (hB5.cell (World.block_lt_of_cell? wc _ d1)).trans d1
      have hb5 : bx < w5.heap.size := Nat.lt_of_lt_of_le hbc hB5.size
      have HB5 := Lib.hid (btr HB.out (btr HBc.out hB5))
      clear d0 d1 hL hB5 wd hc0
      go_wp2_with fail
      have hgt : ∀ m : Nat, m ≤ s → -64000000000000 ≤ (m : Int) * P ∧ (m : Int) * P ≤ 64000000000000 := fun m hm => by
        have := mul_bd (m : Int) P 200 320000000000 (by omega) (by omega) (by omega) (by omega)
        omega
      have HGT := Lib.hid hgt; clear hgt
      go_loopw [9] (fun n wr => ∃ m : Nat, m ≤ s ∧ n = .int .i64 m ∧ (∀ j : Nat, j < m → ((F + (j : Int) * P) % q1 == q2) = false) ∧ Below w5.heap.size w5 wr) (fun n _ => s - (intOf n).toNat)
      case atStart => exact ⟨0, Nat.zero_le _, rfl, fun j hj => absurd hj (Nat.not_lt_zero _), bz _⟩
      case round =>
        obtain ⟨m, hm, rfl, hno, hB⟩ := hrel
        have f0 := (hB.cell hb5).trans e0
        have f1 := (hB.cell hb5).trans e1
        have HNN := Lib.hid hno; have HBI := Lib.hid hB
        clear hno hB
        obtain ⟨t1, t2⟩ := HGT.out m hm
        have w1 : IntKind.i64.wrap ((m : Int) * P) = (m : Int) * P := IntWalk.i64_in _ (by omega)
        have w2 : IntKind.i64.wrap (F + (m : Int) * P) = F + (m : Int) * P := IntWalk.i64_in _ (by omega)
        have t0 : 0 ≤ (m : Int) * P := Int.mul_nonneg (by omega) (by omega)
        have w3 : IntKind.i64.wrap ((F + (m : Int) * P).tmod q1) = (F + (m : Int) * P) % q1 := by
          rw [Int.tmod_eq_emod_of_nonneg (by omega)]
          have a1 := Int.emod_nonneg (F + (m : Int) * P) (b := q1) (by omega)
          have a2 := Int.emod_lt_of_pos (F + (m : Int) * P) (b := q1) (by omega)
          exact IntWalk.i64_in _ (by omega)
        by_cases hms : m < s
        · have d1 : decide ((m : Int) < (s : Int)) = true := by simp; omega
          by_cases hf : ((F + (m : Int) * P) % q1 == q2) = true
          · have hf2 : ((F + (m : Int) * P) % q1 != q2) = false := by simpa using hf
            have HJ := Lib.hid (HFS.out s m rfl hms HNN.out hf)
            have hq4 : ((m : Int) == (s : Int)) = false := by rw [beq_eq_false_iff_ne]; omega
            obtain ⟨t3, t4⟩ := mul_bd P s 320000000000 200 (by omega) (by omega) (by omega) (by omega)
            have w4 : IntKind.i64.wrap (P * (s : Int)) = P * s := IntWalk.i64_in _ (by omega)
            clear hf
            go_wp2_with fail
            go_quiet (fail)
            go_wp2_with fail
            go_roundw
            case rel =>
              refine ⟨k + 1, F + (m : Int) * P, P * s, by omega, by go_num, rfl, rfl, HJ.out, by omega, ?_, ?_, btr HB5.out (Below.drewN' _ HBI.out)⟩
              · have h1 : P * (m + 1 : Int) ≤ P * s := Int.mul_le_mul_of_nonneg_left (by omega) (by omega)
                rw [Int.mul_add, Int.mul_comm P m] at h1; omega
              · have h1 : P * s ≤ P * 200 := Int.mul_le_mul_of_nonneg_left (by omega) (by omega)
                have h2 := HP.out
                rw [Int.pow_succ]; omega
            case measure => simp [intOf]; omega
          · have hf1 : ((F + (m : Int) * P) % q1 == q2) = false := by simpa using hf
            have hf2 : ((F + (m : Int) * P) % q1 != q2) = true := by simpa using hf
            clear hf
            go_wp2_with fail
            go_quiet (fail)
            go_wp2_with fail
            go_roundw
            case rel => exact ⟨m + 1, by omega, by go_num, fun j hj => by
                by_cases h : j = m
                · subst h; exact hf1
                · exact HNN.out j (by omega), Below.drewN' _ HBI.out⟩
            case measure => simp [intOf]; omega
        · have hms2 : m = s := by omega
          have HJ := Lib.hid (HFN.out s rfl (by rw [← hms2]; exact HNN.out))
          obtain ⟨j1, j2, j3⟩ := HNO.out (HCUT.out HJ.out)
          have H1 := Lib.hid j1; have H2 := Lib.hid j2; have H3 := Lib.hid j3
          clear j1 j2 j3 hms hm
          subst hms2
          go_wp2_with fail
          go_quiet (fail)
          go_wp2_with fail
          go_ret3
          exact ⟨by rw [H1.out, H2.out, H3.out]; rfl, btr HB5.out (Below.drewN' _ HBI.out)⟩
    · have hkl : k = V.length := by omega
      rw [hkl, List.take_length] at hJ
      obtain ⟨j1, j2, j3⟩ := HSO.out _ _ hJ
      have H1 := Lib.hid j1; have H2 := Lib.hid j2; have H3 := Lib.hid j3
      clear j1 j2 j3 hJ hP hkl
      go_wp2_with fail
      go_ret3
      exact ⟨by rw [H1.out, H2.out, H3.out]; rfl, hB⟩
end Go.Proofs.Ytooddicegkiiiaa

namespace Go.Proofs.Ytooddicegkiiiaa
open Go.RowKit Go.Shelf

theorem jbd {V : List (Int × Int)} (hV : OkV V) (h5 : V.length ≤ 5) : (jO V = true → 0 ≤ jA V ∧ jA V < jB V ∧ jB V ≤ 320000000000) ∧ (jO V = false → jA V = 0 ∧ jB V = 0) :=
  ⟨fun h => ⟨(j_true hV h).t0, (j_true hV h).tp, (j_true hV h).le hV h5⟩, fun h => ⟨(j_false hV h).2.1, (j_false hV h).2.2⟩⟩
set_option maxRecDepth 100000 in
set_option maxHeartbeats 1000000 in
theorem rfirst_any (x : Value) (V : List (Int × Int)) (w : World) (hx0 : RdP w x V) (hl : V.length ≤ 1000) :
    Calls Try.prog 26 #[x] w fun e w' => e = .returned (.tuple #[.int .i64 (firstA V), .int .i64 (firstB V), .int .i64 (firstE V)]) ∧ Below w.heap.size w w' := by
  obtain ⟨a, ca, rfl, _, _, _⟩ := hx0.form
  have HK := Lib.hid (fun w' hx => rcheck_any (.slice a V.length ca) V w' hx hl)
  by_cases hc : checkP V = 0
  · have hV := okPins_of hc
    have e1 : firstA V = jA V := by unfold firstA; rw [if_neg (by simpa using hc)]
    have e2 : firstB V = jB V := by unfold firstB; rw [if_neg (by simpa using hc)]
    have e3 : firstE V = if jO V then 0 else 21 := by unfold firstE; rw [if_neg (by simpa using hc)]
    rw [e1, e2, e3]; clear e1 e2 e3
    have HJ := Lib.hid (fun w' hx => rjoin_any (.slice a V.length ca) V w' hx hV.v hV.l5)
    have HN := Lib.hid (jbd hV.v hV.l5).2
    rw [hc] at HK
    clear hc
    generalize jO V = o at *
    generalize jA V = A at *
    generalize jB V = B at *
    go_enter Try.func26, Try.ntmps26
    go_wp2_with fail
    refine (HK.out _ hx0).mono ?_
    rintro e w2 ⟨rfl, hB2⟩
    go_wp2_with fail
    refine (HJ.out _ (hx0.mono hB2)).mono ?_
    rintro e w3 ⟨rfl, hB3⟩
    cases o
    · obtain ⟨h1, h2⟩ := HN.out rfl
      subst h1; subst h2
      go_wp2_with fail
      go_ret3
      exact ⟨rfl, btr hB2 hB3⟩
    · go_wp2_with fail
      go_ret3
      exact ⟨rfl, btr hB2 hB3⟩
  · have e1 : firstA V = 0 := by unfold firstA; rw [if_pos (by simpa using hc)]
    have e2 : firstB V = 0 := by unfold firstB; rw [if_pos (by simpa using hc)]
    have e3 : firstE V = checkP V := by unfold firstE; rw [if_pos (by simpa using hc)]
    rw [e1, e2, e3]; clear e1 e2 e3
    have hcb : (checkP V != 0) = true := by simpa using hc
    have hce : (checkP V == 0) = false := by simpa using hc
    clear hc
    generalize checkP V = q at *
    go_enter Try.func26, Try.ntmps26
    go_wp2_with fail
    refine (HK.out _ hx0).mono ?_
    rintro e w2 ⟨rfl, hB2⟩
    go_wp2_with fail
    refine (HK.out _ (hx0.mono hB2)).mono ?_
    rintro e w3 ⟨rfl, hB3⟩
    go_wp2_with fail
    go_ret3
    exact ⟨rfl, btr hB2 hB3⟩

theorem openE_no {V : List (Int × Int)} (T : List Int) (h : checkP V ≠ 0) : openE V T = checkP V := by unfold openE; rw [if_pos h]
theorem openE_ok {V : List (Int × Int)} (T : List Int) (h : checkP V = 0) : openE V T = if T.any (outB 0 1000000000000) then 3 else 0 := by unfold openE; rw [if_neg (by simpa using h)]

set_option maxRecDepth 100000 in
set_option maxHeartbeats 1000000 in
theorem rnext_any (x : Value) (V : List (Int × Int)) (f : Int) (w : World) (hx0 : RdP w x V) (hl : V.length ≤ 1000) :
    Calls Try.prog 28 #[x, .int .i64 f] w fun e w' => e = .returned (.tuple #[.int .i64 (nextN V f), .int .i64 (nextE V f)]) ∧ Below w.heap.size w w' := by
  obtain ⟨a, ca, rfl, _, _, _⟩ := hx0.form
  have HK := Lib.hid (fun w' hx => rcheck_any (.slice a V.length ca) V w' hx hl)
  have HT := Lib.hid istime_any
  by_cases hc : checkP V = 0
  · have hV := okPins_of hc
    have hop := openE_ok [f] hc
    simp only [List.any_cons, List.any_nil, Bool.or_false] at hop
    have HT0 := Lib.hid (istime_any f)
    rw [hc] at HK
    cases ho : outB 0 1000000000000 f
    · rw [ho] at hop HT0
      simp only [Bool.false_eq_true, if_false] at hop
      have e1 : nextN V f = (nxO (jA V) (jB V) (jO V) f).1 := by unfold nextN; rw [if_pos hop]
      have e2 : nextE V f = (nxO (jA V) (jB V) (jO V) f).2 := by unfold nextE; rw [if_pos hop]
      rw [e1, e2]; clear e1 e2
      have hft : 0 ≤ f ∧ f ≤ 1000000000000 := by simp [outB] at ho; omega
      obtain ⟨f0, f1⟩ := hft
      have HJ := Lib.hid (fun w' hx => rjoin_any (.slice a V.length ca) V w' hx hV.v hV.l5)
      have hbd := (jbd hV.v hV.l5).1
      clear hc hop ho hV
      generalize jO V = o at *
      generalize jA V = A at *
      generalize jB V = B at *
      cases o
      · clear hbd
        go_enter Try.func28, Try.ntmps28
        go_wp2_with fail
        refine (HK.out _ hx0).mono ?_
        rintro e w2 ⟨rfl, hB2⟩
        go_wp2_with fail
        refine (HT0.out _).mono ?_
        rintro e w2 ⟨rfl, rfl⟩
        go_wp2_with fail
        refine (HJ.out _ (hx0.mono hB2)).mono ?_
        rintro e w3 ⟨rfl, hB3⟩
        go_wp2_with fail
        go_ret2
        exact ⟨rfl, btr hB2 hB3⟩
      · obtain ⟨a0, a1, a2⟩ := hbd rfl
        clear hbd
        have hT3 := fun w' => istime_any (nextF A B f) w'
        have hnx : nxO A B true f = if 1000000000000 < nextF A B f then (0, 4) else (nextF A B f, 0) := rfl
        generalize nxO A B true f = nx at *
        have n0 : 0 ≤ nextF A B f := by
          unfold nextF
          split
          · have : 0 ≤ (f - A + B - 1) / B * B := Int.mul_nonneg (Int.ediv_nonneg (by omega) (by omega)) (by omega)
            omega
          · omega
        have hdo : outB 0 1000000000000 (nextF A B f) = decide (1000000000000 < nextF A B f) := by
          simp only [outB]
          exact decide_eq_decide.2 ⟨fun h => by omega, fun h => by omega⟩
        rw [hdo] at hT3
        clear hdo
        by_cases hlt : A < f
        · have hnf : nextF A B f = A + (f - A + B - 1) / B * B := by unfold nextF; rw [if_pos hlt]
          have q0 : 0 ≤ (f - A + B - 1) / B := Int.ediv_nonneg (by omega) (by omega)
          have q1 : (f - A + B - 1) / B ≤ f - A + B - 1 := Int.ediv_le_self _ (by omega)
          have q2 : 0 ≤ (f - A + B - 1) / B * B := Int.mul_nonneg q0 (by omega)
          have q3 : (f - A + B - 1) / B * B ≤ f - A + B - 1 := Int.ediv_mul_le _ (by omega)
          have w1 : IntKind.i64.wrap (f - A) = f - A := IntWalk.i64_in _ (by omega)
          have w2 : IntKind.i64.wrap (f - A + B) = f - A + B := IntWalk.i64_in _ (by omega)
          have w3 : IntKind.i64.wrap (f - A + B - 1) = f - A + B - 1 := IntWalk.i64_in _ (by omega)
          have w4 : IntKind.i64.wrap ((f - A + B - 1).tdiv B) = (f - A + B - 1) / B := by rw [Int.tdiv_eq_ediv_of_nonneg (by omega)]; exact IntWalk.i64_in _ (by omega)
          have w5 : IntKind.i64.wrap ((f - A + B - 1) / B * B) = (f - A + B - 1) / B * B := IntWalk.i64_in _ (by omega)
          have w6 : IntKind.i64.wrap (A + (f - A + B - 1) / B * B) = A + (f - A + B - 1) / B * B := IntWalk.i64_in _ (by omega)
          rw [hnf] at hT3 n0 hnx
          clear hnf q0 q1 q2 q3
          have HT3 := Lib.hid hT3; have HNX := Lib.hid hnx; clear hT3 hnx
          generalize hq : (f - A + B - 1) / B * B = q at *
          have hbb : ((B : Int) == 0) = false := by rw [beq_eq_false_iff_ne]; omega
          go_enter Try.func28, Try.ntmps28
          go_wp2_with fail
          refine (HK.out _ hx0).mono ?_
          rintro e w2 ⟨rfl, hB2⟩
          go_wp2_with fail
          refine (HT0.out _).mono ?_
          rintro e w2 ⟨rfl, rfl⟩
          go_wp2_with fail
          refine (HJ.out _ (hx0.mono hB2)).mono ?_
          rintro e w3 ⟨rfl, hB3⟩
          go_wp2_with fail
          refine (HT3.out _).mono ?_
          rintro e w2 ⟨rfl, rfl⟩
          by_cases ht : 1000000000000 < A + q
          · rw [show decide (1000000000000 < A + q) = true from decide_eq_true ht]
            go_wp2_with fail
            go_ret2
            exact ⟨by have h := HNX.out; rw [if_pos ht] at h; rw [h]; rfl, btr hB2 hB3⟩
          · rw [show decide (1000000000000 < A + q) = false from decide_eq_false ht]
            go_wp2_with fail
            go_ret2
            exact ⟨by have h := HNX.out; rw [if_neg (Int.not_lt.2 ht)] at h; rw [h]; rfl, btr hB2 hB3⟩
        · have hnf : nextF A B f = A := by unfold nextF; rw [if_neg hlt]
          rw [hnf] at hT3 n0 hnx
          clear hnf
          have HT3 := Lib.hid hT3; have HNX := Lib.hid hnx; clear hT3 hnx
          go_enter Try.func28, Try.ntmps28
          go_wp2_with fail
          refine (HK.out _ hx0).mono ?_
          rintro e w2 ⟨rfl, hB2⟩
          go_wp2_with fail
          refine (HT0.out _).mono ?_
          rintro e w2 ⟨rfl, rfl⟩
          go_wp2_with fail
          refine (HJ.out _ (hx0.mono hB2)).mono ?_
          rintro e w3 ⟨rfl, hB3⟩
          go_wp2_with fail
          refine (HT3.out _).mono ?_
          rintro e w2 ⟨rfl, rfl⟩
          by_cases ht : 1000000000000 < A
          · rw [show decide (1000000000000 < A) = true from decide_eq_true ht]
            go_wp2_with fail
            go_ret2
            exact ⟨by have h := HNX.out; rw [if_pos ht] at h; rw [h]; rfl, btr hB2 hB3⟩
          · rw [show decide (1000000000000 < A) = false from decide_eq_false ht]
            go_wp2_with fail
            go_ret2
            exact ⟨by have h := HNX.out; rw [if_neg (Int.not_lt.2 ht)] at h; rw [h]; rfl, btr hB2 hB3⟩
    · rw [ho] at hop HT0
      simp only [if_true] at hop
      have e1 : nextN V f = 0 := by unfold nextN; rw [if_neg (by rw [hop]; decide)]
      have e2 : nextE V f = 3 := by unfold nextE; rw [if_neg (by rw [hop]; decide), hop]
      rw [e1, e2]; clear e1 e2 hop ho hc
      go_enter Try.func28, Try.ntmps28
      go_wp2_with fail
      refine (HK.out _ hx0).mono ?_
      rintro e w2 ⟨rfl, hB2⟩
      go_wp2_with fail
      refine (HT0.out _).mono ?_
      rintro e w2 ⟨rfl, rfl⟩
      go_wp2_with fail
      go_ret2
      exact ⟨rfl, hB2⟩
  · have hop := openE_no [f] hc
    have e1 : nextN V f = 0 := by unfold nextN; rw [if_neg (by rw [hop]; exact hc)]
    have e2 : nextE V f = checkP V := by unfold nextE; rw [if_neg (by rw [hop]; exact hc), hop]
    rw [e1, e2]; clear e1 e2 hop
    have hcb : (checkP V != 0) = true := by simpa using hc
    have hce : (checkP V == 0) = false := by simpa using hc
    clear hc
    generalize checkP V = q at *
    go_enter Try.func28, Try.ntmps28
    go_wp2_with fail
    refine (HK.out _ hx0).mono ?_
    rintro e w2 ⟨rfl, hB2⟩
    go_wp2_with fail
    refine (HK.out _ (hx0.mono hB2)).mono ?_
    rintro e w3 ⟨rfl, hB3⟩
    go_wp2_with fail
    go_ret2
    exact ⟨rfl, btr hB2 hB3⟩
end Go.Proofs.Ytooddicegkiiiaa

namespace Go.Proofs.Ytooddicegkiiiaa
open Go.RowKit Go.Shelf

/-- What below returns. -/
def blwN (A B : Int) (o : Bool) (t : Int) : Int := if o = false ∨ t ≤ A then 0 else (t - A + B - 1) / B
set_option maxRecDepth 100000 in
set_option maxHeartbeats 1000000 in
theorem below_any (x : Value) (V : List (Int × Int)) (t : Int) (w : World) (hx0 : RdP w x V) (hV : OkV V) (hl : V.length ≤ 5) (t0 : 0 ≤ t) (t1 : t ≤ 1000000000001) :
    Calls Try.prog 65 #[x, .int .i64 t] w fun e w' => e = .returned (.int .i64 (blwN (jA V) (jB V) (jO V) t)) ∧ Below w.heap.size w w' := by
  obtain ⟨a, ca, rfl, _, _, _⟩ := hx0.form
  have HJ := Lib.hid (fun w' hx => rjoin_any (.slice a V.length ca) V w' hx hV hl)
  have hbd := (jbd hV hl).1
  generalize jO V = o at *
  generalize jA V = A at *
  generalize jB V = B at *
  cases o
  · rw [show blwN A B false t = 0 from by simp [blwN]]
    clear hbd
    go_enter Try.func65, Try.ntmps65
    go_wp2_with fail
    refine (HJ.out _ hx0).mono ?_
    rintro e w3 ⟨rfl, hB3⟩
    go_wp2_with fail
    go_ret
    exact ⟨rfl, hB3⟩
  · obtain ⟨a0, a1, a2⟩ := hbd rfl
    clear hbd
    by_cases ht : t ≤ A
    · rw [show blwN A B true t = 0 from by unfold blwN; rw [if_pos (.inr ht)]]
      go_enter Try.func65, Try.ntmps65
      go_wp2_with fail
      refine (HJ.out _ hx0).mono ?_
      rintro e w3 ⟨rfl, hB3⟩
      go_wp2_with fail
      go_ret
      exact ⟨rfl, hB3⟩
    · rw [show blwN A B true t = (t - A + B - 1) / B from by unfold blwN; rw [if_neg (by simp; omega)]]
      have q0 : 0 ≤ (t - A + B - 1) / B := Int.ediv_nonneg (by omega) (by omega)
      have q1 : (t - A + B - 1) / B ≤ t - A + B - 1 := Int.ediv_le_self _ (by omega)
      have w1 : IntKind.i64.wrap (t - A) = t - A := IntWalk.i64_in _ (by omega)
      have w2 : IntKind.i64.wrap (t - A + B) = t - A + B := IntWalk.i64_in _ (by omega)
      have w3 : IntKind.i64.wrap (t - A + B - 1) = t - A + B - 1 := IntWalk.i64_in _ (by omega)
      have w4 : IntKind.i64.wrap ((t - A + B - 1).tdiv B) = (t - A + B - 1) / B := by rw [Int.tdiv_eq_ediv_of_nonneg (by omega)]; exact IntWalk.i64_in _ (by omega)
      clear q0 q1
      generalize hq : (t - A + B - 1) / B = q at *
      have hbb : ((B : Int) == 0) = false := by rw [beq_eq_false_iff_ne]; omega
      go_enter Try.func65, Try.ntmps65
      go_wp2_with fail
      refine (HJ.out _ hx0).mono ?_
      rintro e w3 ⟨rfl, hB3⟩
      go_wp2_with fail
      go_ret
      exact ⟨rfl, hB3⟩
/-- The times counted from the first one on, and the ones below. -/
theorem below_count {A B : Int} {o : Bool} {f t : Int} (hA : o = true → 0 ≤ A ∧ A < B) (hft : f ≤ t) : blwN A B o (t + 1) - blwN A B o f = cntN A B o f t := by
  cases o
  · simp [blwN, cntN]
  · obtain ⟨a0, a1⟩ := hA rfl
    have e : ∀ x : Int, (x - A + B - 1) / B = (x - 1 - A) / B + 1 := fun x => by
      rw [show x - A + B - 1 = (x - 1 - A) + B by omega, Int.add_ediv_of_dvd_right ⟨1, by omega⟩, Int.ediv_self (by omega)]
    unfold blwN cntN
    simp only [Bool.true_eq_false, false_or]
    rw [e, e, show t + 1 - 1 - A = t - A by omega]
    split <;> split <;> split <;> omega
theorem blwN_bd {A B : Int} {o : Bool} {t : Int} (hA : o = true → 0 ≤ A ∧ A < B) (t0 : 0 ≤ t) (t1 : t ≤ 1000000000001) : 0 ≤ blwN A B o t ∧ blwN A B o t ≤ 1000000000001 := by
  cases o
  · simp [blwN]
  · obtain ⟨a0, a1⟩ := hA rfl
    unfold blwN
    split
    · omega
    · rename_i h
      simp at h
      have e : (t - A + B - 1) / B = (t - 1 - A) / B + 1 := by
        rw [show t - A + B - 1 = (t - 1 - A) + B by omega, Int.add_ediv_of_dvd_right ⟨1, by omega⟩, Int.ediv_self (by omega)]
      have q0 : 0 ≤ (t - 1 - A) / B := Int.ediv_nonneg (by omega) (by omega)
      have q1 : (t - 1 - A) / B ≤ t - 1 - A := Int.ediv_le_self _ (by omega)
      omega

set_option maxRecDepth 100000 in
set_option maxHeartbeats 1000000 in
theorem rcount_any (x : Value) (V : List (Int × Int)) (f t : Int) (w : World) (hx0 : RdP w x V) (hl : V.length ≤ 1000) :
    Calls Try.prog 30 #[x, .int .i64 f, .int .i64 t] w fun e w' => e = .returned (.tuple #[.int .i64 (countN V f t), .int .i64 (countE V f t)]) ∧ Below w.heap.size w w' := by
  obtain ⟨a, ca, rfl, _, _, _⟩ := hx0.form
  have HK := Lib.hid (fun w' hx => rcheck_any (.slice a V.length ca) V w' hx hl)
  have HTf := Lib.hid (istime_any f)
  have HTt := Lib.hid (istime_any t)
  by_cases hc : checkP V = 0
  · have hV := okPins_of hc
    have hop := openE_ok [f, t] hc
    simp only [List.any_cons, List.any_nil, Bool.or_false] at hop
    rw [hc] at HK
    cases ho : outB 0 1000000000000 f
    · cases ho2 : outB 0 1000000000000 t
      · rw [ho, ho2] at hop
        simp only [Bool.false_eq_true, if_false, Bool.or_self] at hop
        have e1 : countN V f t = if t < f then 0 else cntN (jA V) (jB V) (jO V) f t := by unfold countN; rw [if_neg (by simpa using hop)]
        have e2 : countE V f t = if t < f then 2 else 0 := by unfold countE; rw [if_neg (by simpa using hop)]
        rw [e1, e2]; clear e1 e2
        rw [ho] at HTf
        rw [ho2] at HTt
        have hft : 0 ≤ f ∧ f ≤ 1000000000000 ∧ 0 ≤ t ∧ t ≤ 1000000000000 := by simp [outB] at ho ho2; omega
        obtain ⟨f0, f1, t0, t1⟩ := hft
        clear hc hop ho ho2
        by_cases hlt : t < f
        · rw [if_pos hlt, if_pos hlt]
          go_enter Try.func30, Try.ntmps30
          go_wp2_with fail
          refine (HK.out _ hx0).mono ?_
          rintro e w2 ⟨rfl, hB2⟩
          go_wp2_with fail
          refine (HTf.out _).mono ?_
          rintro e w2 ⟨rfl, rfl⟩
          go_wp2_with fail
          refine (HTt.out _).mono ?_
          rintro e w2 ⟨rfl, rfl⟩
          go_wp2_with fail
          go_ret2
          exact ⟨rfl, hB2⟩
        · rw [if_neg hlt, if_neg hlt]
          have hbd := (jbd hV.v hV.l5).1
          have hA : jO V = true → 0 ≤ jA V ∧ jA V < jB V := fun h => ⟨(hbd h).1, (hbd h).2.1⟩
          have HBC := Lib.hid (below_count hA (show f ≤ t by omega))
          have HB1 := Lib.hid (fun w' hx => below_any (.slice a V.length ca) V (t + 1) w' hx hV.v hV.l5 (by omega) (by omega))
          have HB2 := Lib.hid (fun w' hx => below_any (.slice a V.length ca) V f w' hx hV.v hV.l5 (by omega) (by omega))
          obtain ⟨b1, b2⟩ := blwN_bd hA (show 0 ≤ t + 1 by omega) (by omega)
          obtain ⟨b3, b4⟩ := blwN_bd hA (show 0 ≤ f by omega) (by omega)
          have w1 : IntKind.i64.wrap (t + 1) = t + 1 := IntWalk.i64_in _ (by omega)
          clear hbd hA
          generalize blwN (jA V) (jB V) (jO V) (t + 1) = p at *
          generalize blwN (jA V) (jB V) (jO V) f = q at *
          generalize cntN (jA V) (jB V) (jO V) f t = r at *
          have w2 : IntKind.i64.wrap (p - q) = p - q := IntWalk.i64_in _ (by omega)
          go_enter Try.func30, Try.ntmps30
          go_wp2_with fail
          refine (HK.out _ hx0).mono ?_
          rintro e w2 ⟨rfl, hB2⟩
          go_wp2_with fail
          refine (HTf.out _).mono ?_
          rintro e w2 ⟨rfl, rfl⟩
          go_wp2_with fail
          refine (HTt.out _).mono ?_
          rintro e w2 ⟨rfl, rfl⟩
          go_wp2_with fail
          refine (HB1.out _ (hx0.mono hB2)).mono ?_
          rintro e w3 ⟨rfl, hB3⟩
          go_wp2_with fail
          refine (HB2.out _ (hx0.mono (btr hB2 hB3))).mono ?_
          rintro e w4 ⟨rfl, hB4⟩
          go_wp2_with fail
          go_ret2
          exact ⟨by rw [HBC.out]; rfl, btr hB2 (btr hB3 hB4)⟩
      · rw [ho, ho2] at hop
        simp only [if_true, Bool.false_or] at hop
        rw [ho] at HTf
        rw [ho2] at HTt
        have e1 : countN V f t = 0 := by unfold countN; rw [if_pos (by rw [hop]; decide)]
        have e2 : countE V f t = 3 := by unfold countE; rw [if_pos (by rw [hop]; decide), hop]
        rw [e1, e2]; clear e1 e2 hop ho ho2 hc
        go_enter Try.func30, Try.ntmps30
        go_wp2_with fail
        refine (HK.out _ hx0).mono ?_
        rintro e w2 ⟨rfl, hB2⟩
        go_wp2_with fail
        refine (HTf.out _).mono ?_
        rintro e w2 ⟨rfl, rfl⟩
        go_wp2_with fail
        refine (HTt.out _).mono ?_
        rintro e w2 ⟨rfl, rfl⟩
        go_wp2_with fail
        go_ret2
        exact ⟨rfl, hB2⟩
    · rw [ho] at hop
      simp only [if_true, Bool.true_or] at hop
      rw [ho] at HTf
      have e1 : countN V f t = 0 := by unfold countN; rw [if_pos (by rw [hop]; decide)]
      have e2 : countE V f t = 3 := by unfold countE; rw [if_pos (by rw [hop]; decide), hop]
      rw [e1, e2]; clear e1 e2 hop ho hc
      go_enter Try.func30, Try.ntmps30
      go_wp2_with fail
      refine (HK.out _ hx0).mono ?_
      rintro e w2 ⟨rfl, hB2⟩
      go_wp2_with fail
      refine (HTf.out _).mono ?_
      rintro e w2 ⟨rfl, rfl⟩
      go_wp2_with fail
      go_ret2
      exact ⟨rfl, hB2⟩
  · have hop := openE_no [f, t] hc
    have e1 : countN V f t = 0 := by unfold countN; rw [if_pos (by rw [hop]; exact hc)]
    have e2 : countE V f t = checkP V := by unfold countE; rw [if_pos (by rw [hop]; exact hc), hop]
    rw [e1, e2]; clear e1 e2 hop
    have hcb : (checkP V != 0) = true := by simpa using hc
    have hce : (checkP V == 0) = false := by simpa using hc
    clear hc
    generalize checkP V = q at *
    go_enter Try.func30, Try.ntmps30
    go_wp2_with fail
    refine (HK.out _ hx0).mono ?_
    rintro e w2 ⟨rfl, hB2⟩
    go_wp2_with fail
    refine (HK.out _ (hx0.mono hB2)).mono ?_
    rintro e w3 ⟨rfl, hB3⟩
    go_wp2_with fail
    go_ret2
    exact ⟨rfl, btr hB2 hB3⟩
end Go.Proofs.Ytooddicegkiiiaa

namespace Go.Proofs.Ytooddicegkiiiaa
open Go.RowKit Go.Shelf

set_option maxRecDepth 100000 in
set_option maxHeartbeats 2000000 in
theorem rcc_bad (x : Value) (V : List (Int × Int)) (i k : Int) (w : World) (hx0 : RdP w x V) (hl : V.length ≤ 1000) (hc : checkP V = 0)
    (hbad : i < 0 ∨ (0 ≤ i ∧ V.length ≤ i) ∨ (0 ≤ i ∧ i < V.length ∧ k < 0) ∨ (0 ≤ i ∧ i < V.length ∧ 0 ≤ k ∧ V.length ≤ k) ∨ (0 ≤ i ∧ i < V.length ∧ 0 ≤ k ∧ k < V.length ∧ i = k)) :
    Calls Try.prog 32 #[x, .int .i64 i, .int .i64 k] w fun e w' => e = .returned (.tuple #[.int .i64 0, .int .i64 2]) ∧ Below w.heap.size w w' := by
  obtain ⟨a, ca, rfl, hca, _, _⟩ := hx0.form
  have HK := Lib.hid (fun w' hx => rcheck_any (.slice a V.length ca) V w' hx hl)
  rw [hc] at HK
  rcases hbad with h1 | ⟨h1, h2⟩ | ⟨h1, h2, h3⟩ | ⟨h1, h2, h3, h4⟩ | ⟨h1, h2, h3, h4, rfl⟩
  all_goals
    go_enter Try.func32, Try.ntmps32
    go_wp2_with fail
    refine (HK.out _ hx0).mono ?_
    rintro e w2 ⟨rfl, hB2⟩
    go_wp2_with fail
    go_ret2
    exact ⟨rfl, hB2⟩

set_option maxRecDepth 100000 in
set_option maxHeartbeats 2000000 in
theorem rcc_two (x : Value) (V : List (Int × Int)) (m n : Nat) (w : World) (hx0 : RdP w x V) (hc : checkP V = 0) (hm : m < V.length) (hn : n < V.length) (hmn : m ≠ n) :
    Calls Try.prog 32 #[x, .int .i64 m, .int .i64 n] w fun e w' => e = .returned (.tuple #[.int .i64 (if clB (pin V m) (pin V n) then gcdI (pin V m).1 (pin V n).1 else 0), .int .i64 (if clB (pin V m) (pin V n) then 0 else 14)]) ∧ Below w.heap.size w w' := by
  obtain ⟨a, ca, rfl, hca, hca2, hx⟩ := hx0.form
  clear hca2
  have hV := okPins_of hc
  have h5 := hV.l5
  have HK := Lib.hid (fun w' hx => rcheck_any (.slice a V.length ca) V w' hx (by omega))
  rw [hc] at HK
  obtain ⟨bx, ox, rfl, hbx, hcx⟩ := hx (by omega)
  have gm0 : w.cell? ⟨bx, ox + m * 2, none⟩ = some (Value.int .i64 (pin V m).1) := (hcx m hm).1
  have gm1 : w.cell? ⟨bx, ox + m * 2 + 1, none⟩ = some (Value.int .i64 (pin V m).2) := (hcx m hm).2
  have gn0 : w.cell? ⟨bx, ox + n * 2, none⟩ = some (Value.int .i64 (pin V n).1) := (hcx n hn).1
  have gn1 : w.cell? ⟨bx, ox + n * 2 + 1, none⟩ = some (Value.int .i64 (pin V n).2) := (hcx n hn).2
  obtain ⟨p1, p2, p3, p4⟩ := hV.v.at hm
  obtain ⟨q1, q2, q3, q4⟩ := hV.v.at hn
  have HC := Lib.hid (fun w' => clashes_any (pin V m) (pin V n) w' p1 p2 p3 p4 q1 q2 q3 q4)
  have HG := Lib.hid (fun w' => rcommon_i (pin V m).1 (pin V n).1 w' (by omega) (by omega) (by omega) (by omega))
  unfold kv at HC
  clear hx hcx hc hV
  generalize clB (pin V m) (pin V n) = b at *
  generalize gcdI (pin V m).1 (pin V n).1 = g at *
  generalize pin V m = p at *
  generalize pin V n = q at *
  obtain ⟨pa, pb⟩ := p
  obtain ⟨qa, qb⟩ := q
  simp only at *
  have hmi : ((m : Int) == (n : Int)) = false := by rw [beq_eq_false_iff_ne]; omega
  have HX0 := Lib.hid hx0; clear hx0
  cases b
  all_goals
    go_enter Try.func32, Try.ntmps32
    go_wp2_with fail
    refine (HK.out _ HX0.out).mono ?_
    rintro e w2 ⟨rfl, hB2⟩
    have c0 := (hB2.cell hbx).trans gm0
    have c1 := (hB2.cell hbx).trans gm1
    have c2 := (hB2.cell hbx).trans gn0
    have c3 := (hB2.cell hbx).trans gn1
    have z2 : bx < w2.heap.size := Nat.lt_of_lt_of_le hbx hB2.size
    have HB2 := Lib.hid hB2
    clear gm0 gm1 gn0 gn1 hB2
    go_wp2_with fail
    refine wp_region_flow [] [([0, 1, 2, 3, 4, 5, 6, 7], 8, true)] [9] (by kernel_rfl) (by kernel_rfl) ?_
    intro wc hBc hh
    have d0 := (hBc.cell z2).trans c0
    have d1 := (hBc.cell z2).trans c1
    have d2 := (hBc.cell z2).trans c2
    have d3 := (hBc.cell z2).trans c3
    have zc : bx < wc.heap.size := Nat.lt_of_lt_of_le z2 hBc.size
    have hL := @Later.cell wc
    have HBc := Lib.hid hBc
    clear hh hBc c0 c1 c2 c3
    simp only [flowP, flow, pickL, List.getElem?_cons_succ, List.getElem?_cons_zero]
    refine wpQuiet_nil ?_
    repeat (go_big_quiet_step (fail))
    refine wpQuiet_nil ?_
    go_wp2_with fail
    refine (HC.out _).mono ?_
    rintro e w5 ⟨rfl, hB5⟩
    go_wp2
    refine seg_grow ⟨⟨_, hB5⟩, rfl⟩ ?_
    repeat (go_big_quiet_step (fail))
    refine wpQuiet_nil ?_
    refine only_done ?_
    have e0 := (hB5.cell zc).trans d0
    have e1 := (hB5.cell zc).trans d1
    have e2 := (hB5.cell zc).trans d2
    have e3 := (hB5.cell zc).trans d3
    have z5 : bx < w5.heap.size := Nat.lt_of_lt_of_le zc hB5.size
    have HB5 := Lib.hid (btr HB2.out (btr HBc.out hB5))
    clear d0 d1 d2 d3 hL hB5
    go_wp2_with fail
  · go_ret2
    exact ⟨rfl, HB5.out⟩
  · refine wp_region_flow [] [([0, 1, 2, 3, 4, 5, 6, 7, 8, 9], 10, true)] [11, 12] (by kernel_rfl) (by kernel_rfl) ?_
    intro wc hBc hh
    have d0 := (hBc.cell z5).trans e0
    have d1 := (hBc.cell z5).trans e1
    have d2 := (hBc.cell z5).trans e2
    have d3 := (hBc.cell z5).trans e3
    have zc : bx < wc.heap.size := Nat.lt_of_lt_of_le z5 hBc.size
    have hL := @Later.cell wc
    have HBc := Lib.hid hBc
    clear hh hBc e0 e1 e2 e3
    simp only [flowP, flow, pickL, List.getElem?_cons_succ, List.getElem?_cons_zero]
    refine wpQuiet_nil ?_
    repeat (go_big_quiet_step (fail))
    refine wpQuiet_nil ?_
    go_wp2_with fail
    refine (HG.out _).mono ?_
    rintro e w6 ⟨rfl, hB6⟩
    go_wp2
    refine seg_grow ⟨⟨_, hB6⟩, rfl⟩ ?_
    repeat (go_big_quiet_step (fail))
    refine wpQuiet_nil ?_
    refine only_done ?_
    go_wp2_with fail
    go_ret2
    exact ⟨rfl, btr HB5.out (btr HBc.out hB6)⟩

set_option maxRecDepth 100000 in
set_option maxHeartbeats 1000000 in
theorem rcheckclash_any (x : Value) (V : List (Int × Int)) (i k : Int) (w : World) (hx0 : RdP w x V) (hl : V.length ≤ 1000) :
    Calls Try.prog 32 #[x, .int .i64 i, .int .i64 k] w fun e w' => e = .returned (.tuple #[.int .i64 (ccN V i k), .int .i64 (ccE V i k)]) ∧ Below w.heap.size w w' := by
  by_cases hc : checkP V = 0
  · have e1 : ccN V i k = if badTwo V i k then 0 else if clB (pin V i.toNat) (pin V k.toNat) then gcdI (pin V i.toNat).1 (pin V k.toNat).1 else 0 := by unfold ccN; rw [if_neg (by simpa using hc)]
    have e2 : ccE V i k = if badTwo V i k then 2 else if clB (pin V i.toNat) (pin V k.toNat) then 0 else 14 := by unfold ccE; rw [if_neg (by simpa using hc)]
    rw [e1, e2]; clear e1 e2
    have hbt : badTwo V i k = (decide (i < 0 ∨ (V.length : Int) - 1 < i) || decide (k < 0 ∨ (V.length : Int) - 1 < k) || decide (i = k)) := by simp [badTwo, outB]
    by_cases hg : 0 ≤ i ∧ i < V.length ∧ 0 ≤ k ∧ k < V.length ∧ i ≠ k
    · rw [show badTwo V i k = false from by rw [hbt]; simp; omega]
      obtain ⟨m, rfl⟩ := Int.eq_ofNat_of_zero_le hg.1
      obtain ⟨n, rfl⟩ := Int.eq_ofNat_of_zero_le hg.2.2.1
      exact rcc_two x V m n w hx0 hc (by omega) (by omega) (by omega)
    · rw [show badTwo V i k = true from by rw [hbt]; simp; omega]
      exact rcc_bad x V i k w hx0 hl hc (by omega)
  · obtain ⟨a, ca, rfl, _, _, _⟩ := hx0.form
    have HK := Lib.hid (fun w' hx => rcheck_any (.slice a V.length ca) V w' hx hl)
    have e1 : ccN V i k = 0 := by unfold ccN; rw [if_pos (by simpa using hc)]
    have e2 : ccE V i k = checkP V := by unfold ccE; rw [if_pos (by simpa using hc)]
    rw [e1, e2]; clear e1 e2
    have hcb : (checkP V != 0) = true := by simpa using hc
    have hce : (checkP V == 0) = false := by simpa using hc
    clear hc
    generalize checkP V = q at *
    go_enter Try.func32, Try.ntmps32
    go_wp2_with fail
    refine (HK.out _ hx0).mono ?_
    rintro e w2 ⟨rfl, hB2⟩
    go_wp2_with fail
    refine (HK.out _ (hx0.mono hB2)).mono ?_
    rintro e w3 ⟨rfl, hB3⟩
    go_wp2_with fail
    go_ret2
    exact ⟨rfl, btr hB2 hB3⟩
end Go.Proofs.Ytooddicegkiiiaa

namespace Go.Proofs.Ytooddicegkiiiaa
open Go.RowKit Go.Shelf

set_option maxRecDepth 100000 in
set_option maxHeartbeats 2000000 in
theorem rclash_any (x : Value) (V : List (Int × Int)) (w : World) (hx0 : RdP w x V) (hl : V.length ≤ 1000) :
    Calls Try.prog 34 #[x] w fun e w' => e = .returned (.tuple #[.int .i64 (clA V), .int .i64 (clK V), .int .i64 (clE' V)]) ∧ Below w.heap.size w w' := by
  obtain ⟨a, ca, rfl, hca, hca2, hx⟩ := hx0.form
  clear hca2
  have HK := Lib.hid (fun w' hx => rcheck_any (.slice a V.length ca) V w' hx hl)
  by_cases hc : checkP V = 0
  · have hV := okPins_of hc
    have h5 := hV.l5
    have HF : Hid (Free V → clA V = 0 ∧ clK V = 0 ∧ clE' V = 5) := Lib.hid (fun h => by unfold clA clK clE'; rw [if_pos hc, if_pos hc, if_pos hc, if_pos h, clP_free h]; exact ⟨rfl, rfl, rfl⟩)
    have HC : Hid (∀ i k : Nat, FirstCl V i k → clA V = i ∧ clK V = k ∧ clE' V = 0) := Lib.hid (fun i k h => by
      unfold clA clK clE'
      rw [if_pos hc, if_pos hc, if_pos hc, if_neg (fun hf => by have := hf i k h.lt h.len; rw [h.cl] at this; cases this), clP_of h]
      exact ⟨rfl, rfl, rfl⟩)
    rw [hc] at HK
    have HV := Lib.hid hV
    clear hc hV
    generalize clA V = rA at *
    generalize clK V = rK at *
    generalize clE' V = rE at *
    have HX0 := Lib.hid hx0; clear hx0
    go_enter Try.func34, Try.ntmps34
    go_wp2_with fail
    refine (HK.out _ HX0.out).mono ?_
    rintro e w2 ⟨rfl, hB2⟩
    have HB2 := Lib.hid hB2; clear hB2
    go_wp2_with fail
    go_loopw [5, 6] (fun i _ wr => ∃ k : Nat, k ≤ V.length ∧ i = .int .i64 k ∧ (∀ a b : Nat, a < b → b < V.length → a < k → clB (pin V a) (pin V b) = false) ∧ Below w2.heap.size w2 wr) (fun i _ _ => V.length - (intOf i).toNat)
    case atStart => exact ⟨0, Nat.zero_le _, rfl, fun a b _ _ h => absurd h (Nat.not_lt_zero _), bz _⟩
    case round =>
      obtain ⟨i, hi, rfl, hno, hB⟩ := hrel
      have HNO := Lib.hid hno; have HB := Lib.hid hB
      clear hno hB
      by_cases hlt : i < V.length
      · go_wp2_with fail
        go_loopw [6] (fun s wr => ∃ k : Nat, i < k ∧ k ≤ V.length ∧ s = .int .i64 k ∧ (∀ b : Nat, i < b → b < k → clB (pin V i) (pin V b) = false) ∧ Below w2.heap.size w2 wr) (fun s _ => V.length - (intOf s).toNat)
        case atStart => exact ⟨i + 1, by omega, by omega, by go_num, fun b h1 h2 => by omega, HB.out⟩
        case round =>
          clear HB
          obtain ⟨k, hik, hk, rfl, hnk, hB⟩ := hrel
          have HNK := Lib.hid hnk; have HB := Lib.hid hB
          clear hnk hB
          by_cases hkl : k < V.length
          · obtain ⟨bx, ox, rfl, hbx, hcx⟩ := hx (by omega)
            have gm0 : wr.cell? ⟨bx, ox + i * 2, none⟩ = some (Value.int .i64 (pin V i).1) := ((btr HB2.out HB.out).cell hbx).trans (hcx i hlt).1
            have gm1 : wr.cell? ⟨bx, ox + i * 2 + 1, none⟩ = some (Value.int .i64 (pin V i).2) := ((btr HB2.out HB.out).cell hbx).trans (hcx i hlt).2
            have gn0 : wr.cell? ⟨bx, ox + k * 2, none⟩ = some (Value.int .i64 (pin V k).1) := ((btr HB2.out HB.out).cell hbx).trans (hcx k hkl).1
            have gn1 : wr.cell? ⟨bx, ox + k * 2 + 1, none⟩ = some (Value.int .i64 (pin V k).2) := ((btr HB2.out HB.out).cell hbx).trans (hcx k hkl).2
            obtain ⟨p1, p2, p3, p4⟩ := HV.out.v.at hlt
            obtain ⟨q1, q2, q3, q4⟩ := HV.out.v.at hkl
            have HCL := Lib.hid (fun w' => clashes_any (pin V i) (pin V k) w' p1 p2 p3 p4 q1 q2 q3 q4)
            unfold kv at HCL
            clear hx hcx p1 p2 p3 p4 q1 q2 q3 q4
            have HN : Hid (clB (pin V i) (pin V k) = false → ∀ b : Nat, i < b → b < k + 1 → clB (pin V i) (pin V b) = false) := Lib.hid (fun h b h1 h2 => by
              by_cases e : b = k
              · subst e; exact h
              · exact HNK.out b h1 (by omega))
            have HY : Hid (clB (pin V i) (pin V k) = true → FirstCl V i k) := Lib.hid (fun h => ⟨hik, hkl, h, fun a b h1 h2 h3 => by
              by_cases e : a < i
              · rw [HNO.out a b h1 h2 e] at h3; cases h3
              · by_cases e2 : a = i
                · subst e2
                  by_cases e3 : b < k
                  · rw [HNK.out b h1 e3] at h3; cases h3
                  · omega
                · omega⟩)
            generalize clB (pin V i) (pin V k) = cb at *
            generalize pin V i = p at *
            generalize pin V k = q at *
            obtain ⟨pa, pb⟩ := p
            obtain ⟨qa, qb⟩ := q
            simp only at *
            have z2 : bx < wr.heap.size := World.block_lt_of_cell? wr _ gm0
            go_wp2_with fail
            refine wp_region_flow [] [([0, 1, 2, 3, 4, 5, 6, 7], 8, true)] [] (by kernel_rfl) (by kernel_rfl) ?_
            intro wc hBc hh
            have d0 := (hBc.cell z2).trans gm0
            have d1 := (hBc.cell z2).trans gm1
            have d2 := (hBc.cell z2).trans gn0
            have d3 := (hBc.cell z2).trans gn1
            have zc : bx < wc.heap.size := Nat.lt_of_lt_of_le z2 hBc.size
            have hL := @Later.cell wc
            have HBc := Lib.hid hBc
            clear hh hBc gm0 gm1 gn0 gn1
            simp only [flowP, flow, pickL, List.getElem?_cons_succ, List.getElem?_cons_zero]
            refine wpQuiet_nil ?_
            repeat (go_big_quiet_step (fail))
            refine wpQuiet_nil ?_
            go_wp2_with fail
            refine (HCL.out _).mono ?_
            rintro e w5 ⟨rfl, hB5⟩
            go_wp2
            refine seg_grow ⟨⟨_, hB5⟩, rfl⟩ ?_
            refine wpQuiet_nil ?_
            refine only_done ?_
            have HB5 := Lib.hid (btr HB.out (btr HBc.out hB5))
            clear d0 d1 d2 d3 hL hB5
            cases cb
            · have HNN := Lib.hid (HN.out rfl)
              go_wp2_with fail
              go_roundw
              case rel => exact ⟨k + 1, by omega, by omega, by go_num, HNN.out, HB5.out⟩
              case measure => simp [intOf]; omega
            · obtain ⟨h1, h2, h3⟩ := HC.out i k (HY.out rfl)
              have H1 := Lib.hid h1; have H2 := Lib.hid h2; have H3 := Lib.hid h3
              clear h1 h2 h3
              go_wp2_with fail
              go_ret3
              exact ⟨by rw [H1.out, H2.out, H3.out]; rfl, btr HB2.out HB5.out⟩
          · go_wp2_with fail
            go_roundw
            case rel =>
              refine ⟨i + 1, by omega, by go_num, fun a b h1 h2 h3 => ?_, HB.out⟩
              by_cases e : a < i
              · exact HNO.out a b h1 h2 e
              · obtain rfl : a = i := by omega
                exact HNK.out b h1 (by omega)
            case measure => simp [intOf]; omega
      · have hfr : Free V := fun a b h1 h2 => HNO.out a b h1 h2 (by omega)
        obtain ⟨h1, h2, h3⟩ := HF.out hfr
        have H1 := Lib.hid h1; have H2 := Lib.hid h2; have H3 := Lib.hid h3
        clear h1 h2 h3 hfr
        go_wp2_with fail
        go_ret3
        exact ⟨by rw [H1.out, H2.out, H3.out]; rfl, btr HB2.out HB.out⟩
  · have e1 : clA V = 0 := by unfold clA; rw [if_neg hc]
    have e2 : clK V = 0 := by unfold clK; rw [if_neg hc]
    have e3 : clE' V = checkP V := by unfold clE'; rw [if_neg hc]
    rw [e1, e2, e3]; clear e1 e2 e3
    have hcb : (checkP V != 0) = true := by simpa using hc
    have hce : (checkP V == 0) = false := by simpa using hc
    clear hc
    generalize checkP V = q at *
    go_enter Try.func34, Try.ntmps34
    go_wp2_with fail
    refine (HK.out _ hx0).mono ?_
    rintro e w2 ⟨rfl, hB2⟩
    go_wp2_with fail
    refine (HK.out _ (hx0.mono hB2)).mono ?_
    rintro e w3 ⟨rfl, hB3⟩
    go_wp2_with fail
    go_ret3
    exact ⟨rfl, btr hB2 hB3⟩
end Go.Proofs.Ytooddicegkiiiaa

namespace Go.Proofs.Ytooddicegkiiiaa

theorem EI.exists {n s : Int} (hg : Int.gcd n s = 1) : ∀ (k : Nat) (X Y a b : Int), Y.toNat ≤ k → EI n s X Y a b → ∃ v, s ∣ n * v - 1
  | 0, X, Y, a, b, hk, h => by
    obtain rfl : Y = 0 := by have := h.y0; omega
    exact ⟨_, h.done hg⟩
  | k + 1, X, Y, a, b, hk, h => by
    by_cases hy : Y = 0
    · subst hy; exact ⟨_, h.done hg⟩
    · have := h.step hy
      have e : X - X / Y * Y = X % Y := by have := Int.mul_ediv_add_emod X Y; rw [Int.mul_comm]; omega
      have hlt := Int.emod_lt_of_pos X (b := Y) (by have := h.y0; omega)
      exact EI.exists hg k _ _ _ _ (by rw [e]; omega) this
theorem inv_exists {n s : Int} (hs : 1 ≤ s) (hg : Int.gcd n s = 1) : ∃ v, s ∣ n * v - 1 := EI.exists hg _ _ _ _ _ (Nat.le_refl _) (EI.start hs)
theorem free_of_pairwise {V : List (Int × Int)} : Free V ↔ V.Pairwise fun a b => clB a b = false := by
  rw [List.pairwise_iff_getElem]
  constructor
  · intro h i k hi hk hik
    have := h i k hik hk
    simpa [pin, hi, hk] using this
  · intro h i k hik hk
    have := h i k (by omega) hk hik
    simpa [pin, show i < V.length by omega, hk] using this
theorem Joined.exists : ∀ (k : Nat) (V : List (Int × Int)), V.length = k → (∀ x ∈ V, 1 ≤ x.1) → Free V → ∃ t p, Joined V t p
  | 0, V, hk, _, _ => by
    obtain rfl := List.length_eq_zero_iff.1 hk
    exact ⟨0, 1, Joined.nil⟩
  | k + 1, V, hk, hV, hF => by
    have hne : V ≠ [] := by intro h; subst h; cases hk
    obtain ⟨L, x, rfl⟩ : ∃ L x, V = L ++ [x] := ⟨V.dropLast, V.getLast hne, (List.dropLast_concat_getLast hne).symm⟩
    have hF2 := free_of_pairwise.1 hF
    rw [List.pairwise_append] at hF2
    obtain ⟨h1, _, h3⟩ := hF2
    obtain ⟨t, p, hJ⟩ := Joined.exists k L (by simpa using hk) (fun y hy => hV y (by simp [hy])) (free_of_pairwise.2 h1)
    have hx := hV x (by simp)
    have hp : 1 ≤ p := by have := hJ.t0; have := hJ.tp; omega
    obtain ⟨s1, _, _⟩ := steps_pos hp hx
    obtain ⟨v, hv⟩ := inv_exists s1 (coprime_div (P := x.1) hp)
    refine ⟨_, _, hJ.prog (v := v) (fun y hy => hV y (by simp [hy])) hx (fun y hy => ?_) (fun _ => hv)⟩
    have := h3 y hy x (by simp)
    rw [clB_comm, clB_false, gcdI_comm] at this
    exact this
theorem free_together {V : List (Int × Int)} (hV : ∀ x ∈ V, 1 ≤ x.1) : Free V ↔ Together V :=
  ⟨fun h => by obtain ⟨t, p, hJ⟩ := Joined.exists _ V rfl hV h; exact hJ.together, Together.free⟩
theorem jO_free {V : List (Int × Int)} (hV : OkV V) : jO V = true ↔ Free V := by
  rw [free_together fun x hx => (hV x hx).1]
  constructor
  · intro h; exact (j_true hV h).together
  · intro h
    cases hj : jO V with
    | true => rfl
    | false => exact absurd h (j_false hV hj).1
theorem grp_free {V : List (Int × Int)} {g : List Nat} : Grp V g ↔ Free (g.map (pin V)) := by
  rw [free_of_pairwise, List.pairwise_map]; rfl
end Go.Proofs.Ytooddicegkiiiaa

namespace Go.Proofs.Ytooddicegkiiiaa
open Go.RowKit Go.Shelf

theorem natL_at (s : List Nat) (k : Nat) (h : k < s.length) : (natL s)[k]?.getD 0 = ((s[k]'h : Nat) : Int) := by simp [natL, h]
set_option maxRecDepth 100000 in
set_option maxHeartbeats 2000000 in
theorem some_any (x y : Value) (V : List (Int × Int)) (s : List Nat) (w : World) (hx0 : RdP w x V) (hy0 : RdI w .i64 y (natL s)) (hs : ∀ i ∈ s, i < V.length) (hl : s.length ≤ 1000) :
    Calls Try.prog 52 #[x, y] w fun e w' => ∃ v, e = .returned v ∧ RdP w' v (s.map (pin V)) ∧ Below w.heap.size w w' := by
  obtain ⟨a, ca, rfl, hca, hca2, hx⟩ := hx0.form
  obtain ⟨ay, cy, rfl, hcy, hcy2, hy⟩ := hy0.form
  clear hca2 hcy2 hx0 hy0
  have hln := natL_len s
  rw [hln] at hcy hy ⊢
  have HLN := Lib.hid hln; clear hln
  go_enter Try.func52, Try.ntmps52
  go_wp2_with fail
  go_loopw [5, 6] (fun s5 i wr => ∃ (k : Nat) (v : Value), k ≤ s.length ∧ v = s5 ∧ i = .int .i64 k ∧ wr.ownsRow w.heap.size 55 2 v k (prs ((s.take k).map (pin V))) ∧ Below w.heap.size w wr) (fun _ i _ => s.length - (intOf i).toNat)
  case atStart => exact ⟨0, _, Nat.zero_le _, rfl, rfl, World.ownsRow_nil _ _ _ _, bz _⟩
  case round =>
    obtain ⟨k, v, hk, rfl, rfl, hor, hB⟩ := hrel
    obtain ⟨av, cv, rfl⟩ := owns_form hor
    have HOR := Lib.hid hor; have HB := Lib.hid hB
    clear hor hB
    by_cases hlt : k < s.length
    · obtain ⟨by', oy, rfl, hby, hcell⟩ := hy (by omega)
      have gk := (HB.out.cell (p := ⟨by', oy + k, none⟩) hby).trans (hcell k hlt)
      have hsk := hs _ (List.getElem_mem hlt)
      have htk : (s.take (k + 1)).map (pin V) = (s.take k).map (pin V) ++ [pin V (s[k]'hlt)] := by
        rw [List.take_succ_eq_append_getElem hlt, List.map_append]; rfl
      rw [natL_at s k hlt] at gk
      have HTK := Lib.hid htk
      clear htk hy hcell
      generalize s[k]'hlt = m at *
      obtain ⟨bx, ox, rfl, hbx, hcx⟩ := hx (by omega)
      have gx := (HB.out.cell (p := ⟨bx, ox + m * 2, none⟩) hbx).trans (hcx m hsk).1
      have gy := (HB.out.cell (p := ⟨bx, ox + m * 2 + 1, none⟩) hbx).trans (hcx m hsk).2
      change wr.cell? _ = some (Value.int .i64 (pin V m).1) at gx
      change wr.cell? _ = some (Value.int .i64 (pin V m).2) at gy
      clear hx hcx
      have hlk : ((s.take k).map (pin V)).length = k := by rw [List.length_map, List.length_take]; omega
      generalize (s.take k).map (pin V) = U at *
      generalize pin V m = q at *
      obtain ⟨q1, q2⟩ := q
      simp only at gx gy
      have hbz : w.heap.size ≤ wr.heap.size := HB.out.size
      have hor2 : wr.ownsRow w.heap.size 55 2 (.slice av k cv) U.length (prs U) := by rw [hlk]; exact HOR.out
      have HOR2 := Lib.hid hor2
      have hl1 : U.length ≤ 1000 := by omega
      have HLK := Lib.hid hlk; clear hlk hor2
      go_wp2_with (at_builtin; refine wpList_append_pair rfl _ _ rfl Try.underlying22 info55 HOR2.out hbz q1 q2 rfl rfl rfl hl1 ?_)
      intro v' w' hown hgrow
      have HBN := Lib.hid (append_below (bal HB.out _) (HOR2.out.alloc _) hgrow (Nat.le_refl _))
      have HOWN := Lib.hid hown
      clear hown hgrow
      go_wp2_with fail
      go_roundw
      case rel =>
        refine ⟨k + 1, v', by omega, rfl, by go_num, ?_, HBN.out⟩
        have h := HOWN.out
        rw [HLK.out] at h
        rw [HTK.out]; exact h
      case measure => simp [intOf]; omega
    · have hkl : k = s.length := by omega
      have hor := HOR.out
      rw [show (s.take k) = s from by rw [hkl, List.take_length]] at hor
      have HORF := Lib.hid (RdP.of_owns hor)
      clear hor hkl
      go_wp2_with fail
      go_ret
      exact ⟨_, rfl, HORF.out, HB.out⟩
end Go.Proofs.Ytooddicegkiiiaa

namespace Go.Proofs.Ytooddicegkiiiaa
open Go.RowKit Go.Shelf

theorem okv_map {V : List (Int × Int)} (hV : OkV V) {s : List Nat} (hs : ∀ i ∈ s, i < V.length) : OkV (s.map (pin V)) := by
  intro x hx
  obtain ⟨i, hi, rfl⟩ := List.mem_map.1 hx
  exact hV _ (pin_mem (hs i hi))
/-- The least index that may come next. -/
def lowN (g : List Int) (k : Nat) : Int := if k = 0 then 0 else g[k - 1]?.getD 0 + 1
set_option maxRecDepth 100000 in
set_option maxHeartbeats 2000000 in
theorem rcheckgroup_any (x y : Value) (V : List (Int × Int)) (g : List Int) (w : World) (hx0 : RdP w x V) (hy0 : RdI w .i64 y g) (hl : V.length ≤ 1000) (hg : g.length ≤ 1000) :
    Calls Try.prog 38 #[x, y] w fun e w' => e = .returned (.int .i64 (cgE V g)) ∧ Below w.heap.size w w' := by
  obtain ⟨a, ca, rfl, hca, hca2, _⟩ := hx0.form
  obtain ⟨ay, cy, rfl, hcy, hcy2, hy⟩ := hy0.form
  clear hca2 hcy2
  have HK := Lib.hid (fun w' hx => rcheck_any (.slice a V.length ca) V w' hx hl)
  have HX0 := Lib.hid hx0; have HY0 := Lib.hid hy0
  clear hx0 hy0
  by_cases hc : checkP V = 0
  · have hV := okPins_of hc
    have h1 := hV.l1; have h5 := hV.l5
    have e1 : cgE V g = if incB V.length 0 g then (if Grp V (ixs g) then 0 else 21) else 2 := by unfold cgE; rw [if_neg (by simpa using hc)]
    rw [hc] at HK
    have E1 := Lib.hid e1; clear e1 hc
    have HV := Lib.hid hV; clear hV
    go_enter Try.func38, Try.ntmps38
    go_wp2_with fail
    refine (HK.out _ HX0.out).mono ?_
    rintro e w2 ⟨rfl, hB2⟩
    have HB2 := Lib.hid hB2; clear hB2
    go_wp2_with fail
    go_loopw [5] (fun i wr => ∃ k : Nat, k ≤ g.length ∧ i = .int .i64 k ∧ 0 ≤ lowN g k ∧ incB V.length 0 g = incB V.length (lowN g k) (g.drop k) ∧ Below w2.heap.size w2 wr) (fun i _ => g.length - (intOf i).toNat)
    case atStart => exact ⟨0, Nat.zero_le _, rfl, Int.le_refl _, by rw [List.drop_zero]; rfl, bz _⟩
    case round =>
      obtain ⟨k, hk, rfl, hlo, hI, hB⟩ := hrel
      by_cases hlt : k < g.length
      · obtain ⟨by', oy, rfl, hby, hcell⟩ := hy (by omega)
        have gk := ((btr HB2.out hB).cell (p := ⟨by', oy + k, none⟩) hby).trans (hcell k hlt)
        have hd : g.drop k = (g[k]?.getD 0) :: g.drop (k + 1) := by
          rw [List.drop_eq_getElem_cons hlt]; simp [hlt]
        rw [hd] at hI
        simp only [incB] at hI
        have hlo2 : lowN g (k + 1) = g[k]?.getD 0 + 1 := by simp [lowN]
        have HLO2 := Lib.hid hlo2
        have HB := Lib.hid hB
        have hbz : by' < wr.heap.size := Nat.lt_of_lt_of_le hby (btr HB2.out hB).size
        clear hd hB hlo2
        have hbad : ∀ b, outB (lowN g k) ((V.length : Int) - 1) (g[k]?.getD 0) = b → incB V.length 0 g = (!b && incB V.length (lowN g (k + 1)) (g.drop (k + 1))) := fun b hb => by rw [hI, hb, HLO2.out]
        have HBAD := Lib.hid hbad; clear hbad hI
        rcases Nat.eq_zero_or_pos k with rfl | hk0
        · rw [show lowN g 0 = 0 from rfl] at HBAD hlo
          clear hy hcell
          have HLO : Hid (0 ≤ (g[0]?.getD 0 : Int) → 0 ≤ lowN g (0 + 1)) := Lib.hid (fun h => by rw [HLO2.out]; omega)
          generalize g[0]?.getD 0 = p at *
          simp only [Nat.add_zero] at gk
          by_cases hgd : 0 ≤ p ∧ p < V.length
          · obtain ⟨c1, c2⟩ := hgd
            have HBD := Lib.hid (HBAD.out false (by simp [outB]; omega))
            rw [Bool.not_false, Bool.true_and] at HBD
            replace HLO := Lib.hid (HLO.out c1)
            have t1 : decide (p < 0) = false := by simp; omega
            have t2 : decide ((V.length : Int) ≤ p) = false := by simp; omega
            go_wp2_with fail
            refine wp_region_flow [] [] [0, 1, 2, 3, 4, 5, 6, 7, 8, 9, 10, 11, 12, 13, 14, 15, 16, 17, 18, 19, 20, 21, 22, 23, 24, 25, 26, 27, 28, 29] (by kernel_rfl) (by kernel_rfl) ?_
            intro wc hBc hh
            have d0 := (hBc.cell hbz).trans gk
            have zc : by' < wc.heap.size := Nat.lt_of_lt_of_le hbz hBc.size
            have hL := @Later.cell wc
            have HBc := Lib.hid hBc
            clear hh hBc gk
            simp only [flowP, flow, pickL, List.getElem?_cons_succ, List.getElem?_cons_zero]
            refine wpQuiet_nil ?_
            repeat (go_big_quiet_step (fail))
            refine wpQuiet_nil ?_
            refine only_done ?_
            clear d0 hL
            go_wp2_with fail
            go_roundw
            case rel => exact ⟨0 + 1, by omega, by go_num, HLO.out, HBD.out, btr HB.out HBc.out⟩
            case measure => simp [intOf]; omega
          · have HBD := Lib.hid (HBAD.out true (by simp [outB]; omega))
            rcases (show decide (p < 0) = true ∨ (decide (p < 0) = false ∧ decide ((V.length : Int) ≤ p) = true) by simp only [decide_eq_true_eq, decide_eq_false_iff_not]; omega) with t1 | ⟨t1, t2⟩
            all_goals
              go_wp2_with fail
              refine wp_region_flow [] [] [0, 1, 2, 3, 4, 5, 6, 7, 8, 9, 10, 11, 12, 13, 14, 15, 16, 17, 18, 19, 20, 21, 22, 23, 24, 25, 26, 27, 28, 29] (by kernel_rfl) (by kernel_rfl) ?_
              intro wc hBc hh
              have d0 := (hBc.cell hbz).trans gk
              have zc : by' < wc.heap.size := Nat.lt_of_lt_of_le hbz hBc.size
              have hL := @Later.cell wc
              have HBc := Lib.hid hBc
              clear hh hBc gk
              simp only [flowP, flow, pickL, List.getElem?_cons_succ, List.getElem?_cons_zero]
              refine wpQuiet_nil ?_
              repeat (go_big_quiet_step (fail))
              refine wpQuiet_nil ?_
              refine only_done ?_
              clear d0 hL
              go_wp2_with fail
              go_ret
              refine ⟨ret_int ?_, btr HB2.out (btr HB.out HBc.out)⟩
              rw [E1.out, HBD.out]; rfl
        · obtain ⟨j, rfl⟩ : ∃ j, k = j + 1 := ⟨k - 1, by omega⟩
          have gj := ((btr HB2.out HB.out).cell (p := ⟨by', oy + j, none⟩) hby).trans (hcell j (by omega))
          rw [show lowN g (j + 1) = g[j]?.getD 0 + 1 by simp [lowN]] at HBAD hlo
          clear hy hcell hk0
          have HLO : Hid (0 ≤ (g[j + 1]?.getD 0 : Int) → 0 ≤ lowN g (j + 1 + 1)) := Lib.hid (fun h => by rw [HLO2.out]; omega)
          generalize g[j + 1]?.getD 0 = p at *
          generalize g[j]?.getD 0 = q at *
          have wj : IntKind.i64.wrap (((j + 1 : Nat) : Int) - 1) = (j : Int) := by rw [show ((j + 1 : Nat) : Int) - 1 = (j : Int) by omega]; exact IntWalk.i64_in _ (by omega)
          by_cases hgd : q < p ∧ p < V.length
          · obtain ⟨c1, c2⟩ := hgd
            have c0 : 0 ≤ p := by omega
            have HBD := Lib.hid (HBAD.out false (by simp [outB]; omega))
            rw [Bool.not_false, Bool.true_and] at HBD
            replace HLO := Lib.hid (HLO.out c0)
            have t1 : decide (p < 0) = false := by simp; omega
            have t2 : decide ((V.length : Int) ≤ p) = false := by simp; omega
            have t3 : decide (0 < ((j + 1 : Nat) : Int)) = true := decide_eq_true (by omega)
            have t5 : decide ((0 : Int) < (j : Int) + 1) = true := decide_eq_true (by omega)
            have t4 : decide (p ≤ q) = false := by simp; omega
            go_wp2_with fail
            refine wp_region_flow [] [] [0, 1, 2, 3, 4, 5, 6, 7, 8, 9, 10, 11, 12, 13, 14, 15, 16, 17, 18, 19, 20, 21, 22, 23, 24, 25, 26, 27, 28, 29] (by kernel_rfl) (by kernel_rfl) ?_
            intro wc hBc hh
            have d0 := (hBc.cell hbz).trans gk
            have d1 := (hBc.cell hbz).trans gj
            have zc : by' < wc.heap.size := Nat.lt_of_lt_of_le hbz hBc.size
            have hL := @Later.cell wc
            have HBc := Lib.hid hBc
            clear hh hBc gk
            simp only [flowP, flow, pickL, List.getElem?_cons_succ, List.getElem?_cons_zero]
            refine wpQuiet_nil ?_
            repeat (go_big_quiet_step (fail))
            refine wpQuiet_nil ?_
            refine only_done ?_
            clear d0 hL
            go_wp2_with fail
            go_roundw
            case rel => exact ⟨j + 1 + 1, by omega, by go_num, HLO.out, HBD.out, btr HB.out HBc.out⟩
            case measure => simp [intOf]; omega
          · have HBD := Lib.hid (HBAD.out true (by simp [outB]; omega))
            have t3 : decide (0 < ((j + 1 : Nat) : Int)) = true := decide_eq_true (by omega)
            have t5 : decide ((0 : Int) < (j : Int) + 1) = true := decide_eq_true (by omega)
            rcases (show decide (p < 0) = true ∨ (decide (p < 0) = false ∧ decide ((V.length : Int) ≤ p) = true) ∨ (decide (p < 0) = false ∧ decide ((V.length : Int) ≤ p) = false ∧ decide (p ≤ q) = true) by simp only [decide_eq_true_eq, decide_eq_false_iff_not]; omega) with t1 | ⟨t1, t2⟩ | ⟨t1, t2, t4⟩
            all_goals
              go_wp2_with fail
              refine wp_region_flow [] [] [0, 1, 2, 3, 4, 5, 6, 7, 8, 9, 10, 11, 12, 13, 14, 15, 16, 17, 18, 19, 20, 21, 22, 23, 24, 25, 26, 27, 28, 29] (by kernel_rfl) (by kernel_rfl) ?_
              intro wc hBc hh
              have d0 := (hBc.cell hbz).trans gk
              have d1 := (hBc.cell hbz).trans gj
              have zc : by' < wc.heap.size := Nat.lt_of_lt_of_le hbz hBc.size
              have hL := @Later.cell wc
              have HBc := Lib.hid hBc
              clear hh hBc gk
              simp only [flowP, flow, pickL, List.getElem?_cons_succ, List.getElem?_cons_zero]
              refine wpQuiet_nil ?_
              repeat (go_big_quiet_step (fail))
              refine wpQuiet_nil ?_
              refine only_done ?_
              clear d0 hL
              go_wp2_with fail
              go_ret
              refine ⟨ret_int ?_, btr HB2.out (btr HB.out HBc.out)⟩
              rw [E1.out, HBD.out]; rfl
      · have hkl : k = g.length := by omega
        have hI' : incB V.length 0 g = true := by rw [hI, hkl, List.drop_length]; rfl
        obtain ⟨i1, i2⟩ := incB_inc hI'
        have hil := i2.len
        have HI := Lib.hid hI'
        have HS := Lib.hid (fun w' hx (hy : RdI w' .i64 (.slice ay g.length cy) g) => some_any (.slice a V.length ca) (.slice ay g.length cy) V (ixs g) w' hx (by rw [i1]; exact hy) i2.2 (by omega))
        have HOU := Lib.hid (okv_map HV.out.v i2.2)
        have HJ := Lib.hid (fun x w' hx => rjoin_any x ((ixs g).map (pin V)) w' hx HOU.out (by rw [List.length_map]; omega))
        have hq : jO ((ixs g).map (pin V)) = decide (Grp V (ixs g)) := by
          have h := (jO_free HOU.out).trans grp_free.symm
          cases hj : jO ((ixs g).map (pin V))
          · rw [hj] at h; simp at h; simp [h]
          · rw [hj] at h; simp at h; simp [h]
        rw [hq] at HJ
        have HB := Lib.hid hB
        clear hI hI' i1 i2 hkl hq hB hy hlo
        generalize jA ((ixs g).map (pin V)) = jA' at *
        generalize jB ((ixs g).map (pin V)) = jB' at *
        generalize hq : decide (Grp V (ixs g)) = q at *
        have HQ := Lib.hid hq; clear hq
        go_wp2_with fail
        refine (HS.out _ (HX0.out.mono (btr HB2.out HB.out)) (HY0.out.mono (btr HB2.out HB.out))).mono ?_
        rintro e w3 ⟨sv, rfl, hsv, hB3⟩
        go_wp2_with fail
        refine (HJ.out _ _ hsv).mono ?_
        rintro e w4 ⟨rfl, hB4⟩
        have HB4 := Lib.hid (btr HB2.out (btr HB.out (btr hB3 hB4)))
        clear hsv hB3 hB4
        cases q
        · go_wp2_with fail
          go_ret
          refine ⟨ret_int ?_, HB4.out⟩
          rw [E1.out, HI.out, if_pos rfl, if_neg (by have := HQ.out; simpa using this)]
        · go_wp2_with fail
          go_ret
          refine ⟨ret_int ?_, HB4.out⟩
          rw [E1.out, HI.out, if_pos rfl, if_pos (by have := HQ.out; simpa using this)]
  · have e1 : cgE V g = checkP V := by unfold cgE; rw [if_pos (by simpa using hc)]
    rw [e1]; clear e1
    have hcb : (checkP V != 0) = true := by simpa using hc
    have hce : (checkP V == 0) = false := by simpa using hc
    clear hc hy
    generalize checkP V = q at *
    go_enter Try.func38, Try.ntmps38
    go_wp2_with fail
    refine (HK.out _ HX0.out).mono ?_
    rintro e w2 ⟨rfl, hB2⟩
    go_wp2_with fail
    refine (HK.out _ (HX0.out.mono hB2)).mono ?_
    rintro e w3 ⟨rfl, hB3⟩
    go_wp2_with fail
    go_ret
    exact ⟨rfl, btr hB2 hB3⟩
end Go.Proofs.Ytooddicegkiiiaa

namespace Go.Proofs.Ytooddicegkiiiaa
open Go.RowKit Go.Shelf

theorem i64_and1 (n : Int) : bits .and .i64 n 1 = n % 2 := by
  have h1 : (BitVec.ofInt 64 1).toNat = 2 ^ 1 - 1 := by decide
  have key : (BitVec.ofInt 64 n &&& BitVec.ofInt 64 1).toNat = (n % ((2 ^ 64 : Nat) : Int)).toNat % 2 ^ 1 := by
    rw [BitVec.toNat_and, BitVec.toNat_ofInt, h1, Nat.and_two_pow_sub_one_eq_mod]
  show IntKind.i64.wrap ((BitVec.ofInt 64 n &&& BitVec.ofInt 64 1).toNat : Nat) = n % 2
  rw [key, IntKind.wrap_i64]
  omega
/-- The numbers of the bits that are set. -/
def bitB (b i : Nat) : Bool := b / 2 ^ i % 2 == 1
def lst (b n : Nat) : List Nat := (List.range n).filter (bitB b)
theorem lst_succ (b n : Nat) : lst b (n + 1) = if bitB b n then lst b n ++ [n] else lst b n := by
  unfold lst
  rw [List.range_succ, List.filter_append]
  cases h : bitB b n <;> simp [h]
theorem lst_le (b n : Nat) : (lst b n).length ≤ n := by
  have := List.length_filter_le (bitB b) (List.range n)
  rw [List.length_range] at this
  exact this
set_option maxRecDepth 100000 in
set_option maxHeartbeats 2000000 in
theorem listed_any (b n : Nat) (w : World) (hn : n ≤ 60) :
    Calls Try.prog 51 #[.int .i64 b, .int .i64 n] w fun e w' => ∃ v, e = .returned v ∧ RdI w' .i64 v (natL (lst b n)) ∧ Below w.heap.size w w' := by
  go_enter Try.func51, Try.ntmps51
  go_wp2_with fail
  go_loopw [5, 6] (fun s5 i wr => ∃ (k : Nat) (v : Value), k ≤ n ∧ v = s5 ∧ i = .int .i64 k ∧ wr.ownsRow w.heap.size 3 1 v (lst b k).length ((natL (lst b k)).map (Value.int .i64)) ∧ Below w.heap.size w wr) (fun _ i _ => n - (intOf i).toNat)
  case atStart => exact ⟨0, _, Nat.zero_le _, rfl, rfl, World.ownsRow_nil _ _ _ _, bz _⟩
  case round =>
    obtain ⟨k, v, hk, rfl, rfl, hor, hB⟩ := hrel
    obtain ⟨av, cv, rfl⟩ := owns_form hor
    have hll := lst_le b k
    have HOR := Lib.hid hor; have HB := Lib.hid hB
    clear hor hB
    by_cases hlt : k < n
    · have HS := Lib.hid (lst_succ b k)
      have hand := i64_and1 ((b : Int) / 2 ^ k)
      have hbit : ((b : Int) / 2 ^ k % 2 == 1) = bitB b k := by
        unfold bitB
        rw [Bool.eq_iff_iff]
        simp only [beq_iff_eq]
        rw [show (2 : Int) ^ k = ((2 ^ k : Nat) : Int) by simp, ← Int.natCast_ediv]
        omega
      generalize bitB b k = bb at *
      generalize lst b k = g at *
      cases bb
      · go_wp2_with fail
        go_roundw
        case rel => exact ⟨k + 1, _, by omega, rfl, by go_num, by rw [HS.out]; exact HOR.out, HB.out⟩
        case measure => simp [intOf]; omega
      · have hbz : w.heap.size ≤ wr.heap.size := HB.out.size
        have hl1 : (natL g).length ≤ 1000 := by rw [natL_len]; omega
        have hor2 : wr.ownsRow w.heap.size 3 1 (.slice av g.length cv) (natL g).length ((natL g).map (Value.int .i64)) := by rw [natL_len]; exact HOR.out
        have HOR2 := Lib.hid hor2
        clear hor2
        go_wp2_with (at_builtin; refine wpList_append_num rfl _ _ rfl Try.underlying25 num3 HOR2.out (k : Int) rfl rfl rfl hl1 hbz ?_)
        intro v' w' hown hgrow
        have HBN := Lib.hid (append_below (bal HB.out _) (HOR2.out.alloc _) hgrow (Nat.le_refl _))
        have HOWN := Lib.hid hown
        clear hown hgrow
        go_wp2_with fail
        go_roundw
        case rel =>
          refine ⟨k + 1, v', by omega, rfl, by go_num, ?_, HBN.out⟩
          have h := HS.out
          simp only [if_true] at h
          have h2 := HOWN.out
          rw [h, show natL (g ++ [k]) = natL g ++ [(k : Int)] by simp [natL], List.length_append]
          simpa [natL_len] using h2
        case measure => simp [intOf]; omega
    · have hkl : k = n := by omega
      have hor := HOR.out
      rw [hkl, ← natL_len (lst b n)] at hor
      have hrd := RdI.of_owns hor
      rw [natL_len] at hrd
      rw [← hkl] at hrd
      have HORF := Lib.hid hrd
      clear hrd
      clear hor hkl
      go_wp2_with fail
      go_ret
      exact ⟨_, rfl, by have h := HORF.out; rw [show k = n by omega] at h ⊢; exact h, HB.out⟩

/-- Whether one list of numbers comes before another as long. -/
def befB : List Int → List Int → Bool
  | a :: r, b :: s => if a = b then befB r s else decide (a < b)
  | _, _ => false
set_option maxRecDepth 100000 in
set_option maxHeartbeats 2000000 in
theorem before_any (x y : Value) (g h : List Int) (w : World) (hx0 : RdI w .i64 x g) (hy0 : RdI w .i64 y h) (hl : g.length = h.length) (hle : g.length ≤ 1000) :
    Calls Try.prog 69 #[x, y] w fun e w' => e = .returned (.bool (befB g h)) ∧ Below w.heap.size w w' := by
  obtain ⟨ax, cx, rfl, hcx, hcx2, hx⟩ := hx0.form
  obtain ⟨ay, cy, rfl, hcy, hcy2, hy⟩ := hy0.form
  clear hcx2 hcy2 hx0 hy0
  have HL := Lib.hid hl
  rw [← hl] at hcy hy ⊢
  clear hl
  go_enter Try.func69, Try.ntmps69
  go_wp2_with fail
  go_loopw [5] (fun i wr => ∃ k : Nat, k ≤ g.length ∧ i = .int .i64 k ∧ befB g h = befB (g.drop k) (h.drop k) ∧ Below w.heap.size w wr) (fun i _ => g.length - (intOf i).toNat)
  case atStart => exact ⟨0, Nat.zero_le _, rfl, rfl, bz _⟩
  case round =>
    obtain ⟨k, hk, rfl, hb, hB⟩ := hrel
    by_cases hlt : k < g.length
    · obtain ⟨bx, ox, rfl, hbx, hcellx⟩ := hx (by omega)
      obtain ⟨by', oy, rfl, hby, hcelly⟩ := hy (by omega)
      have gx := (hB.cell (p := ⟨bx, ox + k, none⟩) hbx).trans (hcellx k hlt)
      have gy := (hB.cell (p := ⟨by', oy + k, none⟩) hby).trans (hcelly k hlt)
      have hlt2 : k < h.length := by rw [← HL.out]; exact hlt
      rw [List.drop_eq_getElem_cons hlt, List.drop_eq_getElem_cons hlt2, show g[k] = g[k]?.getD 0 by simp [hlt], show h[k] = h[k]?.getD 0 by simp [hlt2]] at hb
      have HB := Lib.hid hB; have HBB := Lib.hid hb
      have z1 : bx < wr.heap.size := Nat.lt_of_lt_of_le hbx hB.size
      have z2 : by' < wr.heap.size := Nat.lt_of_lt_of_le hby hB.size
      clear hx hy hcellx hcelly hB hb hlt2
      generalize g[k]?.getD 0 = p at *
      generalize h[k]?.getD 0 = q at *
      by_cases he : p = q
      · subst he
        have hb1 : (p != p) = false := by simp
        go_wp2_with fail
        go_quiet (fail)
        go_wp2_with fail
        go_roundw
        case rel => exact ⟨k + 1, by omega, by go_num, by rw [HBB.out]; simp [befB], Below.drewN' _ HB.out⟩
        case measure => simp [intOf]; omega
      · have hb1 : (p != q) = true := by simpa using he
        go_wp2_with fail
        go_quiet (fail)
        go_wp2_with fail
        go_quiet (fail)
        go_wp2_with fail
        go_ret
        refine ⟨ret_bool ?_, Below.drewN' _ (Below.drewN' _ HB.out)⟩
        rw [HBB.out, befB, if_neg he]
    · have hkl : k = g.length := by omega
      have hb2 : befB g h = false := by
        rw [hb, hkl, List.drop_length]
        simp [befB]
      have HBB := Lib.hid hb2
      clear hb hb2 hkl
      go_wp2_with fail
      go_ret
      exact ⟨ret_bool (by rw [HBB.out]), hB⟩
end Go.Proofs.Ytooddicegkiiiaa

namespace Go.Proofs.Ytooddicegkiiiaa
open Go.RowKit Go.Shelf

def rquietN (V : List (Int × Int)) (t : Int) : Int := if openE V [t] = 0 then (match quietO V t 32 with | some n => t + (n : Int) | none => 0) else 0
def rquietE (V : List (Int × Int)) (t : Int) : Int := if openE V [t] = 0 then (match quietO V t 32 with | some _ => 0 | none => 21) else openE V [t]
theorem sndK_hush (V : List (Int × Int)) (T : Int) : ((sndK V T V.length).length = 0) ↔ hushB V T = true := by
  unfold sndK
  rw [natL_len, List.length_eq_zero_iff, hush_iff]
  unfold sndN
  rw [List.filter_eq_nil_iff]
  constructor
  · intro h i hi
    have := h i (List.mem_range.2 hi)
    simpa using this
  · intro h i hi
    have := h i (List.mem_range.1 hi)
    simp [this]
set_option maxRecDepth 100000 in
set_option maxHeartbeats 2000000 in
theorem rquiet_any (x : Value) (V : List (Int × Int)) (t : Int) (w : World) (hx0 : RdP w x V) (hl : V.length ≤ 1000) :
    Calls Try.prog 40 #[x, .int .i64 t] w fun e w' => e = .returned (.tuple #[.int .i64 (rquietN V t), .int .i64 (rquietE V t)]) ∧ Below w.heap.size w w' := by
  obtain ⟨a, ca, rfl, _, _, _⟩ := hx0.form
  have HK := Lib.hid (fun w' hx => rcheck_any (.slice a V.length ca) V w' hx hl)
  have HX0 := Lib.hid hx0; clear hx0
  by_cases hc : checkP V = 0
  · have hV := okPins_of hc
    have hop := openE_ok [t] hc
    simp only [List.any_cons, List.any_nil, Bool.or_false] at hop
    have HT0 := Lib.hid (istime_any t)
    rw [hc] at HK
    cases ho : outB 0 1000000000000 t
    · rw [ho] at hop HT0
      simp only [Bool.false_eq_true, if_false] at hop
      have hft : 0 ≤ t ∧ t ≤ 1000000000000 := by simp [outB] at ho; omega
      obtain ⟨f0, f1⟩ := hft
      have hR : ∀ o, quietO V t 32 = o → rquietN V t = (match o with | some n => t + (n : Int) | none => 0) ∧ rquietE V t = (match o with | some _ => 0 | none => 21) := by
        rintro o rfl
        unfold rquietN rquietE
        rw [if_pos hop, if_pos hop]
        exact ⟨rfl, rfl⟩
      have HR := Lib.hid hR
      have HA := Lib.hid (fun n w' (hn : n ≤ 1000) hx => rat_any (.slice a V.length ca) V (t + (n : Nat)) w' hx hV.v hV.l5 (by omega) (by omega))
      unfold AtOk at HA
      clear hc hop ho hV hR
      generalize rquietN V t = rN at *
      generalize rquietE V t = rE at *
      go_enter Try.func40, Try.ntmps40
      go_wp2_with fail
      refine (HK.out _ HX0.out).mono ?_
      rintro e w2 ⟨rfl, hB2⟩
      have HB2 := Lib.hid hB2; clear hB2
      go_wp2_with fail
      refine (HT0.out _).mono ?_
      rintro e w3 ⟨rfl, rfl⟩
      go_wp2_with fail
      go_loopw [6] (fun i wr => ∃ k : Nat, k ≤ 32 ∧ i = .int .i64 k ∧ (∀ n, n < k → hushB V (t + (n : Nat)) = false) ∧ Below w2.heap.size w2 wr) (fun i _ => 32 - (intOf i).toNat)
      case atStart => exact ⟨0, by omega, rfl, fun n h => absurd h (Nat.not_lt_zero _), bz _⟩
      case round =>
        obtain ⟨k, hk, rfl, hno, hB⟩ := hrel
        have HNO := Lib.hid hno; have HB := Lib.hid hB
        clear hno hB
        by_cases hlt : k < 32
        · have w1 : IntKind.i64.wrap (t + (k : Int)) = t + (k : Int) := IntWalk.i64_in _ (by omega)
          have HQ := Lib.hid (sndK_hush V (t + (k : Int)))
          have HK2 := Lib.hid (HA.out k wr (by omega) (HX0.out.mono (btr HB2.out HB.out)))
          generalize sndK V (t + (k : Int)) V.length = g at *
          have hq : ((g.length : Int) == 0) = hushB V (t + (k : Int)) := by
            rw [Bool.eq_iff_iff, ← HQ.out]; simp
          have HS : Hid (hushB V (t + (k : Int)) = true → quietO V t 32 = some k) := Lib.hid (fun h => quietO_some hlt HNO.out h)
          have HN : Hid (hushB V (t + (k : Int)) = false → ∀ n, n < k + 1 → hushB V (t + (n : Nat)) = false) := Lib.hid (fun h n hn => by
            by_cases e : n = k
            · subst e; exact h
            · exact HNO.out n (by omega))
          generalize hushB V (t + (k : Int)) = hb at *
          have HQQ := Lib.hid hq
          clear hq
          go_wp2_with fail
          refine HK2.out.mono ?_
          rintro e w3 ⟨v, rfl, hor, hB3⟩
          obtain ⟨av, cv, rfl⟩ := owns_form hor
          rw [← HQQ.out] at HS HN
          have HB3 := Lib.hid (btr HB.out hB3)
          clear hor hB3
          by_cases hz : g.length = 0
          · obtain ⟨r1, r2⟩ := HR.out _ (HS.out (by simp [hz]))
            have R1 := Lib.hid r1; have R2 := Lib.hid r2
            have hz2 : ((g.length : Int) == 0) = true := by simp [hz]
            clear r1 r2 hz
            go_wp2_with fail
            go_ret2
            exact ⟨by rw [R1.out, R2.out]; rfl, btr HB2.out HB3.out⟩
          · have hz2 : ((g.length : Int) == 0) = false := by rw [beq_eq_false_iff_ne]; omega
            have HNN := Lib.hid (HN.out hz2)
            clear hz
            go_wp2_with fail
            go_roundw
            case rel => exact ⟨k + 1, by omega, by go_num, HNN.out, HB3.out⟩
            case measure => simp [intOf]; omega
        · have hk32 : k = 32 := by omega
          subst hk32
          obtain ⟨r1, r2⟩ := HR.out _ (quietO_none HNO.out)
          have R1 := Lib.hid r1; have R2 := Lib.hid r2
          clear r1 r2
          go_wp2_with fail
          go_ret2
          exact ⟨by rw [R1.out, R2.out]; rfl, btr HB2.out HB.out⟩
    · rw [ho] at hop HT0
      simp only [if_true] at hop
      have e1 : rquietN V t = 0 := by unfold rquietN; rw [if_neg (by rw [hop]; decide)]
      have e2 : rquietE V t = 3 := by unfold rquietE; rw [if_neg (by rw [hop]; decide), hop]
      rw [e1, e2]; clear e1 e2 hop ho hc
      go_enter Try.func40, Try.ntmps40
      go_wp2_with fail
      refine (HK.out _ HX0.out).mono ?_
      rintro e w2 ⟨rfl, hB2⟩
      go_wp2_with fail
      refine (HT0.out _).mono ?_
      rintro e w2 ⟨rfl, rfl⟩
      go_wp2_with fail
      go_ret2
      exact ⟨rfl, hB2⟩
  · have hop := openE_no [t] hc
    have e1 : rquietN V t = 0 := by unfold rquietN; rw [if_neg (by rw [hop]; exact hc)]
    have e2 : rquietE V t = checkP V := by unfold rquietE; rw [if_neg (by rw [hop]; exact hc), hop]
    rw [e1, e2]; clear e1 e2 hop
    have hcb : (checkP V != 0) = true := by simpa using hc
    have hce : (checkP V == 0) = false := by simpa using hc
    clear hc
    generalize checkP V = q at *
    go_enter Try.func40, Try.ntmps40
    go_wp2_with fail
    refine (HK.out _ HX0.out).mono ?_
    rintro e w2 ⟨rfl, hB2⟩
    go_wp2_with fail
    refine (HK.out _ (HX0.out.mono hB2)).mono ?_
    rintro e w3 ⟨rfl, hB3⟩
    go_wp2_with fail
    go_ret2
    exact ⟨rfl, btr hB2 hB3⟩

/-- Pins of which one has another Offset. -/
def setO (V : List (Int × Int)) (i : Nat) (o : Int) : List (Int × Int) := V.set i ((pin V i).1, o)
theorem setO_len (V : List (Int × Int)) (i : Nat) (o : Int) : (setO V i o).length = V.length := by simp [setO]
theorem setO_pin (V : List (Int × Int)) (i : Nat) (o : Int) (j : Nat) (hj : j < V.length) : pin (setO V i o) j = if j = i then ((pin V i).1, o) else pin V j := by
  unfold setO pin
  rw [List.getElem?_set]
  by_cases h : i = j
  · subst h; simp [hj]
  · rw [if_neg h, if_neg (Ne.symm h)]
theorem RdP.of_pins {w : World} {b off cap : Nat} {V : List (Int × Int)} (hc : V.length ≤ cap) (hm : cap ≤ maxLen) (hb : b < w.heap.size)
    (h : ∀ j, j < V.length → w.cell? ⟨b, off + j * 2, none⟩ = some (.int .i64 (pin V j).1) ∧ w.cell? ⟨b, off + j * 2 + 1, none⟩ = some (.int .i64 (pin V j).2)) : RdP w (.slice (some ⟨b, off, none⟩) V.length cap) V := by
  refine ⟨_, _, rfl, hc, hm, fun _ => ⟨b, off, rfl, hb, fun j u hu => ?_⟩⟩
  have hj : j < V.length * 2 := by rw [← prs_length V]; exact (List.getElem?_eq_some_iff.1 hu).1
  obtain ⟨g1, g2⟩ := prs_get V (j / 2) (by omega)
  change _ = some (Value.int .i64 (pin V (j / 2)).1) at g1
  change _ = some (Value.int .i64 (pin V (j / 2)).2) at g2
  obtain ⟨h1, h2⟩ := h (j / 2) (by omega)
  rcases Nat.mod_two_eq_zero_or_one j with e | e
  · generalize hm2 : j / 2 = m at *
    obtain rfl : j = m * 2 := by omega
    rw [g1] at hu
    cases hu
    exact h1
  · generalize hm2 : j / 2 = m at *
    obtain rfl : j = m * 2 + 1 := by omega
    rw [g2] at hu
    cases hu
    rw [← Nat.add_assoc]; exact h2
theorem addr_add (b o j : Nat) : (⟨b, o, none⟩ : Addr).add j = ⟨b, o + j, none⟩ := by unfold Addr.add; split <;> simp_all
set_option maxRecDepth 100000 in
set_option maxHeartbeats 2000000 in
theorem with_any (x : Value) (V : List (Int × Int)) (i : Nat) (o : Int) (w : World) (hx0 : RdP w x V) (hi : i < V.length) (hl : V.length ≤ 1000) :
    Calls Try.prog 50 #[x, .int .i64 i, .int .i64 o] w fun e w' => ∃ v, e = .returned v ∧ RdP w' v (setO V i o) ∧ Below w.heap.size w w' := by
  obtain ⟨a, ca, rfl, hca, hca2, hx⟩ := hx0.form
  clear hca2
  obtain ⟨bx, ox, rfl, hbx, hcx⟩ := hx (by omega)
  obtain ⟨i0, hi0, hz0, hz1, hz2⟩ := info_parts info55
  have hcells : ∀ j u, (prs V)[j]? = some u → w.cell? ((⟨bx, ox, none⟩ : Addr).add j) = some u := by
    obtain ⟨_, _, e, h1, h2, h⟩ := hx0
    cases e
    obtain ⟨b, off, e, _, h⟩ := h (by intro e; have := prs_length V; rw [e] at this; simp at this; omega)
    cases e
    intro j u hu
    rw [addr_add]; exact h j u hu
  have hpl := prs_length V
  have HC := Lib.hid hcells; have HPL := Lib.hid hpl
  clear hx hx0 hcells hpl hcx
  have hown0 : (w.alloc (.cells #[] 55)).ownsRow w.heap.size 55 2 (.slice (some ⟨w.heap.size, 0, none⟩) 0 0) 0 [] := ⟨rfl, .inr ⟨_, 0, #[], rfl, Nat.le_refl _, heap_alloc_new _ _, Nat.le_refl _, by unfold maxLen; omega, rfl, rfl⟩⟩
  have HOWN0 := Lib.hid hown0; clear hown0
  go_enter Try.func50, Try.ntmps50
  have hcl : ∀ j u, (prs V)[j]? = some u → (w.alloc (.cells #[] 55)).cell? ((⟨bx, ox, none⟩ : Addr).add j) = some u := fun j u hu => by
    have h := HC.out j u hu
    rw [addr_add] at h ⊢
    exact ((bal (bz w) (.cells #[] 55)).cell (p := ⟨bx, ox + j, none⟩) hbx).trans h
  have HCL := Lib.hid hcl; clear hcl
  go_wp2_with (at_builtin; refine wpList_append_own _ rfl _ _ 22 rfl w.heap.size 55 i0 (.agg #[.int .i64 0, .int .i64 0]) 2 16 Try.underlying22 hi0 hz0 hz1 hz2 rfl (by decide) _ _ _ rfl HOWN0.out ⟨bx, ox, none⟩ V.length ca (prs V) rfl HPL.out HCL.out (prs_num V) (by simp only [maxLen]; omega) (by omega) (by simp) ?_)
  intro v' w' hown hgrow _
  have hB := bgr (bal (bz w) (.cells #[] 55)) hgrow (by rintro k e; cases e; exact Nat.le_refl _)
  have hrd := RdP.of_owns hown
  have hfr : ∃ g cap, v' = .slice (some ⟨g, 0, none⟩) V.length cap ∧ w.heap.size ≤ g ∧ ∀ j, w'.frozen? ⟨g, j, none⟩ = false := by
    rcases hown.2 with ⟨_, h⟩ | ⟨g, cap, cur, e, hg, hh, _⟩
    · omega
    · exact ⟨g, cap, e, hg, fun j => frozen_of_row w' g j _ _ hh⟩
  obtain ⟨g, cap, rfl, hg, hfz⟩ := hfr
  obtain ⟨_, _, e, hle, hmx, hrd⟩ := hrd.form
  cases e
  obtain ⟨_, _, e, hgz, hcell⟩ := hrd (by omega)
  cases e
  simp only [Nat.zero_add] at hcell
  have f1 := hfz (i * 2 + 1)
  have c1 := (hcell i hi).2
  have HCE := Lib.hid hcell; have HB := Lib.hid hB
  clear hfz hcell hB hown hgrow hrd HOWN0 HCL
  have HMX := Lib.hid hmx; clear hmx
  go_wp2_with fail
  go_ret
  refine ⟨_, rfl, ?_, bset HB.out hg _⟩
  have hln := setO_len V i o
  have h := RdP.of_pins (w := w'.setCell ⟨g, i * 2 + 1, none⟩ (.int .i64 o)) (b := g) (off := 0) (cap := cap) (V := setO V i o) (by rw [hln]; exact hle) HMX.out (by simp; exact hgz) (fun j hj => ?_)
  · rw [hln] at h; exact h
  · rw [hln] at hj
    rw [setO_pin V i o j hj, Nat.zero_add]
    obtain ⟨k1, k2⟩ := HCE.out j hj
    by_cases hji : j = i
    · subst hji
      rw [if_pos rfl]
      refine ⟨?_, ?_⟩
      · rw [World.cell?_setCell_other _ _ _ _ (by simp)]; exact k1
      · exact World.cell?_setCell_same' _ _ _ (by rw [k2]; rfl)
    · rw [if_neg hji]
      refine ⟨?_, ?_⟩
      · rw [World.cell?_setCell_other _ _ _ _ (by simp)]; exact k1
      · rw [World.cell?_setCell_other _ _ _ _ (by simp)]; exact k2
end Go.Proofs.Ytooddicegkiiiaa

namespace Go.Proofs.Ytooddicegkiiiaa
open Go.RowKit Go.Shelf

/-- The Offsets below k with which all pins sound together. -/
def rofN (V : List (Int × Int)) (i k : Nat) : List Nat := (List.range k).filter fun n => jO (setO V i (n : Int))
def rofL (V : List (Int × Int)) (i : Int) : List Int := if checkP V ≠ 0 then [] else if outB 0 ((V.length : Int) - 1) i then [] else natL (rofN V i.toNat (pin V i.toNat).1.toNat)
def ROffOk (V : List (Int × Int)) (i : Int) (w : World) (e : Ending) (w' : World) : Prop := ∃ v, e = .returned (.tuple #[v, .int .i64 (offE V i)]) ∧ RdI w' .i64 v (rofL V i) ∧ Below w.heap.size w w'
theorem rofN_succ (V : List (Int × Int)) (i k : Nat) : rofN V i (k + 1) = if jO (setO V i (k : Int)) then rofN V i k ++ [k] else rofN V i k := by
  unfold rofN
  rw [List.range_succ, List.filter_append]
  cases h : jO (setO V i (k : Int)) <;> simp [h]
theorem rofN_le (V : List (Int × Int)) (i k : Nat) : (rofN V i k).length ≤ k := by
  have := List.length_filter_le (fun n => jO (setO V i ((n : Nat) : Int))) (List.range k)
  rw [List.length_range] at this
  exact this
theorem setO_ok {V : List (Int × Int)} (hV : OkV V) {i n : Nat} (hi : i < V.length) (hn : (n : Int) < (pin V i).1) : OkV (setO V i (n : Int)) := by
  intro x hx
  rcases List.mem_or_eq_of_mem_set hx with h | rfl
  · exact hV x h
  · have := hV.at hi
    simp only
    omega
set_option maxRecDepth 100000 in
set_option maxHeartbeats 2000000 in
theorem roffsets_any (x : Value) (V : List (Int × Int)) (i : Int) (w : World) (hx0 : RdP w x V) (hl : V.length ≤ 1000) :
    Calls Try.prog 42 #[x, .int .i64 i] w (ROffOk V i w) := by
  obtain ⟨a, ca, rfl, hca, hca2, hx⟩ := hx0.form
  clear hca2
  unfold ROffOk
  have HK := Lib.hid (fun w' hx => rcheck_any (.slice a V.length ca) V w' hx hl)
  have HX0 := Lib.hid hx0; clear hx0
  by_cases hc : checkP V = 0
  · have e1 : offE V i = if outB 0 ((V.length : Int) - 1) i then 2 else 0 := by unfold offE; rw [if_neg (by simpa using hc)]
    have e2 : rofL V i = if outB 0 ((V.length : Int) - 1) i then [] else natL (rofN V i.toNat (pin V i.toNat).1.toNat) := by unfold rofL; rw [if_neg (by simpa using hc)]
    rw [e1, e2]; clear e1 e2
    have hV := okPins_of hc
    have h1 := hV.l1; have h5 := hV.l5
    rw [hc] at HK
    clear hc
    cases ho : outB 0 ((V.length : Int) - 1) i
    · have hb : 0 ≤ i ∧ i < V.length := by simp [outB] at ho; omega
      simp only [Bool.false_eq_true, if_false]
      clear ho
      obtain ⟨n, rfl⟩ := Int.eq_ofNat_of_zero_le hb.1
      have hn : n < V.length := by omega
      rw [Int.toNat_natCast]
      clear hb
      obtain ⟨p1, p2, p3, p4⟩ := hV.v.at hn
      have hSO := fun k (hk : ((k : Nat) : Int) < (pin V n).1) => setO_ok hV.v hn hk
      have HJ := Lib.hid (fun x w' k hx hk => rjoin_any x (setO V n ((k : Nat) : Int)) w' hx (hSO k hk) (by rw [setO_len]; exact h5))
      have HW := Lib.hid (fun k w' hx => with_any (.slice a V.length ca) V n ((k : Nat) : Int) w' hx hn (by omega))
      clear hSO p3 p4
      obtain ⟨bx, ox, rfl, hbx, hcx⟩ := hx (by omega)
      have gx : w.cell? ⟨bx, ox + n * 2, none⟩ = some (Value.int .i64 (pin V n).1) := (hcx n hn).1
      clear hcx hx hV
      obtain ⟨s, hs⟩ : ∃ s : Nat, (pin V n).1 = (s : Int) := Int.eq_ofNat_of_zero_le (by omega)
      rw [hs] at p1 p2 gx HJ ⊢
      rw [Int.toNat_natCast]
      clear hs
      have t1 : decide ((n : Int) < 0) = false := by simp
      have t2 : decide ((V.length : Int) ≤ (n : Int)) = false := by simp; omega
      have t3 : decide (V.length ≤ n) = false := by simp; omega
      have t4 : ¬ V.length ≤ n := by omega
      go_enter Try.func42, Try.ntmps42
      go_wp2_with fail
      refine (HK.out _ HX0.out).mono ?_
      rintro e w2 ⟨rfl, hB2⟩
      have HB2 := Lib.hid hB2; clear hB2
      go_wp2_with fail
      go_loopw [6, 7, 8, 9, 10] (fun s6 i _ _ _ wr => ∃ (k : Nat) (v : Value), k ≤ s ∧ v = s6 ∧ i = .int .i64 k ∧ wr.ownsRow w.heap.size 2 1 v (rofN V n k).length ((natL (rofN V n k)).map (Value.int .i64)) ∧ Below w.heap.size w wr) (fun _ i _ _ _ _ => s - (intOf i).toNat)
      case atStart => exact ⟨0, _, Nat.zero_le _, rfl, rfl, World.ownsRow_nil _ _ _ _, HB2.out⟩
      case round =>
        obtain ⟨k, v, hk, rfl, rfl, hor, hB⟩ := hrel
        obtain ⟨av, cv, rfl⟩ := owns_form hor
        have hll := rofN_le V n k
        have g0 := (hB.cell hbx).trans gx
        have HOR := Lib.hid hor; have HB := Lib.hid hB
        clear hor hB
        by_cases hlt : k < s
        · have HS := Lib.hid (rofN_succ V n k)
          have HJK := Lib.hid (fun x w' hx => HJ.out x w' k hx (by omega))
          generalize jO (setO V n (k : Int)) = bb at *
          generalize jA (setO V n (k : Int)) = ja at *
          generalize jB (setO V n (k : Int)) = jb at *
          generalize rofN V n k = g at *
          go_wp2_with fail
          refine (HW.out k _ (HX0.out.mono HB.out)).mono ?_
          rintro e w3 ⟨sv, rfl, hsv, hB3⟩
          go_wp2_with fail
          refine (HJK.out _ _ hsv).mono ?_
          rintro e w4 ⟨rfl, hB4⟩
          have hB34 := btr hB3 hB4
          have HB4 := Lib.hid (btr HB.out hB34)
          have HOR4 := Lib.hid (owns_kept HOR.out hB34)
          clear hsv hB3 hB4 hB34
          cases bb
          · go_wp2_with fail
            go_roundw
            case rel => exact ⟨k + 1, _, by omega, rfl, by go_num, by rw [HS.out]; exact HOR4.out, HB4.out⟩
            case measure => simp [intOf]; omega
          · have hbz : w.heap.size ≤ w4.heap.size := HB4.out.size
            have hl1 : (natL g).length ≤ 1000 := by rw [natL_len]; omega
            have hor2 : w4.ownsRow w.heap.size 2 1 (.slice av g.length cv) (natL g).length ((natL g).map (Value.int .i64)) := by rw [natL_len]; exact HOR4.out
            have HOR2 := Lib.hid hor2
            clear hor2
            go_wp2_with (at_builtin; refine wpList_append_num rfl _ _ rfl Try.underlying45 num2 HOR2.out (k : Int) rfl rfl rfl hl1 hbz ?_)
            intro v' w' hown hgrow
            have HBN := Lib.hid (append_below (bal HB4.out _) (HOR2.out.alloc _) hgrow (Nat.le_refl _))
            have HOWN := Lib.hid hown
            clear hown hgrow
            go_wp2_with fail
            go_roundw
            case rel =>
              refine ⟨k + 1, v', by omega, rfl, by go_num, ?_, HBN.out⟩
              have h := HS.out
              simp only [if_true] at h
              have h2 := HOWN.out
              rw [h, show natL (g ++ [k]) = natL g ++ [(k : Int)] by simp [natL], List.length_append]
              simpa [natL_len] using h2
            case measure => simp [intOf]; omega
        · have hkl : k = s := by omega
          have hor := HOR.out
          rw [← natL_len (rofN V n k)] at hor
          have hrd := RdI.of_owns hor
          rw [natL_len] at hrd
          have HORF := Lib.hid hrd
          clear hrd hor hkl
          go_wp2_with fail
          go_ret2
          exact ⟨_, rfl, by have h := HORF.out; rw [show k = s by omega] at h ⊢; exact h, HB.out⟩
    · simp only [if_true]
      have hb : i < 0 ∨ (0 ≤ i ∧ (V.length : Int) ≤ i) := by simp [outB] at ho; omega
      clear ho hx
      rcases hb with c1 | ⟨c1, c2⟩
      all_goals
        go_enter Try.func42, Try.ntmps42
        go_wp2_with fail
        refine (HK.out _ HX0.out).mono ?_
        rintro e w2 ⟨rfl, hB2⟩
        go_wp2_with fail
        go_ret2
        exact ⟨_, rfl, rdI_nil _ _, hB2⟩
  · have e1 : offE V i = checkP V := by unfold offE; rw [if_pos (by simpa using hc)]
    have e2 : rofL V i = [] := by unfold rofL; rw [if_pos (by simpa using hc)]
    rw [e1, e2]; clear e1 e2
    have hcb : (checkP V != 0) = true := by simpa using hc
    have hce : (checkP V == 0) = false := by simpa using hc
    clear hc hx
    generalize checkP V = q at *
    go_enter Try.func42, Try.ntmps42
    go_wp2_with fail
    refine (HK.out _ HX0.out).mono ?_
    rintro e w2 ⟨rfl, hB2⟩
    go_wp2_with fail
    refine (HK.out _ (HX0.out.mono hB2)).mono ?_
    rintro e w3 ⟨rfl, hB3⟩
    go_wp2_with fail
    go_ret2
    exact ⟨_, rfl, rdI_nil _ _, btr hB2 hB3⟩
end Go.Proofs.Ytooddicegkiiiaa

namespace Go.Proofs.Ytooddicegkiiiaa
open Go.RowKit Go.Shelf

/-- Whether a list takes the best one's place. -/
def btr2 (V : List (Int × Int)) (x b : List Nat) : Bool := (cgE V (natL x) == 0) && (decide (b.length < x.length) || ((x.length == b.length) && befB (natL x) (natL b)))
/-- The best of the lists that the bits below m say. -/
def rgrK (V : List (Int × Int)) : Nat → List Nat
  | 0 => []
  | m + 1 => if btr2 V (lst m V.length) (rgrK V m) then lst m V.length else rgrK V m
def rgrN (V : List (Int × Int)) : List Nat := if checkP V = 0 then rgrK V (2 ^ V.length) else []
def RGrpOk (V : List (Int × Int)) (w : World) (e : Ending) (w' : World) : Prop := ∃ v, e = .returned (.tuple #[v, .int .i64 (checkP V)]) ∧ RdI w' .i64 v (natL (rgrN V)) ∧ Below w.heap.size w w'
theorem rgrK_le (V : List (Int × Int)) : ∀ m, (rgrK V m).length ≤ V.length
  | 0 => Nat.zero_le _
  | m + 1 => by
    rw [rgrK]
    split
    · exact lst_le _ _
    · exact rgrK_le V m
set_option maxRecDepth 100000 in
set_option maxHeartbeats 2000000 in
theorem rgroup_any (x : Value) (V : List (Int × Int)) (w : World) (hx0 : RdP w x V) (hl : V.length ≤ 1000) :
    Calls Try.prog 36 #[x] w (RGrpOk V w) := by
  obtain ⟨a, ca, rfl, hca, hca2, _⟩ := hx0.form
  clear hca2
  unfold RGrpOk
  have HK := Lib.hid (fun w' hx => rcheck_any (.slice a V.length ca) V w' hx hl)
  have HX0 := Lib.hid hx0; clear hx0
  by_cases hc : checkP V = 0
  · rw [show rgrN V = rgrK V (2 ^ V.length) from by unfold rgrN; rw [if_pos hc], hc]
    rw [hc] at HK
    have hV := okPins_of hc
    have h1 := hV.l1; have h5 := hV.l5
    clear hc hV
    have hsh : IntKind.i64.wrap ((2 : Int) ^ V.length) = ((2 ^ V.length : Nat) : Int) ∧ 2 ^ V.length ≤ 32 := by
      generalize V.length = n at h1 h5
      match n, h1, h5 with
      | 1, _, _ => decide
      | 2, _, _ => decide
      | 3, _, _ => decide
      | 4, _, _ => decide
      | 5, _, _ => decide
    obtain ⟨hsh, hm32⟩ := hsh
    have HG := Lib.hid (fun b y w' (hx : RdP w' (.slice a V.length ca) V) hy hle => rcheckgroup_any (.slice a V.length ca) y V (natL (lst b V.length)) w' hx hy hl hle)
    have HLE := Lib.hid (rgrK_le V)
    generalize 2 ^ V.length = M at *
    go_enter Try.func36, Try.ntmps36
    go_wp2_with fail
    refine (HK.out _ HX0.out).mono ?_
    rintro e w2 ⟨rfl, hB2⟩
    have HB2 := Lib.hid hB2; clear hB2
    go_wp2_with fail
    go_loopw [4, 5, 6] (fun s4 i _ wr => ∃ (k : Nat) (v : Value), k ≤ M ∧ v = s4 ∧ i = .int .i64 k ∧ RdI wr .i64 v (natL (rgrK V k)) ∧ Below w.heap.size w wr) (fun _ i _ _ => M - (intOf i).toNat)
    case atStart => exact ⟨0, _, Nat.zero_le _, rfl, rfl, rdI_nil _ _, HB2.out⟩
    case round =>
      obtain ⟨k, v, hk, rfl, rfl, hv, hB⟩ := hrel
      obtain ⟨av, cv, rfl, hcv, hcv2, _⟩ := hv.form
      have hbl := HLE.out k
      rw [natL_len] at hv hcv ⊢
      have HVV := Lib.hid hv; have HB := Lib.hid hB
      clear hv hB hcv2
      by_cases hlt : k < M
      · have hxl := lst_le k V.length
        have HS : Hid (rgrK V (k + 1) = if btr2 V (lst k V.length) (rgrK V k) then lst k V.length else rgrK V k) := Lib.hid rfl
        unfold btr2 at HS
        have HG2 := Lib.hid (fun y w' hx hy => HG.out k y w' hx hy (by rw [natL_len]; omega))
        have HLI := Lib.hid (fun w' => listed_any k V.length w' (by omega))
        have HBF := Lib.hid (fun x y w' hx hy he hle => before_any x y (natL (lst k V.length)) (natL (rgrK V k)) w' hx hy he hle)
        rw [natL_len, natL_len] at HBF
        generalize lst k V.length = g at *
        generalize rgrK V k = b at *
        generalize cgE V (natL g) = ce at *
        generalize befB (natL g) (natL b) = bf at *
        go_wp2_with fail
        refine (HLI.out _).mono ?_
        rintro e w3 ⟨xv, rfl, hxv, hB3⟩
        obtain ⟨ax, cx, rfl, hcx, hcx2, _⟩ := hxv.form
        rw [natL_len] at hxv hcx ⊢
        have HXV := Lib.hid hxv; have HB3 := Lib.hid hB3
        clear hxv hB3 hcx2
        go_wp2_with fail
        refine (HG2.out _ _ (HX0.out.mono (btr HB.out HB3.out)) HXV.out).mono ?_
        rintro e w4 ⟨rfl, hB4⟩
        have HB4 := Lib.hid (btr HB.out (btr HB3.out hB4))
        have HXV4 := Lib.hid (HXV.out.mono hB4)
        have HVV4 := Lib.hid (HVV.out.mono (btr HB3.out hB4))
        clear hB4
        by_cases hce : ce = 0
        · subst hce
          rcases Nat.lt_trichotomy b.length g.length with hbg | hbg | hbg
          · have t1 : decide ((b.length : Int) < (g.length : Int)) = true := decide_eq_true (by omega)
            have t2 : decide (b.length < g.length) = true := decide_eq_true hbg
            rw [t2] at HS
            go_wp2_with fail
            go_roundw
            case rel => exact ⟨k + 1, _, by omega, rfl, by go_num, by rw [HS.out]; exact HXV4.out, HB4.out⟩
            case measure => simp [intOf]; omega
          · have t1 : decide ((b.length : Int) < (g.length : Int)) = false := decide_eq_false (by omega)
            have t2 : decide (b.length < g.length) = false := decide_eq_false (by omega)
            have t3 : ((g.length : Int) == (b.length : Int)) = true := by simp; omega
            have t4 : (g.length == b.length) = true := by simp; omega
            rw [t2, t4] at HS
            have HBF2 := Lib.hid (HBF.out _ _ _ HXV4.out HVV4.out hbg.symm (by omega))
            have HE := Lib.hid hbg; clear hbg
            cases bf
            · go_wp2_with fail
              refine HBF2.out.mono ?_
              rintro e w5 ⟨rfl, hB5⟩
              go_wp2_with fail
              go_roundw
              case rel => exact ⟨k + 1, _, by omega, rfl, by go_num, by rw [HS.out]; exact HVV4.out.mono hB5, btr HB4.out hB5⟩
              case measure => simp [intOf]; omega
            · go_wp2_with fail
              refine HBF2.out.mono ?_
              rintro e w5 ⟨rfl, hB5⟩
              go_wp2_with fail
              go_roundw
              case rel => exact ⟨k + 1, _, by omega, rfl, by go_num, by rw [HS.out]; exact HXV4.out.mono hB5, btr HB4.out hB5⟩
              case measure => simp [intOf]; omega
          · have t1 : decide ((b.length : Int) < (g.length : Int)) = false := decide_eq_false (by omega)
            have t2 : decide (b.length < g.length) = false := decide_eq_false (by omega)
            have t3 : ((g.length : Int) == (b.length : Int)) = false := by simp; omega
            have t4 : (g.length == b.length) = false := by simp; omega
            rw [t2, t4] at HS
            go_wp2_with fail
            go_roundw
            case rel => exact ⟨k + 1, _, by omega, rfl, by go_num, by rw [HS.out]; exact HVV4.out, HB4.out⟩
            case measure => simp [intOf]; omega
        · have t1 : (ce == 0) = false := by simpa using hce
          rw [t1] at HS
          clear hce
          go_wp2_with fail
          go_roundw
          case rel => exact ⟨k + 1, _, by omega, rfl, by go_num, by rw [HS.out]; exact HVV4.out, HB4.out⟩
          case measure => simp [intOf]; omega
      · have hkl : k = M := by omega
        go_wp2_with fail
        go_ret2
        exact ⟨_, rfl, by rw [← hkl]; exact HVV.out, HB.out⟩
  · rw [show rgrN V = [] from by unfold rgrN; rw [if_neg hc]]
    have hcb : (checkP V != 0) = true := by simpa using hc
    have hce : (checkP V == 0) = false := by simpa using hc
    clear hc
    generalize checkP V = q at *
    go_enter Try.func36, Try.ntmps36
    go_wp2_with fail
    refine (HK.out _ HX0.out).mono ?_
    rintro e w2 ⟨rfl, hB2⟩
    go_wp2_with fail
    refine (HK.out _ (HX0.out.mono hB2)).mono ?_
    rintro e w3 ⟨rfl, hB3⟩
    go_wp2_with fail
    go_ret2
    exact ⟨_, rfl, rdI_nil _ _, btr hB2 hB3⟩
end Go.Proofs.Ytooddicegkiiiaa
