/- The document's CheckPins, IsTime, At, Sounds, Clashes. -/
import Derived.Test.YtooddicegkiiiaaX6
namespace Go.Proofs.Ytooddicegkiiiaa
open Go.RowKit Go.Shelf

theorem oddP_iff {v : Int × Int} : oddP v = decide (v.1 < 1 ∨ 200 < v.1 ∨ v.2 < 0 ∨ v.1 ≤ v.2) := by
  rw [Bool.eq_iff_iff]; simp [oddP, outB]; omega

set_option maxRecDepth 100000 in
set_option maxHeartbeats 1000000 in
theorem rcheck_any (x : Value) (V : List (Int × Int)) (w : World) (hx0 : RdP w x V) (hl : V.length ≤ 1000) :
    Calls Try.prog 23 #[x] w fun e w' => e = .returned (.int .i64 (checkP V)) ∧ Below w.heap.size w w' := by
  obtain ⟨a, ca, rfl, _, hca2, hx⟩ := hx0.form
  clear hx0 hca2
  by_cases hp : V.length < 1 ∨ 5 < V.length
  · have e : checkP V = 6 := by unfold checkP; rw [if_pos (by omega)]
    rw [e]; clear e
    by_cases h1 : V.length < 1
    · go_enter Try.func23, Try.ntmps23
      go_wp2_with fail
      go_ret
      exact ⟨rfl, bz _⟩
    · have h3 : 5 < V.length := by omega
      clear hp
      go_enter Try.func23, Try.ntmps23
      go_wp2_with fail
      go_ret
      exact ⟨rfl, bz _⟩
  · have e : checkP V = if V.any oddP then 3 else 0 := by unfold checkP; rw [if_neg (by omega)]
    rw [e]; clear e
    have hp1 : ¬ V.length < 1 := by omega
    have hp3 : ¬ 5 < V.length := by omega
    have hp4 : V.length ≤ 5 := by omega
    clear hp
    generalize hr : (if V.any oddP then (3 : Int) else 0) = r
    have HR := Lib.hid hr; clear hr
    go_enter Try.func23, Try.ntmps23
    go_wp2_with fail
    go_loopw [3] (fun i wr => ∃ k : Nat, k ≤ V.length ∧ i = .int .i64 k ∧ (∀ i, i < k → oddP (pin V i) = false) ∧ Below w.heap.size w wr) (fun i _ => V.length - (intOf i).toNat)
    case atStart => exact ⟨0, Nat.zero_le _, rfl, by intro i h1; omega, bz _⟩
    case round =>
      obtain ⟨k, hk, rfl, ht, hB⟩ := hrel
      have HT := Lib.hid ht; clear ht
      by_cases hlt : k < V.length
      · obtain ⟨bx, ox, rfl, hbx, hcx⟩ := hx (by omega)
        have gx := (hB.cell (p := ⟨bx, ox + k * 2, none⟩) hbx).trans (hcx k hlt).1
        have gy := (hB.cell (p := ⟨bx, ox + k * 2 + 1, none⟩) hbx).trans (hcx k hlt).2
        change wr.cell? _ = some (Value.int .i64 (pin V k).1) at gx
        change wr.cell? _ = some (Value.int .i64 (pin V k).2) at gy
        have fin : oddP (pin V k) = true → (3 : Int) = r := fun h => by
          rw [← HR.out, if_pos]
          rw [List.any_eq_true]
          exact ⟨_, pin_mem hlt, h⟩
        have FIN := Lib.hid fin; clear fin
        clear hx hcx
        generalize hq : pin V k = q at *
        have HQ := Lib.hid hq; clear hq
        obtain ⟨q1, q2⟩ := q
        simp only at gx gy
        have HO := Lib.hid (oddP_iff (v := (q1, q2)))
        by_cases b1 : q1 < 1
        · have d1 : decide (q1 < 1) = true := by simpa using b1
          have HB := Lib.hid hB; clear hB
          go_wp2_with fail
          go_quiet (fail)
          go_wp2_with fail
          go_ret
          exact ⟨ret_int (FIN.out (by rw [HO.out]; simp; omega)), Below.drewN' _ HB.out⟩
        · have d1 : decide (q1 < 1) = false := by simp; omega
          by_cases b2 : 200 < q1
          · have d2 : decide (200 < q1) = true := by simpa using b2
            have HB := Lib.hid hB; clear hB
            go_wp2_with fail
            go_quiet (fail)
            go_wp2_with fail
            go_ret
            exact ⟨ret_int (FIN.out (by rw [HO.out]; simp; omega)), Below.drewN' _ HB.out⟩
          · have d2 : decide (200 < q1) = false := by simp; omega
            by_cases b3 : q2 < 0
            · have d3 : decide (q2 < 0) = true := by simpa using b3
              have HB := Lib.hid hB; clear hB
              go_wp2_with fail
              go_quiet (fail)
              go_wp2_with fail
              go_ret
              exact ⟨ret_int (FIN.out (by rw [HO.out]; simp; omega)), Below.drewN' _ HB.out⟩
            · have d3 : decide (q2 < 0) = false := by simp; omega
              by_cases b4 : q1 ≤ q2
              · have d4 : decide (q1 ≤ q2) = true := by simpa using b4
                have HB := Lib.hid hB; clear hB
                go_wp2_with fail
                go_quiet (fail)
                go_wp2_with fail
                go_ret
                exact ⟨ret_int (FIN.out (by rw [HO.out]; simp; omega)), Below.drewN' _ HB.out⟩
              · have d4 : decide (q1 ≤ q2) = false := by simp; omega
                have HB := Lib.hid hB; clear hB
                go_wp2_with fail
                go_quiet (fail)
                go_wp2_with fail
                go_roundw
                case rel =>
                  refine ⟨k + 1, by omega, by go_num, fun i h1 => ?_, Below.drewN' _ HB.out⟩
                  by_cases e : i = k
                  · subst e; rw [HQ.out, HO.out]; simp; omega
                  · exact HT.out i (by omega)
                case measure => simp [intOf]; omega
      · go_wp2_with fail
        go_ret
        refine ⟨ret_int ?_, hB⟩
        rw [← HR.out, if_neg]
        rw [Bool.not_eq_true, List.any_eq_false]
        intro v hv
        obtain ⟨i, hi, rfl⟩ := List.getElem_of_mem hv
        have := HT.out i (by omega)
        simpa [pin, hi] using this

set_option maxRecDepth 100000 in
theorem istime_any (t : Int) (w : World) : Calls Try.prog 58 #[.int .i64 t] w fun e w' => e = .returned (.bool (!outB 0 1000000000000 t)) ∧ w = w' := by
  by_cases h1 : t < 0
  · rw [show outB 0 1000000000000 t = true by simp [outB]; omega]
    go_enter Try.func58, Try.ntmps58
    go_wp2_with fail
    go_ret
    exact ⟨rfl, rfl⟩
  · by_cases h2 : 1000000000000 < t
    · rw [show outB 0 1000000000000 t = true by simp [outB]; omega]
      go_enter Try.func58, Try.ntmps58
      go_wp2_with fail
      go_ret
      exact ⟨ret_bool (by simp; omega), rfl⟩
    · rw [show outB 0 1000000000000 t = false by simp [outB]; omega]
      go_enter Try.func58, Try.ntmps58
      go_wp2_with fail
      go_ret
      exact ⟨rfl, rfl⟩

/-- The pins that sound, as the document says. -/
theorem snd_iff {x : Int × Int} {t : Int} (h0 : 0 ≤ x.2) (h1 : x.2 < x.1) : (t % x.1 == x.2) = sndB x t := by
  unfold sndB
  rw [Bool.eq_iff_iff, beq_iff_eq, decide_eq_true_eq, mod_iff h0 h1, Int.dvd_iff_emod_eq_zero]

def AtOk (V : List (Int × Int)) (t : Int) (w : World) (e : Ending) (w' : World) : Prop := ∃ v, e = .returned v ∧ w'.ownsRow w.heap.size 3 1 v (sndK V t V.length).length ((sndK V t V.length).map (Value.int .i64)) ∧ Below w.heap.size w w'
set_option maxRecDepth 100000 in
set_option maxHeartbeats 1000000 in
theorem rat_any (x : Value) (V : List (Int × Int)) (t : Int) (w : World) (hx0 : RdP w x V) (hV : OkV V) (hl : V.length ≤ 5) (t0 : 0 ≤ t) (t1 : t < 4611686018427387904) :
    Calls Try.prog 49 #[x, .int .i64 t] w (AtOk V t w) := by
  obtain ⟨a, ca, rfl, _, hca2, hx⟩ := hx0.form
  clear hx0 hca2
  go_enter Try.func49, Try.ntmps49
  go_wp2_with fail
  go_loopw [5, 6] (fun s5 s6 wr => ∃ (k : Nat) (o : Value), k ≤ V.length ∧ o = s5 ∧ s6 = .int .i64 k ∧ Below w.heap.size w wr ∧ wr.ownsRow w.heap.size 3 1 o (sndK V t k).length ((sndK V t k).map (Value.int .i64))) (fun _ s6 _ => V.length - (intOf s6).toNat)
  case atStart => exact ⟨0, _, Nat.zero_le _, rfl, rfl, bz _, World.ownsRow_nil _ _ _ _⟩
  case round =>
    obtain ⟨k, o, hk, rfl, rfl, hB, hor⟩ := hrel
    have hkl := sndK_le V t k
    by_cases hlt : k < V.length
    · obtain ⟨bx, ox, rfl, hbx, hcx⟩ := hx (by omega)
      have gx := (hB.cell (p := ⟨bx, ox + k * 2, none⟩) hbx).trans (hcx k hlt).1
      have gy := (hB.cell (p := ⟨bx, ox + k * 2 + 1, none⟩) hbx).trans (hcx k hlt).2
      change wr.cell? _ = some (Value.int .i64 (pin V k).1) at gx
      change wr.cell? _ = some (Value.int .i64 (pin V k).2) at gy
      obtain ⟨p1, p2, p3, p4⟩ := hV.at hlt
      have hst := sndK_succ V t k
      rw [← snd_iff p3 p4] at hst
      obtain ⟨ao, co, rfl, _, _⟩ := owns_clip hor
      have HST := Lib.hid hst; have HOR := Lib.hid hor; have HB := Lib.hid hB
      clear hst hor hB hx hcx
      generalize pin V k = q at *
      obtain ⟨q1, q2⟩ := q
      simp only at p1 p2 p3 p4 gx gy HST
      have w1 : IntKind.i64.wrap (t.tmod q1) = t % q1 := by
        rw [Int.tmod_eq_emod_of_nonneg t0]
        have := Int.emod_nonneg t (b := q1) (by omega)
        have := Int.emod_lt_of_pos t (b := q1) (by omega)
        exact IntWalk.i64_in _ (by omega)
      generalize hnn : (sndK V t k).length = m at *
      have HNN := Lib.hid hnn; clear hnn
      cases hs : (t % q1 == q2)
      · rw [hs] at HST
        have hs' := hs
        go_wp2_with fail
        go_quiet (fail)
        go_wp2_with fail
        go_roundw
        case rel =>
          refine ⟨k + 1, _, by omega, rfl, by go_num, Below.drewN' _ HB.out, ?_⟩
          have h := HST.out
          simp only [Bool.false_eq_true, if_false] at h
          rw [h, HNN.out]; exact owns_kept HOR.out (Below.drewN' _ (bz _))
        case measure => simp [intOf]; omega
      · rw [hs] at HST
        go_wp2_with fail
        go_quiet (fail)
        have hor2 : (wr.drewN nq).ownsRow w.heap.size 3 1 (.slice ao m co) (sndK V t k).length ((sndK V t k).map (Value.int .i64)) := by rw [HNN.out]; exact owns_kept HOR.out (Below.drewN' _ (bz _))
        have hbz : w.heap.size ≤ (wr.drewN nq).heap.size := HB.out.size
        have hl1 : (sndK V t k).length ≤ 1000 := by rw [HNN.out]; omega
        have HOR2 := Lib.hid hor2
        go_wp2_with (at_builtin; refine wpList_append_num rfl _ _ rfl Try.underlying25 num3 HOR2.out (k : Int) rfl rfl rfl hl1 hbz ?_)
        intro v' w' hown hgrow
        have HBN := Lib.hid (append_below (bal (Below.drewN' nq HB.out) _) (HOR2.out.alloc _) hgrow (Nat.le_refl _))
        have HOWN := Lib.hid hown
        clear hown hgrow
        go_wp2_with fail
        go_roundw
        case rel =>
          refine ⟨k + 1, v', by omega, rfl, by go_num, HBN.out, ?_⟩
          have h := HST.out
          simp only [if_true] at h
          rw [h, List.length_append, List.map_append]; exact HOWN.out
        case measure => simp [intOf]; omega
    · have hkl2 : k = V.length := by omega
      rw [hkl2] at hor
      have HOR := Lib.hid hor; clear hor hkl2 hkl
      go_wp2_with fail
      go_ret
      exact ⟨_, rfl, HOR.out, hB⟩
end Go.Proofs.Ytooddicegkiiiaa
