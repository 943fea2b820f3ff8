/- times: the times at which all pins sound. -/
import Derived.Test.YtooddicegkiiiaaX3
import Derived.Test.YtooddicegkiiiaaRange1
namespace Go.Proofs.Ytooddicegkiiiaa
open Go.RowKit Go.Shelf
attribute [local go_sem] Oper.semAt_some

/-- The first one from f on. -/
def nextF (A B f : Int) : Int := if A < f then A + (f - A + B - 1) / B * B else A
set_option maxRecDepth 100000 in
set_option maxHeartbeats 1000000 in
theorem times_yields (n : Nat) (pk pf pa pb : Nat) (o : Bool) (A B f : Int) (W : World) (ck : W.cell? ⟨pk, 0, none⟩ = some (.bool o)) (cf : W.cell? ⟨pf, 0, none⟩ = some (.int .i64 f)) (ca : W.cell? ⟨pa, 0, none⟩ = some (.int .i64 A)) (cb : W.cell? ⟨pb, 0, none⟩ = some (.int .i64 B))
    (fa : W.frozen? ⟨pa, 0, none⟩ = false) (hA : o = true → 0 ≤ A ∧ A < B) (hB : B ≤ 320000000000) (hf : 0 ≤ f) (hf2 : f ≤ 1000000000000) :
    YieldsO n Try.prog 79 #[.pointer (some ⟨pk, 0, none⟩), .pointer (some ⟨pf, 0, none⟩), .pointer (some ⟨pa, 0, none⟩), .pointer (some ⟨pb, 0, none⟩)] (fun t => #[.int .i64 t]) (fun r => r = pa) o (nextF A B f) W := by
  intro l J Jx hJ hJx hY h0
  refine callsIn_of_wp Try.func79 rfl trivial ?_ rfl
  simp only [Try.ntmps79, List.size_toArray, List.length_cons, List.length_nil, Nat.reduceAdd, Nat.reduceSub, Array.replicate_succ, Array.replicate_zero, List.push_toArray, List.append_toArray, List.nil_append, List.cons_append]
  have zk := World.block_lt_of_cell? W _ ck
  have zf := World.block_lt_of_cell? W _ cf
  have za := World.block_lt_of_cell? W _ ca
  have zb := World.block_lt_of_cell? W _ cb
  simp only at zk zf za zb
  cases o
  · gi_wp2
    refine bodyPost_ret (results_none rfl _ _ _) rfl ?_
    exact ⟨⟨_, rfl⟩, h0⟩
  · obtain ⟨a0, a1⟩ := hA rfl
    replace hY := hY rfl
    by_cases hlt : A < f
    · have hnf : nextF A B f = A + (f - A + B - 1) / B * B := by unfold nextF; rw [if_pos hlt]
      rw [hnf] at hY
      clear hnf
      have q0 : 0 ≤ (f - A + B - 1) / B := Int.ediv_nonneg (by omega) (by omega)
      have q1 : (f - A + B - 1) / B ≤ f - A + B - 1 := Int.ediv_le_self _ (by omega)
      have q2 : 0 ≤ (f - A + B - 1) / B * B := Int.mul_nonneg q0 (by omega)
      have q3 : (f - A + B - 1) / B * B ≤ f - A + B - 1 := Int.ediv_mul_le _ (by omega)
      have w1 : IntKind.i64.wrap (f - A) = f - A := IntWalk.i64_in _ (by omega)
      have w2 : IntKind.i64.wrap (f - A + B) = f - A + B := IntWalk.i64_in _ (by omega)
      have w3 : IntKind.i64.wrap (f - A + B - 1) = f - A + B - 1 := IntWalk.i64_in _ (by omega)
      have w4 : IntKind.i64.wrap ((f - A + B - 1).tdiv B) = (f - A + B - 1) / B := by rw [Int.tdiv_eq_ediv_of_nonneg (by omega)]; exact IntWalk.i64_in _ (by omega)
      have w5 : IntKind.i64.wrap ((f - A + B - 1) / B * B) = (f - A + B - 1) / B * B := IntWalk.i64_in _ (by omega)
      have w6 : IntKind.i64.wrap (A + (f - A + B - 1) / B * B) = A + (f - A + B - 1) / B * B := IntWalk.i64_in _ (by omega)
      generalize hq : (f - A + B - 1) / B * B = q at *
      have hbb : ((B : Int) == 0) = false := by rw [beq_eq_false_iff_ne]; omega
      gi_wp2_with fail
      refine in_region_flow (r := none) [] [([0, 1, 2, 3, 4, 5, 6, 7, 8, 9, 10, 11], 12, false)] [] (by kernel_rfl) (by kernel_rfl) (by rfl) ?_
      intro wc hBc hh
      have d1 := (hBc.cell zf).trans cf
      have d2 := (hBc.cell za).trans ca
      have d3 := (hBc.cell zb).trans cb
      have d4 := (hBc.frozen za).trans fa
      have y1 : pf < wc.heap.size := Nat.lt_of_lt_of_le zf hBc.size
      have y2 : pa < wc.heap.size := Nat.lt_of_lt_of_le za hBc.size
      have y3 : pb < wc.heap.size := Nat.lt_of_lt_of_le zb hBc.size
      have hL := @Later.cell wc
      have HBc := Lib.hid hBc; have HH := Lib.hid hh
      clear hh hBc ck cf ca cb fa
      simp only [flowP, flow, pickL, List.getElem?_cons_succ, List.getElem?_cons_zero]
      refine wpQuiet_nil ?_
      repeat (go_big_quiet_step (fail))
      refine wpQuiet_nil ?_
      go_wp2
      refine seg_write ?_
      refine wpQuiet_nil ?_
      refine only_done ?_
      have hJ2 : J (wc.setCell ⟨pa, 0, none⟩ (.int .i64 (A + q))) := by
        refine hJ _ _ (some pa) (hJ _ _ none h0 (grown_of HBc.out) (fun r e => by cases e)) (grownBy_set wc _ _) (fun r e => by cases e; rfl)
      have hz2 : W.heap.size ≤ (wc.setCell ⟨pa, 0, none⟩ (.int .i64 (A + q))).heap.size := by simp; exact HBc.out.size
      have c2 : (wc.setCell ⟨pa, 0, none⟩ (.int .i64 (A + q))).cell? ⟨pa, 0, none⟩ = some (.int .i64 (A + q)) := World.cell?_setCell_same' _ _ _ (by rw [d2]; rfl)
      obtain ⟨fn, tmps, assign, body, hy, hR2⟩ := hY _ hJ2 hz2
      have HR2 := Lib.hid hR2
      clear hR2 hJ2 hz2 d1 d2 d3 d4 w1 w2 w3 w4 w5 w6
      generalize (wc.setCell ⟨pa, 0, none⟩ (.int .i64 (A + q))) = w5 at *
      gi_wp2_with fail
      refine wpIn_loop_rounds 1 ?_
      rw [roundsIn_succ]
      gi_wp2_with fail
      refine ⟨fun h => by simp [Fence.wide] at h, ?_⟩
      refine HR2.out.mono ?_
      rintro e W3 ⟨rfl, hJx3⟩
      gi_wp2
      exact bodyPost_end (results_none rfl _ _ _) rfl ⟨⟨_, rfl⟩, hJx3⟩
    · have hnf : nextF A B f = A := by unfold nextF; rw [if_neg hlt]
      rw [hnf] at hY
      clear hnf
      obtain ⟨fn, tmps, assign, body, hy, hR2⟩ := hY W h0 (Nat.le_refl _)
      gi_wp2_with fail
      refine wpIn_loop_rounds 1 ?_
      rw [roundsIn_succ]
      gi_wp2_with fail
      refine ⟨fun h => by simp [Fence.wide] at h, ?_⟩
      refine hR2.mono ?_
      rintro e W3 ⟨rfl, hJx3⟩
      gi_wp2
      exact bodyPost_end (results_none rfl _ _ _) rfl ⟨⟨_, rfl⟩, hJx3⟩
end Go.Proofs.Ytooddicegkiiiaa
