/- bench.needless: whether a valve exchanges nothing; valid rows. -/
import Derived.Test.YtdnaipiiponhpaaV9
namespace Go.Proofs.Ytdnaipiiponhpaa
open Go.RowKit Go.Shelf
attribute [local go_sem] Oper.semAt_some

set_option maxRecDepth 100000 in
set_option maxHeartbeats 400000 in
theorem patterns_any (bb : Nat) (w : World) :
    Calls Try.prog 65 #[.pointer (some ⟨bb, 0, none⟩)] w fun e w' => e = .returned (.func (.func 80) #[] #[.pointer (some ⟨w.heap.size, 0, none⟩)]) ∧ w.alloc (.cells #[.pointer (some ⟨bb, 0, none⟩)] 69) = w' := by
  go_enter Try.func65, Try.ntmps65
  go_wp2
  go_ret
  exact ⟨rfl, rfl⟩

/-- A valve exchanges nothing. -/
def needlessB (p : Nat) (V : List (Int × Int)) (v : Nat) : Bool := (lanes p).all fun l => decide (runV (V.take (v + 1)) l = runV (V.take v) l)

set_option maxRecDepth 100000 in
set_option maxHeartbeats 1000000 in
theorem bneedless_any (bb p : Nat) (x : Value) (V : List (Int × Int)) (v : Nat) (w : World) (hb : IsBench w bb p x) (hx : RdP w x V) (hV : OkRow p V) (hv : v < V.length) :
    Calls Try.prog 68 #[.pointer (some ⟨bb, 0, none⟩), .int .i64 v] w fun e w' => e = .returned (.bool (needlessB p V v)) ∧ Below w.heap.size w w' := by
  have hp1 := hV.p1; have hp8 := hV.p8; have h40 := hV.len
  refine callsIn_wide (n := 10).1 ?_
  refine callsIn_of_wp_marks Try.func68 rfl trivial ?_ rfl
  simp only [Try.ntmps68, List.size_toArray, List.length_cons, List.length_nil, Nat.reduceAdd, Nat.reduceSub, Array.replicate_succ, Array.replicate_zero, List.push_toArray, List.append_toArray, List.nil_append, List.cons_append]
  gi_wp2_with fail
  refine ⟨trivial, callsIn_wide.2 ((patterns_any _ _).mono ?_)⟩
  rintro e w4 ⟨rfl, hw4⟩
  have hB0 : Below w.heap.size w w4 := by rw [← hw4]; exact bal (bal (bal (bal (bz _) _) _) _) _
  have hsz : w.heap.size + 4 ≤ w4.heap.size := by rw [← hw4]; simp
  have c0 : w4.cell? ⟨w.heap.size, 0, none⟩ = some (.pointer (some ⟨bb, 0, none⟩)) := by rw [← hw4]; exact cal _ (cal _ (cal _ (cnew rfl rfl)))
  have c1 : w4.cell? ⟨w.heap.size + 1, 0, none⟩ = some (.int .i64 v) := by rw [← hw4]; exact cal _ (cal _ (cnew (by simp) rfl))
  have c2 : w4.cell? ⟨w.heap.size + 2, 0, none⟩ = some (.bool false) := by rw [← hw4]; exact cal _ (cnew (by simp) rfl)
  have f2 : w4.frozen? ⟨w.heap.size + 2, 0, none⟩ = false := by rw [← hw4]; exact fal _ (fnew (by simp)) (by simp)
  have c3 : w4.cell? ⟨w.heap.size + 3, 0, none⟩ = some (.pointer (some ⟨bb, 0, none⟩)) := by rw [← hw4]; exact cnew (by simp) rfl
  simp only [World.size_alloc]
  clear hw4
  have hb4 := hb.mono hB0
  have hx4 := hx.mono hB0
  gi_wp2
  refine range_law (gf := 80) (lb := #[.pointer (some ⟨w.heap.size + 3, 0, none⟩)]) rfl (enters_of Try.func80 (by kernel_rfl) rfl) (patterns_yields _ (w.heap.size + 3) bb p x (by omega) (by omega)) (fun _ => rfl)
    (fun pre W => Below w4.heap.size w4 W ∧ ∀ l ∈ pre, runV (V.take (v + 1)) l = runV (V.take v) l)
    (fun c pre W => c = .ret ∧ needlessB p V v = false ∧ Below w.heap.size w W ∧ W.cell? ⟨w.heap.size + 2, 0, none⟩ = some (.bool false))
    (fun s => (abides_below (Nat.le_refl _) (Nat.le_refl _)).and abides_pure)
    (fun c s => abides_pure.and (abides_pure.and ((abides_below (by omega) (by omega)).and (abides_cell (by simp; omega)))))
    (fun s W1 h => ⟨(h.1.cell (p := ⟨w.heap.size + 3, 0, none⟩) (by simp; omega)).trans c3, hb4.mono h.1⟩)
    ⟨bz _, by simp⟩ ?round ?done ?stop
  case round =>
    rintro l pre lx W ⟨hB, hpre⟩ hpx hszW
    have hll : lx.length = 8 := by
      obtain ⟨ys, e⟩ := hpx
      have : lx ∈ lanes p := by rw [← e]; simp
      simp only [lanes, List.mem_map] at this
      obtain ⟨t, _, rfl⟩ := this
      exact laneOf_length _ _
    have HLL := Lib.hid hll; clear hll
    have hz : (Try.prog.info? 75).map (·.size) = some 8 := by kernel_rfl
    have HZ := Lib.hid hz; clear hz
    have hone : (arrI lx).all (·.oneCell') = true := by simp [arrI, Value.oneCell']
    have HONE := Lib.hid hone; clear hone
    gi_wp2_with (refine inStoreRow (fun _ => trivial) rfl 75 (.tmp 5) (.tmp 9) rfl W.heap.size (arrI lx) rfl rfl 75 _ (heap_alloc_new _ _) (by rw [arrI_size, HLL.out]; exact HZ.out) (by rw [arrI_size, HLL.out]; rfl) HONE.out ?_)
    refine ⟨?_, fun W2 hg2 hs2 => ?_⟩
    · exact kf_box _ _ _ _ _
    obtain ⟨hl2, hz2, hB2, _⟩ := round_start (by omega) hg2 hs2
    have hB3 : Below w4.heap.size w4 W2 := hB.trans (hB2.mono (by omega))
    clear hg2 hs2
    have d0 := (hB3.cell (p := ⟨w.heap.size, 0, none⟩) (by simp; omega)).trans c0
    have d1 := (hB3.cell (p := ⟨w.heap.size + 1, 0, none⟩) (by simp; omega)).trans c1
    have hb2 := hb4.mono hB3
    have hx2 := hx4.mono hB3
    have HL2 := Lib.hid hl2; clear hl2
    gi_wp2_with (refine inLoadRow (fun _ => trivial) rfl 75 (.tmp 5) rfl W.heap.size rfl 75 (arrI lx) (0, 0) _ HL2.out Try.underlying75 rfl (by rw [arrI_size, HLL.out]; exact HZ.out) ?_)
    refine ⟨trivial, CallsIn.inRound l (callsIn_wide.2 ((run_any bb p x V lx v W2 hb2 hx2 (by omega) hV HLL.out).mono ?_))⟩
    rintro e w3 ⟨rfl, hB4⟩
    have e0 := (hB4.cell (p := ⟨w.heap.size, 0, none⟩) (World.block_lt_of_cell? W2 _ d0)).trans d0
    have e1 := (hB4.cell (p := ⟨w.heap.size + 1, 0, none⟩) (World.block_lt_of_cell? W2 _ d1)).trans d1
    have hz4 := hB4.size
    have e2 := (hB4.block W.heap.size (by omega)).trans HL2.out
    have E2 := Lib.hid e2; clear e2
    have HLR := Lib.hid (show (runV (V.take v) lx).length = 8 by rw [runV_length]; exact HLL.out)
    have hone : (arrI (runV (V.take v) lx)).all (·.oneCell') = true := by simp [arrI, Value.oneCell']
    have HONE2 := Lib.hid hone; clear hone
    gi_wp2_with (refine inStoreRow (fun _ => trivial) rfl 75 (.tmp 6) (.tmp 13) rfl w3.heap.size (arrI (runV (V.take v) lx)) rfl rfl 75 _ (heap_alloc_new _ _) (by rw [arrI_size, HLR.out]; exact HZ.out) (by rw [arrI_size, HLR.out]; rfl) HONE2.out ?_)
    generalize hw5 : World.setRow _ _ _ = w5
    have g0 : Below w3.heap.size w3 w5 := by rw [← hw5]; exact below_box _ _ _ _
    have g1 : w5.heap[w3.heap.size]? = some (.cells (arrI (runV (V.take v) lx)) 75 (0, 0)) := by rw [← hw5]; exact heap_box _ _ _ _
    clear hw5
    have k0 := (g0.cell (p := ⟨w.heap.size, 0, none⟩) (World.block_lt_of_cell? w3 _ e0)).trans e0
    have k1 := (g0.cell (p := ⟨w.heap.size + 1, 0, none⟩) (World.block_lt_of_cell? w3 _ e1)).trans e1
    have k2 := (g0.block W.heap.size (by omega)).trans E2.out
    have K2 := Lib.hid k2; have K3 := Lib.hid g1; clear k2 g1
    have hb5 := (hb2.mono hB4).mono g0
    have hx5 := (hx2.mono hB4).mono g0
    have hwr : IntKind.i64.wrap ((v : Int) + 1) = (v : Int) + 1 := IntWalk.i64_in _ (by omega)
    have hC : ∀ l' : Later w5, Calls Try.prog 58 #[.pointer (some ⟨bb, 0, none⟩), .agg (arrI lx), .int .i64 ((v : Int) + 1)] l'.val fun e w'' => e = .returned (.agg (arrI (runV (V.take (v + 1)) lx))) ∧ ∃ x : Later w5, w'' = x.val := by
      intro l'
      have := run_any bb p x V lx (v + 1) l'.val (hb5.mono l'.le) (hx5.mono l'.le) (by omega) hV HLL.out
      rw [show ((v + 1 : Nat) : Int) = (v : Int) + 1 by omega] at this
      exact Calls.later this
    have HC := Lib.hid hC; clear hC
    have hL := @Later.cell w5
    have l0 := World.block_lt_of_cell? w5 _ k0
    have l1 := World.block_lt_of_cell? w5 _ k1
    simp only at l0 l1
    obtain ⟨i3, hi3, _⟩ := info_parts Try.info2
    have hne : ∀ w' : World, (binOp .neq 75 (.agg (arrI (runV (V.take (v + 1)) lx))) (.agg (arrI (runV (V.take v) lx)))).run Try.prog w' = .ok (.bool (!decide (runV (V.take (v + 1)) lx = runV (V.take v) lx))) w' := fun w' => run_neq_arr (P := Try.prog) w' 75 2 8 .i64 i3 Try.underlying75 hi3 (by kernel_rfl) Try.underlying2 (runV (V.take (v + 1)) lx) (runV (V.take v) lx) (by rw [runV_length]; exact HLL.out) HLR.out
    refine in_region_later (r := some l) (by kernel_rfl) (by kernel_rfl) (by rfl) ?_
    repeat (first
      | (refine wpQuiet_load_row rfl 75 (.tmp 5) rfl W.heap.size rfl 75 (arrI lx) (0, 0) _ K2.out Try.underlying75 rfl (by rw [arrI_size, HLL.out]; exact HZ.out) ?_)
      | (refine wpQuiet_load_row rfl 75 (.tmp 6) rfl w3.heap.size rfl 75 (arrI (runV (V.take v) lx)) (0, 0) _ K3.out Try.underlying75 rfl (by rw [arrI_size, HLR.out]; exact HZ.out) ?_)
      | (quiet_step ((go_at_call 58; exact HC.out _))))
    refine wpQuiet_nil ?_
    intro w6 hw6
    have hL6 : Below w5.heap.size w5 w6 := by obtain ⟨⟨_, h⟩, rfl⟩ := hw6; exact h
    clear hw6
    have hB6 : Below W2.heap.size W2 w6 := btr (btr hB4 g0) hL6
    have r2 : w6.cell? ⟨w.heap.size + 1 + 1, 0, none⟩ = some (.bool false) := (hB6.cell (by simp; omega)).trans ((hB3.cell (by simp; omega)).trans c2)
    have r3 : w6.frozen? ⟨w.heap.size + 1 + 1, 0, none⟩ = false := (hB6.frozen (by simp; omega)).trans ((hB3.frozen (by simp; omega)).trans f2)
    generalize hq : decide (runV (V.take (v + 1)) lx = runV (V.take v) lx) = q
    have HQ := Lib.hid hq; clear hq hne
    have HR2 := Lib.hid r2; have HR3 := Lib.hid r3; have HX := Lib.hid hpx; have HP := Lib.hid hpre
    have HLX : Hid (lx ∈ lanes p) := by obtain ⟨ys, e⟩ := hpx; rw [← e]; exact Lib.hid (by simp)
    clear r2 r3 hpx hpre
    have R2 := HR2.out; have R3 := HR3.out
    cases q
    · gi_wp2
      refine ⟨(KF.of_below hB6).set (by simp; omega) _, rfl, ?_, bset (btr (btr hB0 hB3) hB6) (by simp; omega) _, World.cell?_setCell_same' _ _ _ (by rw [R2]; rfl)⟩
      unfold needlessB
      rw [← Bool.not_eq_true, List.all_eq_true]
      intro h
      have := h lx HLX.out
      rw [HQ.out] at this
      cases this
    · gi_wp2
      refine ⟨KF.of_below hB6, hB3.trans (hB6.mono (by omega)), fun l' hl' => ?_⟩
      rw [List.mem_append, List.mem_singleton] at hl'
      rcases hl' with h | h
      · exact HP.out l' h
      · subst h; exact of_decide_eq_true HQ.out
  case done =>
    rintro W ⟨hB, hpre⟩ hD
    have HD := Lib.hid hD; have HP := Lib.hid hpre; clear hD hpre
    have R2 : W.cell? ⟨w.heap.size + 1 + 1, 0, none⟩ = some (.bool false) := (hB.cell (by simp; omega)).trans c2
    have R3 : W.frozen? ⟨w.heap.size + 1 + 1, 0, none⟩ = false := (hB.frozen (by simp; omega)).trans f2
    gi_wp2
    have hD2 : (W.setCell ⟨w.heap.size + 1 + 1, 0, none⟩ (.bool true)).heap[w4.heap.size]? = some (.deferred (some [])) := (Below.heap_setCell _ _ _ _ (by simp; omega)).trans HD.out
    refine ⟨by simp, .inl ⟨_, _, rfl, run_takeDeferred hD2, ?_⟩⟩
    have cX : ((W.setCell ⟨w.heap.size + 1 + 1, 0, none⟩ (.bool true)).putObj w4.heap.size (.deferred none)).cell? ⟨w.heap.size + 1 + 1, 0, none⟩ = some (.bool true) :=
      cell_put _ _ (World.cell?_setCell_same' _ _ _ (by rw [R2]; rfl)) (by simp; omega)
    have bX : Below w.heap.size w ((W.setCell ⟨w.heap.size + 1 + 1, 0, none⟩ (.bool true)).putObj w4.heap.size (.deferred none)) :=
      below_put (bset (btr hB0 hB) (by simp; omega) _) _ (by omega)
    generalize (W.setCell ⟨w.heap.size + 1 + 1, 0, none⟩ (.bool true)).putObj w4.heap.size (.deferred none) = X at *
    refine ⟨.bool true, results_cell rfl rfl (by go_simp), ?_, bX⟩
    have : needlessB p V v = true := by unfold needlessB; rw [List.all_eq_true]; intro l hl; exact decide_eq_true (HP.out l hl)
    rw [this]
  case stop =>
    rintro c pre W hpre ⟨rfl, hnb, hB, hc⟩ hD
    have HD := Lib.hid hD; have HNB := Lib.hid hnb; clear hD hnb
    gi_wp2
    refine ⟨by simp, .inl ⟨_, _, rfl, run_takeDeferred HD.out, ?_⟩⟩
    have cX : (W.putObj w4.heap.size (.deferred none)).cell? ⟨w.heap.size + 1 + 1, 0, none⟩ = some (.bool false) := cell_put _ _ hc (by simp; omega)
    have bX : Below w.heap.size w (W.putObj w4.heap.size (.deferred none)) := below_put hB _ (by omega)
    generalize W.putObj w4.heap.size (.deferred none) = X at *
    exact ⟨.bool false, results_cell rfl rfl (by go_simp), by rw [HNB.out], bX⟩
end Go.Proofs.Ytdnaipiiponhpaa
