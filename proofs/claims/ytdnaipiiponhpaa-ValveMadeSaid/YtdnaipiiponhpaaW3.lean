/- bench.ends: whether a value of one place can come to another one; valid rows. -/
import Derived.Test.YtdnaipiiponhpaaW2
import Derived.Test.YtdnaipiiponhpaaRange2
namespace Go.Proofs.Ytdnaipiiponhpaa
open Go.RowKit Go.Shelf
attribute [local go_sem] Oper.semAt_some

/-- The first k numbers are doubled, and one more. -/
def oddly (k : Nat) (l : List Int) : List Int := l.mapIdx fun j v => if j < k then 1 + 2 * v else v
theorem oddly_length (k : Nat) (l : List Int) : (oddly k l).length = l.length := by simp [oddly]
theorem oddly_zero (l : List Int) : oddly 0 l = l := by
  apply List.ext_getElem
  · simp [oddly]
  · intro i h1 h2; simp [oddly]
theorem oddly_get (k : Nat) (l : List Int) : (oddly k l)[k]?.getD 0 = l[k]?.getD 0 := by
  by_cases h : k < l.length
  · simp [oddly, h]
  · simp [oddly, h]
theorem oddly_set (k : Nat) (l : List Int) : (oddly k l).set k (1 + 2 * l[k]?.getD 0) = oddly (k + 1) l := by
  apply List.ext_getElem
  · simp [oddly]
  · intro i h1 h2
    have hi : i < l.length := by simpa [oddly] using h2
    rw [List.getElem_set]
    by_cases e : k = i
    · subst e; simp [oddly, hi]
    · simp only [oddly, List.getElem_mapIdx, if_neg e]
      by_cases h : i < k
      · rw [if_pos h, if_pos (by omega)]
      · rw [if_neg h, if_neg (by omega)]
/-- A pattern with one middled place. -/
def middled (p place : Nat) (l : List Int) : List Int := (oddly p l).set place 2
theorem middled_length (p place : Nat) (l : List Int) : (middled p place l).length = l.length := by simp [middled, oddly_length]
/-- The value of a place can come to another one. -/
def endsB (p : Nat) (V : List (Int × Int)) (place at_ : Nat) : Bool := (lanes p).any fun l => (runV V (middled p place l))[at_]?.getD 0 == 2
theorem lane_bits {p : Nat} {l : List Int} (h : l ∈ lanes p) (k : Nat) : 0 ≤ l[k]?.getD 0 ∧ l[k]?.getD 0 ≤ 1 := by
  simp only [lanes, List.mem_map] at h
  obtain ⟨t, _, rfl⟩ := h
  unfold laneOf
  by_cases hk : k < 8
  · simp only [List.getElem?_map, List.getElem?_range hk, Option.map_some, Option.getD_some]
    split <;> omega
  · simp [hk]
theorem run_index8 (l : List Int) (hl : l.length = 8) (k : Nat) (hk : k < 8) (w : World) : (Instr.index 75 (.agg (arrI l)) (.int .i64 (k : Int))).run Try.prog w = .ok (.int .i64 (l[k]?.getD 0)) w := by
  match l, hl with
  | [a0, a1, a2, a3, a4, a5, a6, a7], _ =>
    match k, hk with
    | 0, _ => show (Instr.index 75 (.agg (arrI [a0, a1, a2, a3, a4, a5, a6, a7])) (.int .i64 0)).run Try.prog w = .ok (.int .i64 a0) w; kernel_rfl
    | 1, _ => show (Instr.index 75 (.agg (arrI [a0, a1, a2, a3, a4, a5, a6, a7])) (.int .i64 1)).run Try.prog w = .ok (.int .i64 a1) w; kernel_rfl
    | 2, _ => show (Instr.index 75 (.agg (arrI [a0, a1, a2, a3, a4, a5, a6, a7])) (.int .i64 2)).run Try.prog w = .ok (.int .i64 a2) w; kernel_rfl
    | 3, _ => show (Instr.index 75 (.agg (arrI [a0, a1, a2, a3, a4, a5, a6, a7])) (.int .i64 3)).run Try.prog w = .ok (.int .i64 a3) w; kernel_rfl
    | 4, _ => show (Instr.index 75 (.agg (arrI [a0, a1, a2, a3, a4, a5, a6, a7])) (.int .i64 4)).run Try.prog w = .ok (.int .i64 a4) w; kernel_rfl
    | 5, _ => show (Instr.index 75 (.agg (arrI [a0, a1, a2, a3, a4, a5, a6, a7])) (.int .i64 5)).run Try.prog w = .ok (.int .i64 a5) w; kernel_rfl
    | 6, _ => show (Instr.index 75 (.agg (arrI [a0, a1, a2, a3, a4, a5, a6, a7])) (.int .i64 6)).run Try.prog w = .ok (.int .i64 a6) w; kernel_rfl
    | 7, _ => show (Instr.index 75 (.agg (arrI [a0, a1, a2, a3, a4, a5, a6, a7])) (.int .i64 7)).run Try.prog w = .ok (.int .i64 a7) w; kernel_rfl

set_option maxRecDepth 100000 in
set_option maxHeartbeats 1000000 in
theorem bends_any (bb p : Nat) (x : Value) (V : List (Int × Int)) (place at_ : Nat) (w : World) (hb : IsBench w bb p x) (hx : RdP w x V) (hV : OkRow p V) (hpl : place < p) (hat : at_ < p) :
    Calls Try.prog 73 #[.pointer (some ⟨bb, 0, none⟩), .int .i64 place, .int .i64 at_] w fun e w' => e = .returned (.bool (endsB p V place at_)) ∧ Below w.heap.size w w' := by
  have hp1 := hV.p1; have hp8 := hV.p8; have h40 := hV.len
  refine callsIn_wide (n := 10).1 ?_
  refine callsIn_of_wp_marks Try.func73 rfl trivial ?_ rfl
  simp only [Try.ntmps73, List.size_toArray, List.length_cons, List.length_nil, Nat.reduceAdd, Nat.reduceSub, Array.replicate_succ, Array.replicate_zero, List.push_toArray, List.append_toArray, List.nil_append, List.cons_append]
  gi_wp2_with fail
  refine ⟨trivial, callsIn_wide.2 ((patterns_any _ _).mono ?_)⟩
  rintro e w4 ⟨rfl, hw4⟩
  have hB0 : Below w.heap.size w w4 := by rw [← hw4]; exact bal (bal (bal (bal (bal (bz _) _) _) _) _) _
  have hsz : w.heap.size + 5 ≤ w4.heap.size := by rw [← hw4]; simp
  have c0 : w4.cell? ⟨w.heap.size, 0, none⟩ = some (.pointer (some ⟨bb, 0, none⟩)) := by rw [← hw4]; exact cal _ (cal _ (cal _ (cal _ (cnew rfl rfl))))
  have c1 : w4.cell? ⟨w.heap.size + 1, 0, none⟩ = some (.int .i64 place) := by rw [← hw4]; exact cal _ (cal _ (cal _ (cnew (by simp) rfl)))
  have c2 : w4.cell? ⟨w.heap.size + 2, 0, none⟩ = some (.int .i64 at_) := by rw [← hw4]; exact cal _ (cal _ (cnew (by simp) rfl))
  have c3 : w4.cell? ⟨w.heap.size + 3, 0, none⟩ = some (.bool false) := by rw [← hw4]; exact cal _ (cnew (by simp) rfl)
  have f3 : w4.frozen? ⟨w.heap.size + 3, 0, none⟩ = false := by rw [← hw4]; exact fal _ (fnew (by simp)) (by simp)
  have c4 : w4.cell? ⟨w.heap.size + 4, 0, none⟩ = some (.pointer (some ⟨bb, 0, none⟩)) := by rw [← hw4]; exact cnew (by simp) rfl
  simp only [World.size_alloc]
  clear hw4
  have hb4 := hb.mono hB0
  have hx4 := hx.mono hB0
  gi_wp2
  refine range_law2 (gf := 80) (lb := #[.pointer (some ⟨w.heap.size + 4, 0, none⟩)]) rfl (enters_of Try.func80 (by kernel_rfl) rfl) (patterns_yields _ (w.heap.size + 4) bb p x (by omega) (by omega)) (fun _ => rfl)
    (fun pre W => Below w4.heap.size w4 W ∧ ∀ l ∈ pre, ((runV V (middled p place l))[at_]?.getD 0 == 2) = false)
    (fun c pre W => c = .ret ∧ endsB p V place at_ = true ∧ Below w.heap.size w W ∧ W.cell? ⟨w.heap.size + 3, 0, none⟩ = some (.bool true))
    (fun s => (abides_below (Nat.le_refl _) (Nat.le_refl _)).and abides_pure)
    (fun c s => abides_pure.and (abides_pure.and ((abides_below (by omega) (by omega)).and (abides_cell (by simp; omega)))))
    (fun s W1 h => ⟨(h.1.cell (p := ⟨w.heap.size + 4, 0, none⟩) (by simp; omega)).trans c4, hb4.mono h.1⟩)
    ⟨bz _, by simp⟩ ?round ?done ?stop
  case round =>
    rintro l pre lx W ⟨hB, hpre⟩ hpx hszW
    have HLL := Lib.hid (lane_len hpx)
    have HLX : Hid (lx ∈ lanes p) := by obtain ⟨ys, e⟩ := hpx; rw [← e]; exact Lib.hid (by simp)
    gi_wp2_with (refine inStoreRow (fun _ => trivial) rfl 75 (.tmp 7) (.tmp 11) rfl W.heap.size (arrI lx) rfl rfl 75 _ (heap_alloc_new _ _) (arr8 _ HLL.out) (by rw [arrI_size, HLL.out]; rfl) (one_arr _) ?_)
    refine ⟨kf_box _ _ _ _ _, fun W2 hg2 hs2 => ?_⟩
    obtain ⟨hl2, hz2, hB2, _⟩ := round_start (by omega) hg2 hs2
    have hB3 : Below w4.heap.size w4 W2 := hB.trans (hB2.mono (by omega))
    clear hg2 hs2
    have d0 := (hB3.cell (p := ⟨w.heap.size, 0, none⟩) (by simp; omega)).trans c0
    have hb2 := hb4.mono hB3
    obtain ⟨q0, q1, q2⟩ := hb2
    have HB3 := Lib.hid hB3; have HL2 := Lib.hid hl2; have HX := Lib.hid hpx; have HP := Lib.hid hpre
    clear hl2 hpx hpre
    gi_wp2
    gi_loopw [8, 17, 18, 19, 20, 21, 22, 23, 24, 25, 26, 27] (fun _ i _ _ _ _ _ _ _ _ _ _ wr => ∃ k : Nat, k ≤ p ∧ i = .int .i64 k ∧ KB w4.heap.size W.heap.size W2 wr ∧ Below w4.heap.size w4 wr ∧ wr.heap[W.heap.size]? = some (.cells (arrI (oddly k lx)) 75 (0, 0)))
      (fun _ i _ _ _ _ _ _ _ _ _ _ _ => ((p : Int) - intOf i).toNat)
    case atStart => exact ⟨0, Nat.zero_le _, rfl, ⟨Nat.le_refl _, fun _ _ _ => rfl⟩, HB3.out, by rw [oddly_zero]; exact HL2.out⟩
    case round =>
      obtain ⟨k, hk, rfl, hkb, hbr, hlr⟩ := hrel
      by_cases hkp : k < p
      · have hbit := lane_bits HLX.out k
        have hk8 : k < 8 := by omega
        have hcc : wr.cell? ⟨W.heap.size, k, none⟩ = some (.int .i64 (lx[k]?.getD 0)) := by
          rw [← oddly_get]; exact (cell_of_row wr _ _ _ _ _ hlr).trans (arrI_get _ _ (by rw [oddly_length, HLL.out]; omega))
        have hff := frozen_of_row wr W.heap.size k _ _ hlr
        have hnew := heap_setCell_same wr W.heap.size k _ _ (.int .i64 (1 + 2 * lx[k]?.getD 0)) hlr
        rw [arrI_set, oddly_set] at hnew
        have hwz := hbr.size
        have HN := Lib.hid hnew; have HLR := Lib.hid hlr; have HKB := Lib.hid hkb
        clear hnew hlr hkb
        generalize lx[k]?.getD 0 = v at *
        gi_wp2
        refine ⟨⟨k + 1, by omega, by simp, ⟨by simpa using HKB.out.size, fun r h1 h2 => ?_⟩, bset hbr (by simp; omega) _, HN.out⟩, by simp [intOf]; omega⟩
        exact (Below.heap_setCell _ _ _ _ (by simp; omega)).trans (HKB.out.same r h1 h2)
      · have hkk : k = p := by omega
        subst hkk
        have hwz := hbr.size
        have hrz := (Array.getElem?_eq_some_iff.1 hlr).1
        have e1 := (hbr.cell (p := ⟨w.heap.size + 1, 0, none⟩) (by simp; omega)).trans c1
        have hpl8 : place < 8 := by omega
        have hff := frozen_of_row wr W.heap.size place _ _ hlr
        have hcc : ∃ v, wr.cell? ⟨W.heap.size, place, none⟩ = some (.int .i64 v) :=
          ⟨_, (cell_of_row wr _ _ _ _ _ hlr).trans (arrI_get _ _ (by rw [oddly_length, HLL.out]; omega))⟩
        obtain ⟨v, hcc⟩ := hcc
        have hnew := heap_setCell_same wr W.heap.size place _ _ (.int .i64 2) hlr
        rw [arrI_set] at hnew
        change (wr.setCell ⟨W.heap.size, place, none⟩ (.int .i64 2)).heap[W.heap.size]? = some (.cells (arrI (middled k place lx)) 75 (0, 0)) at hnew
        have HN := Lib.hid hnew; have HLR := Lib.hid hlr; have HKB := Lib.hid hkb
        clear hnew hlr hkb
        gi_wp2
        have hb5 : Below w4.heap.size w4 (wr.setCell ⟨W.heap.size, place, none⟩ (.int .i64 2)) := bset hbr (by simp; omega) _
        have hk5 : KB w4.heap.size W.heap.size W2 (wr.setCell ⟨W.heap.size, place, none⟩ (.int .i64 2)) :=
          ⟨by simpa using HKB.out.size, fun r h1 h2 => (Below.heap_setCell _ _ _ _ (by simp; omega)).trans (HKB.out.same r h1 h2)⟩
        clear hff hcc e1 hrz hwz hbr q0 q1 q2 d0 hB2
        generalize wr.setCell ⟨W.heap.size, place, none⟩ (.int .i64 2) = w5 at *
        have hw5 := hb5.size
        have hn5 := (Array.getElem?_eq_some_iff.1 HN.out).1
        have k0 := (hb5.cell (p := ⟨w.heap.size, 0, none⟩) (by simp; omega)).trans c0
        have k2 := (hb5.cell (p := ⟨w.heap.size + 2, 0, none⟩) (by simp; omega)).trans c2
        have hbb := hb4.mono hb5
        have hxx := hx4.mono hb5
        have HMID := Lib.hid (show (middled k place lx).length = 8 by rw [middled_length]; exact HLL.out)
        have HRUN := Lib.hid (show (runV V (middled k place lx)).length = 8 by rw [runV_length]; exact HMID.out)
        have hC : ∀ l' : Later w5, Calls Try.prog 58 #[.pointer (some ⟨bb, 0, none⟩), .agg (arrI (middled k place lx)), .int .i64 (V.length : Int)] l'.val fun e w'' => e = .returned (.agg (arrI (runV V (middled k place lx)))) ∧ ∃ x : Later w5, w'' = x.val := by
          intro l'
          have := run_any bb k x V (middled k place lx) V.length l'.val (hbb.mono l'.le) (hxx.mono l'.le) (Nat.le_refl _) hV HMID.out
          rw [List.take_length] at this
          exact Calls.later this
        have HC := Lib.hid hC; clear hC
        have hix := run_index8 (runV V (middled k place lx)) HRUN.out at_ (by omega)
        obtain ⟨a, ca, rfl, hca, hca2, _⟩ := hxx.form
        obtain ⟨q0, q1, q2⟩ := hbb
        have hL := @Later.cell w5
        have l0 := World.block_lt_of_cell? w5 _ k0
        have l2 := World.block_lt_of_cell? w5 _ k2
        simp only at l0 l2
        generalize hv : (runV V (middled k place lx))[at_]?.getD 0 = y at *
        have HV := Lib.hid hv; clear hv
        refine in_region_later (r := some l) (by kernel_rfl) (by kernel_rfl) (by rfl) ?_
        repeat (first
          | (refine wpQuiet_load_row rfl 75 (.tmp 7) rfl W.heap.size rfl 75 (arrI (middled k place lx)) (0, 0) _ HN.out Try.underlying75 rfl (arr8 _ HMID.out) ?_)
          | (quiet_step ((go_at_call 58; exact HC.out _))))
        refine wpQuiet_nil ?_
        intro w6 hw6
        have hL6 : Below w5.heap.size w5 w6 := by obtain ⟨⟨_, h⟩, rfl⟩ := hw6; exact h
        clear hw6
        have hB6 : Below w4.heap.size w4 w6 := btr hb5 hL6
        have r2 : w6.cell? ⟨w.heap.size + 1 + 1 + 1, 0, none⟩ = some (.bool false) := (hB6.cell (by simp; omega)).trans c3
        have r3 : w6.frozen? ⟨w.heap.size + 1 + 1 + 1, 0, none⟩ = false := (hB6.frozen (by simp; omega)).trans f3
        have hk6 : KB w4.heap.size (w4.heap.size + 2 + 1) W2 w6 :=
          ⟨Nat.le_trans hk5.size hL6.size, fun r h1 h2 => (hL6.block r (by omega)).trans (hk5.same r h1 (by omega))⟩
        have HR2 := Lib.hid r2; have HR3 := Lib.hid r3
        clear r2 r3 hix
        have R2 := HR2.out; have R3 := HR3.out
        generalize hq : (y == 2) = q
        have HQ := Lib.hid hq; clear hq
        cases q
        · gi_wp2
          refine ⟨hk6, hB6, fun l' hl' => ?_⟩
          rw [List.mem_append, List.mem_singleton] at hl'
          rcases hl' with h | h
          · exact HP.out l' h
          · subst h; rw [HV.out]; exact HQ.out
        · gi_wp2
          refine ⟨⟨by simpa using hk6.size, fun r h1 h2 => (Below.heap_setCell _ _ _ _ (by simp; omega)).trans (hk6.same r h1 h2)⟩, rfl, ?_, bset (btr hB0 hB6) (by simp; omega) _, World.cell?_setCell_same' _ _ _ (by rw [R2]; rfl)⟩
          unfold endsB
          rw [List.any_eq_true]
          exact ⟨lx, HLX.out, by rw [HV.out]; exact HQ.out⟩
  case done =>
    rintro W ⟨hB, hpre⟩ hD
    have HD := Lib.hid hD; have HP := Lib.hid hpre; clear hD hpre
    have R2 : W.cell? ⟨w.heap.size + 1 + 1 + 1, 0, none⟩ = some (.bool false) := (hB.cell (by simp; omega)).trans c3
    have R3 : W.frozen? ⟨w.heap.size + 1 + 1 + 1, 0, none⟩ = false := (hB.frozen (by simp; omega)).trans f3
    gi_wp2
    have hD2 : (W.setCell ⟨w.heap.size + 1 + 1 + 1, 0, none⟩ (.bool false)).heap[w4.heap.size]? = some (.deferred (some [])) := (Below.heap_setCell _ _ _ _ (by simp; omega)).trans HD.out
    refine ⟨by simp, .inl ⟨_, _, rfl, run_takeDeferred hD2, ?_⟩⟩
    have cX : ((W.setCell ⟨w.heap.size + 1 + 1 + 1, 0, none⟩ (.bool false)).putObj w4.heap.size (.deferred none)).cell? ⟨w.heap.size + 1 + 1 + 1, 0, none⟩ = some (.bool false) :=
      cell_put _ _ (World.cell?_setCell_same' _ _ _ (by rw [R2]; rfl)) (by simp; omega)
    have bX : Below w.heap.size w ((W.setCell ⟨w.heap.size + 1 + 1 + 1, 0, none⟩ (.bool false)).putObj w4.heap.size (.deferred none)) :=
      below_put (bset (btr hB0 hB) (by simp; omega) _) _ (by omega)
    generalize (W.setCell ⟨w.heap.size + 1 + 1 + 1, 0, none⟩ (.bool false)).putObj w4.heap.size (.deferred none) = X at *
    refine ⟨.bool false, results_cell rfl rfl (by go_simp), ?_, bX⟩
    have : endsB p V place at_ = false := by
      unfold endsB
      rw [← Bool.not_eq_true, List.any_eq_true]
      rintro ⟨l, hl, h⟩
      rw [HP.out l hl] at h
      cases h
    rw [this]
  case stop =>
    rintro c pre W hpre ⟨rfl, hnb, hB, hc⟩ hD
    have HD := Lib.hid hD; have HNB := Lib.hid hnb; clear hD hnb
    gi_wp2
    refine ⟨by simp, .inl ⟨_, _, rfl, run_takeDeferred HD.out, ?_⟩⟩
    have cX : (W.putObj w4.heap.size (.deferred none)).cell? ⟨w.heap.size + 3, 0, none⟩ = some (.bool true) := cell_put _ _ hc (by simp; omega)
    have bX : Below w.heap.size w (W.putObj w4.heap.size (.deferred none)) := below_put hB _ (by omega)
    generalize W.putObj w4.heap.size (.deferred none) = X at *
    exact ⟨.bool true, results_cell rfl rfl (by go_simp), by rw [HNB.out], bX⟩
end Go.Proofs.Ytdnaipiiponhpaa
