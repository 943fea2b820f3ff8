/- The iterator over all patterns: what it yields; 1 to 8 places. -/
import Derived.Test.YtdnaipiiponhpaaV8
import Derived.Test.YtdnaipiiponhpaaRange
namespace Go.Proofs.Ytdnaipiiponhpaa
open Go.RowKit Go.Shelf
attribute [local go_sem] Oper.semAt_some

/-- A pattern in a lane of eight places. -/
def laneOf (p t : Nat) : List Int := (List.range 8).map fun j => if j < p then ((t / 2 ^ (p - 1 - j) % 2 : Nat) : Int) else 0
theorem laneOf_length (p t : Nat) : (laneOf p t).length = 8 := by simp [laneOf]
theorem laneOf_get (p t k : Nat) (hp : p ≤ 8) (hk : k < p) : (laneOf p t)[p - 1 - k]?.getD 0 = ((t / 2 ^ k % 2 : Nat) : Int) := by
  have h1 : p - 1 - k < 8 := by omega
  have h2 : p - 1 - (p - 1 - k) = k := by omega
  simp [laneOf, h1, h2, show p - 1 - k < p by omega]
theorem bit_sub : ∀ s, s < 256 → ∀ k, k < 8 → s / 2 ^ k % 2 = 1 → ∀ j, j < 8 → (s - 2 ^ k) / 2 ^ j % 2 = if j = k then 0 else s / 2 ^ j % 2 := by decide +kernel
theorem bit_add : ∀ s, s < 256 → ∀ k, k < 8 → s / 2 ^ k % 2 = 0 → ∀ j, j < 8 → (s + 2 ^ k) / 2 ^ j % 2 = if j = k then 1 else s / 2 ^ j % 2 := by decide +kernel
theorem bit_ge : ∀ s, s < 256 → ∀ k, k < 8 → s / 2 ^ k % 2 = 1 → 2 ^ k ≤ s := by decide +kernel
theorem lane_set (p s k c s' : Nat) (hp : p ≤ 8) (hk : k < p) (h : ∀ j, j < 8 → s' / 2 ^ j % 2 = if j = k then c else s / 2 ^ j % 2) :
    (laneOf p s).set (p - 1 - k) (c : Int) = laneOf p s' := by
  apply List.ext_getElem
  · simp [laneOf]
  · intro i h1 h2
    have hi : i < 8 := by simpa [laneOf] using h2
    simp only [List.getElem_set, laneOf, List.getElem_map, List.getElem_range]
    by_cases e : p - 1 - k = i
    · rw [if_pos e, if_pos (by omega), h _ (by omega), if_pos (by omega)]
    · rw [if_neg e]
      by_cases hip : i < p
      · rw [if_pos hip, if_pos hip, h _ (by omega), if_neg (by omega)]
      · rw [if_neg hip, if_neg hip]
theorem lane_off (p s k : Nat) (hp : p ≤ 8) (hs : s < 256) (hk : k < p) (hb : s / 2 ^ k % 2 = 1) : (laneOf p s).set (p - 1 - k) 0 = laneOf p (s - 2 ^ k) :=
  lane_set p s k 0 _ hp hk (fun j hj => bit_sub s hs k (by omega) hb j hj)
theorem lane_on (p s k : Nat) (hp : p ≤ 8) (hs : s < 256) (hk : k < p) (hb : s / 2 ^ k % 2 = 0) : (laneOf p s).set (p - 1 - k) 1 = laneOf p (s + 2 ^ k) :=
  lane_set p s k 1 _ hp hk (fun j hj => bit_add s hs k (by omega) hb j hj)
theorem pow_le_8 : ∀ p, p ≤ 8 → 2 ^ p ≤ 256 := by decide

/-- All patterns, in their order. -/
def lanes (p : Nat) : List (List Int) := (List.range (2 ^ p)).map (laneOf p)
theorem lanes_take (p t : Nat) (ht : t < 2 ^ p) : (lanes p).take t ++ [laneOf p t] = (lanes p).take (t + 1) := by
  have : t < (lanes p).length := by simp [lanes, ht]
  rw [List.take_succ_eq_append_getElem this]
  simp [lanes]

theorem top_bit : ∀ p, p ≤ 8 → ∀ k, k < p → (2 ^ p - 2 ^ k) / 2 ^ k % 2 = 1 := by decide
theorem grownBy_set (W : World) (a : Addr) (u : Value) : W.grownBy (W.setCell a u) (some a.block) :=
  ⟨rfl, rfl, rfl, by simp, fun r _ h => Below.heap_setCell _ _ _ _ (fun e => h (by rw [e]))⟩

/-- The numbers in a block. -/
def numsOf : Option Obj → List Int
  | some (.cells c _ _) => c.toList.map intOf
  | _ => []
theorem numsOf_arr (l : List Int) (t : TypeId) : numsOf (some (.cells (arrI l) t (0, 0))) = l := by
  simp [numsOf, arrI, Function.comp_def, intOf]
def numOf (p : Nat) (l : List Int) : Nat := ((List.range p).map fun j => (l[j]?.getD 0).toNat * 2 ^ (p - 1 - j)).sum
theorem numOf_lane : ∀ p, p ≤ 8 → ∀ t, t < 2 ^ p → numOf p (laneOf p t) = t := by decide +kernel

set_option maxRecDepth 100000 in
set_option maxHeartbeats 1000000 in
theorem patterns_yields (n : Nat) (cb bb p : Nat) (x : Value) (hp1 : 1 ≤ p) (hp8 : p ≤ 8) :
    Yields n Try.prog 80 #[.pointer (some ⟨cb, 0, none⟩)] (fun l => #[.agg (arrI l)]) 1 (fun W => W.cell? ⟨cb, 0, none⟩ = some (.pointer (some ⟨bb, 0, none⟩)) ∧ IsBench W bb p x) (lanes p) := by
  intro l J Jx W hJ hJx hR hY h0
  obtain ⟨r1, r2⟩ := hR _ _ h0
  refine callsIn_of_wp Try.func80 rfl trivial ?_ rfl
  simp only [Try.ntmps80, List.size_toArray, List.length_cons, List.length_nil, Nat.reduceAdd, Nat.reduceSub, Array.replicate_succ, Array.replicate_zero, List.push_toArray, List.append_toArray, List.nil_append, List.cons_append]
  have hWcb : cb < W.heap.size := World.block_lt_of_cell? W _ r1
  have h256 := pow_le_8 p hp8
  gi_wp2
  gi_loopw [4] (fun _ wr => ∃ t : Nat, t < 2 ^ p ∧ J ((lanes p).take t) wr ∧ wr.heap[W.heap.size]? = some (.cells (arrI (laneOf p t)) 75 (0, 0))) (fun _ wr => 2 ^ p - numOf p (numsOf (wr.heap[W.heap.size]?)))
  case atStart =>
    refine ⟨0, Nat.two_pow_pos p, ?_, ?_⟩
    · exact hJ _ _ _ none h0 (World.grownBy_alloc _ _ _) (fun r e => by cases e)
    · have e : laneOf p 0 = [0,0,0,0,0,0,0,0] := by
        have h : ∀ p, p ≤ 8 → laneOf p 0 = [0,0,0,0,0,0,0,0] := by decide
        exact h p hp8
      rw [e]; exact heap_alloc_new _ _
  case round =>
    obtain ⟨t, ht, hj, hl⟩ := hrel
    have htk := lanes_take p t ht
    obtain ⟨fn, tmps, assign, body, hy, hR2⟩ := hY _ (laneOf p t) _ hj (by rw [htk]; exact List.take_prefix _ _) (by have := (Array.getElem?_eq_some_iff.1 hl).1; omega)
    rw [htk] at hR2
    have HL := Lib.hid hl; clear hl
    have HLL := Lib.hid (laneOf_length p t)
    have HT := Lib.hid htk; clear htk
    have hz : (Try.prog.info? 75).map (·.size) = some 8 := by kernel_rfl
    have HZ := Lib.hid hz; clear hz
    gi_wp2_with (refine inLoadRow (fun _ => trivial) rfl 75 (.tmp 3) rfl W.heap.size rfl 75 (arrI (laneOf p t)) (0, 0) _ HL.out Try.underlying75 rfl (by rw [arrI_size, HLL.out]; exact HZ.out) ?_)
    refine ⟨fun h => by simp [Fence.wide] at h, ?_⟩
    refine hR2.mono ?_
    rintro e W3 (⟨rfl, hJ3, hs3, hk3⟩ | ⟨rfl, hJx3⟩)
    · obtain ⟨q1, q2⟩ := hR _ _ hJ3
      obtain ⟨q2, q3, q4⟩ := q2
      have hl3 : W3.heap[W.heap.size]? = some (.cells (arrI (laneOf p t)) 75 (0, 0)) := (hk3 _ (Nat.le_refl _) (by omega)).trans HL.out
      gi_wp2
      gi_loopw [4] (fun i wr => ∃ k : Nat, k ≤ p ∧ 2 ^ k ≤ t + 1 ∧ i = .int .i64 ((p : Int) - 1 - k) ∧ J ((lanes p).take (t + 1)) wr ∧ wr.heap[W.heap.size]? = some (.cells (arrI (laneOf p (t + 1 - 2 ^ k))) 75 (0, 0))) (fun i _ => (intOf i + 1).toNat)
      case atStart => exact ⟨0, Nat.zero_le _, by simp, by simp, hJ3, by simpa using hl3⟩
      case round =>
        obtain ⟨k, hk, hkt, rfl, hjr, hlr⟩ := hrel
        by_cases hkp : k < p
        · have hbit := laneOf_get p (t + 1 - 2 ^ k) k hp8 hkp
          have hi0 : (0 : Int) ≤ (p : Int) - 1 - k := by omega
          have hi8 : (p : Int) - 1 - k < 8 := by omega
          have hin : ((p : Int) - 1 - k).toNat = p - 1 - k := by omega
          have hcc : wr.cell? ⟨W.heap.size, p - 1 - k, none⟩ = some (.int .i64 (((t + 1 - 2 ^ k) / 2 ^ k % 2 : Nat) : Int)) := by
            rw [← hbit]; exact (cell_of_row wr _ _ _ _ _ hlr).trans (arrI_get _ _ (by rw [laneOf_length]; omega))
          have hff := frozen_of_row wr W.heap.size (p - 1 - k) _ _ hlr
          have hk1 := Nat.two_pow_pos k
          rcases Nat.mod_two_eq_zero_or_one ((t + 1 - 2 ^ k) / 2 ^ k) with hb | hb
          · rw [hb] at hcc
            clear hbit
            have hlt1 : t + 1 < 2 ^ p := by
              rcases Nat.lt_or_ge (t + 1) (2 ^ p) with h | h
              · exact h
              · have e : t + 1 = 2 ^ p := by omega
                rw [e, top_bit p hp8 k hkp] at hb
                omega
            have hset := lane_on p (t + 1 - 2 ^ k) k hp8 (by omega) hkp hb
            rw [show t + 1 - 2 ^ k + 2 ^ k = t + 1 by omega] at hset
            have hnew := heap_setCell_same wr W.heap.size (p - 1 - k) _ _ (.int .i64 1) hlr
            rw [arrI_set, hset] at hnew
            have HN := Lib.hid hnew; have HLR := Lib.hid hlr; have HB := Lib.hid hb
            clear hnew hset hlr hb
            gi_wp2
            refine ⟨⟨t + 1, hlt1, ?_, HN.out⟩, ?_⟩
            · exact hJ _ _ _ (some W.heap.size) hjr (grownBy_set wr _ _) (fun r e => by cases e; omega)
            · rw [HN.out, HL.out, numsOf_arr, numsOf_arr, numOf_lane p hp8 _ hlt1, numOf_lane p hp8 _ ht]; omega
          · rw [hb] at hcc
            clear hbit
            have hge := bit_ge (t + 1 - 2 ^ k) (by omega) k (by omega) hb
            have hset := lane_off p (t + 1 - 2 ^ k) k hp8 (by omega) hkp hb
            rw [show t + 1 - 2 ^ k - 2 ^ k = t + 1 - 2 ^ (k + 1) by rw [Nat.pow_succ]; omega] at hset
            have hnew := heap_setCell_same wr W.heap.size (p - 1 - k) _ _ (.int .i64 0) hlr
            rw [arrI_set, hset] at hnew
            have HN := Lib.hid hnew; have HLR := Lib.hid hlr; have HB := Lib.hid hb; have HG := Lib.hid hge
            clear hnew hset hlr hb hge
            gi_wp2
            refine ⟨⟨k + 1, by omega, ?_, ?_, ?_, HN.out⟩, ?_⟩
            · have := HG.out; rw [Nat.pow_succ]; omega
            · congr 1; omega
            · exact hJ _ _ _ (some W.heap.size) hjr (grownBy_set wr _ _) (fun r e => by cases e; omega)
            · simp [intOf]; omega
        · gi_wp2
          refine bodyPost_ret (results_none rfl _ _ _) rfl ?_
          refine ⟨⟨_, rfl⟩, .inl ?_⟩
          have e : k = p := by omega
          subst e
          have e2 : t + 1 = 2 ^ k := by omega
          rw [e2, List.take_of_length_le (by simp [lanes])] at hjr
          exact hjr
    · gi_wp2
      refine bodyPost_ret (results_none rfl _ _ _) rfl ?_
      exact ⟨⟨_, rfl⟩, .inr ⟨_, List.take_prefix _ _, hJx3⟩⟩
end Go.Proofs.Ytdnaipiiponhpaa
