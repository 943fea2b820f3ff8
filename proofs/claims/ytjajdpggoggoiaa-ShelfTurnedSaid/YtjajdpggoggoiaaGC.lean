/- Merged texts: ahead, Pauses, CheckTimes, Depths, Kind of the document; the duality. -/
import Derived.Test.YtjajdpggoggoiaaGB
import Derived.Test.YtjajdpggoggoiaaGA
namespace Go.Proofs.Ytjajdpggoggoiaa
open Go.RowKit Go.Shelf

theorem made_zero (n : Nat) : madeCells #[Value.int .i64 0] n = arrI (List.replicate n 0) := by
  apply Array.ext
  · simp [madeCells, arrI]
  · intro i h1 h2; simp [madeCells, arrI, Nat.mod_one]
def minS (b x : Int) : Int := if x < b then x else b
/-- The fewest fetches of the last d wants, of a bench; 0 where it is too full. -/
def aheadD (R : Int) (W : List Int) : Nat → Nat → Int
  | 0, _ => 0
  | d + 1, S => if R < sumL (onOf S) then 0 else ((afterN R S (want W (W.length - (d + 1))).toNat).map (aheadD R W d)).foldl minS 1000 + 1 - (bitN S (want W (W.length - (d + 1))).toNat : Int)
theorem minS_bd {b x : Int} (hb : 0 ≤ b ∧ b ≤ 1000) (hx : 0 ≤ x) : 0 ≤ minS b x ∧ minS b x ≤ 1000 := by unfold minS; split <;> omega
theorem foldl_minS : ∀ (l : List Int) (b : Int), (0 ≤ b ∧ b ≤ 1000) → (∀ x ∈ l, 0 ≤ x) → 0 ≤ l.foldl minS b ∧ l.foldl minS b ≤ 1000
  | [], _, h, _ => h
  | x :: l, _, h, hx => foldl_minS l _ (minS_bd h (hx x (by simp))) fun y hy => hx y (by simp [hy])
theorem aheadD_bd (R : Int) (W : List Int) : ∀ d S, 0 ≤ aheadD R W d S ∧ aheadD R W d S ≤ 1001
  | 0, _ => by simp [aheadD]
  | d + 1, S => by
    unfold aheadD
    split
    · omega
    · have := foldl_minS ((afterN R S (want W (W.length - (d + 1))).toNat).map (aheadD R W d)) 1000 (by omega) (fun x hx => by
        obtain ⟨y, _, rfl⟩ := List.mem_map.1 hx
        exact (aheadD_bd R W d y).1)
      have := bitN_le S (want W (W.length - (d + 1))).toNat
      omega
theorem afterN_lt {R : Int} {S q : Nat} (hS : S < 512) (q9 : q < 9) : ∀ l ∈ afterN R S q, l < 512 := by
  intro l hl
  have hq := (pow_bd q9).1
  have hor : ∀ a, a < 512 → a ||| 2 ^ q < 512 := fun a ha => Nat.or_lt_two_pow (n := 9) ha hq
  unfold afterN at hl
  split at hl
  · simp at hl; omega
  · split at hl
    · simp at hl; subst hl; exact hor S hS
    · unfold swapK at hl
      obtain ⟨n, _, rfl⟩ := List.mem_map.1 hl
      exact hor _ (Nat.lt_of_le_of_lt (Nat.sub_le _ _) hS)
theorem afterN_len (R : Int) (S q : Nat) : (afterN R S q).length ≤ 8 := by
  unfold afterN
  split
  · simp
  · split
    · simp
    · exact swapK_len S q 8
def rowG (R : Int) (W : List Int) (d k N : Nat) : List Int := (List.range N).map fun S => if S < k then aheadD R W d S else 0
def rowD (R : Int) (W : List Int) (d k : Nat) : List Int := rowG R W d k 512
theorem rowD_len (R : Int) (W : List Int) (d k : Nat) : (rowD R W d k).length = 512 := by unfold rowD rowG; rw [List.length_map, List.length_range]
theorem rowG_at (R : Int) (W : List Int) (d N : Nat) {S : Nat} (h : S < N) : (rowG R W d N N)[S]?.getD 0 = aheadD R W d S := by simp [rowG, h]
theorem rowD_at (R : Int) (W : List Int) (d : Nat) {S : Nat} (h : S < 512) : (rowD R W d 512)[S]?.getD 0 = aheadD R W d S := rowG_at R W d 512 h
theorem rowG_zero (R : Int) (W : List Int) (d N : Nat) : rowG R W d 0 N = List.replicate N 0 := by
  apply List.ext_getElem
  · simp [rowG]
  · intro i h1 h2; simp [rowG]
theorem rowG_none (R : Int) (W : List Int) (N : Nat) : rowG R W 0 N N = List.replicate N 0 := by
  apply List.ext_getElem
  · simp [rowG]
  · intro i h1 h2; simp [rowG, aheadD]
theorem rowG_set (R : Int) (W : List Int) (d k N : Nat) : (rowG R W d k N).set k (aheadD R W d k) = rowG R W d (k + 1) N := by
  apply List.ext_getElem
  · simp [rowG]
  · intro i h1 h2
    simp only [rowG, List.getElem_set, List.getElem_map, List.getElem_range]
    by_cases e : k = i
    · subst e; simp
    · rw [if_neg e]
      have : i < k ↔ i < k + 1 := by omega
      simp [this]
theorem rowD_set (R : Int) (W : List Int) (d k : Nat) : (rowD R W d k).set k (aheadD R W d k) = rowD R W d (k + 1) := rowG_set R W d k 512
theorem rowG_skip {R : Int} {W : List Int} {d k N : Nat} (h : aheadD R W d k = 0) : rowG R W d (k + 1) N = rowG R W d k N := by
  apply List.ext_getElem
  · simp [rowG]
  · intro i h1 h2
    simp only [rowG, List.getElem_map, List.getElem_range]
    by_cases e : i = k
    · subst e; simp [h]
    · have : i < k + 1 ↔ i < k := by omega
      simp [this]
theorem rowD_skip {R : Int} {W : List Int} {d k : Nat} (h : aheadD R W d k = 0) : rowD R W d (k + 1) = rowD R W d k := rowG_skip h
theorem make_row (N : Nat) (hN : N ≤ 1000) (w' : World) : (Instr.makeSlice 22 (.int .i64 (N : Int)) (.int .i64 (N : Int))).run Try.prog w' = .ok (.slice (some ⟨w'.heap.size, 0, none⟩) N N) (w'.alloc (.cells (arrI (List.replicate N 0)) 3)) := by
  rw [← made_zero]
  exact run_make_row' 22 3 (.int .i64 0) 8 Try.underlying22 num3 rfl .i64 .i64 N (by omega) (by omega) w'
theorem make_first (R : Int) (W : List Int) (w' : World) : (Instr.makeSlice 22 (.int .i64 512) (.int .i64 512)).run Try.prog w' = .ok (.slice (some ⟨w'.heap.size, 0, none⟩) 512 512) (w'.alloc (.cells (arrI (rowD R W 0 512)) 3)) := by
  have h := make_row 512 (by omega) w'
  rw [← rowG_none R W 512] at h
  exact h
theorem make_next (R : Int) (W : List Int) (d : Nat) (w' : World) : (Instr.makeSlice 22 (.int .i64 512) (.int .i64 512)).run Try.prog w' = .ok (.slice (some ⟨w'.heap.size, 0, none⟩) 512 512) (w'.alloc (.cells (arrI (rowD R W d 0)) 3)) := by
  have h := make_row 512 (by omega) w'
  rw [← rowG_zero R W d 512] at h
  exact h
/-- The rows of the last d wants lie in block g; all blocks are below B. -/
structure RowsAt (w : World) (g n : Nat) (R : Int) (W : List Int) (d B : Nat) : Prop where
  gB : g < B
  ex : ∃ arr : Array Value, w.heap[g]? = some (.cells arr 22 (0, 0)) ∧ arr.size = n + 1 ∧ ∀ j, n ≤ j + d → j ≤ n → ∃ b, arr[j]? = some (.slice (some ⟨b, 0, none⟩) 512 512) ∧ b ≠ g ∧ b < B ∧ w.heap[b]? = some (.cells (arrI (rowD R W (n - j) 512)) 3 (0, 0))
theorem RowsAt.lt {w : World} {g n : Nat} {R : Int} {W : List Int} {d B : Nat} (h : RowsAt w g n R W d B) : g < w.heap.size := by
  obtain ⟨arr, h1, _⟩ := h.ex; exact (Array.getElem?_eq_some_iff.1 h1).1
theorem RowsAt.up {w w' : World} {g n : Nat} {R : Int} {W : List Int} {d B : Nat} (h : RowsAt w g n R W d B) (hb : Below w.heap.size w w') : RowsAt w' g n R W d B := by
  obtain ⟨arr, h1, h2, h3⟩ := h.ex
  refine ⟨h.gB, arr, (hb.block _ (Array.getElem?_eq_some_iff.1 h1).1).trans h1, h2, fun j j1 j2 => ?_⟩
  obtain ⟨b, b1, b2, b3, b4⟩ := h3 j j1 j2
  exact ⟨b, b1, b2, b3, (hb.block _ (Array.getElem?_eq_some_iff.1 b4).1).trans b4⟩
/-- Another block is written. -/
theorem RowsAt.set {w : World} {g n : Nat} {R : Int} {W : List Int} {d B : Nat} (h : RowsAt w g n R W d B) {r i : Nat} (u : Value) (hr : B ≤ r) : RowsAt (w.setCell ⟨r, i, none⟩ u) g n R W d B := by
  obtain ⟨arr, h1, h2, h3⟩ := h.ex
  have hg := h.gB
  refine ⟨h.gB, arr, (Go.Deep.blk_setCell_other _ _ _ _ (by simp; omega)).trans h1, h2, fun j j1 j2 => ?_⟩
  obtain ⟨b, b1, b2, b3, b4⟩ := h3 j j1 j2
  exact ⟨b, b1, b2, b3, (Go.Deep.blk_setCell_other _ _ _ _ (by simp; omega)).trans b4⟩
/-- One more row is laid. -/
theorem RowsAt.add {w : World} {g n : Nat} {R : Int} {W : List Int} {d B B' r i : Nat} (h : RowsAt w g n R W d B) (hi : i + d + 1 = n) (hB : B ≤ r) (hB' : r < B') (hr : w.heap[r]? = some (.cells (arrI (rowD R W (d + 1) 512)) 3 (0, 0))) : RowsAt (w.setCell ⟨g, i, none⟩ (.slice (some ⟨r, 0, none⟩) 512 512)) g n R W (d + 1) B' := by
  obtain ⟨arr, h1, h2, h3⟩ := h.ex
  have hg := h.gB
  refine ⟨by omega, _, heap_setCell_same w g i _ _ _ h1, by simp [h2], fun j j1 j2 => ?_⟩
  by_cases e : j = i
  · subst e
    refine ⟨r, by rw [Array.getElem?_setIfInBounds_self_of_lt (by omega)], by omega, hB', ?_⟩
    rw [Go.Deep.blk_setCell_other _ _ _ _ (by simp; omega), show n - j = d + 1 by omega]; exact hr
  · obtain ⟨b, b1, b2, b3, b4⟩ := h3 j (by omega) j2
    exact ⟨b, by rw [Array.getElem?_setIfInBounds_ne (Ne.symm e)]; exact b1, b2, by omega, (Go.Deep.blk_setCell_other _ _ _ _ (by simpa using b2)).trans b4⟩
theorem RowsAt.start {w : World} {g n : Nat} {R : Int} {W : List Int} {B r : Nat} {mc : Array Value} (h1 : w.heap[g]? = some (.cells mc 22 (0, 0))) (h2 : mc.size = n + 1) (hg : g < r) (hB : r < B) (hr : w.heap[r]? = some (.cells (arrI (rowD R W 0 512)) 3 (0, 0))) : RowsAt (w.setCell ⟨g, n, none⟩ (.slice (some ⟨r, 0, none⟩) 512 512)) g n R W 0 B := by
  refine ⟨by omega, _, heap_setCell_same w g n _ _ _ h1, by simp [h2], fun j j1 j2 => ?_⟩
  have e : j = n := by omega
  subst e
  refine ⟨r, by rw [Array.getElem?_setIfInBounds_self_of_lt (by omega)], by omega, hB, ?_⟩
  rw [Go.Deep.blk_setCell_other _ _ _ _ (by simp; omega), Nat.sub_self]; exact hr
theorem RowsAt.row {w : World} {g n : Nat} {R : Int} {W : List Int} {d B j : Nat} (h : RowsAt w g n R W d B) (j1 : n ≤ j + d) (j2 : j ≤ n) : ∃ b, w.cell? ⟨g, j, none⟩ = some (.slice (some ⟨b, 0, none⟩) 512 512) ∧ b < w.heap.size ∧ ∀ S, S < 512 → w.cell? ⟨b, S, none⟩ = some (.int .i64 (aheadD R W (n - j) S)) := by
  obtain ⟨arr, h1, h2, h3⟩ := h.ex
  obtain ⟨b, b1, b2, _, b3⟩ := h3 j j1 j2
  refine ⟨b, by rw [cell_of_row w _ _ _ _ _ h1]; exact b1, (Array.getElem?_eq_some_iff.1 b3).1, fun S hS => ?_⟩
  rw [cell_of_row w _ _ _ _ _ b3, arrI_get _ _ (by rw [rowD_len]; exact hS), rowD_at R W _ hS]
theorem RowsAt.some {w : World} {g n : Nat} {R : Int} {W : List Int} {d B : Nat} (h : RowsAt w g n R W d B) {i : Nat} (hi : i ≤ n) : (∃ u, w.cell? ⟨g, i, none⟩ = Option.some u) ∧ w.frozen? ⟨g, i, none⟩ = false := by
  obtain ⟨arr, h1, h2, h3⟩ := h.ex
  refine ⟨⟨arr[i]'(by omega), by rw [cell_of_row w _ _ _ _ _ h1]; simp⟩, frozen_of_row w g i _ _ h1⟩
theorem fold_succ (f : Nat → Int) (l : List Nat) (k : Nat) (hk : k < l.length) : ((l.take (k + 1)).map f).foldl minS 1000 = minS (((l.take k).map f).foldl minS 1000) (f (l[k]?.getD 0)) := by
  rw [List.take_succ_eq_append_getElem hk, List.map_append, List.foldl_append]; simp [hk]

def AheadOk (R : Int) (W : List Int) (w : World) (e : Ending) (w' : World) : Prop := ∃ g, e = .returned (.slice (some ⟨g, 0, none⟩) (W.length + 1) (W.length + 1)) ∧ w.heap.size ≤ g ∧ (∃ B, RowsAt w' g W.length R W W.length B) ∧ Below w.heap.size w w'
set_option maxRecDepth 100000 in
set_option maxHeartbeats 4000000 in
theorem ahead_any (R : Int) (x : Value) (W : List Int) (w : World) (hx0 : RdI w .i64 x W) (hd : OkD R W) : Calls Try.prog 58 #[.agg #[.int .i64 R, x]] w (AheadOk R W w) := by
  have h16 := hd.l16
  obtain ⟨a, ca, rfl, _, hcm, hx⟩ := hx0.form
  have HX := Lib.hid hx0
  clear hx0 hcm
  unfold AheadOk
  have hmo : ∀ w' : World, (Instr.makeSlice 77 (.int .i64 ((W.length : Int) + 1)) (.int .i64 ((W.length : Int) + 1))).run Try.prog w' = .ok (.slice (some ⟨w'.heap.size, 0, none⟩) (W.length + 1) (W.length + 1)) (w'.alloc (.cells (madeCells #[.slice none 0 0] (W.length + 1)) 22)) := by
    intro w'
    have := run_make_row' 77 22 (.slice none 0 0) 24 Try.underlying77 info22 rfl .i64 .i64 (W.length + 1) (by omega) (by omega) w'
    rwa [show (((W.length + 1 : Nat)) : Int) = (W.length : Int) + 1 by omega] at this
  have hr0 : (w.alloc (.cells #[.int .i64 R, .slice a W.length ca] 24)).cell? ⟨w.heap.size, 0, none⟩ = some (.int .i64 R) := cnew rfl rfl
  have hr1 : (w.alloc (.cells #[.int .i64 R, .slice a W.length ca] 24)).cell? ⟨w.heap.size, 1, none⟩ = some (.slice a W.length ca) := cnew rfl rfl
  have HR0 := Lib.hid (fun wz (hB : Below (w.alloc (.cells #[.int .i64 R, .slice a W.length ca] 24)).heap.size (w.alloc (.cells #[.int .i64 R, .slice a W.length ca] 24)) wz) => (hB.cell (p := ⟨w.heap.size, 0, none⟩) (by simp)).trans hr0)
  have HR1 := Lib.hid (fun wz (hB : Below (w.alloc (.cells #[.int .i64 R, .slice a W.length ca] 24)).heap.size (w.alloc (.cells #[.int .i64 R, .slice a W.length ca] 24)) wz) => (hB.cell (p := ⟨w.heap.size, 1, none⟩) (by simp)).trans hr1)
  have HBW := Lib.hid (fun wz (hB : Below (w.alloc (.cells #[.int .i64 R, .slice a W.length ca] 24)).heap.size (w.alloc (.cells #[.int .i64 R, .slice a W.length ca] 24)) wz) => btr (bal (bz w) _) hB)
  have hws : w.heap.size < (w.alloc (.cells #[.int .i64 R, .slice a W.length ca] 24)).heap.size := by simp
  clear hr0 hr1
  go_enter Try.func58, Try.ntmps58
  go_upto_region 2 with fail
  have hw0 := heap_alloc_new (w.alloc (.cells #[.int .i64 R, .slice a W.length ca] 24)) (.cells (madeCells #[.slice none 0 0] (W.length + 1)) 22)
  have hb0 := bal (bz (w.alloc (.cells #[.int .i64 R, .slice a W.length ca] 24))) (.cells (madeCells #[.slice none 0 0] (W.length + 1)) 22)
  rw [World.size_alloc] at hw0
  clear hmo
  have hgg : w.heap.size + 1 = (w.alloc (.cells #[.int .i64 R, .slice a W.length ca] 24)).heap.size := by simp
  have hww : w.heap.size ≤ w.heap.size + 1 := by omega
  generalize ((w.alloc (.cells #[.int .i64 R, .slice a W.length ca] 24)).alloc (.cells (madeCells #[.slice none 0 0] (W.length + 1)) 22)) = w1 at *
  have HGG := Lib.hid hgg; have HWW := Lib.hid hww
  clear hgg hww
  generalize (w.alloc (.cells #[.int .i64 R, .slice a W.length ca] 24)) = wA at *
  generalize w.heap.size + 1 = g at *
  have hmsz : (madeCells #[Value.slice none 0 0] (W.length + 1)).size = W.length + 1 := by simp [madeCells]
  have HMS := Lib.hid hmsz; clear hmsz
  generalize madeCells #[Value.slice none 0 0] (W.length + 1) = mc at *
  refine wp_region_flow [] [([0, 1, 2, 3], 4, true), ([5], 6, false)] [] (by kernel_rfl) (by kernel_rfl) ?_
  intro wc hBc hh
  clear hh
  have HBC := Lib.hid (btr hb0 hBc)
  have hwc := (hBc.block _ (Array.getElem?_eq_some_iff.1 hw0).1).trans hw0
  have HWC := Lib.hid hwc
  have r1 := HR1.out _ HBC.out; have rz := Nat.lt_of_lt_of_le hws HBC.out.size
  have gz := (Array.getElem?_eq_some_iff.1 hwc).1
  have hL := @Later.cell wc
  have hmf := make_first R W
  clear hBc hw0 hb0 hwc
  simp only [flowP, flow, pickL, List.getElem?_cons_succ, List.getElem?_cons_zero]
  refine wpQuiet_nil ?_
  repeat (go_big_quiet_step (fail))
  refine wpQuiet_nil ?_
  go_wp2
  refine seg_grow ⟨⟨_, bal (bz _) _⟩, rfl⟩ ?_
  clear hmf
  have hwa := (Below.heap_alloc wc (.cells (arrI (rowD R W 0 512)) 3) g gz).trans HWC.out
  have hrow := heap_alloc_new wc (.cells (arrI (rowD R W 0 512)) 3)
  have cf := frozen_of_row _ g W.length _ _ hwa
  have cc : (wc.alloc (.cells (arrI (rowD R W 0 512)) 3)).cell? ⟨g, W.length, none⟩ = some (mc[W.length]'(by have := HMS.out; omega)) := by
    rw [cell_of_row _ _ _ _ _ _ hwa]; simp [HMS.out]
  have HB1 := Lib.hid (bal HBC.out (.cells (arrI (rowD R W 0 512)) 3))
  have HRS := Lib.hid (RowsAt.start hwa HMS.out gz (show wc.heap.size < wc.heap.size + 1 by omega) hrow)
  have HB2 := Lib.hid (bset HB1.out (p := ⟨g, W.length, none⟩) (by have := HGG.out; simp; omega) (.slice (some ⟨wc.heap.size, 0, none⟩) 512 512))
  have hsw : (wc.alloc (.cells (arrI (rowD R W 0 512)) 3)).setCell ⟨g, W.length, none⟩ (.slice (some ⟨wc.heap.size, 0, none⟩) 512 512) = (wc.setCell ⟨g, W.length, none⟩ (.slice (some ⟨wc.heap.size, 0, none⟩) 512 512)).alloc (.cells (arrI (rowD R W 0 512)) 3) := World.setCell_alloc_past _ _ _ _ gz
  have gz2 : g < (wc.alloc (.cells (arrI (rowD R W 0 512)) 3)).heap.size := by simp; omega
  clear hwa hrow
  repeat (go_big_quiet_step (fail))
  refine wpQuiet_nil ?_
  go_wp2
  refine seg_write ?_
  refine wpQuiet_nil ?_
  refine only_done ?_
  clear cf cc gz2 r1 rz gz hL
  have hBB : wc.heap.size + 1 ≤ ((wc.alloc (.cells (arrI (rowD R W 0 512)) 3)).setCell ⟨g, W.length, none⟩ (.slice (some ⟨wc.heap.size, 0, none⟩) 512 512)).heap.size := by simp
  rw [hsw] at HRS HB2 hBB
  clear hsw
  have HBB := Lib.hid hBB; clear hBB
  generalize ((wc.setCell ⟨g, W.length, none⟩ (.slice (some ⟨wc.heap.size, 0, none⟩) 512 512)).alloc (.cells (arrI (rowD R W 0 512)) 3)) = w2 at *
  have r1 := HR1.out _ HB2.out; have rz := Nat.lt_of_lt_of_le hws HB2.out.size
  clear HBC HWC HB1
  have HB0 : Hid (RowsAt w2 g W.length R W 0 (wc.heap.size + 1)) := HRS
  clear HRS; have HRS := HB0; clear HB0
  generalize wc.heap.size + 1 = B0 at *
  go_wp2_with fail
  go_loopw [4, 5, 6, 7, 8, 9] (fun s4 _ _ _ _ _ wr => ∃ (d B : Nat) (i : Int), s4 = .int .i64 i ∧ Hid (i + (d : Int) + 1 = (W.length : Int)) ∧ -1 ≤ i ∧ i ≤ 16 ∧ RowsAt wr g W.length R W d B ∧ B ≤ wr.heap.size ∧ Below wA.heap.size wA wr) (fun s4 _ _ _ _ _ _ => (intOf s4 + 1).toNat)
  case atStart => exact ⟨0, B0, (W.length : Int) - 1, rfl, Lib.hid (by omega), by omega, by omega, HRS.out, HBB.out, HB2.out⟩
  case round =>
    obtain ⟨d, B, i, rfl, HI, i0, i1, hR, hBs, hB⟩ := hrel
    clear r1 rz HRS HBB HB2
    have HRW := Lib.hid hR; have HB := Lib.hid hB
    clear hR hB
    by_cases hi : 0 ≤ i
    · obtain ⟨m, rfl⟩ := Int.eq_ofNat_of_zero_le hi
      clear hi i0 i1
      have hmd : m + d + 1 = W.length := by have := HI.out; omega
      obtain ⟨bx, ox, rfl, hbx, hcx⟩ := hx (by omega)
      obtain ⟨q1, q8⟩ := hd.at (show m < W.length by omega)
      obtain ⟨q, hq⟩ := Int.eq_ofNat_of_zero_le (show 0 ≤ want W m by omega)
      have GW := Lib.hid (fun wz (hB : Below wA.heap.size wA wz) => (show wz.cell? ⟨bx, ox + m, none⟩ = some (Value.int .i64 (q : Int)) from by rw [← hq]; exact ((HBW.out _ hB).cell (p := ⟨bx, ox + m, none⟩) hbx).trans (hcx m (by omega))))
      have ZW := Lib.hid (fun wz (hB : Below wA.heap.size wA wz) => Nat.lt_of_lt_of_le hbx (HBW.out _ hB).size)
      have q9 : q < 9 := by omega
      have HQ := Lib.hid hq; have HMD := Lib.hid hmd
      have HAD := Lib.hid (fun S => (show aheadD R W (d + 1) S = if R < sumL (onOf S) then 0 else ((afterN R S q).map (aheadD R W d)).foldl minS 1000 + 1 - (bitN S q : Int) from by
        have e : W.length - (d + 1) = m := by omega
        have e2 : (want W m).toNat = q := by omega
        simp only [aheadD]
        rw [e, e2]))
      have hmn := make_next R W (d + 1)
      have hml : m < W.length := by omega
      clear hx hcx q1 q8 hq hmd HI
      go_upto_region 7 with fail
      clear hmn
      have HRW1 := Lib.hid (HRW.out.up (bal (bz wr) (.cells (arrI (rowD R W (d + 1) 0)) 3)))
      have hrow := heap_alloc_new wr (.cells (arrI (rowD R W (d + 1) 0)) 3)
      have HRO1 := Lib.hid hrow; have HB1 := Lib.hid (bal HB.out (.cells (arrI (rowD R W (d + 1) 0)) 3))
      clear hrow HRW
      have hAr : wA.heap.size ≤ wr.heap.size := HB.out.size
      generalize (wr.alloc (.cells (arrI (rowD R W (d + 1) 0)) 3)) = w3 at *
      clear HB
      generalize wr.heap.size = r at *
      go_wp2_with fail
      go_loopw [6, 7, 8, 9] (fun s6 _ _ _ ws => ∃ S : Nat, S ≤ 512 ∧ s6 = .int .i64 S ∧ ws.heap[r]? = some (.cells (arrI (rowD R W (d + 1) S)) 3 (0, 0)) ∧ RowsAt ws g W.length R W d B ∧ Below wA.heap.size wA ws) (fun s6 _ _ _ _ => 512 - (intOf s6).toNat)
      case atStart => exact ⟨0, by omega, rfl, HRO1.out, HRW1.out, HB1.out⟩
      case round =>
        clear HRW1 HRO1 HB1
        obtain ⟨S, hS, rfl, hro, hR, hB⟩ := hrel
        have HRO := Lib.hid hro; have HRW := Lib.hid hR; have HB := Lib.hid hB
        clear hro hR hB
        by_cases hS5 : S < 512
        · have HSZ := Lib.hid (fun wz => size_any S wz hS5)
          go_upto_region 10 with fail
          refine wp_region_flow [] [([0, 2, 3], 1, true)] [4] (by kernel_rfl) (by kernel_rfl) ?_
          intro wc hBc hh
          clear hh
          have HRO2 := Lib.hid ((hBc.block _ (Array.getElem?_eq_some_iff.1 HRO.out).1).trans HRO.out)
          have HRW2 := Lib.hid (HRW.out.up hBc)
          have HB2 := Lib.hid (btr HB.out hBc)
          have r0 := HR0.out _ HB2.out; have rz := Nat.lt_of_lt_of_le hws HB2.out.size
          have hL := @Later.cell wc
          clear hBc HRO HRW HB
          simp only [flowP, flow, pickL, List.getElem?_cons_succ, List.getElem?_cons_zero]
          refine wpQuiet_nil ?_
          repeat (go_big_quiet_step (fail))
          refine wpQuiet_nil ?_
          go_wp2_with fail
          refine (HSZ.out _).mono ?_
          rintro e w' ⟨rfl, rfl⟩
          have had := HAD.out S
          generalize sumL (onOf S) = su at *
          go_wp2
          refine seg_grow ⟨⟨_, bz _⟩, rfl⟩ ?_
          repeat (go_big_quiet_step (fail))
          refine wpQuiet_nil ?_
          refine only_done ?_
          clear hL r0 rz HSZ HAD
          by_cases hlt : R < su
          · have d1 : decide (R < su) = true := decide_eq_true hlt
            rw [d1]
            rw [if_pos hlt] at had
            have HSK := Lib.hid (rowD_skip had)
            clear hlt had
            go_wp2_with fail
            go_roundw
            case rel => exact ⟨S + 1, by omega, rfl, by rw [HSK.out]; exact HRO2.out, HRW2.out, HB2.out⟩
            case measure => simp [intOf]; omega
          · have d1 : decide (R < su) = false := decide_eq_false hlt
            rw [d1]
            rw [if_neg hlt] at had
            have HAT := Lib.hid had
            have HAF := Lib.hid (fun x wz => after_any R x S q wz hS5 q9)
            clear hlt had
            have HSL := Lib.hid (rowD_set R W (d + 1) S)
            have handq := i64_and1 ((S : Int) / 2 ^ q)
            rw [shr_and] at handq
            have bq := bitN_le S q
            obtain ⟨hq2, hqw⟩ := pow_bd q9
            have HLT := Lib.hid (afterN_lt (R := R) hS5 q9)
            have hal := afterN_len R S q
            generalize afterN R S q = A at *
            go_upto_region 11 with fail
            refine wp_region_flow [] [([0, 1, 2, 3, 4, 5, 6], 7, true)] [8] (by kernel_rfl) (by kernel_rfl) ?_
            intro w4 hB4 hh
            clear hh
            have HRO4 := Lib.hid ((hB4.block _ (Array.getElem?_eq_some_iff.1 HRO2.out).1).trans HRO2.out)
            have HRW4 := Lib.hid (HRW2.out.up hB4)
            have HB4 := Lib.hid (btr HB2.out hB4)
            have r0 := HR0.out _ HB4.out; have r1 := HR1.out _ HB4.out; have rz := Nat.lt_of_lt_of_le hws HB4.out.size
            have gw := GW.out _ HB4.out; have zw := ZW.out _ HB4.out
            have hL := @Later.cell w4
            clear hB4 HRO2 HRW2 HB2
            simp only [flowP, flow, pickL, List.getElem?_cons_succ, List.getElem?_cons_zero]
            refine wpQuiet_nil ?_
            repeat (go_big_quiet_step (fail))
            refine wpQuiet_nil ?_
            go_wp2_with fail
            refine (HAF.out _ _).mono ?_
            rintro e w5 ⟨v, rfl, hv, hB5⟩
            have HRO5 := Lib.hid ((hB5.block _ (Array.getElem?_eq_some_iff.1 HRO4.out).1).trans HRO4.out)
            have HRW5 := Lib.hid (HRW4.out.up hB5)
            have HB5 := Lib.hid (btr HB4.out hB5)
            have HV := Lib.hid hv
            obtain ⟨av, cv, rfl, _, hcvm, hv2⟩ := hv.form
            rw [nl_len] at *
            have HG := Lib.hid hB5
            clear hv hB5 hcvm
            go_wp2
            refine seg_grow ⟨⟨_, HG.out⟩, rfl⟩ ?_
            repeat (go_big_quiet_step (fail))
            refine wpQuiet_nil ?_
            refine only_done ?_
            clear hL r0 r1 rz gw zw HRO4 HRW4 HB4 HG
            have hr5 := (Array.getElem?_eq_some_iff.1 HRO5.out).1
            go_wp2_with fail
            go_loopw [8, 9] (fun s8 s9 wx => ∃ k : Nat, k ≤ A.length ∧ s9 = .int .i64 k ∧ s8 = .int .i64 (((A.take k).map (aheadD R W d)).foldl minS 1000) ∧ Below w5.heap.size w5 wx) (fun _ s9 _ => A.length - (intOf s9).toNat)
            case atStart => exact ⟨0, by omega, rfl, rfl, bz _⟩
            case round =>
              obtain ⟨k, hk, rfl, rfl, hBx⟩ := hrel
              by_cases hkl : k < A.length
              · have HFS := Lib.hid (fold_succ (aheadD R W d) A k hkl)
                have hbd := foldl_minS ((A.take k).map (aheadD R W d)) 1000 (by omega) (fun x hx => by
                  obtain ⟨y, _, rfl⟩ := List.mem_map.1 hx
                  exact (aheadD_bd R W d y).1)
                generalize ((A.take k).map (aheadD R W d)).foldl minS 1000 = M at *
                have hlk := HLT.out (A[k]?.getD 0) (by rw [List.getElem?_eq_getElem hkl]; simp)
                have hvk := hv2 (by omega)
                have HBX := Lib.hid hBx
                clear hBx
                go_upto_region 16 with fail
                refine wp_region_flow [] [] [0, 1, 2, 3, 4, 5, 6, 7, 8, 9, 10, 11, 12, 13] (by kernel_rfl) (by kernel_rfl) ?_
                intro wy hBy hh
                clear hh
                have HBY := Lib.hid (btr HBX.out hBy)
                clear hBy HBX
                obtain ⟨bv, ov, rfl, hbv, hcv⟩ := hvk
                have hcv2 := hcv k hkl
                rw [show (nl A)[k]?.getD 0 = ((A[k]?.getD 0 : Nat) : Int) by simp [nl, hkl]] at hcv2
                obtain ⟨l, hl⟩ : ∃ l, A[k]?.getD 0 = l := ⟨_, rfl⟩
                rw [hl] at hcv2 hlk HFS
                have gv := (HBY.out.cell (p := ⟨bv, ov + k, none⟩) hbv).trans hcv2
                have zv := Nat.lt_of_lt_of_le hbv HBY.out.size
                have hr := HRW5.out.up HBY.out
                obtain ⟨bj, gj, zj, hj⟩ := hr.row (j := m + 1) (by have := HMD.out; omega) (by omega)
                have gl := hj l hlk
                rw [show W.length - (m + 1) = d by have := HMD.out; omega] at gl
                have hxb := aheadD_bd R W d l
                generalize aheadD R W d l = X at *
                have zg := hr.lt
                have hL := @Later.cell wy
                clear hv2 hcv hcv2 hj hl hbv hr
                simp only [flowP, flow, pickL, List.getElem?_cons_succ, List.getElem?_cons_zero]
                refine wpQuiet_nil ?_
                repeat (go_big_quiet_step (fail))
                refine wpQuiet_nil ?_
                refine only_done ?_
                clear hL zv zg gv gj gl zj
                have HMI := Lib.hid (show minS M X = if X < M then X else M from rfl)
                rw [← HMI.out]
                rw [← HFS.out]
                clear HFS HMI
                go_wp2_with fail
                go_roundw
                case rel => exact ⟨k + 1, by omega, rfl, rfl, HBY.out⟩
                case measure => simp [intOf]; omega
              · have hke : k = A.length := by omega
                subst hke
                rw [List.take_length]
                have hbd := foldl_minS (A.map (aheadD R W d)) 1000 (by omega) (fun x hx => by
                  obtain ⟨y, _, rfl⟩ := List.mem_map.1 hx
                  exact (aheadD_bd R W d y).1)
                have hat := HAT.out
                generalize (A.map (aheadD R W d)).foldl minS 1000 = M at *
                have HAT2 := Lib.hid hat
                have HRO6 := Lib.hid ((hBx.block _ hr5).trans HRO5.out)
                have HRW6 := Lib.hid (HRW5.out.up hBx)
                have HB6 := Lib.hid (btr HB5.out hBx)
                have hr6 := Nat.lt_of_lt_of_le hr5 hBx.size
                clear hat hBx HAT HRO5 HRW5 HB5 hv2 hk
                have hrs := cell_of_row _ r S _ _ _ HRO6.out
                rw [arrI_get _ _ (by rw [rowD_len]; exact hS5)] at hrs
                have hrf := frozen_of_row _ r S _ _ HRO6.out
                have r1 := HR1.out _ HB6.out; have rz := Nat.lt_of_lt_of_le hws HB6.out.size
                have gw := GW.out _ HB6.out; have zw := ZW.out _ HB6.out
                have hset := heap_setCell_same wr r S _ _ (.int .i64 (M + 1 - (bitN S q : Int))) HRO6.out
                rw [arrI_set, ← HAT2.out, HSL.out, HAT2.out] at hset
                have HSET := Lib.hid hset
                have HRW7 := Lib.hid (HRW6.out.set (r := r) (i := S) (.int .i64 (M + 1 - (bitN S q : Int))) (by omega))
                have HB7 := Lib.hid (bset HB6.out (p := ⟨r, S, none⟩) hAr (.int .i64 (M + 1 - (bitN S q : Int))))
                clear hset
                go_wp2_with fail
                go_roundw
                case rel => exact ⟨S + 1, by omega, rfl, HSET.out, HRW7.out, HB7.out⟩
                case measure => simp [intOf]; omega
        · have hSe : S = 512 := by omega
          subst hSe
          have hgs := HRW.out.some (i := m) (by omega)
          obtain ⟨⟨ug, hgc⟩, hgf⟩ := hgs
          have zg := HRW.out.lt
          have zr := (Array.getElem?_eq_some_iff.1 HRO.out).1
          have HADD := Lib.hid (HRW.out.add (i := m) (r := r) (B' := r + 1) (by have := HMD.out; omega) hBs (by omega) HRO.out)
          have HBN := Lib.hid (bset HB.out (p := ⟨g, m, none⟩) (by have := HGG.out; simp; omega) (.slice (some ⟨r, 0, none⟩) 512 512))
          have hzz : r + 1 ≤ (wr.setCell ⟨g, m, none⟩ (.slice (some ⟨r, 0, none⟩) 512 512)).heap.size := by simp; omega
          have HZZ := Lib.hid hzz
          clear hzz
          go_wp2_with fail
          go_roundw
          case rel => exact ⟨d + 1, r + 1, (m : Int) - 1, rfl, Lib.hid (by have := HMD.out; omega), by omega, by omega, HADD.out, HZZ.out, HBN.out⟩
          case measure => simp [intOf]
    · have hie : i = -1 := by omega
      have hdn : d = W.length := by have := HI.out; omega
      subst hdn
      have hd0 : ¬ 0 ≤ i := hi
      go_wp2_with fail
      go_ret
      exact ⟨g, rfl, HWW.out, ⟨B, HRW.out⟩, HBW.out _ HB.out⟩
end Go.Proofs.Ytjajdpggoggoiaa

namespace Go.Proofs.Ytjajdpggoggoiaa
open Go.RowKit Go.Shelf

set_option maxRecDepth 100000 in
set_option maxHeartbeats 1000000 in
theorem rfewestof_any (R : Int) (x : Value) (W : List Int) (w : World) (hx0 : RdI w .i64 x W) (hd : OkD R W) : Calls Try.prog 53 #[.agg #[.int .i64 R, x]] w fun e w' => e = .returned (.int .i64 (aheadD R W W.length 0)) ∧ Below w.heap.size w w' := by
  have hl := hd.l16
  obtain ⟨a, c, rfl⟩ := hx0.ex _ rfl
  have HA := Lib.hid (fun wz hx => ahead_any R (.slice a W.length c) W wz hx hd)
  have HX := Lib.hid hx0
  obtain ⟨X, hX⟩ : ∃ X, aheadD R W W.length 0 = X := ⟨_, rfl⟩
  rw [hX]
  have HXX := Lib.hid hX
  clear hx0 hd hX
  go_enter Try.func53, Try.ntmps53
  go_wp2_with fail
  refine (HA.out _ (HX.out.mono (bal (bz _) _))).mono ?_
  rintro e w2 ⟨g, rfl, _, ⟨B, hR⟩, hB2⟩
  obtain ⟨b, h1, h2, h3⟩ := hR.row (j := 0) (by omega) (by omega)
  have h4 := h3 0 (by omega)
  rw [Nat.sub_zero, HXX.out] at h4
  have hg := hR.lt
  have HB2 := Lib.hid (btr (bal (bz w) _) hB2)
  clear hB2 h3 hR
  go_wp2_with fail
  go_ret
  exact ⟨rfl, HB2.out⟩
def fewD (R : Int) (W : List Int) : Int := if checkD R W = 0 then aheadD R W W.length 0 else 0
set_option maxRecDepth 100000 in
set_option maxHeartbeats 1000000 in
theorem rfewest_any (R : Int) (x : Value) (W : List Int) (w : World) (hx0 : RdI w .i64 x W) (hl : W.length ≤ 1000) :
    Calls Try.prog 27 #[.agg #[.int .i64 R, x]] w fun e w' => e = .returned (.tuple #[.int .i64 (fewD R W), .int .i64 (checkD R W)]) ∧ Below w.heap.size w w' := by
  obtain ⟨a, c, rfl⟩ := hx0.ex _ rfl
  have HC := Lib.hid (fun wz hx => rcheckday_any R (.slice a W.length c) W wz hx hl)
  have HX := Lib.hid hx0
  unfold fewD
  by_cases hc : checkD R W = 0
  · rw [if_pos hc]
    have HF := Lib.hid (fun wz hx => rfewestof_any R (.slice a W.length c) W wz hx (okD_of hc))
    generalize aheadD R W W.length 0 = X at *
    rw [hc] at HC ⊢
    clear hc hx0
    go_enter Try.func27, Try.ntmps27
    go_wp2_with fail
    refine (HC.out _ (HX.out.mono (bal (bz _) _))).mono ?_
    rintro e w2 ⟨rfl, hB2⟩
    obtain ⟨hcc, hf⟩ := bcell hB2
    have hz := hB2.size
    simp only [World.size_alloc] at hz
    have HB2 := Lib.hid (btr (bal (bz w) _) hB2)
    clear hB2
    go_wp2_with fail
    refine (HF.out _ (HX.out.mono HB2.out)).mono ?_
    rintro e w3 ⟨rfl, hB3⟩
    have HB3 := Lib.hid (btr HB2.out hB3)
    clear hB3
    go_wp2_with fail
    go_ret2
    exact ⟨rfl, HB3.out⟩
  · rw [if_neg hc]
    have t1 : (checkD R W != 0) = true := by simpa using hc
    clear hc hx0
    generalize checkD R W = q at *
    go_enter Try.func27, Try.ntmps27
    go_wp2_with fail
    refine (HC.out _ (HX.out.mono (bal (bz _) _))).mono ?_
    rintro e w2 ⟨rfl, hB2⟩
    obtain ⟨hcc, hf⟩ := bcell hB2
    have hz := hB2.size
    simp only [World.size_alloc] at hz
    have HB2 := Lib.hid (btr (bal (bz w) _) hB2)
    clear hB2
    go_wp2_with fail
    refine (HC.out _ (HX.out.mono HB2.out)).mono ?_
    rintro e w3 ⟨rfl, hB3⟩
    go_wp2_with fail
    go_ret2
    exact ⟨rfl, btr HB2.out hB3⟩
end Go.Proofs.Ytjajdpggoggoiaa

namespace Go.Proofs.Ytjajdpggoggoiaa
open Go.RowKit Go.Shelf

/-- The pauses that begin before k. -/
def psL (W : List Int) : Nat → List (Int × Int)
  | 0 => []
  | k + 1 => if nextD W k (want W k) = 1000 then psL W k else psL W k ++ [((k : Int), nextD W k (want W k))]
theorem psL_len (W : List Int) : ∀ k, (psL W k).length ≤ k
  | 0 => Nat.le_refl _
  | k + 1 => by
    have := psL_len W k
    unfold psL
    split
    · omega
    · simp; omega
set_option maxRecDepth 100000 in
set_option maxHeartbeats 4000000 in
theorem rpauses_any (R : Int) (x : Value) (W : List Int) (w : World) (hx0 : RdI w .i64 x W) (hl : W.length ≤ 1000) :
    Calls Try.prog 55 #[.agg #[.int .i64 R, x]] w fun e w' => ∃ v, e = .returned v ∧ RdP w' v (psL W W.length) ∧ Below w.heap.size w w' := by
  obtain ⟨a, ca, rfl, _, hcm, hx⟩ := hx0.form
  clear hx0 hcm
  have hr1 : (w.alloc (.cells #[.int .i64 R, .slice a W.length ca] 24)).cell? ⟨w.heap.size, 1, none⟩ = some (.slice a W.length ca) := cnew rfl rfl
  have HR1 := Lib.hid (fun wz (hB : Below (w.alloc (.cells #[.int .i64 R, .slice a W.length ca] 24)).heap.size (w.alloc (.cells #[.int .i64 R, .slice a W.length ca] 24)) wz) => (hB.cell (p := ⟨w.heap.size, 1, none⟩) (by simp)).trans hr1)
  have HBW := Lib.hid (fun wz (hB : Below (w.alloc (.cells #[.int .i64 R, .slice a W.length ca] 24)).heap.size (w.alloc (.cells #[.int .i64 R, .slice a W.length ca] 24)) wz) => btr (bal (bz w) _) hB)
  have hws : w.heap.size < (w.alloc (.cells #[.int .i64 R, .slice a W.length ca] 24)).heap.size := by simp
  clear hr1
  go_enter Try.func55, Try.ntmps55
  go_wp2_with fail
  generalize (w.alloc (.cells #[.int .i64 R, .slice a W.length ca] 24)) = wA at *
  go_loopw [3, 4, 5] (fun s3 s4 _ wr => ∃ (k : Nat) (v : Value), k ≤ W.length ∧ v = s3 ∧ s4 = .int .i64 k ∧ wr.ownsRow wA.heap.size 75 2 v (psL W k).length (prs (psL W k)) ∧ Below wA.heap.size wA wr) (fun _ s4 _ _ => W.length - (intOf s4).toNat)
  case atStart => exact ⟨0, _, by omega, rfl, rfl, World.ownsRow_nil _ _ _ _, bz _⟩
  case round =>
    obtain ⟨k, v, hk, rfl, rfl, hor, hB⟩ := hrel
    obtain ⟨av, cv, rfl⟩ := owns_form hor
    have HOR := Lib.hid hor; have HB := Lib.hid hB
    clear hor hB
    have r1 := HR1.out _ HB.out; have rz := Nat.lt_of_lt_of_le hws HB.out.size
    by_cases hlt : k < W.length
    · obtain ⟨bx, ox, rfl, hbx, hcx⟩ := hx (by omega)
      clear hx
      have HST := Lib.hid (show psL W (k + 1) = if nextD W k (want W k) = 1000 then psL W k else psL W k ++ [((k : Int), nextD W k (want W k))] from rfl)
      have hpl := psL_len W k
      have gk := ((HBW.out _ HB.out).cell (p := ⟨bx, ox + k, none⟩) hbx).trans (hcx k hlt)
      have zk := Nat.lt_of_lt_of_le hbx (HBW.out _ HB.out).size
      change wr.cell? _ = some (Value.int .i64 (want W k)) at gk
      have hgk := fun wz (hB : Below wA.heap.size wA wz) => (show wz.cell? ⟨bx, ox + k, none⟩ = some (Value.int .i64 (want W k)) from ((HBW.out _ hB).cell (p := ⟨bx, ox + k, none⟩) hbx).trans (hcx k hlt))
      have ZK := Lib.hid (fun wz (hB : Below wA.heap.size wA wz) => Nat.lt_of_lt_of_le hbx (HBW.out _ hB).size)
      have HN := Lib.hid (nextD_step W)
      have HNL := Lib.hid (nextD_last W)
      generalize psL W k = U at *
      obtain ⟨r, hr⟩ : ∃ r, want W k = r := ⟨_, rfl⟩
      rw [hr] at gk HST hgk
      have GK := Lib.hid hgk
      clear hr hgk
      obtain ⟨X, hX⟩ : ∃ X, nextD W k r = X := ⟨_, rfl⟩
      rw [hX] at HST
      have HX := Lib.hid hX; clear hX
      go_wp2_with fail
      go_loopw [3, 5] (fun s3 s5 ws => ∃ (j : Nat), k ≤ j ∧ j < W.length ∧ s3 = .slice av U.length cv ∧ s5 = .int .i64 ((j : Int) + 1) ∧ Hid (nextD W j r = X) ∧ ws.ownsRow wA.heap.size 75 2 (.slice av U.length cv) U.length (prs U) ∧ Below wA.heap.size wA ws) (fun _ s5 _ => W.length - (intOf s5).toNat)
      case atStart => exact ⟨k, by omega, hlt, rfl, rfl, HX, HOR.out, HB.out⟩
      case round =>
        clear r1 rz gk zk HOR HB
        obtain ⟨j, hkj, hj, rfl, rfl, HJ, hor, hB⟩ := hrel
        have HOR := Lib.hid hor; have HB := Lib.hid hB
        clear hor hB
        have r1 := HR1.out _ HB.out; have rz := Nat.lt_of_lt_of_le hws HB.out.size
        have gk := GK.out _ HB.out; have zk := ZK.out _ HB.out
        by_cases hj2 : j + 1 < W.length
        · have gj := ((HBW.out _ HB.out).cell (p := ⟨bx, ox + (j + 1), none⟩) hbx).trans (hcx (j + 1) hj2)
          change wr.cell? _ = some (Value.int .i64 (want W (j + 1))) at gj
          have hst := HN.out j r hj2
          obtain ⟨u, hu⟩ : ∃ u, want W (j + 1) = u := ⟨_, rfl⟩
          rw [hu] at gj hst
          rw [HJ.out] at hst
          clear hu
          have HJ1 := Lib.hid hst
          clear hst
          by_cases hur : u = r
          · subst hur
            have e := HJ1.out
            rw [if_pos rfl] at e
            have hst := HST.out
            rw [if_neg (by omega), e] at hst
            have HS2 := Lib.hid hst
            have hbz : wA.heap.size ≤ wr.heap.size := HB.out.size
            have HOD := Lib.hid (fun n => owns_kept HOR.out (Below.drewN' n (bz wr)))
            clear hst e HJ HST HJ1
            go_upto_region 8 with fail
            go_quiet (fail)
            go_wp2_with (at_builtin; refine wpList_append_pair rfl _ _ rfl (show Try.prog.underlying 73 = some (.slice 75) by kernel_rfl) info75 (HOD.out _) hbz (k : Int) ((j : Int) + 1) rfl rfl rfl (by omega) ?_)
            intro v' w' hown hgrow
            have HBN := Lib.hid (append_below (bal (Below.drewN' _ HB.out) _) ((HOD.out _).alloc _) hgrow (Nat.le_refl _))
            have HOWN := Lib.hid hown
            clear hown hgrow
            go_wp2_with fail
            go_roundw
            case rel => exact ⟨k + 1, v', by omega, rfl, rfl, by rw [HS2.out, show ((j + 1 : Nat) : Int) = (j : Int) + 1 by omega, List.length_append]; exact HOWN.out, HBN.out⟩
            case measure => simp [intOf]; omega
          · have t1 : (u == r) = false := by simpa using hur
            have e := HJ1.out
            rw [if_neg hur] at e
            have HJ2 := Lib.hid e
            clear e HJ HJ1 hur
            go_upto_region 8 with fail
            go_quiet (fail)
            go_wp2_with fail
            go_roundw
            case rel => exact ⟨j + 1, by omega, by omega, rfl, by congr 1, Lib.hid HJ2.out.symm, owns_kept HOR.out (Below.drewN' _ (bz wr)), Below.drewN' _ HB.out⟩
            case measure => simp [intOf]; omega
        · have hXe : X = 1000 := by rw [← HJ.out]; exact HNL.out j r (by omega)
          rw [if_pos hXe] at HST
          clear hXe
          go_wp2_with fail
          go_roundw
          case rel => exact ⟨k + 1, _, by omega, rfl, rfl, by rw [HST.out]; exact HOR.out, HB.out⟩
          case measure => simp [intOf]; omega
    · have hkl : k = W.length := by omega
      have hor := HOR.out
      subst hkl
      have HORF := Lib.hid (RdP.of_owns hor)
      clear hor
      go_wp2_with fail
      go_ret
      exact ⟨_, rfl, HORF.out, HBW.out _ HB.out⟩
end Go.Proofs.Ytjajdpggoggoiaa

namespace Go.Proofs.Ytjajdpggoggoiaa
open Go.RowKit Go.Shelf

/-- Times are in order, from nx on, and below n. -/
def okT (n : Int) : Int → List Int → Bool
  | _, [] => true
  | nx, t :: l => decide (nx ≤ t ∧ t ≤ n - 1) && okT n (t + 1) l
theorem okT_step (n nx : Int) (T : List Int) (k : Nat) (hk : k < T.length) : okT n nx (T.drop k) = (decide (nx ≤ want T k ∧ want T k ≤ n - 1) && okT n (want T k + 1) (T.drop (k + 1))) := by
  rw [List.drop_eq_getElem_cons hk]
  have e : want T k = T[k] := by simp [want, hk]
  rw [e]; rfl
def inP (a b t : Int) : Bool := decide (a < t) && decide (t < b)
def freeP (T : List Int) (p : Int × Int) : Bool := !T.any (inP p.1 p.2)
def freeN (T : List Int) (l : List (Int × Int)) : Int := ((l.filter (freeP T)).length : Int)
def provN (R : Int) (W T : List Int) : Int := (W.length : Int) - (T.length : Int) * (R - 1) - freeN T (psL W W.length)
def timesR (R : Int) (W T : List Int) : Int × Int := if checkD R W ≠ 0 then (0, checkD R W) else if okT W.length 0 T = false then (0, 3) else (provN R W T, 0)
theorem freeN_succ (T : List Int) (l : List (Int × Int)) (k : Nat) (hk : k < l.length) : freeN T (l.take (k + 1)) = freeN T (l.take k) + if freeP T (l[k]?.getD (0, 0)) then 1 else 0 := by
  unfold freeN
  rw [List.take_succ_eq_append_getElem hk, List.filter_append, List.length_append]
  have e : l[k]?.getD (0, 0) = l[k] := by simp [hk]
  rw [e]
  by_cases h : freeP T l[k] = true
  · rw [if_pos h]; simp [h]
  · rw [if_neg h]; simp [h]
theorem freeN_bd (T : List Int) (l : List (Int × Int)) : 0 ≤ freeN T l ∧ freeN T l ≤ (l.length : Int) := by
  unfold freeN
  have := List.length_filter_le (freeP T) l
  omega
theorem any_take_succ (p : Int → Bool) (T : List Int) (k : Nat) (hk : k < T.length) : (T.take (k + 1)).any p = ((T.take k).any p || p (want T k)) := by
  rw [List.take_succ_eq_append_getElem hk, List.any_append]
  have e : want T k = T[k] := by simp [want, hk]
  rw [e]; simp
/-- The second loop: no time is written in the way. -/
def TimesOk (R : Int) (W T : List Int) (w : World) (e : Ending) (w' : World) : Prop := e = .returned (.tuple #[.int .i64 (timesR R W T).1, .int .i64 (timesR R W T).2]) ∧ Below w.heap.size w w'
set_option maxRecDepth 100000 in
set_option maxHeartbeats 8000000 in
theorem rchecktimes_any (R : Int) (x y : Value) (W T : List Int) (w : World) (hx0 : RdI w .i64 x W) (hy0 : RdI w .i64 y T) (hl : W.length ≤ 1000) (hlt : T.length ≤ 1000) :
    Calls Try.prog 29 #[.agg #[.int .i64 R, x], y] w (TimesOk R W T w) := by
  obtain ⟨a, ca, rfl, _, hcm, hx⟩ := hx0.form
  obtain ⟨a', ca', rfl, _, hcm', hy⟩ := hy0.form
  have HC := Lib.hid (fun wz hx => rcheckday_any R (.slice a W.length ca) W wz hx hl)
  have HX := Lib.hid hx0
  clear hx0 hy0 hcm hcm'
  unfold TimesOk timesR
  by_cases hc : checkD R W = 0
  · rw [if_neg (by simpa using hc)]
    have hd := okD_of hc
    have h16 := hd.l16
    have hR1 := hd.r1
    have hR6 := hd.r6
    have HP := Lib.hid (fun wz hx => rpauses_any R (.slice a W.length ca) W wz hx hl)
    have hpl := psL_len W W.length
    rw [hc] at HC
    have hnw : (W.length : Int) ≤ 16 := by omega
    unfold provN
    generalize hU : psL W W.length = U at *
    have hr0 : (w.alloc (.cells #[.int .i64 R, .slice a W.length ca] 24)).cell? ⟨w.heap.size, 0, none⟩ = some (.int .i64 R) := cnew rfl rfl
    have hr1 : (w.alloc (.cells #[.int .i64 R, .slice a W.length ca] 24)).cell? ⟨w.heap.size, 1, none⟩ = some (.slice a W.length ca) := cnew rfl rfl
    have HR0 := Lib.hid (fun wz (hB : Below (w.alloc (.cells #[.int .i64 R, .slice a W.length ca] 24)).heap.size (w.alloc (.cells #[.int .i64 R, .slice a W.length ca] 24)) wz) => (hB.cell (p := ⟨w.heap.size, 0, none⟩) (by simp)).trans hr0)
    have HR1 := Lib.hid (fun wz (hB : Below (w.alloc (.cells #[.int .i64 R, .slice a W.length ca] 24)).heap.size (w.alloc (.cells #[.int .i64 R, .slice a W.length ca] 24)) wz) => (hB.cell (p := ⟨w.heap.size, 1, none⟩) (by simp)).trans hr1)
    have HBW := Lib.hid (fun wz (hB : Below (w.alloc (.cells #[.int .i64 R, .slice a W.length ca] 24)).heap.size (w.alloc (.cells #[.int .i64 R, .slice a W.length ca] 24)) wz) => btr (bal (bz w) _) hB)
    have hws : w.heap.size < (w.alloc (.cells #[.int .i64 R, .slice a W.length ca] 24)).heap.size := by simp
    obtain ⟨res, hres⟩ : ∃ res : Int × Int, (if okT W.length 0 T = false then (0, 3) else ((W.length : Int) - (T.length : Int) * (R - 1) - freeN T U, 0)) = res := ⟨_, rfl⟩
    rw [hres]
    have HRES := Lib.hid hres
    clear hr0 hr1 hc hU hd hres
    go_enter Try.func29, Try.ntmps29
    go_upto_region 1 with fail
    generalize (w.alloc (.cells #[.int .i64 R, .slice a W.length ca] 24)) = wA at *
    have r0 := HR0.out _ (bz wA); have r1 := HR1.out _ (bz wA)
    go_wp2_with fail
    refine (HC.out _ (HX.out.mono (HBW.out _ (bz wA)))).mono ?_
    rintro e w2 ⟨rfl, hB2⟩
    clear r0 r1
    have HB2 := Lib.hid hB2
    clear hB2
    go_wp2_with fail
    go_loopw [6] (fun s6 wr => ∃ (k : Nat) (nx : Int), k ≤ T.length ∧ s6 = .int .i64 k ∧ (k = 0 → nx = 0) ∧ (0 < k → want T (k - 1) = nx - 1) ∧ 0 ≤ nx ∧ Hid (okT W.length nx (T.drop k) = okT W.length 0 T) ∧ (k : Int) ≤ nx ∧ nx ≤ 16 ∧ Below wA.heap.size wA wr) (fun s6 _ => T.length - (intOf s6).toNat)
    case atStart => exact ⟨0, 0, by omega, rfl, fun _ => rfl, fun h => by omega, by omega, Lib.hid rfl, by omega, by omega, HB2.out⟩
    case round =>
      obtain ⟨k, nx, hk, rfl, hk0, hk1, hnx, HO, hkn, hnx2, hB⟩ := hrel
      have r1 := HR1.out _ hB; have rz := Nat.lt_of_lt_of_le hws hB.size
      by_cases hkl : k < T.length
      · obtain ⟨bt, ot, rfl, hbt, hct⟩ := hy (by omega)
        have gt := ((HBW.out _ hB).cell (p := ⟨bt, ot + k, none⟩) hbt).trans (hct k hkl)
        have zt := Nat.lt_of_lt_of_le hbt (HBW.out _ hB).size
        change wr.cell? _ = some (Value.int .i64 (want T k)) at gt
        have hst := okT_step W.length nx T k hkl
        have htk : want T k = want T (k + 1 - 1) := rfl
        have HTK := Lib.hid htk; clear htk
        have HB := Lib.hid hB
        clear hB
        generalize want T k = t at *
        have HTN := Lib.hid (HTK.out.symm)
        clear HTK
        by_cases c1 : t < 0
        · have d1 : decide (t < 0) = true := decide_eq_true c1
          have hf : okT W.length 0 T = false := by rw [← HO.out, hst, show decide (nx ≤ t ∧ t ≤ (W.length : Int) - 1) = false from decide_eq_false (by omega)]; rfl
          have hres := HRES.out
          rw [if_pos hf] at hres
          subst hres
          clear hf hst HO hy hct HRES
          go_upto_region 6 with fail
          go_quiet (fail)
          go_wp2_with fail
          go_ret2
          exact ⟨rfl, HBW.out _ (Below.drewN' _ HB.out)⟩
        · have d1 : decide (t < 0) = false := decide_eq_false c1
          by_cases c2 : (W.length : Int) ≤ t
          · have d2 : decide ((W.length : Int) ≤ t) = true := decide_eq_true c2
            have hf : okT W.length 0 T = false := by rw [← HO.out, hst, show decide (nx ≤ t ∧ t ≤ (W.length : Int) - 1) = false from decide_eq_false (by omega)]; rfl
            have hres := HRES.out
            rw [if_pos hf] at hres
            subst hres
            clear hf hst HO hy hct HRES
            go_upto_region 6 with fail
            go_quiet (fail)
            go_wp2_with fail
            go_ret2
            exact ⟨rfl, HBW.out _ (Below.drewN' _ HB.out)⟩
          · have d2 : decide ((W.length : Int) ≤ t) = false := decide_eq_false c2
            by_cases c3 : 0 < k
            · have d3 : decide ((0 : Int) < (k : Int)) = true := decide_eq_true (by omega)
              have gp := ((HBW.out _ HB.out).cell (p := ⟨bt, ot + (k - 1), none⟩) hbt).trans (hct (k - 1) (by omega))
              change wr.cell? _ = some (Value.int .i64 (want T (k - 1))) at gp
              rw [hk1 c3] at gp
              obtain ⟨m, hm⟩ : ∃ m, k = m + 1 := ⟨k - 1, by omega⟩
              subst hm
              rw [show m + 1 - 1 = m by omega] at *
              by_cases c4 : t ≤ nx - 1
              · have d4 : decide (t ≤ nx - 1) = true := decide_eq_true c4
                have hf : okT W.length 0 T = false := by rw [← HO.out, hst, show decide (nx ≤ t ∧ t ≤ (W.length : Int) - 1) = false from decide_eq_false (by omega)]; rfl
                have hres := HRES.out
                rw [if_pos hf] at hres
                subst hres
                clear hf hst HO hy hct HRES
                go_upto_region 6 with fail
                go_quiet (fail)
                go_wp2_with fail
                go_ret2
                exact ⟨rfl, HBW.out _ (Below.drewN' _ HB.out)⟩
              · have d4 : decide (t ≤ nx - 1) = false := decide_eq_false c4
                have hO := HO.out
                rw [hst, show decide (nx ≤ t ∧ t ≤ (W.length : Int) - 1) = true from decide_eq_true (by omega), Bool.true_and] at hO
                have HO2 := Lib.hid hO
                clear hO hst HO hct
                go_upto_region 6 with fail
                go_quiet (fail)
                go_wp2_with fail
                go_roundw
                case rel => exact ⟨m + 1 + 1, t + 1, by omega, rfl, fun h => by omega, fun _ => by rw [HTN.out]; omega, by omega, HO2, by omega, by omega, Below.drewN' _ HB.out⟩
                case measure => simp [intOf]; omega
            · have d3 : decide ((0 : Int) < (k : Int)) = false := decide_eq_false (by omega)
              have hn0 := hk0 (by omega)
              have hO := HO.out
              rw [hst, show decide (nx ≤ t ∧ t ≤ (W.length : Int) - 1) = true from decide_eq_true (by omega), Bool.true_and] at hO
              have HO2 := Lib.hid hO
              clear hO hst HO hct
              go_upto_region 6 with fail
              go_quiet (fail)
              go_wp2_with fail
              go_roundw
              case rel => exact ⟨k + 1, t + 1, by omega, rfl, fun h => by omega, fun _ => by rw [HTN.out]; omega, by omega, HO2, by omega, by omega, Below.drewN' _ HB.out⟩
              case measure => simp [intOf]; omega
      · have hke : k = T.length := by omega
        subst hke
        have hok : okT W.length 0 T = true := by rw [← HO.out, List.drop_length]; rfl
        have hT16 : T.length ≤ 16 := by omega
        have hres := HRES.out
        rw [if_neg (by simp [hok])] at hres
        have HB := Lib.hid hB
        have hq : 0 ≤ (T.length : Int) * (R - 1) ∧ (T.length : Int) * (R - 1) ≤ 80 := by
          have : R = 1 ∨ R = 2 ∨ R = 3 ∨ R = 4 ∨ R = 5 ∨ R = 6 := by omega
          rcases this with rfl | rfl | rfl | rfl | rfl | rfl <;> omega
        clear hB hok HO hk0 hk1 hkn hnx2 hkl hk HRES
        obtain ⟨Q, hQ⟩ : ∃ Q, (T.length : Int) * (R - 1) = Q := ⟨_, rfl⟩
        have hwq : IntKind.i64.wrap ((T.length : Int) * (R - 1)) = Q := by rw [hQ]; exact IntWalk.i64_in _ (by omega)
        rw [hQ] at hq hres
        have HRV := Lib.hid hres
        clear hQ hres
        have r0 := HR0.out _ HB.out
        go_upto_region 9 with fail
        generalize (T.length : Int) * (R - 1) = Q0 at *
        go_wp2_with fail
        refine (HP.out _ (HX.out.mono (HBW.out _ HB.out))).mono ?_
        rintro e w3 ⟨v, rfl, hv, hB3⟩
        have HB3 := Lib.hid (btr HB.out hB3)
        clear r0 r1 rz HP HC HB2 HB hB3
        obtain ⟨au, cu, rfl, _, hcm, hu⟩ := hv.form
        clear hv hcm
        have hzz := freeN_bd T U
        have HFU := Lib.hid (show freeN T (U.take 0) = 0 by simp [freeN])
        go_wp2_with fail
        go_loopw [7, 9, 10, 11] (fun s7 s9 _ _ wx => ∃ (j : Nat) (c : Int), j ≤ U.length ∧ s9 = .int .i64 j ∧ s7 = .int .i64 ((W.length : Int) - Q - c) ∧ Hid (freeN T (U.take j) = c) ∧ 0 ≤ c ∧ c ≤ j ∧ Below w3.heap.size w3 wx) (fun _ s9 _ _ _ => U.length - (intOf s9).toNat)
        case atStart => exact ⟨0, 0, by omega, rfl, by simp, HFU, by omega, by omega, bz _⟩
        case round =>
          obtain ⟨j, c, hj, rfl, rfl, HJ, hc0, hcj, hBx⟩ := hrel
          by_cases hjl : j < U.length
          · obtain ⟨bu, ou, rfl, hbu, hcu⟩ := hu (by omega)
            obtain ⟨gu1, gu2⟩ := hcu j hjl
            have hsu := freeN_succ T U j hjl
            rw [HJ.out] at hsu
            have hfp := (show freeP T (U[j]?.getD (0, 0)) = !T.any (inP (U[j]?.getD (0, 0)).1 (U[j]?.getD (0, 0)).2) from rfl)
            rw [hfp] at hsu
            generalize U[j]?.getD (0, 0) = pq at *
            obtain ⟨p1, p2⟩ := pq
            simp only at gu1 gu2 hsu
            have HSU := Lib.hid hsu
            clear hsu hfp hcu
            go_wp2_with fail
            go_loopw [10, 11] (fun s10 s11 wy => ∃ (m : Nat) (bb : Bool), m ≤ T.length ∧ s11 = .int .i64 m ∧ s10 = .bool bb ∧ Hid ((T.take m).any (inP p1 p2) = bb) ∧ Below w3.heap.size w3 wy) (fun _ s11 _ => T.length - (intOf s11).toNat)
            case atStart => exact ⟨0, false, by omega, rfl, rfl, Lib.hid rfl, hBx⟩
            case round =>
              clear hBx
              obtain ⟨m, bb, hm, rfl, rfl, HM, hBy⟩ := hrel
              have HBY := Lib.hid hBy
              by_cases hml : m < T.length
              · obtain ⟨bt, ot, rfl, hbt, hct⟩ := hy (by omega)
                have HBT := Lib.hid (btr HB3.out hBy)
                have gt := ((HBW.out _ HBT.out).cell (p := ⟨bt, ot + m, none⟩) hbt).trans (hct m hml)
                have zt := Nat.lt_of_lt_of_le hbt (HBW.out _ HBT.out).size
                change wr.cell? _ = some (Value.int .i64 (want T m)) at gt
                have g1 := (hBy.cell (p := ⟨bu, ou + j * 2, none⟩) hbu).trans gu1
                have g2 := (hBy.cell (p := ⟨bu, ou + j * 2 + 1, none⟩) hbu).trans gu2
                have zu := Nat.lt_of_lt_of_le hbu hBy.size
                have hst := any_take_succ (inP p1 p2) T m hml
                rw [HM.out] at hst
                generalize want T m = t at *
                clear hct hBy
                cases bb with
                | true =>
                  have HST := Lib.hid (show (T.take (m + 1)).any (inP p1 p2) = true by rw [hst]; rfl)
                  clear hst HM
                  go_upto_region 17 with fail
                  go_quiet (fail)
                  go_wp2_with fail
                  go_roundw
                  case rel => exact ⟨m + 1, true, by omega, rfl, rfl, HST, Below.drewN' _ HBY.out⟩
                  case measure => simp [intOf]; omega
                | false =>
                  by_cases c1 : p1 < t
                  · have d1 : decide (p1 < t) = true := decide_eq_true c1
                    by_cases c2 : t < p2
                    · have d2 : decide (t < p2) = true := decide_eq_true c2
                      have HST := Lib.hid (show (T.take (m + 1)).any (inP p1 p2) = true by rw [hst]; simp [inP, c1, c2])
                      clear hst HM
                      go_upto_region 17 with fail
                      go_quiet (fail)
                      go_wp2_with fail
                      go_roundw
                      case rel => exact ⟨m + 1, true, by omega, rfl, rfl, HST, Below.drewN' _ HBY.out⟩
                      case measure => simp [intOf]; omega
                    · have d2 : decide (t < p2) = false := decide_eq_false c2
                      have HST := Lib.hid (show (T.take (m + 1)).any (inP p1 p2) = false by rw [hst]; simp [inP, c1, c2])
                      clear hst HM
                      go_upto_region 17 with fail
                      go_quiet (fail)
                      go_wp2_with fail
                      go_roundw
                      case rel => exact ⟨m + 1, false, by omega, rfl, rfl, HST, Below.drewN' _ HBY.out⟩
                      case measure => simp [intOf]; omega
                  · have d1 : decide (p1 < t) = false := decide_eq_false c1
                    have HST := Lib.hid (show (T.take (m + 1)).any (inP p1 p2) = false by rw [hst]; simp [inP, c1])
                    clear hst HM
                    go_upto_region 17 with fail
                    go_quiet (fail)
                    go_wp2_with fail
                    go_roundw
                    case rel => exact ⟨m + 1, false, by omega, rfl, rfl, HST, Below.drewN' _ HBY.out⟩
                    case measure => simp [intOf]; omega
              · have hme : m = T.length := by omega
                have hM := HM.out
                rw [hme, List.take_length] at hM
                have hsu := HSU.out
                rw [hM] at hsu
                have HSU2 := Lib.hid hsu
                clear hM hsu HSU HM hBy
                cases bb with
                | true =>
                  go_wp2_with fail
                  go_roundw
                  case rel => exact ⟨j + 1, c, by omega, rfl, rfl, Lib.hid (by rw [HSU2.out]; simp), by omega, by omega, HBY.out⟩
                  case measure => simp [intOf]; omega
                | false =>
                  go_wp2_with fail
                  go_roundw
                  case rel => exact ⟨j + 1, c + 1, by omega, rfl, by congr 1 <;> omega, Lib.hid (by rw [HSU2.out]; simp), by omega, by omega, HBY.out⟩
                  case measure => simp [intOf]; omega
          · have hje : j = U.length := by omega
            have hJ := HJ.out
            rw [hje, List.take_length] at hJ
            have hr := HRV.out
            rw [hJ] at hr
            have HRW := Lib.hid hr
            clear hJ HJ hje hr HRV
            go_wp2_with fail
            go_ret2
            exact ⟨by rw [← HRW.out]; rfl, HBW.out _ (btr HB3.out hBx)⟩
  · rw [if_pos (by simpa using hc)]
    have t1 : (checkD R W != 0) = true := by simpa using hc
    clear hc hx hy
    generalize checkD R W = q at *
    go_enter Try.func29, Try.ntmps29
    go_wp2_with fail
    refine (HC.out _ (HX.out.mono (bal (bz _) _))).mono ?_
    rintro e w2 ⟨rfl, hB2⟩
    obtain ⟨hcc, hf⟩ := bcell hB2
    have hz := hB2.size
    simp only [World.size_alloc] at hz
    have HB2 := Lib.hid (btr (bal (bz w) _) hB2)
    clear hB2
    go_wp2_with fail
    refine (HC.out _ (HX.out.mono HB2.out)).mono ?_
    rintro e w3 ⟨rfl, hB3⟩
    go_wp2_with fail
    go_ret2
    exact ⟨rfl, btr HB2.out hB3⟩
end Go.Proofs.Ytjajdpggoggoiaa

namespace Go.Proofs.Ytjajdpggoggoiaa
open Go.RowKit Go.Shelf

/-- From the want before c down; what is seen since. -/
def depGo (W : List Int) (i : Nat) : Nat → List Int → Int
  | 0, _ => 0
  | k + 1, seen => if k < i ∧ want W k = want W i then (seen.length : Int) else depGo W i k (if seen.any (eqB (want W k)) then seen else seen ++ [want W k])
def depthD (W : List Int) (i : Nat) : Int := depGo W i (i + 1) []
def depL (W : List Int) (k : Nat) : List Int := (List.range k).map (depthD W)
theorem depL_succ (W : List Int) (k : Nat) : depL W (k + 1) = depL W k ++ [depthD W k] := by simp [depL, List.range_succ]
theorem depL_len (W : List Int) (k : Nat) : (depL W k).length = k := by simp [depL]
def dpsL (R : Int) (W : List Int) : List Int := if checkD R W = 0 then depL W W.length else []
set_option maxRecDepth 100000 in
set_option maxHeartbeats 8000000 in
theorem rdepths_any (R : Int) (x : Value) (W : List Int) (w : World) (hx0 : RdI w .i64 x W) (hl : W.length ≤ 1000) :
    Calls Try.prog 34 #[.agg #[.int .i64 R, x]] w fun e w' => ∃ u, e = .returned (.tuple #[u, .int .i64 (checkD R W)]) ∧ RdI w' .i64 u (dpsL R W) ∧ Below w.heap.size w w' := by
  obtain ⟨a, ca, rfl, _, hcm, hx⟩ := hx0.form
  have HC := Lib.hid (fun wz hx => rcheckday_any R (.slice a W.length ca) W wz hx hl)
  have HX := Lib.hid hx0
  clear hx0 hcm
  unfold dpsL
  by_cases hc : checkD R W = 0
  · rw [if_pos hc]
    have h16 := (okD_of hc).l16
    rw [hc] at HC ⊢
    have hr1 : (w.alloc (.cells #[.int .i64 R, .slice a W.length ca] 24)).cell? ⟨w.heap.size, 1, none⟩ = some (.slice a W.length ca) := cnew rfl rfl
    have hr0 : (w.alloc (.cells #[.int .i64 R, .slice a W.length ca] 24)).cell? ⟨w.heap.size, 0, none⟩ = some (.int .i64 R) := cnew rfl rfl
    have HR0 := Lib.hid (fun wz (hB : Below (w.alloc (.cells #[.int .i64 R, .slice a W.length ca] 24)).heap.size (w.alloc (.cells #[.int .i64 R, .slice a W.length ca] 24)) wz) => (hB.cell (p := ⟨w.heap.size, 0, none⟩) (by simp)).trans hr0)
    have HR1 := Lib.hid (fun wz (hB : Below (w.alloc (.cells #[.int .i64 R, .slice a W.length ca] 24)).heap.size (w.alloc (.cells #[.int .i64 R, .slice a W.length ca] 24)) wz) => (hB.cell (p := ⟨w.heap.size, 1, none⟩) (by simp)).trans hr1)
    have HBW := Lib.hid (fun wz (hB : Below (w.alloc (.cells #[.int .i64 R, .slice a W.length ca] 24)).heap.size (w.alloc (.cells #[.int .i64 R, .slice a W.length ca] 24)) wz) => btr (bal (bz w) _) hB)
    have hws : w.heap.size < (w.alloc (.cells #[.int .i64 R, .slice a W.length ca] 24)).heap.size := by simp
    clear hr1 hr0 hc
    go_enter Try.func34, Try.ntmps34
    go_upto_region 1 with fail
    generalize (w.alloc (.cells #[.int .i64 R, .slice a W.length ca] 24)) = wA at *
    have r0 := HR0.out _ (bz wA); have r1 := HR1.out _ (bz wA)
    go_wp2_with fail
    refine (HC.out _ (HX.out.mono (HBW.out _ (bz wA)))).mono ?_
    rintro e w2 ⟨rfl, hB2⟩
    clear r0 r1
    have HB2 := Lib.hid hB2
    clear hB2
    go_wp2_with fail
    go_loopw [4, 5, 6, 7, 8] (fun s4 s5 _ _ _ wr => ∃ (k : Nat) (u : Value), k ≤ W.length ∧ u = s4 ∧ s5 = .int .i64 k ∧ rowI wr wA.heap.size u (depL W k) ∧ Below wA.heap.size wA wr) (fun _ s5 _ _ _ _ => W.length - (intOf s5).toNat)
    case atStart => exact ⟨0, _, by omega, rfl, rfl, World.ownsRow_nil _ _ _ _, HB2.out⟩
    case round =>
      obtain ⟨k, u, hk, rfl, rfl, hor, hB⟩ := hrel
      clear HB2
      obtain ⟨av, cv, rfl⟩ := owns_form hor
      have HOR := Lib.hid hor; have HB := Lib.hid hB
      clear hor hB
      have r1 := HR1.out _ HB.out; have rz := Nat.lt_of_lt_of_le hws HB.out.size
      rw [depL_len] at *
      by_cases hkl : k < W.length
      · obtain ⟨bx, ox, rfl, hbx, hcx⟩ := hx (by omega)
        have HST := Lib.hid (depL_succ W k)
        have hll := depL_len W k
        have HGZ := Lib.hid (show ∀ s, depGo W k 0 s = 0 from fun s => rfl)
        have HGS := Lib.hid (show ∀ m s, depGo W k (m + 1) s = if m < k ∧ want W m = want W k then (s.length : Int) else depGo W k m (if s.any (eqB (want W m)) then s else s ++ [want W m]) from fun m s => rfl)
        have HGW := Lib.hid (fun (j : Nat) (hj : j < W.length) wz (hB : Below wA.heap.size wA wz) => (show wz.cell? ⟨bx, ox + j, none⟩ = some (Value.int .i64 (want W j)) from ((HBW.out _ hB).cell (p := ⟨bx, ox + j, none⟩) hbx).trans (hcx j hj)))
        have HZW := Lib.hid (fun wz (hB : Below wA.heap.size wA wz) => Nat.lt_of_lt_of_le hbx (HBW.out _ hB).size)
        have hxx := (show depthD W k = depGo W k (k + 1) [] from rfl)
        obtain ⟨X, hX⟩ : ∃ X, depthD W k = X := ⟨_, rfl⟩
        rw [hX] at hxx HST
        have HXX := Lib.hid hxx.symm
        clear hxx hX hcx
        go_wp2_with fail
        clear r1 rz
        go_loopw [6, 7, 8] (fun s6 s7 s8 ws => ∃ (c : Nat) (v : Value) (seen : List Int), c ≤ k + 1 ∧ v = s6 ∧ s7 = .int .i64 0 ∧ s8 = .int .i64 ((c : Int) - 1) ∧ rowI ws wr.heap.size v seen ∧ seen.length + c ≤ k + 1 ∧ Hid (depGo W k c seen = X) ∧ Below wr.heap.size wr ws) (fun _ _ s8 _ => (intOf s8 + 1).toNat)
        case atStart => exact ⟨k + 1, _, [], by omega, rfl, rfl, by congr 1; omega, World.ownsRow_nil _ _ _ _, by simp, HXX, bz _⟩
        case round =>
          obtain ⟨c, v, seen, hc1, rfl, rfl, rfl, hov, hsc, HG, hBs⟩ := hrel
          obtain ⟨av2, cv2, rfl⟩ := owns_form hov
          have HOV := Lib.hid hov; have HBS := Lib.hid hBs
          have HORS := Lib.hid (owns_kept HOR.out hBs)
          have HBA := Lib.hid (btr HB.out hBs)
          clear hov hBs
          have r1 := HR1.out _ HBA.out; have rz := Nat.lt_of_lt_of_le hws HBA.out.size
          cases c with
          | zero =>
            have hX0 := HG.out
            rw [HGZ.out] at hX0
            subst hX0
            have hbz : wA.heap.size ≤ wr.heap.size := HBA.out.size
            have hor2 : wr.ownsRow wA.heap.size 3 1 (.slice av k cv) (depL W k).length ((depL W k).map (Value.int .i64)) := HORS.out
            rw [hll] at hor2
            have HOR2 := Lib.hid hor2
            clear hor2
            generalize depL W k = U at *
            go_wp2_with (at_builtin; refine wpList_append_num (xs := U) rfl _ _ rfl Try.underlying22 num3 (show _root_.Go.World.ownsRow _ _ _ _ _ U.length _ from by rw [hll]; exact HOR2.out) (0) rfl rfl rfl (by omega) hbz ?_)
            intro v' w' hown hgrow
            have HBN := Lib.hid (append_below (bal HBA.out _) (World.ownsRow.alloc HOR2.out _) hgrow (Nat.le_refl _))
            have HOWN := Lib.hid hown
            clear hown hgrow
            go_wp2_with fail
            go_roundw
            case rel => exact ⟨k + 1, v', by omega, rfl, rfl, by rw [HST.out]; unfold rowI; rw [List.length_append, List.map_append, hll]; exact HOWN.out, HBN.out⟩
            case measure => simp [intOf]; omega
          | succ m =>
            have hgs := HGS.out m seen
            rw [HG.out] at hgs
            have gm := HGW.out m (by omega) _ HBA.out
            have gi := HGW.out k hkl _ HBA.out
            have zw := HZW.out _ HBA.out
            obtain ⟨q, hq⟩ : ∃ q, want W m = q := ⟨_, rfl⟩
            obtain ⟨r, hr⟩ : ∃ r, want W k = r := ⟨_, rfl⟩
            rw [hq] at gm hgs; rw [hr] at gi hgs
            have HGM := Lib.hid (fun wz hB => (HGW.out m (by omega) wz hB).trans (by rw [hq]))
            clear hq hr
            rw [show ((m + 1 : Nat) : Int) - 1 = (m : Int) by omega]
            have HHS := Lib.hid (fun wz hx => rhas_any (.slice av2 seen.length cv2) seen q wz hx (by omega))
            by_cases c1 : m < k
            · have d1 : decide ((m : Int) < (k : Int)) = true := decide_eq_true (by omega)
              by_cases c2 : q = r
              · subst c2
                rw [if_pos ⟨c1, rfl⟩] at hgs
                subst hgs
                clear HGS HGZ HGM HHS HG
                have HORD := Lib.hid (fun n => owns_kept HORS.out (Below.drewN' n (bz wr)))
                go_upto_region 12 with fail
                go_quiet (fail)

                have hbz : wA.heap.size ≤ wr.heap.size := HBA.out.size
                have hor2 : wr.ownsRow wA.heap.size 3 1 (.slice av k cv) (depL W k).length ((depL W k).map (Value.int .i64)) := HORS.out
                rw [hll] at hor2
                have HOR2 := Lib.hid hor2
                clear hor2
                generalize depL W k = U at *
                go_wp2_with (at_builtin; refine wpList_append_num (xs := U) rfl _ _ rfl Try.underlying22 num3 (show _root_.Go.World.ownsRow _ _ _ _ _ U.length _ from by rw [hll]; exact owns_kept HOR2.out (Below.drewN' _ (bz wr))) ((seen.length : Int)) rfl rfl rfl (by omega) hbz ?_)
                intro v' w' hown hgrow
                have HBN := Lib.hid (append_below (bal (Below.drewN' _ HBA.out) _) (World.ownsRow.alloc (owns_kept HOR2.out (Below.drewN' _ (bz wr))) _) hgrow (Nat.le_refl _))
                have HOWN := Lib.hid hown
                clear hown hgrow
                go_wp2_with fail
                go_roundw
                case rel => exact ⟨k + 1, v', by omega, rfl, rfl, by rw [HST.out]; unfold rowI; rw [List.length_append, List.map_append, hll]; exact HOWN.out, HBN.out⟩
                case measure => simp [intOf]; omega
              · have t1 : (q == r) = false := by simpa using c2
                rw [if_neg (fun h => c2 h.2)] at hgs
                have HGT := Lib.hid hgs
                clear hgs c2 HG HGS HGZ HGW
                generalize hsa : seen.any (eqB q) = bb at *
                clear hsa
                have HRD := Lib.hid (fun n => (RdI.of_owns HOV.out).mono (Below.drewN' n (bz wr)))
                have HOD := Lib.hid (fun n => owns_kept HOV.out (Below.drewN' n (bz wr)))
                go_upto_region 12 with fail
                go_quiet (fail)
                go_wp2_with fail
                refine (HHS.out _ (HRD.out _)).mono ?_
                rintro e w5 ⟨rfl, rfl⟩
                cases bb with
                | true =>
                  go_wp2_with fail
                  go_roundw
                  case rel => exact ⟨m, _, seen, by omega, rfl, rfl, rfl, HOD.out _, by omega, Lib.hid (by have := HGT.out; simp at this; exact this.symm), Below.drewN' _ HBS.out⟩
                  case measure => simp [intOf]
                | false =>
                  have hbz := HBS.out.size
                  have hsc2 : seen.length ≤ 1000 := by omega
                  go_wp2_with (at_builtin; refine wpList_append_num rfl _ _ rfl Try.underlying22 num3 (HOD.out _) q rfl rfl rfl hsc2 hbz ?_)
                  intro v' w' hown hgrow
                  have HBN := Lib.hid (append_below (bal (Below.drewN' _ HBS.out) _) (World.ownsRow.alloc (HOD.out _) _) hgrow (Nat.le_refl _))
                  have HOWN := Lib.hid hown
                  clear hown hgrow
                  go_wp2_with fail
                  go_roundw
                  case rel => exact ⟨m, v', seen ++ [q], by omega, rfl, rfl, rfl, by unfold rowI; rw [List.length_append, List.map_append]; exact HOWN.out, by simp; omega, Lib.hid (by have := HGT.out; simp at this; exact this.symm), HBN.out⟩
                  case measure => simp [intOf]
            · have d1 : decide ((m : Int) < (k : Int)) = false := decide_eq_false (by omega)
              rw [if_neg (fun h => c1 h.1)] at hgs
              have HGT := Lib.hid hgs
              clear hgs HG HGS HGZ HGW
              generalize hsa : seen.any (eqB q) = bb at *
              clear hsa
              have HRD := Lib.hid (fun n => (RdI.of_owns HOV.out).mono (Below.drewN' n (bz wr)))
              have HOD := Lib.hid (fun n => owns_kept HOV.out (Below.drewN' n (bz wr)))
              go_upto_region 12 with fail
              go_quiet (fail)
              go_wp2_with fail
              refine (HHS.out _ (HRD.out _)).mono ?_
              rintro e w5 ⟨rfl, rfl⟩
              cases bb with
              | true =>
                go_wp2_with fail
                go_roundw
                case rel => exact ⟨m, _, seen, by omega, rfl, rfl, rfl, HOD.out _, by omega, Lib.hid (by have := HGT.out; simp at this; exact this.symm), Below.drewN' _ HBS.out⟩
                case measure => simp [intOf]
              | false =>
                have hbz := HBS.out.size
                have hsc2 : seen.length ≤ 1000 := by omega
                go_wp2_with (at_builtin; refine wpList_append_num rfl _ _ rfl Try.underlying22 num3 (HOD.out _) q rfl rfl rfl hsc2 hbz ?_)
                intro v' w' hown hgrow
                have HBN := Lib.hid (append_below (bal (Below.drewN' _ HBS.out) _) (World.ownsRow.alloc (HOD.out _) _) hgrow (Nat.le_refl _))
                have HOWN := Lib.hid hown
                clear hown hgrow
                go_wp2_with fail
                go_roundw
                case rel => exact ⟨m, v', seen ++ [q], by omega, rfl, rfl, rfl, by unfold rowI; rw [List.length_append, List.map_append]; exact HOWN.out, by simp; omega, Lib.hid (by have := HGT.out; simp at this; exact this.symm), HBN.out⟩
                case measure => simp [intOf]
      · have hke : k = W.length := by omega
        subst hke
        have HORF := Lib.hid (RdI.of_owns HOR.out)
        go_wp2_with fail
        go_ret2
        exact ⟨_, rfl, HORF.out, HBW.out _ HB.out⟩
  · rw [if_neg hc]
    have t1 : (checkD R W != 0) = true := by simpa using hc
    clear hc hx
    generalize checkD R W = q at *
    go_enter Try.func34, Try.ntmps34
    go_wp2_with fail
    refine (HC.out _ (HX.out.mono (bal (bz _) _))).mono ?_
    rintro e w2 ⟨rfl, hB2⟩
    obtain ⟨hcc, hf⟩ := bcell hB2
    have hz := hB2.size
    simp only [World.size_alloc] at hz
    have HB2 := Lib.hid (btr (bal (bz w) _) hB2)
    clear hB2
    go_wp2_with fail
    refine (HC.out _ (HX.out.mono HB2.out)).mono ?_
    rintro e w3 ⟨rfl, hB3⟩
    go_wp2_with fail
    go_ret2
    exact ⟨_, rfl, rdI_nil _ _, btr HB2.out hB3⟩
end Go.Proofs.Ytjajdpggoggoiaa

namespace Go.Proofs.Ytjajdpggoggoiaa
open Go.RowKit Go.Shelf

/-- A bench is taken if it is on the way of a best plan, and new. -/
def pushK (R : Int) (W : List Int) (i S : Nat) (acc : List Nat) (l : Nat) : List Nat :=
  if aheadD R W (W.length - (i + 1)) l + 1 - (bitN S (want W i).toNat : Int) = aheadD R W (W.length - i) S ∧ acc.contains l = false then acc ++ [l] else acc
def overK (R : Int) (W : List Int) (i : Nat) (acc : List Nat) (S : Nat) : List Nat := (afterN R S (want W i).toNat).foldl (pushK R W i S) acc
def setsK (R : Int) (W : List Int) : Nat → List Nat
  | 0 => [0]
  | i + 1 => (setsK R W i).foldl (overK R W i) []
def SetOk (l : List Nat) : Prop := l.Nodup ∧ ∀ x ∈ l, x < 512
theorem SetOk.len {l : List Nat} (h : SetOk l) : l.length ≤ 512 := by
  have := List.Nodup.length_le_of_subset h.1 (l₂ := List.range 512) (fun x hx => by simpa using h.2 x hx)
  simpa using this
theorem pushK_ok {R : Int} {W : List Int} {i S : Nat} {acc : List Nat} {l : Nat} (h : SetOk acc) (hl : l < 512) : SetOk (pushK R W i S acc l) := by
  unfold pushK
  split
  · rename_i hc
    refine ⟨?_, fun x hx => ?_⟩
    · rw [List.nodup_append]
      refine ⟨h.1, by simp, fun a ha b hb => ?_⟩
      simp at hb; subst hb
      intro e; subst e
      have := hc.2
      simp at this
      exact this ha
    · rcases List.mem_append.1 hx with h1 | h1
      · exact h.2 x h1
      · simp at h1; omega
  · exact h
theorem pushs_ok {R : Int} {W : List Int} {i S : Nat} : ∀ (ls : List Nat) (acc : List Nat), SetOk acc → (∀ l ∈ ls, l < 512) → SetOk (ls.foldl (pushK R W i S) acc)
  | [], _, h, _ => h
  | l :: ls, _, h, hl => pushs_ok ls _ (pushK_ok h (hl l (by simp))) fun x hx => hl x (by simp [hx])
theorem overs_ok {R : Int} {W : List Int} {i : Nat} (q9 : (want W i).toNat < 9) : ∀ (ls : List Nat) (acc : List Nat), SetOk acc → (∀ l ∈ ls, l < 512) → SetOk (ls.foldl (overK R W i) acc)
  | [], _, h, _ => h
  | l :: ls, _, h, hl => overs_ok q9 ls _ (pushs_ok _ _ h (afterN_lt (hl l (by simp)) q9)) fun x hx => hl x (by simp [hx])
theorem setsK_ok {R : Int} {W : List Int} (hd : OkD R W) : ∀ i, i ≤ W.length → SetOk (setsK R W i)
  | 0, _ => ⟨by simp [setsK], by simp [setsK]⟩
  | i + 1, hi => by
    have := hd.at (show i < W.length by omega)
    have h := setsK_ok hd i (by omega)
    exact overs_ok (by omega) _ _ ⟨List.nodup_nil, by simp⟩ h.2
def fetK (q : Nat) (l : List Nat) : Int := l.foldl (fun n S => n + (1 - (bitN S q : Int))) 0
theorem fetK_succ (q : Nat) (l : List Nat) (k : Nat) (hk : k < l.length) : fetK q (l.take (k + 1)) = fetK q (l.take k) + (1 - (bitN (l[k]?.getD 0) q : Int)) := by
  unfold fetK
  rw [List.take_succ_eq_append_getElem hk, List.foldl_append]; simp [hk]
theorem fetK_bd (q : Nat) : ∀ l : List Nat, 0 ≤ fetK q l ∧ fetK q l ≤ (l.length : Int) := by
  have key : ∀ (l : List Nat) (n : Int), n ≤ l.foldl (fun n S => n + (1 - (bitN S q : Int))) n ∧ l.foldl (fun n S => n + (1 - (bitN S q : Int))) n ≤ n + (l.length : Int) := by
    intro l
    induction l with
    | nil => intro n; simp
    | cons x l ih =>
      intro n
      have h := ih (n + (1 - (bitN x q : Int)))
      have hb := bitN_le x q
      simp only [List.foldl_cons, List.length_cons]
      omega
  intro l
  have := key l 0
  unfold fetK
  omega
def kindD (R : Int) (W : List Int) (k : Nat) : Int := if fetK (want W k).toNat (setsK R W k) = ((setsK R W k).length : Int) then 2 else if 1 < fetK (want W k).toNat (setsK R W k) then 1 else fetK (want W k).toNat (setsK R W k)
def kindR (R : Int) (W : List Int) (k : Int) : Int × Int := if checkD R W ≠ 0 then (0, checkD R W) else if k < 0 ∨ (W.length : Int) ≤ k then (0, 3) else (kindD R W k.toNat, 0)
theorem foldl_take_succ {α β : Type} (f : β → α → β) (b : β) (l : List α) (k : Nat) (hk : k < l.length) : (l.take (k + 1)).foldl f b = f ((l.take k).foldl f b) (l[k]'hk) := by
  rw [List.take_succ_eq_append_getElem hk, List.foldl_append]; rfl
theorem nl_any (l : List Nat) (x : Nat) : (nl l).any (eqB (x : Int)) = l.contains x := by
  induction l with
  | nil => rfl
  | cons y l ih =>
    have e : (nl (y :: l)).any (eqB (x : Int)) = (eqB (x : Int) (y : Int) || (nl l).any (eqB (x : Int))) := rfl
    rw [e, ih, List.contains_cons]
    congr 1
    unfold eqB
    rw [Bool.eq_iff_iff]; simp; omega
theorem nl_snoc (l : List Nat) (x : Nat) : nl (l ++ [x]) = nl l ++ [(x : Int)] := by simp [nl]
theorem nl_at (l : List Nat) (k : Nat) (hk : k < l.length) : (nl l)[k]?.getD 0 = ((l[k]'hk : Nat) : Int) := by simp [nl, hk]
theorem rowI_eq {w : World} {b : Nat} {v : Value} {xs ys : List Int} (h : rowI w b v xs) (e : xs = ys) : rowI w b v ys := e ▸ h
theorem rdI_eq {w : World} {v : Value} {xs ys : List Int} (h : RdI w .i64 v xs) (e : xs = ys) : RdI w .i64 v ys := e ▸ h
theorem Own3.one {w : World} {base n : Nat} {u : Value} {xs : List Int} (h : w.ownsRow base 3 1 u n (xs.map (Value.int .i64))) (hn : xs.length = n) : Own3 w base u (.slice none 0 0) (.slice none 0 0) xs [] [] := by
  subst hn
  exact ⟨h, World.ownsRow_nil _ _ _ _, World.ownsRow_nil _ _ _ _, apartV.symm (.inl rfl), apartV.symm (.inl rfl), .inl rfl⟩
set_option maxRecDepth 100000 in
set_option maxHeartbeats 8000000 in
theorem rkind_any (R : Int) (x : Value) (W : List Int) (p : Int) (w : World) (hx0 : RdI w .i64 x W) (hl : W.length ≤ 1000) :
    Calls Try.prog 32 #[.agg #[.int .i64 R, x], .int .i64 p] w fun e w' => e = .returned (.tuple #[.int .i64 (kindR R W p).1, .int .i64 (kindR R W p).2]) ∧ Below w.heap.size w w' := by
  obtain ⟨a, ca, rfl, _, hcm, hx⟩ := hx0.form
  have HC := Lib.hid (fun wz hx => rcheckday_any R (.slice a W.length ca) W wz hx hl)
  have HX := Lib.hid hx0
  clear hx0 hcm
  unfold kindR
  by_cases hc : checkD R W = 0
  · rw [if_neg (by simpa using hc)]
    have hd := okD_of hc
    have HD := Lib.hid hd
    have h16 := hd.l16
    have HA := Lib.hid (fun wz hx => ahead_any R (.slice a W.length ca) W wz hx hd)
    rw [hc] at HC
    have hr1 : (w.alloc (.cells #[.int .i64 R, .slice a W.length ca] 24)).cell? ⟨w.heap.size, 1, none⟩ = some (.slice a W.length ca) := cnew rfl rfl
    have hr0 : (w.alloc (.cells #[.int .i64 R, .slice a W.length ca] 24)).cell? ⟨w.heap.size, 0, none⟩ = some (.int .i64 R) := cnew rfl rfl
    have HR0 := Lib.hid (fun wz (hB : Below (w.alloc (.cells #[.int .i64 R, .slice a W.length ca] 24)).heap.size (w.alloc (.cells #[.int .i64 R, .slice a W.length ca] 24)) wz) => (hB.cell (p := ⟨w.heap.size, 0, none⟩) (by simp)).trans hr0)
    have HR1 := Lib.hid (fun wz (hB : Below (w.alloc (.cells #[.int .i64 R, .slice a W.length ca] 24)).heap.size (w.alloc (.cells #[.int .i64 R, .slice a W.length ca] 24)) wz) => (hB.cell (p := ⟨w.heap.size, 1, none⟩) (by simp)).trans hr1)
    have HBW := Lib.hid (fun wz (hB : Below (w.alloc (.cells #[.int .i64 R, .slice a W.length ca] 24)).heap.size (w.alloc (.cells #[.int .i64 R, .slice a W.length ca] 24)) wz) => btr (bal (bz w) _) hB)
    have hws : w.heap.size < (w.alloc (.cells #[.int .i64 R, .slice a W.length ca] 24)).heap.size := by simp
    clear hr1 hr0 hc hd
    by_cases p1 : p < 0
    · rw [if_pos (Or.inl p1)]
      have d1 : decide (p < 0) = true := decide_eq_true p1
      go_enter Try.func32, Try.ntmps32
      go_upto_region 1 with fail
      generalize (w.alloc (.cells #[.int .i64 R, .slice a W.length ca] 24)) = wA at *
      have r0 := HR0.out _ (bz wA); have r1 := HR1.out _ (bz wA)
      go_wp2_with fail
      refine (HC.out _ (HX.out.mono (HBW.out _ (bz wA)))).mono ?_
      rintro e w2 ⟨rfl, hB2⟩
      clear r0 r1
      have HB2 := Lib.hid hB2
      clear hB2
      have r1 := HR1.out _ HB2.out; have r0 := HR0.out _ HB2.out; have rz := Nat.lt_of_lt_of_le hws HB2.out.size
      go_wp2_with fail
      go_ret2
      exact ⟨rfl, HBW.out _ HB2.out⟩
    · have d1 : decide (p < 0) = false := decide_eq_false p1
      by_cases p2 : (W.length : Int) ≤ p
      · rw [if_pos (Or.inr p2)]
        have d2 : decide ((W.length : Int) ≤ p) = true := decide_eq_true p2
        go_enter Try.func32, Try.ntmps32
        go_upto_region 1 with fail
        generalize (w.alloc (.cells #[.int .i64 R, .slice a W.length ca] 24)) = wA at *
        have r0 := HR0.out _ (bz wA); have r1 := HR1.out _ (bz wA)
        go_wp2_with fail
        refine (HC.out _ (HX.out.mono (HBW.out _ (bz wA)))).mono ?_
        rintro e w2 ⟨rfl, hB2⟩
        clear r0 r1
        have HB2 := Lib.hid hB2
        clear hB2
        have r1 := HR1.out _ HB2.out; have r0 := HR0.out _ HB2.out; have rz := Nat.lt_of_lt_of_le hws HB2.out.size
        go_wp2_with fail
        go_ret2
        exact ⟨rfl, HBW.out _ HB2.out⟩
      · have d2 : decide ((W.length : Int) ≤ p) = false := decide_eq_false p2
        rw [if_neg (by omega)]
        obtain ⟨pn, rfl⟩ := Int.eq_ofNat_of_zero_le (show 0 ≤ p by omega)
        rw [Int.toNat_natCast]
        have hpn : pn < W.length := by omega
        obtain ⟨res, hres⟩ : ∃ res, kindD R W pn = res := ⟨_, rfl⟩
        rw [hres]
        have HRES := Lib.hid hres
        clear hres p1 p2
        go_enter Try.func32, Try.ntmps32
        go_upto_region 1 with fail
        generalize (w.alloc (.cells #[.int .i64 R, .slice a W.length ca] 24)) = wA at *
        have r0 := HR0.out _ (bz wA); have r1 := HR1.out _ (bz wA)
        go_wp2_with fail
        refine (HC.out _ (HX.out.mono (HBW.out _ (bz wA)))).mono ?_
        rintro e w2 ⟨rfl, hB2⟩
        clear r0 r1
        have HB2 := Lib.hid hB2
        clear hB2
        have r1 := HR1.out _ HB2.out; have r0 := HR0.out _ HB2.out; have rz := Nat.lt_of_lt_of_le hws HB2.out.size
        go_wp2_with fail
        refine (HA.out _ (HX.out.mono (HBW.out _ HB2.out))).mono ?_
        rintro e w3 ⟨g, rfl, _, ⟨B, hR⟩, hB3⟩
        have HRW := Lib.hid hR
        have HB3 := Lib.hid (btr HB2.out hB3)
        clear r0 r1 rz HB2 hR hB3 HA HC
        go_upto_region 7 with fail
        have HRD0 := Lib.hid (show RdI (w3.alloc (.cells #[.int .i64 0] 3)) .i64 (.slice (some ⟨w3.heap.size, 0, none⟩) 1 1) (nl (setsK R W 0)) from rdI_one w3 0 3)
        have HRW1 := Lib.hid (HRW.out.up (bal (bz w3) (.cells #[.int .i64 0] 3)))
        have HB4 := Lib.hid (bal HB3.out (.cells #[.int .i64 0] 3))
        generalize (w3.alloc (.cells #[.int .i64 0] 3)) = w4 at *
        have hpl : ∀ i, i < pn → i < W.length := fun i h => by omega
        have HPL := Lib.hid hpl; clear hpl
        go_wp2_with fail
        go_loopw [7, 8, 9, 10, 11, 12] (fun s7 s8 _ _ _ _ wr => ∃ (i : Nat) (v : Value), i ≤ pn ∧ v = s7 ∧ s8 = .int .i64 i ∧ RdI wr .i64 v (nl (setsK R W i)) ∧ Below w4.heap.size w4 wr) (fun _ s8 _ _ _ _ _ => pn - (intOf s8).toNat)
        case atStart => exact ⟨0, _, by omega, rfl, rfl, HRD0.out, bz _⟩
        case round =>
          clear HRD0
          rename World => wO
          obtain ⟨i, v, hi, rfl, rfl, hrd, hB⟩ := hrel
          have hso := setsK_ok HD.out i (by omega)
          have hsl := hso.len
          obtain ⟨av, cv, rfl, _, hcm, hv⟩ := hrd.form
          rw [nl_len] at *
          have HRD := Lib.hid hrd; have HB := Lib.hid hB
          have HRWR := Lib.hid (HRW1.out.up hB)
          have HBR := Lib.hid (btr HB4.out hB)
          clear hrd hB hcm
          by_cases hip : i < pn
          · obtain ⟨bx, ox, rfl, hbx, hcx⟩ := hx (by omega)
            have hiW := HPL.out i hip
            obtain ⟨q1, q8⟩ := HD.out.at hiW
            obtain ⟨q, hq⟩ := Int.eq_ofNat_of_zero_le (show 0 ≤ want W i by omega)
            have q9 : q < 9 := by omega
            have hqn : (want W i).toNat = q := by omega
            have GW := Lib.hid (fun wz (hB : Below wA.heap.size wA wz) => (show wz.cell? ⟨bx, ox + i, none⟩ = some (Value.int .i64 (q : Int)) from by rw [← hq]; exact ((HBW.out _ hB).cell (p := ⟨bx, ox + i, none⟩) hbx).trans (hcx i hiW)))
            have ZW := Lib.hid (fun wz (hB : Below wA.heap.size wA wz) => Nat.lt_of_lt_of_le hbx (HBW.out _ hB).size)
            have HSS := Lib.hid (show setsK R W (i + 1) = (setsK R W i).foldl (overK R W i) [] from rfl)
            have HOS := Lib.hid (fun acc S => (show overK R W i acc S = (afterN R S q).foldl (pushK R W i S) acc from by unfold overK; rw [hqn]))
            have HPS := Lib.hid (fun S acc l => (show pushK R W i S acc l = if aheadD R W (W.length - (i + 1)) l + 1 - (bitN S q : Int) = aheadD R W (W.length - i) S ∧ acc.contains l = false then acc ++ [l] else acc from by unfold pushK; rw [hqn]))
            have HQ9 := Lib.hid (show (want W i).toNat < 9 by omega)
            clear hcx hq hqn q1 q8
            have HSO := Lib.hid hso
            clear hso
            generalize setsK R W i = L at *
            go_wp2_with fail
            go_loopw [9, 10, 11, 12] (fun s9 s10 _ _ ws => ∃ (k : Nat) (u : Value), k ≤ L.length ∧ u = s9 ∧ s10 = .int .i64 k ∧ rowI ws wO.heap.size u (nl ((L.take k).foldl (overK R W i) [])) ∧ Below wO.heap.size wO ws) (fun _ s10 _ _ _ => L.length - (intOf s10).toNat)
            case atStart => exact ⟨0, _, by omega, rfl, rfl, World.ownsRow_nil _ _ _ _, bz _⟩
            case round =>
              obtain ⟨k, u, hk, rfl, rfl, hou, hBs⟩ := hrel
              obtain ⟨au, cu, rfl⟩ := owns_form hou
              rw [nl_len] at *
              have HOU := Lib.hid hou; have HBS := Lib.hid hBs
              clear hou hBs
              by_cases hkl : k < L.length
              · obtain ⟨bv, ov, rfl, hbv, hcv⟩ := hv (by omega)
                have hs5 := HSO.out.2 _ (List.getElem_mem hkl)
                have hacc := overs_ok (R := R) HQ9.out (L.take k) [] ⟨List.nodup_nil, by simp⟩ (fun x hx => HSO.out.2 x (List.mem_of_mem_take hx))
                have hts := foldl_take_succ (overK R W i) [] L k hkl
                have gs0 := hcv k hkl
                rw [nl_at L k hkl] at gs0
                obtain ⟨S, hS⟩ : ∃ S, L[k]'hkl = S := ⟨_, rfl⟩
                rw [hS] at hs5 gs0 hts
                have HGS := Lib.hid (fun wz (hB : Below _ _ wz) => And.intro ((Below.cell hB (p := ⟨bv, ov + k, none⟩) hbv).trans gs0) (Nat.lt_of_lt_of_le hbv (Below.size hB)))
                clear hS hcv gs0
                rw [HOS.out] at hts
                have HTS := Lib.hid hts
                clear hts
                generalize (L.take k).foldl (overK R W i) [] = acc at *
                have HAF := Lib.hid (fun x wz => after_own R x S q wz hs5 q9)
                have HLT := Lib.hid (afterN_lt (R := R) hs5 q9)
                have hal := afterN_len R S q
                have HPO := Lib.hid (fun j => pushs_ok (R := R) (W := W) (i := i) (S := S) ((afterN R S q).take j) acc hacc (fun l hl => afterN_lt hs5 q9 l (List.mem_of_mem_take hl)))
                generalize afterN R S q = A at *
                go_upto_region 14 with fail
                refine wp_region_flow [] [([0, 1, 2, 3, 4, 5, 6, 7, 8, 9], 10, true)] [11] (by kernel_rfl) (by kernel_rfl) ?_
                intro wc hBc hh
                clear hh
                have HBC := Lib.hid (btr HBS.out hBc)
                have HBC2 := Lib.hid (btr HBR.out HBC.out)
                have HOC := Lib.hid (owns_kept HOU.out hBc)
                have r0 := HR0.out _ HBC2.out; have r1 := HR1.out _ HBC2.out; have rz := Nat.lt_of_lt_of_le hws HBC2.out.size
                have gw := GW.out _ HBC2.out; have zw := ZW.out _ HBC2.out
                obtain ⟨gs, zs⟩ := HGS.out _ HBC.out
                have hL := @Later.cell wc
                clear hBc HBS HOU
                simp only [flowP, flow, pickL, List.getElem?_cons_succ, List.getElem?_cons_zero]
                refine wpQuiet_nil ?_
                repeat (go_big_quiet_step (fail))
                refine wpQuiet_nil ?_
                go_wp2_with fail
                refine (HAF.out _ _).mono ?_
                rintro e w5 ⟨v5, rfl, hv5, hB5⟩
                have hrA := RdI.of_owns hv5
                obtain ⟨a5, c5, rfl, _, hcm5, _⟩ := hrA.form
                rw [nl_len] at *
                have HG := Lib.hid hB5
                have hown := Own3.one (xs := nl acc) HOC.out (nl_len acc)
                have HOW := Lib.hid (hown.third hB5 HBC.out.size hv5)
                have HB5 := Lib.hid (btr HBC.out hB5)
                clear hv5 hB5 hcm5 hown hrA
                go_wp2
                refine seg_grow ⟨⟨_, HG.out⟩, rfl⟩ ?_
                repeat (go_big_quiet_step (fail))
                refine wpQuiet_nil ?_
                refine only_done ?_
                clear hL r0 r1 rz gw zw gs zs HG HOC HBC HBC2
                go_wp2_with fail
                go_loopw [9, 12] (fun s9 s12 wx => ∃ (j : Nat) (u : Value), j ≤ A.length ∧ u = s9 ∧ s12 = .int .i64 j ∧ Own3 wx wO.heap.size u (.slice none 0 0) (.slice a5 A.length c5) (nl ((A.take j).foldl (pushK R W i S) acc)) [] (nl A) ∧ Below wO.heap.size wO wx) (fun _ s12 _ => A.length - (intOf s12).toNat)
                case atStart => exact ⟨0, _, by omega, rfl, rfl, HOW.out, HB5.out⟩
                case round =>
                  clear HOW HB5
                  obtain ⟨j, u, hj, rfl, rfl, hown, hBx⟩ := hrel
                  obtain ⟨au2, cu2, rfl⟩ := owns_form hown.a
                  have hsl3 := (HPO.out j).len
                  rw [nl_len] at *
                  have HOW := Lib.hid hown; have HBX := Lib.hid hBx
                  have HBXA := Lib.hid (btr HBR.out hBx)
                  clear hown hBx
                  by_cases hjl : j < A.length
                  · have hts := foldl_take_succ (pushK R W i S) acc A j hjl
                    have hl5 := HLT.out _ (List.getElem_mem hjl)
                    obtain ⟨ae, ce, eA, _, _, hcA⟩ := (RdI.of_owns HOW.out.c).form
                    rw [nl_len] at eA hcA
                    cases eA
                    obtain ⟨bA, oA, rfl, hbA, hcA2⟩ := hcA (by omega)
                    have gA := hcA2 j hjl
                    rw [nl_at A j hjl] at gA
                    generalize A[j]'hjl = l at *
                    rw [HPS.out] at hts
                    generalize (A.take j).foldl (pushK R W i S) acc = acc2 at *
                    obtain ⟨gs, zs⟩ := HGS.out _ HBX.out
                    have r1 := HR1.out _ HBXA.out; have rz := Nat.lt_of_lt_of_le hws HBXA.out.size
                    have gw := GW.out _ HBXA.out; have zw := ZW.out _ HBXA.out
                    have hr := HRWR.out.up HBX.out
                    have zg := hr.lt
                    obtain ⟨b1, g1, z1, h1⟩ := hr.row (j := i + 1) (by omega) (by omega)
                    obtain ⟨b2, g2, z2, h2⟩ := hr.row (j := i) (by omega) (by omega)
                    have g3 := h1 l hl5
                    have g4 := h2 S hs5
                    have hb3 := aheadD_bd R W (W.length - (i + 1)) l
                    have hb4 := aheadD_bd R W (W.length - i) S
                    generalize aheadD R W (W.length - (i + 1)) l = X1 at *
                    generalize aheadD R W (W.length - i) S = X2 at *
                    clear hcA hcA2 hr h1 h2
                    have handq := i64_and1 ((S : Int) / 2 ^ q)
                    rw [shr_and] at handq
                    have bq := bitN_le S q
                    generalize bitN S q = bt at *
                    have HRN := Lib.hid (fun n => (RdI.of_owns HOW.out.a).mono (Below.drewN' n (bz wr)))
                    have HOD := Lib.hid (fun n => HOW.out.later (Below.drewN' n (bz wr)))
                    have HHS := Lib.hid (fun wz hx => rhas_any (.slice au2 acc2.length cu2) (nl acc2) (l : Int) wz hx (by rw [nl_len]; omega))
                    rw [nl_any] at HHS
                    generalize acc2.contains l = bb at *
                    by_cases ceq : X1 + 1 - (bt : Int) = X2
                    · have d5 : (X1 + 1 - (bt : Int) == X2) = true := by simpa using ceq
                      have HTJ := Lib.hid hts
                      clear hts
                      go_upto_region 18 with fail
                      have tst : (0:Int) ≤ (i:Int) + 1 ∧ (i:Int) + 1 < (W.length : Int) + 1 ∧ (W.length : Int) + 1 < 1000 := by omega
                      go_quiet ((go_at_call 39; exact Calls.quiet_of_same ((HHS.out _ (HRN.out _)).mono (fun e w' h => ⟨h.1, h.2.symm⟩))))
                      cases bb with
                      | true =>
                        have htj := HTJ.out
                        rw [if_neg (by simp)] at htj
                        have HTJ2 := Lib.hid htj
                        clear htj HTJ
                        go_wp2_with fail
                        go_roundw
                        case rel => exact ⟨j + 1, _, by omega, rfl, rfl, by rw [HTJ2.out]; exact HOD.out _, Below.drewN' _ HBX.out⟩
                        case measure => simp [intOf]; omega
                      | false =>
                        have htj := HTJ.out
                        rw [if_pos ⟨ceq, rfl⟩] at htj
                        have HTJ2 := Lib.hid htj
                        have hbz := HBX.out.size
                        clear htj HTJ
                        go_wp2_with (at_builtin; refine Own3.push rfl _ _ rfl (HOD.out _) (l : Int) rfl rfl (by rw [nl_len]; omega) hbz ?_)
                        intro u' w' hown hbel
                        have HBN := Lib.hid (hbel wO (Below.drewN' _ HBX.out) (Nat.le_refl _))
                        have HOWN := Lib.hid hown
                        clear hown hbel
                        go_wp2_with fail
                        go_roundw
                        case rel => exact ⟨j + 1, u', by omega, rfl, rfl, by rw [HTJ2.out, nl_snoc]; exact HOWN.out, HBN.out⟩
                        case measure => simp [intOf]; omega
                    · have d5 : (X1 + 1 - (bt : Int) == X2) = false := by simpa using ceq
                      rw [if_neg (fun h => ceq h.1)] at hts
                      have HTJ := Lib.hid hts
                      clear hts ceq
                      go_upto_region 18 with fail
                      have tst : (0:Int) ≤ (i:Int) + 1 ∧ (i:Int) + 1 < (W.length : Int) + 1 ∧ (W.length : Int) + 1 < 1000 := by omega
                      go_quiet (fail)
                      go_wp2_with fail
                      go_roundw
                      case rel => exact ⟨j + 1, _, by omega, rfl, rfl, by rw [HTJ.out]; exact HOD.out _, Below.drewN' _ HBX.out⟩
                      case measure => simp [intOf]; omega
                  · have hje : j = A.length := by omega
                    subst hje
                    have HOX := Lib.hid (rowI_eq HOW.out.a (ys := nl ((L.take (k + 1)).foldl (overK R W i) [])) (by rw [List.take_length, HTS.out]))
                    go_wp2_with fail
                    go_roundw
                    case rel => exact ⟨k + 1, _, by omega, rfl, rfl, HOX.out, HBX.out⟩
                    case measure => simp [intOf]; omega
              · have hke : k = L.length := by omega
                subst hke
                have HOX := Lib.hid (rdI_eq (RdI.of_owns HOU.out) (ys := nl (setsK R W (i + 1))) (by rw [List.take_length, HSS.out]))
                go_wp2_with fail
                go_roundw
                case rel => exact ⟨i + 1, _, by omega, rfl, rfl, HOX.out, btr HB.out HBS.out⟩
                case measure => simp [intOf]; omega
          · have hie : i = pn := by omega
            subst hie
            obtain ⟨bx, ox, rfl, hbx, hcx⟩ := hx (by omega)
            obtain ⟨q1, q8⟩ := HD.out.at hpn
            obtain ⟨q, hq⟩ := Int.eq_ofNat_of_zero_le (show 0 ≤ want W i by omega)
            have q9 : q < 9 := by omega
            have hqn : (want W i).toNat = q := by omega
            have GW := Lib.hid (fun wz (hB : Below wA.heap.size wA wz) => (show wz.cell? ⟨bx, ox + i, none⟩ = some (Value.int .i64 (q : Int)) from by rw [← hq]; exact ((HBW.out _ hB).cell (p := ⟨bx, ox + i, none⟩) hbx).trans (hcx i hpn)))
            have ZW := Lib.hid (fun wz (hB : Below wA.heap.size wA wz) => Nat.lt_of_lt_of_le hbx (HBW.out _ hB).size)
            have hk := HRES.out
            unfold kindD at hk
            rw [hqn] at hk
            have HSO := Lib.hid hso
            clear hcx hq hqn q1 q8 hso HRES hip
            generalize setsK R W i = L at *
            have HK := Lib.hid hk
            clear hk
            go_wp2_with fail
            go_loopw [13, 14] (fun s13 s14 ws => ∃ (k : Nat) (c : Int), k ≤ L.length ∧ s13 = .int .i64 c ∧ s14 = .int .i64 k ∧ Hid (fetK q (L.take k) = c) ∧ Below wO.heap.size wO ws) (fun _ s14 _ => L.length - (intOf s14).toNat)
            case atStart => exact ⟨0, 0, by omega, rfl, rfl, Lib.hid (by simp [fetK]), bz _⟩
            case round =>
              obtain ⟨k, c, hk, rfl, rfl, HF, hBs⟩ := hrel
              have HBS := Lib.hid hBs
              have HBA := Lib.hid (btr HBR.out hBs)
              clear hBs
              have hcb := fetK_bd q (L.take k)
              rw [HF.out] at hcb
              have htl : (L.take k).length = k := by rw [List.length_take]; omega
              rw [htl] at hcb
              clear htl
              have r1 := HR1.out _ HBA.out; have rz := Nat.lt_of_lt_of_le hws HBA.out.size
              have gw := GW.out _ HBA.out; have zw := ZW.out _ HBA.out
              by_cases hkl : k < L.length
              · obtain ⟨bv, ov, rfl, hbv, hcv⟩ := hv (by omega)
                have hs5 := HSO.out.2 _ (List.getElem_mem hkl)
                have gs0 := hcv k hkl
                rw [nl_at L k hkl] at gs0
                have hfs := fetK_succ q L k hkl
                rw [HF.out, show L[k]?.getD 0 = L[k]'hkl by simp [hkl]] at hfs
                have HFS := Lib.hid hfs
                clear hfs hcv
                generalize L[k]'hkl = S at *
                have gs := (HBS.out.cell (p := ⟨bv, ov + k, none⟩) hbv).trans gs0
                have zs := Nat.lt_of_lt_of_le hbv HBS.out.size
                clear gs0
                have handq := i64_and1 ((S : Int) / 2 ^ q)
                rw [shr_and] at handq
                have bq := bitN_le S q
                generalize bitN S q = bt at *
                go_upto_region 25 with fail
                go_quiet (fail)
                go_wp2_with fail
                go_roundw
                case rel => exact ⟨k + 1, c + (1 - (bt : Int)), by omega, rfl, rfl, HFS, Below.drewN' _ HBS.out⟩
                case measure => simp [intOf]; omega
              · have hke : k = L.length := by omega
                subst hke
                have hF := HF.out
                rw [List.take_length] at hF
                have hK := HK.out
                rw [hF] at hK
                clear hF
                by_cases e1 : c = (L.length : Int)
                · rw [if_pos e1] at hK
                  have HKK := Lib.hid hK
                  have e2 : (c == (L.length : Int)) = true := by simpa using e1
                  clear e1 hK HK
                  go_wp2_with fail
                  go_ret2
                  exact ⟨by rw [← HKK.out]; rfl, HBW.out _ HBA.out⟩
                · rw [if_neg e1] at hK
                  have e2 : (c == (L.length : Int)) = false := by simpa using e1
                  by_cases e3 : 1 < c
                  · rw [if_pos e3] at hK
                    have HKK := Lib.hid hK
                    clear e1 hK HK
                    go_wp2_with fail
                    go_ret2
                    exact ⟨by rw [← HKK.out]; rfl, HBW.out _ HBA.out⟩
                  · rw [if_neg e3] at hK
                    have HKK := Lib.hid hK
                    clear e1 hK HK
                    go_wp2_with fail
                    go_ret2
                    exact ⟨by rw [← HKK.out]; rfl, HBW.out _ HBA.out⟩
  · rw [if_pos (by simpa using hc)]
    have t1 : (checkD R W != 0) = true := by simpa using hc
    clear hc hx
    generalize checkD R W = q at *
    go_enter Try.func32, Try.ntmps32
    go_wp2_with fail
    refine (HC.out _ (HX.out.mono (bal (bz _) _))).mono ?_
    rintro e w2 ⟨rfl, hB2⟩
    obtain ⟨hcc, hf⟩ := bcell hB2
    have hz := hB2.size
    simp only [World.size_alloc] at hz
    have HB2 := Lib.hid (btr (bal (bz w) _) hB2)
    clear hB2
    go_wp2_with fail
    refine (HC.out _ (HX.out.mono HB2.out)).mono ?_
    rintro e w3 ⟨rfl, hB3⟩
    go_wp2_with fail
    go_ret2
    exact ⟨rfl, btr HB2.out hB3⟩
end Go.Proofs.Ytjajdpggoggoiaa

namespace Go.Proofs.Ytjajdpggoggoiaa
open Go.RowKit Go.Shelf

theorem run_cutFromI (g o n c lo : Nat) (h1 : lo ≤ n) (h2 : n ≤ c) : ∃ ad, (∀ w : World, (Instr.slice 22 (.slice (some ⟨g, o, none⟩) n c) (some (.int .i64 (lo : Int))) none none).run Try.prog w = .ok (.slice (some ad) (n - lo) (c - lo)) w) ∧ (lo < n → ad = ⟨g, o + lo, none⟩) := by
  obtain ⟨i0, hi0, hz0, hz1, hz2⟩ := info_parts num3
  have k1 : ¬ ((lo : Int) < 0) := by omega
  have k2 : ¬ ((n : Int) < (lo : Int)) := by omega
  have k3 : ¬ ((c : Int) < (n : Int)) := by omega
  by_cases hq : c = lo
  · have hh : n = lo := by omega
    subst hh; subst hq
    refine ⟨⟨g, o, none⟩, fun w => ?_, fun h => by omega⟩
    simp [Instr.slice, run_underlying Try.underlying22, Sem.run_bind, Instr.sliceBounds, Instr.sliceBound, asIntOf, sizeOf, typeInfo, hi0, Addr.add]
  · refine ⟨⟨g, o + lo, none⟩, fun w => ?_, fun _ => rfl⟩
    simp [Instr.slice, run_underlying Try.underlying22, Sem.run_bind, Instr.sliceBounds, Instr.sliceBound, asIntOf, sizeOf, typeInfo, hi0, hz1, Addr.add, hq, h1]
/-- The next want of a reamer behind one; behind all if there is none. -/
def nextP (W : List Int) (i : Nat) (r : Int) : Int := if 0 ≤ idxOf (eqB r) (W.drop (i + 1)) then (i : Int) + 1 + idxOf (eqB r) (W.drop (i + 1)) else (W.length : Int)
theorem idxOf_bd {α : Type} (p : α → Bool) (xs : List α) : -1 ≤ idxOf p xs ∧ idxOf p xs < (xs.length : Int) ∨ idxOf p xs = -1 := by
  unfold idxOf
  cases h : xs.findIdx? p with
  | none => right; rfl
  | some i =>
    left
    rw [List.findIdx?_eq_some_iff_getElem] at h
    obtain ⟨hi, _⟩ := h
    simp only; omega
theorem nextP_eq (W : List Int) (i : Nat) (r : Int) : nextP W i r = if nextD W i r = 1000 ∧ idxOf (eqB r) (W.drop (i + 1)) < 0 then (W.length : Int) else nextD W i r := by
  unfold nextP nextD idxOf
  cases (W.drop (i + 1)).findIdx? (eqB r) with
  | none => simp
  | some j =>
    simp only
    rw [if_pos (by omega), if_neg (by omega)]
    omega
set_option maxRecDepth 100000 in
set_option maxHeartbeats 1000000 in
theorem next_any (b : Nat) (R : Int) (W on : List Int) (i : Nat) (r : Int) (w : World) (hI : IsBench w b R W on) (hl : W.length ≤ 1000) (hi : i < W.length) :
    Calls Try.prog 65 #[.pointer (some ⟨b, 0, none⟩), .int .i64 r, .int .i64 i] w fun e w' => e = .returned (.int .i64 (nextP W i r)) ∧ w = w' := by
  obtain ⟨x, M, L, cl, hD, _, _, _, hx⟩ := hI
  obtain ⟨a, ca, rfl, hca, hcm, hxx⟩ := hx.form
  obtain ⟨bx, ox, rfl, hbx, _⟩ := hxx (by omega)
  have c1 := hD.cells.2.1
  have hz := hD.lt
  obtain ⟨ad, hcut, had⟩ := run_cutFromI bx ox W.length ca (i + 1) (by omega) hca
  have hrd := rdI_mid rfl hx (show i + 1 ≤ W.length by omega) (Nat.le_refl _) had
  rw [List.take_of_length_le (by rw [List.length_drop]; omega)] at hrd
  have HIX := Lib.hid (index_any _ _ r w hrd (by rw [List.length_drop]; omega))
  have hcut2 : ∀ w : World, (Instr.slice 22 (.slice (some ⟨bx, ox, none⟩) W.length ca) (some (.int .i64 ((i : Int) + 1))) none none).run Try.prog w = .ok (.slice (some ad) (W.length - (i + 1)) (ca - (i + 1))) w := by
    intro w
    have := hcut w
    rwa [show ((i + 1 : Nat) : Int) = (i : Int) + 1 by omega] at this
  have hb := idxOf_bd (eqB r) (W.drop (i + 1))
  rw [List.length_drop] at hb
  unfold nextP
  generalize idxOf (eqB r) (W.drop (i + 1)) = q at *
  clear hcut had hrd hx hxx hD hcm
  by_cases hq : 0 ≤ q
  · rw [if_pos hq]
    go_enter Try.func65, Try.ntmps65
    go_wp2_with fail
    refine (HIX.out).mono ?_
    rintro e w' ⟨rfl, rfl⟩
    go_wp2_with fail
    go_ret
    exact ⟨rfl, rfl⟩
  · rw [if_neg hq]
    go_enter Try.func65, Try.ntmps65
    go_wp2_with fail
    refine (HIX.out).mono ?_
    rintro e w' ⟨rfl, rfl⟩
    go_wp2_with fail
    go_ret
    exact ⟨rfl, rfl⟩
end Go.Proofs.Ytjajdpggoggoiaa

namespace Go.Proofs.Ytjajdpggoggoiaa.Dual

theorem nodup_sub_len : ∀ (l m : List Int), l.Nodup → (∀ x ∈ l, x ∈ m) → l.length ≤ m.length
  | [], _, _, _ => Nat.zero_le _
  | a :: l, m, hl, hs => by
    have ham := hs a (by simp)
    obtain ⟨h1, h2⟩ := List.nodup_cons.1 hl
    have h := nodup_sub_len l (m.erase a) h2 (fun x hx => (List.mem_erase_of_ne (by intro e; subst e; exact h1 hx)).2 (hs x (by simp [hx])))
    have := List.length_erase_of_mem ham
    have : 0 < m.length := List.length_pos_of_mem ham
    simp; omega

/-- How many numbers below n there are with p. -/
def cnt (n : Nat) (p : Nat → Bool) : Nat := ((List.range n).filter p).length
theorem cnt_succ (n : Nat) (p : Nat → Bool) : cnt (n + 1) p = cnt n p + if p n then 1 else 0 := by
  unfold cnt; rw [List.range_succ, List.filter_append, List.length_append]
  by_cases h : p n <;> simp [h]
theorem cnt_le {n : Nat} {p q : Nat → Bool} (h : ∀ i, i < n → p i = true → q i = true) : cnt n p ≤ cnt n q := by
  induction n with
  | zero => simp [cnt]
  | succ n ih =>
    rw [cnt_succ, cnt_succ]
    have := ih fun i hi => h i (by omega)
    have h2 := h n (by omega)
    by_cases hp : p n = true
    · rw [hp, h2 hp]; simp; exact this
    · simp [hp]; split <;> omega
theorem cnt_congr {n : Nat} {p q : Nat → Bool} (h : ∀ i, i < n → p i = q i) : cnt n p = cnt n q :=
  Nat.le_antisymm (cnt_le fun i hi hp => by rw [← h i hi]; exact hp) (cnt_le fun i hi hp => by rw [h i hi]; exact hp)
theorem cnt_or (n : Nat) (p q : Nat → Bool) : cnt n (fun i => p i || q i) ≤ cnt n p + cnt n q := by
  induction n with
  | zero => simp [cnt]
  | succ n ih => rw [cnt_succ, cnt_succ, cnt_succ]; cases p n <;> cases q n <;> simp <;> omega
theorem cnt_or_eq {n : Nat} {p q : Nat → Bool} (h : ∀ i, i < n → p i = true → q i = true → False) : cnt n (fun i => p i || q i) = cnt n p + cnt n q := by
  induction n with
  | zero => simp [cnt]
  | succ n ih =>
    rw [cnt_succ, cnt_succ, cnt_succ, ih fun i hi => h i (by omega)]
    have h2 := h n (by omega)
    cases hp : p n <;> cases hq : q n <;> simp
    · omega
    · omega
    · exact (h2 hp hq).elim
theorem cnt_not (n : Nat) (p : Nat → Bool) : cnt n p + cnt n (fun i => !p i) = n := by
  induction n with
  | zero => simp [cnt]
  | succ n ih => rw [cnt_succ, cnt_succ]; cases p n <;> simp <;> omega
theorem cnt_zero {n : Nat} {p : Nat → Bool} (h : ∀ i, i < n → p i = false) : cnt n p = 0 := by
  induction n with
  | zero => simp [cnt]
  | succ n ih => rw [cnt_succ, ih fun i hi => h i (by omega), h n (by omega)]; rfl
/-- A count is at most the length of a list in which distinct things stand for the numbers. -/
theorem cnt_inj {n : Nat} {p : Nat → Bool} (f : Nat → Int) (m : List Int) (hf : ∀ i j, i < n → j < n → p i = true → p j = true → f i = f j → i = j) (hm : ∀ i, i < n → p i = true → f i ∈ m) : cnt n p ≤ m.length := by
  have h := nodup_sub_len (((List.range n).filter p).map f) m (by
    rw [List.Nodup, List.pairwise_map]
    refine List.Pairwise.imp_of_mem ?_ ((List.nodup_range (n := n)).filter p)
    intro a b ha hb hab e
    simp at ha hb
    exact hab (hf a b ha.1 hb.1 ha.2 hb.2 e)) (fun x hx => by
    obtain ⟨i, hi, rfl⟩ := List.mem_map.1 hx
    simp at hi
    exact hm i hi.1 hi.2)
  simpa [cnt] using h
theorem cnt_ge {n : Nat} {p : Nat → Bool} (m : List Int) (hn : m.Nodup) (g : Int → Nat) (hg : ∀ x ∈ m, ∀ y ∈ m, g x = g y → x = y) (hm : ∀ x ∈ m, g x < n ∧ p (g x) = true) : m.length ≤ cnt n p := by
  have h := nodup_sub_len (m.map fun x => (g x : Int)) (((List.range n).filter p).map fun (i : Nat) => (i : Int)) (by
    rw [List.Nodup, List.pairwise_map]
    refine List.Pairwise.imp_of_mem ?_ hn
    intro a b ha hb hab e
    exact hab (hg a ha b hb (by omega))) (fun x hx => by
    obtain ⟨y, hy, rfl⟩ := List.mem_map.1 hx
    refine List.mem_map.2 ⟨g y, ?_, rfl⟩
    obtain ⟨h1, h2⟩ := hm y hy
    simp [h1, h2])
  simpa [cnt] using h

/-- The want i. -/
def at_ (W : List Int) (i : Nat) : Int := W[i]?.getD 0
/-- The pause that ends at i holds t. -/
def Holds (W : List Int) (i t : Nat) : Prop := ∃ j, j < t ∧ t < i ∧ at_ W j = at_ W i ∧ ∀ k, j < k → k < i → at_ W k ≠ at_ W i
def Again (W : List Int) (i : Nat) : Prop := ∃ j, j < i ∧ at_ W j = at_ W i
open Classical in
noncomputable def holdsB (W : List Int) (i t : Nat) : Bool := decide (Holds W i t)
open Classical in
noncomputable def againB (W : List Int) (i : Nat) : Bool := decide (Again W i)
/-- The pauses in which none of the times lies. -/
noncomputable def freeB (W : List Int) (T : List Nat) (i : Nat) : Bool := againB W i && T.all fun t => !holdsB W i t
noncomputable def proved (R : Nat) (W : List Int) (T : List Nat) : Int := (W.length : Int) - (T.length : Int) * ((R : Int) - 1) - (cnt W.length (freeB W T) : Int)

/-- What is on the bench before each want. -/
structure Trace (R : Nat) (W : List Int) (B : Nat → List Int) : Prop where
  zero : B 0 = []
  nodup : ∀ i, i ≤ W.length → (B i).Nodup ∧ (B i).length ≤ R
  has : ∀ i, i < W.length → at_ W i ∈ B (i + 1)
  sub : ∀ i, i < W.length → ∀ x ∈ B (i + 1), x = at_ W i ∨ x ∈ B i
def keptB (W : List Int) (B : Nat → List Int) (i : Nat) : Bool := decide (at_ W i ∈ B i)
def fetches (W : List Int) (B : Nat → List Int) : Nat := cnt W.length fun i => !keptB W B i

variable {R : Nat} {W : List Int} {B : Nat → List Int}
/-- What is on the bench was wanted, and is there since. -/
theorem Trace.since (h : Trace R W B) : ∀ i, i ≤ W.length → ∀ x ∈ B i, ∃ j, j < i ∧ at_ W j = x ∧ (∀ k, j < k → k < i → at_ W k ≠ x) ∧ ∀ k, j < k → k ≤ i → x ∈ B k
  | 0, _, x, hx => by rw [h.zero] at hx; cases hx
  | i + 1, hi, x, hx => by
    rcases Classical.em (x = at_ W i) with e | e
    · exact ⟨i, by omega, e.symm, fun k h1 h2 => by omega, fun k h1 h2 => by rw [show k = i + 1 by omega]; exact hx⟩
    · have hb := (h.sub i (by omega) x hx).resolve_left e
      obtain ⟨j, h1, h2, h3, h4⟩ := h.since i (by omega) x hb
      refine ⟨j, by omega, h2, fun k k1 k2 => ?_, fun k k1 k2 => ?_⟩
      · by_cases ek : k = i
        · subst ek; exact fun e' => e e'.symm
        · exact h3 k k1 (by omega)
      · by_cases ek : k = i + 1
        · subst ek; exact hx
        · exact h4 k k1 (by omega)
theorem kept_again (h : Trace R W B) {i : Nat} (hi : i < W.length) (hk : keptB W B i = true) : Again W i := by
  obtain ⟨j, h1, h2, _⟩ := h.since i (by omega) _ (by simpa [keptB] using hk)
  exact ⟨j, h1, h2⟩
/-- A kept pause: what it is of is on the bench behind each time in it. -/
theorem kept_on (h : Trace R W B) {i t : Nat} (hi : i < W.length) (hk : keptB W B i = true) (ht : Holds W i t) : at_ W i ∈ B (t + 1) ∧ at_ W i ∈ B t ∧ at_ W i ≠ at_ W t := by
  obtain ⟨j, j1, j2, j3, j4⟩ := ht
  obtain ⟨k, k1, k2, k3, k4⟩ := h.since i (by omega) _ (by simpa [keptB] using hk)
  have e : k = j := by
    rcases Nat.lt_trichotomy k j with hlt | he | hgt
    · exact absurd j3 (k3 j hlt (by omega))
    · exact he
    · exact absurd k2 (j4 k hgt k1)
  subst e
  exact ⟨k4 _ (by omega) (by omega), k4 _ (by omega) (by omega), fun e => j4 t j1 j2 e.symm⟩
theorem holds_one {i i' t : Nat} (h : Holds W i t) (h' : Holds W i' t) (e : at_ W i = at_ W i') : i = i' := by
  obtain ⟨j, j1, j2, j3, j4⟩ := h
  obtain ⟨k, k1, k2, k3, k4⟩ := h'
  rcases Nat.lt_trichotomy i i' with hlt | he | hgt
  · exact absurd e (k4 i (by omega) hlt)
  · exact he
  · exact absurd e.symm (j4 i' (by omega) hgt)
/-- At a time there is room for one less than Room other ones. -/
theorem kept_room (h : Trace R W B) {t : Nat} (ht : t < W.length) : (cnt W.length fun i => keptB W B i && holdsB W i t) + 1 ≤ R := by
  have hlen := (h.nodup (t + 1) (by omega)).2
  have hhas := h.has t ht
  have hc := cnt_inj (n := W.length) (p := fun i => keptB W B i && holdsB W i t) (at_ W) ((B (t + 1)).erase (at_ W t)) (fun i j hi hj hp hq e => by
    simp only [Bool.and_eq_true, holdsB, decide_eq_true_eq] at hp hq
    exact holds_one hp.2 hq.2 e) (fun i hi hp => by
    simp only [Bool.and_eq_true, holdsB, decide_eq_true_eq] at hp
    obtain ⟨h1, _, h3⟩ := kept_on h hi hp.1 hp.2
    exact (List.mem_erase_of_ne h3).2 h1)
  rw [List.length_erase_of_mem hhas] at hc
  have : 0 < (B (t + 1)).length := List.length_pos_of_mem hhas
  omega
theorem kept_hits (h : Trace R W B) : ∀ T : List Nat, (∀ t ∈ T, t < W.length) → (cnt W.length fun i => keptB W B i && T.any fun t => holdsB W i t) + T.length ≤ T.length * R
  | [], _ => by rw [cnt_zero]; · simp
                intro i _; simp
  | t :: T, hT => by
    have h1 := kept_hits h T fun x hx => hT x (by simp [hx])
    have h2 := kept_room h (hT t (by simp))
    have h3 : (cnt W.length fun i => keptB W B i && (t :: T).any fun t => holdsB W i t) ≤ (cnt W.length fun i => keptB W B i && holdsB W i t) + cnt W.length fun i => keptB W B i && T.any fun t => holdsB W i t := by
      refine Nat.le_trans (cnt_le fun i hi hp => ?_) (cnt_or _ _ _)
      simp only [List.any_cons, Bool.and_eq_true, Bool.or_eq_true] at hp ⊢
      rcases hp.2 with h | h
      · exact .inl ⟨hp.1, h⟩
      · exact .inr ⟨hp.1, h⟩
    simp only [List.length_cons]
    rw [Nat.add_mul]; omega
/-- No right plan has fewer fetches than times prove. -/
theorem Trace.weak (h : Trace R W B) (T : List Nat) (hT : ∀ t ∈ T, t < W.length) : proved R W T ≤ fetches W B := by
  have h1 := cnt_not W.length (keptB W B)
  have h2 := kept_hits h T hT
  have h3 : cnt W.length (keptB W B) ≤ (cnt W.length fun i => keptB W B i && T.any fun t => holdsB W i t) + cnt W.length (freeB W T) := by
    refine Nat.le_trans (cnt_le fun i hi hp => ?_) (cnt_or _ _ _)
    simp only [Bool.or_eq_true, Bool.and_eq_true]
    by_cases ha : (T.any fun t => holdsB W i t) = true
    · exact .inl ⟨hp, ha⟩
    · refine .inr ?_
      unfold freeB
      rw [Bool.and_eq_true]
      refine ⟨by simpa [againB] using kept_again h hi hp, ?_⟩
      rw [List.all_eq_true]
      intro t ht
      rw [Bool.not_eq_true', ← Bool.not_eq_true]
      intro hh
      exact ha (List.any_eq_true.2 ⟨t, ht, hh⟩)
  unfold proved fetches
  have h4 : (T.length : Int) * ((R : Int) - 1) = ((T.length * R : Nat) : Int) - (T.length : Int) := by push_cast; rw [Int.mul_sub, Int.mul_one]
  rw [h4]
  omega

/-- The plan of the latest next want: what is put away for a want is wanted again not before any other one on the bench. -/
structure Latest (R : Nat) (W : List Int) (B : Nat → List Int) : Prop extends Trace R W B where
  keep : ∀ i, i < W.length → (at_ W i ∈ B i ∨ (B i).length < R) → ∀ x ∈ B i, x ∈ B (i + 1)
  away : ∀ i, i < W.length → at_ W i ∉ B i → (B i).length = R → ∃ r ∈ B i, r ∉ B (i + 1) ∧ (∀ x ∈ B i, x ≠ r → x ∈ B (i + 1)) ∧
    ∀ q, i < q → q < W.length → at_ W q = r → (∀ k, i < k → k < q → at_ W k ≠ r) → ∀ x ∈ B i, ∃ q', i < q' ∧ q' ≤ q ∧ at_ W q' = x
/-- The first want of a reamer behind some time. -/
theorem first_want {W : List Int} {x : Int} {i q : Nat} (h1 : i < q) (h2 : at_ W q = x) : ∃ q', i < q' ∧ q' ≤ q ∧ at_ W q' = x ∧ ∀ k, i < k → k < q' → at_ W k ≠ x := by
  induction q using Nat.strongRecOn with
  | _ q ih =>
    by_cases h : ∃ k, i < k ∧ k < q ∧ at_ W k = x
    · obtain ⟨k, k1, k2, k3⟩ := h
      obtain ⟨q', a, b, c, d⟩ := ih k k2 k1 k3
      exact ⟨q', a, by omega, c, d⟩
    · exact ⟨q, h1, Nat.le_refl _, h2, fun k k1 k2 e => h ⟨k, k1, k2, e⟩⟩
/-- A want that was wanted before, and is fetched, was put away at a time in its pause. -/
theorem Latest.dropped (h : Latest R W B) {i : Nat} (hi : i < W.length) (ha : Again W i) (hk : keptB W B i = false) :
    ∃ d j, j < d ∧ d < i ∧ at_ W j = at_ W i ∧ (∀ k, j < k → k < i → at_ W k ≠ at_ W i) ∧ at_ W i ∈ B d ∧ at_ W i ∉ B (d + 1) := by
  obtain ⟨j0, a1, a2⟩ := ha
  -- the last want before
  have hl : ∃ j, j < i ∧ at_ W j = at_ W i ∧ ∀ k, j < k → k < i → at_ W k ≠ at_ W i := by
    have key : ∀ m, m ≤ i → (∃ j, j < m ∧ at_ W j = at_ W i) → ∃ j, j < m ∧ at_ W j = at_ W i ∧ ∀ k, j < k → k < m → at_ W k ≠ at_ W i := by
      intro m
      induction m with
      | zero => intro _ ⟨j, h, _⟩; omega
      | succ m ih =>
        intro hm ⟨j, j1, j2⟩
        by_cases e : at_ W m = at_ W i
        · exact ⟨m, by omega, e, fun k k1 k2 => by omega⟩
        · obtain ⟨j', b1, b2, b3⟩ := ih (by omega) ⟨j, by rcases Nat.lt_or_ge j m with h | h; exact h; exact absurd (by rw [show m = j by omega]; exact j2) e, j2⟩
          refine ⟨j', by omega, b2, fun k k1 k2 => ?_⟩
          by_cases ek : k = m
          · subst ek; exact e
          · exact b3 k k1 (by omega)
    exact key i (Nat.le_refl _) ⟨j0, a1, a2⟩
  obtain ⟨j, j1, j2, j3⟩ := hl
  have h0 : at_ W i ∈ B (j + 1) := by rw [← j2]; exact h.has j (by omega)
  have key : ∀ m, j < m → m ≤ i → at_ W i ∈ B m ∨ ∃ d, j < d ∧ d < m ∧ at_ W i ∈ B d ∧ at_ W i ∉ B (d + 1) := by
    intro m
    induction m with
    | zero => intro h; omega
    | succ m ih =>
      intro h1 h2
      by_cases e : m = j
      · subst e; exact .inl h0
      · rcases ih (by omega) (by omega) with hb | ⟨d, d1, d2, d3, d4⟩
        · by_cases hb' : at_ W i ∈ B (m + 1)
          · exact .inl hb'
          · exact .inr ⟨m, by omega, by omega, hb, hb'⟩
        · exact .inr ⟨d, d1, by omega, d3, d4⟩
  rcases key i j1 (Nat.le_refl _) with hb | ⟨d, d1, d2, d3, d4⟩
  · simp [keptB] at hk; exact absurd hb hk
  · exact ⟨d, j, d1, d2, j2, j3, d3, d4⟩

/-- Times that lie in all pauses that are not kept and end at x at most; each of them in as many kept ones as there is room, of these none in two. -/
structure Cover (R : Nat) (W : List Int) (B : Nat → List Int) (x : Nat) (T : List Nat) : Prop where
  lt : ∀ t ∈ T, t < x
  inc : T.Pairwise (· < ·)
  hit : ∀ i, i < W.length → i ≤ x → Again W i → keptB W B i = false → ∃ t ∈ T, Holds W i t
  ends : ∀ i, i < W.length → keptB W B i = true → ∀ t ∈ T, Holds W i t → i ≤ x
  full : (cnt W.length fun i => keptB W B i && T.any fun t => holdsB W i t) + T.length ≥ T.length * R
theorem Latest.cover (h : Latest R W B) (hR : 1 ≤ R) : ∀ x, x ≤ W.length → ∃ T, Cover R W B x T := by
  intro x
  induction x using Nat.strongRecOn with
  | _ x ih =>
    intro hx
    by_cases hd : ∃ d, d < x ∧ ∃ i, i < W.length ∧ i ≤ x ∧ Holds W i d ∧ keptB W B i = false ∧ at_ W i ∈ B d ∧ at_ W i ∉ B (d + 1)
    · -- the last time at which one is put away
      have hmax : ∃ d, (d < x ∧ ∃ i, i < W.length ∧ i ≤ x ∧ Holds W i d ∧ keptB W B i = false ∧ at_ W i ∈ B d ∧ at_ W i ∉ B (d + 1)) ∧ ∀ d', d < d' → ¬ (d' < x ∧ ∃ i, i < W.length ∧ i ≤ x ∧ Holds W i d' ∧ keptB W B i = false ∧ at_ W i ∈ B d' ∧ at_ W i ∉ B (d' + 1)) := by
        have key : ∀ m, (∃ d, x ≤ d + m ∧ d < x ∧ ∃ i, i < W.length ∧ i ≤ x ∧ Holds W i d ∧ keptB W B i = false ∧ at_ W i ∈ B d ∧ at_ W i ∉ B (d + 1)) → ∃ d, (d < x ∧ ∃ i, i < W.length ∧ i ≤ x ∧ Holds W i d ∧ keptB W B i = false ∧ at_ W i ∈ B d ∧ at_ W i ∉ B (d + 1)) ∧ ∀ d', d < d' → ¬ (d' < x ∧ ∃ i, i < W.length ∧ i ≤ x ∧ Holds W i d' ∧ keptB W B i = false ∧ at_ W i ∈ B d' ∧ at_ W i ∉ B (d' + 1)) := by
          intro m
          induction m with
          | zero => rintro ⟨d, d1, d2, _⟩; omega
          | succ m ihm =>
            rintro ⟨d, d1, d2, d3⟩
            by_cases hn : ∃ d', d < d' ∧ (d' < x ∧ ∃ i, i < W.length ∧ i ≤ x ∧ Holds W i d' ∧ keptB W B i = false ∧ at_ W i ∈ B d' ∧ at_ W i ∉ B (d' + 1))
            · obtain ⟨d', e1, e2⟩ := hn
              exact ihm ⟨d', by omega, e2⟩
            · exact ⟨d, ⟨d2, d3⟩, fun d' h1 h2 => hn ⟨d', h1, h2⟩⟩
        obtain ⟨d, hd⟩ := hd
        exact key x ⟨d, by omega, hd⟩
      obtain ⟨t, ⟨htx, q, hq, hqx, hqt, hqk, hqb, hqb'⟩, hlast⟩ := hmax
      have htl : t < W.length := by omega
      obtain ⟨T, hT⟩ := ih t htx (by omega)
      obtain ⟨jq, jq1, jq2, jq3, jq4⟩ := hqt
      -- at t the bench is full, and what is wanted then is not on it
      have hwt : at_ W t ∉ B t := by
        intro hc
        exact hqb' (h.keep t htl (.inl hc) _ hqb)
      have hfull : (B t).length = R := by
        rcases Nat.lt_or_ge (B t).length R with hlt | hge
        · exact absurd (h.keep t htl (.inr hlt) _ hqb) hqb'
        · have := (h.nodup t (by omega)).2; omega
      obtain ⟨r, r1, r2, r3, r4⟩ := h.away t htl hwt hfull
      have er : r = at_ W q := by
        rcases Classical.em (at_ W q = r) with e | e
        · exact e.symm
        · exact absurd (r3 _ hqb e) hqb'
      subst er
      have hnext := r4 q jq2 hq rfl fun k k1 k2 => jq4 k (by omega) k2
      -- the next want of what stays on the bench
      have hN : ∀ y ∈ (B t).erase (at_ W q), ∃ q', q' < W.length ∧ at_ W q' = y ∧ q' ≤ x ∧ Holds W q' t ∧ keptB W B q' = true := by
        intro y hy
        have hyb : y ∈ B t := List.mem_of_mem_erase hy
        have hyq : y ≠ at_ W q := fun e => by subst e; exact absurd hy (List.Nodup.not_mem_erase (h.nodup t (by omega)).1)
        obtain ⟨q0, q1, q2, q3⟩ := hnext y hyb
        obtain ⟨q', a1, a2, a3, a4⟩ := first_want q1 q3
        obtain ⟨j, b1, b2, b3, b4⟩ := h.since t (by omega) y hyb
        have hyt : y ≠ at_ W t := fun e => hwt (by rw [← e]; exact hyb)
        have hho : Holds W q' t := ⟨j, b1, a1, by rw [a3]; exact b2, fun k k1 k2 => by
          rw [a3]
          rcases Nat.lt_trichotomy k t with c | c | c
          · exact b3 k k1 c
          · subst c; exact fun e => hyt e.symm
          · exact a4 k c k2⟩
        refine ⟨q', by omega, a3, by omega, hho, ?_⟩
        rcases hkq : keptB W B q' with _ | _
        · exfalso
          obtain ⟨d, j', c1, c2, c3, c4, c5, c6⟩ := h.dropped (i := q') (by omega) ⟨j, by omega, by rw [a3]; exact b2⟩ hkq
          have ej : j' = j := by
            rcases Nat.lt_trichotomy j' j with e | e | e
            · exact absurd (by rw [a3]; exact b2) (c4 j e (by omega))
            · exact e
            · rcases Nat.lt_trichotomy j' t with f | f | f
              · exact absurd (by rw [← a3]; exact c3) (b3 j' e f)
              · subst f; exact absurd (by rw [← a3]; exact c3.symm) hyt
              · exact absurd (by rw [← a3]; exact c3) (a4 j' f (by omega))
          subst ej
          rw [a3] at c5 c6
          have hdt : t < d := by
            rcases Nat.lt_trichotomy d t with e | e | e
            · exact absurd (b4 (d + 1) (by omega) (by omega)) c6
            · subst e; exact absurd (r3 y hyb hyq) c6
            · exact e
          exact hlast d hdt ⟨by omega, q', by omega, by omega, ⟨j', c1, c2, c3, c4⟩, hkq, by rw [a3]; exact c5, by rw [a3]; exact c6⟩
        · rfl
      have hNsp : ∃ g : Int → Nat, ∀ y ∈ (B t).erase (at_ W q), g y < W.length ∧ at_ W (g y) = y ∧ g y ≤ x ∧ Holds W (g y) t ∧ keptB W B (g y) = true :=
        ⟨fun y => if hy : y ∈ (B t).erase (at_ W q) then Classical.choose (hN y hy) else 0, fun y hy => by
          have := Classical.choose_spec (hN y hy)
          simpa [hy] using this⟩
      obtain ⟨g, hg⟩ := hNsp
      have hcard : R ≤ (cnt W.length fun i => keptB W B i && holdsB W i t) + 1 := by
        have h1 := cnt_ge (n := W.length) (p := fun i => keptB W B i && holdsB W i t) ((B t).erase (at_ W q)) ((h.nodup t (by omega)).1.erase _) g (fun a ha b hb e => by
          rw [← (hg a ha).2.1, ← (hg b hb).2.1, e]) (fun y hy => by
          obtain ⟨a, _, _, d, e⟩ := hg y hy
          exact ⟨a, by simp [e, holdsB, d]⟩)
        rw [List.length_erase_of_mem hqb, hfull] at h1
        omega
      have hendt : ∀ i, i < W.length → keptB W B i = true → Holds W i t → i ≤ x := by
        intro i hi hk hh
        obtain ⟨k1, k2, k3⟩ := kept_on h.toTrace hi hk hh
        have hne : at_ W i ≠ at_ W q := fun e => by rw [e] at k1; exact hqb' k1
        have hm := (List.mem_erase_of_ne hne).2 k2
        obtain ⟨a, b, c, d, e⟩ := hg _ hm
        rw [holds_one hh d b.symm]; exact c
      refine ⟨T ++ [t], ⟨fun s hs => ?_, ?_, fun i hi hix hag hk => ?_, fun i hi hk s hs hh => ?_, ?_⟩⟩
      · rcases List.mem_append.1 hs with hs | hs
        · have := hT.lt s hs; omega
        · simp at hs; omega
      · rw [List.pairwise_append]
        exact ⟨hT.inc, by simp, fun a ha b hb => by simp at hb; subst hb; exact hT.lt a ha⟩
      · obtain ⟨d, j, c1, c2, c3, c4, c5, c6⟩ := h.dropped hi hag hk
        rcases Nat.lt_or_ge t i with hti | hti
        · have hdt : d ≤ t := by
            rcases Nat.lt_or_ge t d with e | e
            · exact absurd ⟨by omega, i, hi, hix, ⟨j, c1, c2, c3, c4⟩, hk, c5, c6⟩ (hlast d e)
            · exact e
          exact ⟨t, by simp, j, by omega, hti, c3, c4⟩
        · obtain ⟨s, s1, s2⟩ := hT.hit i hi hti hag hk
          exact ⟨s, by simp [s1], s2⟩
      · rcases List.mem_append.1 hs with hs | hs
        · have := hT.ends i hi hk s hs hh; omega
        · simp at hs; subst hs; exact hendt i hi hk hh
      · have hsplit : (cnt W.length fun i => keptB W B i && (T ++ [t]).any fun t => holdsB W i t) = (cnt W.length fun i => keptB W B i && T.any fun t => holdsB W i t) + cnt W.length fun i => keptB W B i && holdsB W i t := by
          rw [← cnt_or_eq]
          · apply cnt_congr
            intro i _
            rw [List.any_append]
            simp only [List.any_cons, List.any_nil, Bool.or_false]
            cases keptB W B i <;> simp
          · intro i hi hp hq
            simp only [Bool.and_eq_true, holdsB, decide_eq_true_eq] at hp hq
            obtain ⟨s, s1, s2⟩ := List.any_eq_true.1 hp.2
            have := hT.ends i hi hp.1 s s1 (by simpa using s2)
            obtain ⟨_, _, z, _⟩ := hq.2
            omega
        rw [hsplit]
        have := hT.full
        rw [List.length_append, List.length_singleton, Nat.add_mul]
        omega
    · refine ⟨[], ⟨fun t h => (by cases h), List.Pairwise.nil, fun i hi hix hag hk => ?_, fun i _ _ t h => (by cases h), by simp⟩⟩
      obtain ⟨d, j, c1, c2, c3, c4, c5, c6⟩ := h.dropped hi hag hk
      exact absurd ⟨d, by omega, i, hi, hix, ⟨j, c1, c2, c3, c4⟩, hk, c5, c6⟩ hd
/-- There are times that prove as many fetches as the plan of the latest next want has. -/
theorem Latest.strong (h : Latest R W B) (hR : 1 ≤ R) : ∃ T : List Nat, T.Pairwise (· < ·) ∧ (∀ t ∈ T, t < W.length) ∧ (fetches W B : Int) ≤ proved R W T := by
  obtain ⟨T, hT⟩ := h.cover hR W.length (Nat.le_refl _)
  refine ⟨T, hT.inc, hT.lt, ?_⟩
  have h1 := cnt_not W.length (keptB W B)
  have h2 := hT.full
  have h3 : (cnt W.length fun i => keptB W B i && T.any fun t => holdsB W i t) + cnt W.length (freeB W T) ≤ cnt W.length (keptB W B) := by
    rw [← cnt_or_eq]
    · refine cnt_le fun i hi hp => ?_
      simp only [Bool.or_eq_true, Bool.and_eq_true] at hp
      rcases hp with hp | hp
      · exact hp.1
      · rcases hk : keptB W B i with _ | _
        · exfalso
          unfold freeB at hp
          simp only [Bool.and_eq_true, againB, decide_eq_true_eq] at hp
          obtain ⟨t, t1, t2⟩ := hT.hit i hi (by omega) hp.1 hk
          have := List.all_eq_true.1 hp.2 t t1
          simp [holdsB, t2] at this
        · rfl
    · intro i _ hp hq
      simp only [Bool.and_eq_true] at hp
      unfold freeB at hq
      rw [Bool.and_eq_true] at hq
      obtain ⟨s, s1, s2⟩ := List.any_eq_true.1 hp.2
      have := List.all_eq_true.1 hq.2 s s1
      rw [s2] at this; cases this
  unfold proved fetches
  have h4 : (T.length : Int) * ((R : Int) - 1) = ((T.length * R : Nat) : Int) - (T.length : Int) := by push_cast; rw [Int.mul_sub, Int.mul_one]
  rw [h4]
  omega
end Go.Proofs.Ytjajdpggoggoiaa.Dual
