/- Merged texts: CheckWork, CheckCircle, Circle of program and document; no condition. -/
import Derived.Test.YteknehlkdgamjaaGreatMGB
import Derived.Test.YteknehlkdgamjaaGreatMGC
import Derived.Deep.MidRow
import Derived.Lib.SliceRun
import Derived.OwnWalk
namespace Go.Proofs.YteknehlkdgamjaaGreat
open Go.RowKit Go.Shelf

theorem rep_set (m o : Nat) (z : Value) : (Array.replicate m z).setIfInBounds o z = Array.replicate m z := by
  apply Array.ext
  · simp
  · intro i h1 h2
    rw [Array.getElem_setIfInBounds (by simpa using h2)]
    simp
theorem setCells_zero (g m : Nat) (t : TypeId) : ∀ (n o : Nat) (w : World), w.heap[g]? = some (.cells (Array.replicate m (.int .i64 0)) t (0, 0)) → (w.setCells g o (List.replicate n (.int .i64 0))).heap[g]? = some (.cells (Array.replicate m (.int .i64 0)) t (0, 0)) ∧ w.grownBy (w.setCells g o (List.replicate n (.int .i64 0))) (some g)
  | 0, o, w, h => ⟨h, ⟨rfl, rfl, rfl, Nat.le_refl _, fun _ _ _ => rfl⟩⟩
  | n + 1, o, w, h => by
    have h1 := heap_setCell_same w g o _ t (.int .i64 0) h
    rw [rep_set] at h1
    obtain ⟨h2, h3⟩ := setCells_zero g m t n (o + 1) _ h1
    have h4 := grownBy_set w ⟨g, o, none⟩ (.int .i64 0)
    exact ⟨h2, ⟨h3.os.trans h4.os, h3.tape.trans h4.tape, h3.output.trans h4.output, Nat.le_trans h4.size h3.size, fun k hk hne => (h3.block k (Nat.lt_of_lt_of_le hk h4.size) hne).trans (h4.block k hk hne)⟩⟩
def zero12 : Array Value := Array.replicate 12 (.int .i64 0)
theorem zeroCells12 (n : Nat) : (Builtin.zeroCells zero12 n).toList = List.replicate (n * 12) (.int .i64 0) := by
  unfold Builtin.zeroCells zero12
  apply List.ext_getElem
  · simp
  · intro i h1 h2
    have h3 : i % 12 < 12 := Nat.mod_lt _ (by decide)
    simp [h3]
theorem run_clear_marks (w : World) (t : TypeId) (b n c : Nat) (hn : 0 < n) (hg : w.heap[b]? = some (.cells (Array.replicate (n * 12) (.int .i64 0)) t (0, 0))) :
    ∃ W', (∀ ty, (Builtin.clear_ #[102] ty #[.slice (some ⟨b, 0, none⟩) n c]).run Tryz.prog w = .ok (.tuple #[]) W') ∧ W'.heap[b]? = some (.cells (Array.replicate (n * 12) (.int .i64 0)) t (0, 0)) ∧ w.grownBy W' (some b) := by
  obtain ⟨h1, h2⟩ := setCells_zero b (n * 12) t (n * 12) 0 w hg
  refine ⟨_, fun ty => ?_, h1, h2⟩
  have hst := run_storeCells_cells (P := Tryz.prog) b 0 (List.replicate (n * 12) (.int .i64 0)) 0 w
    (fun j hj => by rw [cell_of_row _ _ _ _ _ _ hg]; simp at hj ⊢; omega) (fun j _ => frozen_of_row _ _ _ _ _ hg)
    (fun v hv => by rw [List.eq_of_mem_replicate hv]; rfl)
  have hv : ∀ w, (zeroValue 101).run Tryz.prog w = .ok (.agg zero12) w := fun w => by kernel_rfl
  obtain ⟨m, rfl⟩ : ∃ m, n = m + 1 := ⟨n - 1, by omega⟩
  have hzc := zeroCells12 (m + 1)
  simp only [Nat.add_zero] at hst
  simp [Builtin.clear_, run_underlying Tryz.underlying102, hv, Value.cells, hzc, hst]
theorem infoM : (Tryz.prog.info? 101).map (fun i => (i.zero, i.size, i.bytes)) = some (some (.agg zero12), 12, 96) := by kernel_rfl
theorem made12 (n : Nat) : (madeCells zero12 (n * 12)).toList = List.replicate (n * 12) (.int .i64 0) := by
  unfold madeCells zero12
  apply List.ext_getElem
  · simp
  · intro i h1 h2
    have h3 : i % 12 < 12 := Nat.mod_lt _ (by decide)
    simp [h3]
theorem wpList_make_marks {w : World} {ops : Array Oper} {rest : List Oper} {o : Oper} {a : Act} {Q : Exit → Act → World → Prop} (hg : o.guard = none) (l c : Operand) (hop : o.op = Op.makeSlice 102 l c) (n : Nat) (hl : a.eval l = .int .i64 (n : Int)) (hc : a.eval c = .int .i64 (n : Int)) (hn : n ≤ 1000)
    (hK : ∀ w', w'.heap[w.heap.size]? = some (.cells (Array.replicate (n * 12) (.int .i64 0)) 101 (0, 0)) → w.grownBy w' none → wpList Tryz.prog ops Q rest (a.put o.dst (.slice (some ⟨w.heap.size, 0, none⟩) n n)) w') : wpList Tryz.prog ops Q (o :: rest) a w := by
  obtain ⟨i0, hi, hz0, hz1, hz2⟩ := info_parts infoM
  refine wpList_make_full _ hg l c 102 hop w.heap.size 101 i0 (.agg zero12) 12 Tryz.underlying102 hi hz0 hz1 .i64 .i64 _ _ n hl hc rfl rfl (by rw [hz2]; omega) (by simp only [maxLen]; omega) (Nat.le_refl _) ?_
  intro w' h1 h2
  refine hK w' ?_ h2
  rcases h1.2 with ⟨e, _⟩ | ⟨g, cap, cur, e, _, h3, _, _, h4, h5⟩
  · cases e
  · cases e
    rw [h3]
    have h6 : cur.toList = List.replicate (n * 12) (.int .i64 0) := by
      rw [List.take_of_length_le (by rw [Array.length_toList, h4]; exact Nat.le_refl _)] at h5
      rw [h5]; exact made12 n
    have h7 : cur = Array.replicate (n * 12) (.int .i64 0) := by
      rw [← Array.toList_inj, h6, Array.toList_replicate]
    rw [h7]
end Go.Proofs.YteknehlkdgamjaaGreat

namespace Go.Proofs.YteknehlkdgamjaaGreat
open Go.RowKit Go.Shelf

/-- A desk lies at block d: the jobs, and the marks of what comes after each. -/
def DeskAt (w : World) (d : Nat) (J : List Job) : Prop :=
  ∃ v g c, w.cell? ⟨d, 0, none⟩ = some v ∧ RdJ w v J ∧ w.cell? ⟨d, 1, none⟩ = some (.slice (some ⟨g, 0, none⟩) J.length c) ∧ d < w.heap.size ∧ g < w.heap.size ∧
    ∀ i k, i < J.length → k < 12 → w.cell? ⟨g, i * 12 + k, none⟩ = some (.int .i64 (if aft J i k then 1 else 0))
theorem DeskAt.mono {w w' : World} {d : Nat} {J : List Job} (h : DeskAt w d J) (hb : Below w.heap.size w w') : DeskAt w' d J := by
  obtain ⟨v, g, c, h1, h2, h3, h4, h5, h6⟩ := h
  exact ⟨v, g, c, (hb.cell (p := ⟨d, 0, none⟩) h4).trans h1, h2.mono hb, (hb.cell (p := ⟨d, 1, none⟩) h4).trans h3, Nat.lt_of_lt_of_le h4 hb.size, Nat.lt_of_lt_of_le h5 hb.size,
    fun i k hi hk => (hb.cell (p := ⟨g, i * 12 + k, none⟩) h5).trans (h6 i k hi hk)⟩
theorem arrI_size (xs : List Int) : (arrI xs).size = xs.length := by simp [arrI]
theorem one_arr (xs : List Int) : (arrI xs).all (·.oneCell') = true := by simp [arrI, Value.oneCell']
theorem RwI.less {J : List Job} {i : Nat} {W R : List Int} (h : RwI J i J.length 0 W R) (hne : ¬ W = R) : zer 12 R < zer 12 W := by
  refine countP_lt (fun c hc hz => ?_) ?_
  · rw [List.mem_range] at hc
    rw [beq_iff_eq] at hz ⊢
    rcases h.wbit c hc with h1 | h1
    · exact h1
    · have := h.wsnd c hc h1; omega
  · refine Classical.byContradiction fun hn => hne (list_ext (by rw [h.len, h.wlen]) fun c hc => ?_)
    rw [h.wlen] at hc
    rcases h.wbit c hc with h1 | h1
    · rcases h.bit c hc with h2 | h2
      · omega
      · exact absurd ⟨c, List.mem_range.2 hc, by rw [h1]; rfl, by rw [h2]; rfl⟩ hn
    · rw [h1, h.wsnd c hc h1]
/-- A desk in the making: the rows of marks lie in block g; all else that was there in W0 stays. -/
structure StD (W0 : World) (g n : Nat) (rows : Nat → List Int) (wr : World) : Prop where
  ex : ∃ C, MrkC n C rows ∧ wr.heap[g]? = some (.cells C 101 (0, 0))
  gr : W0.grownBy wr (some g)
theorem StD.gz {W0 : World} {g n : Nat} {rows : Nat → List Int} {wr : World} (h : StD W0 g n rows wr) : g < wr.heap.size := by
  obtain ⟨C, _, h2⟩ := h.ex
  exact (Array.getElem?_eq_some_iff.1 h2).1
theorem StD.cell {W0 : World} {g n : Nat} {rows : Nat → List Int} {wr : World} (h : StD W0 g n rows wr) {j k : Nat} (hj : j < n) (hk : k < 12) : wr.cell? ⟨g, j * 12 + k, none⟩ = some (.int .i64 (elt (rows j) k)) := by
  obtain ⟨C, h1, h2⟩ := h.ex
  rw [cell_of_row _ _ _ _ _ _ h2]; exact h1.at' j k hj hk
theorem StD.frozen {W0 : World} {g n : Nat} {rows : Nat → List Int} {wr : World} (h : StD W0 g n rows wr) (j : Nat) : wr.frozen? ⟨g, j, none⟩ = false := by
  obtain ⟨C, _, h2⟩ := h.ex
  exact frozen_of_row _ _ _ _ _ h2
theorem StD.later {W0 : World} {g n : Nat} {rows : Nat → List Int} {wr w' : World} (h : StD W0 g n rows wr) (hb : Below wr.heap.size wr w') : StD W0 g n rows w' := by
  obtain ⟨C, h1, h2⟩ := h.ex
  refine ⟨⟨C, h1, (hb.block g h.gz).trans h2⟩, ?_⟩
  have h3 := h.gr
  exact ⟨hb.os.trans h3.os, hb.tape.trans h3.tape, hb.output.trans h3.output, Nat.le_trans h3.size hb.size, fun k hk hne => (hb.block k (Nat.lt_of_lt_of_le hk h3.size)).trans (h3.block k hk hne)⟩
theorem StD.set {W0 : World} {g n : Nat} {rows : Nat → List Int} {wr : World} (h : StD W0 g n rows wr) {i k : Nat} (hi : i < n) (hk : k < 12) (hl : (rows i).length = 12) (x : Int) :
    StD W0 g n (fun j => if j = i then (rows i).set k x else rows j) (wr.setCell ⟨g, i * 12 + k, none⟩ (.int .i64 x)) := by
  obtain ⟨C, h1, h2⟩ := h.ex
  refine ⟨⟨_, h1.set hi hk x hl, heap_setCell_same wr g (i * 12 + k) C 101 (.int .i64 x) h2⟩, ?_⟩
  have h3 := h.gr
  have h4 := grownBy_set wr ⟨g, i * 12 + k, none⟩ (.int .i64 x)
  exact ⟨h4.os.trans h3.os, h4.tape.trans h3.tape, h4.output.trans h3.output, Nat.le_trans h3.size h4.size, fun r hr hne => (h4.block r (Nat.lt_of_lt_of_le hr h3.size) hne).trans (h3.block r hr hne)⟩
theorem StD.other {W0 : World} {g n : Nat} {rows : Nat → List Int} {wr : World} (h : StD W0 g n rows wr) {b o : Nat} {v : Value} (hb : b ≠ g) (hz : b < W0.heap.size) (hv : W0.cell? ⟨b, o, none⟩ = some v) : wr.cell? ⟨b, o, none⟩ = some v :=
  (World.cell?_of_block (w := W0) (h.gr.block b hz (fun e => hb (Option.some.inj e)))).trans hv
theorem StD.below {w W0 : World} {g n : Nat} {rows : Nat → List Int} {wr : World} (h : StD W0 g n rows wr) (hb : Below w.heap.size w W0) (hg : w.heap.size ≤ g) : Below w.heap.size w wr :=
  bgr hb h.gr (fun k e => by cases e; exact hg)
theorem StD.range {W0 : World} {g n : Nat} {rows : Nat → List Int} {wr : World} (h : StD W0 g n rows wr) {j : Nat} (hj : j < n) (hl : (rows j).length = 12) : wr.rangeAt g (j * 12) ((rows j).map (Value.int .i64)) := fun k v hv => by
  rw [List.getElem?_map] at hv
  by_cases hk : k < 12
  · rw [h.cell hj hk]
    rw [List.getElem?_eq_getElem (by omega)] at hv
    rw [elt_lt (by omega)]
    simpa using hv
  · rw [List.getElem?_eq_none (by omega)] at hv; cases hv
theorem StD.mark {W0 : World} {g n i : Nat} {rows : Nat → List Int} {R : List Int} {wr : World} (h : StD W0 g n (fun j => if j = i then R else rows j) wr) {k : Nat} (hi : i < n) (hk : k < 12) (hl : R.length = 12) (x : Int) :
    StD W0 g n (fun j => if j = i then R.set k x else rows j) (wr.setCell ⟨g, i * 12 + k, none⟩ (.int .i64 x)) := by
  have h2 := h.set hi hk (by rw [if_pos rfl]; exact hl) x
  have e : (fun j => if j = i then (if i = i then R else rows i).set k x else if j = i then R else rows j) = fun j => if j = i then R.set k x else rows j := by
    funext j
    by_cases e : j = i
    · rw [if_pos e, if_pos rfl, if_pos e]
    · rw [if_neg e, if_neg e, if_neg e]
  rwa [e] at h2
theorem cell_arr {w : World} {b k : Nat} {t : TypeId} {R : List Int} (h : w.heap[b]? = some (.cells (arrI R) t (0, 0))) (hk : k < R.length) : w.cell? ⟨b, k, none⟩ = some (.int .i64 (elt R k)) := by
  rw [cell_of_row _ _ _ _ _ _ h]
  simp [arrI, elt, hk]
theorem wpQuiet_load_part {P : Program} {ops : Array Oper} {Q : Act → Prop} {a : Act} {w : World} {rest : List Oper} {o : Oper} (hgd : o.guard = none) (ty : TypeId) (x : Operand) (ho : o.op = .load ty x) (ad : Addr) (hx : a.eval x = .pointer (some ad)) (v : Value)
    (hl : ∀ l : Later w, (loadVar ty ad).run P l.val = .ok v l.val)
    (h : wpQuiet P ops (fun w' => ∃ x : Later w, w' = x.val) Q rest (a.put o.dst v)) : wpQuiet P ops (fun w' => ∃ x : Later w, w' = x.val) Q (o :: rest) a := by
  unfold wpQuiet
  rw [if_pos (by simp [Region.wanted, hgd])]
  refine ⟨v, ?_, h⟩
  rintro w' ⟨l, rfl⟩
  unfold Oper.quietAt execOp
  simp only [ho, hx, Instr.loadAt, Instr.sureAddr, Sem.run_bind, Sem.run_pure, Result.andThen_ok, hl l, Oper.quietUpon, and_self]
/-- How many marks of a row are not set. -/
def zcW (w : World) (g o : Nat) : Nat := (List.range 12).countP fun k => match w.cell? ⟨g, o + k, none⟩ with | some (.int _ 0) => true | _ => false
theorem StD.zc {W0 : World} {g n : Nat} {rows : Nat → List Int} {wr : World} (h : StD W0 g n rows wr) {j : Nat} (hj : j < n) : zcW wr g (j * 12) = zer 12 (rows j) := by
  unfold zcW zer
  refine List.countP_congr fun k hk => ?_
  rw [List.mem_range] at hk
  rw [h.cell hj hk]
  by_cases e : elt (rows j) k = 0
  · rw [e]; simp
  · have : (elt (rows j) k == 0) = false := by simp [e]
    rw [this]
    split
    · rename_i h2; simp at h2; exact absurd h2.2 e
    · simp
set_option maxRecDepth 100000 in
set_option maxHeartbeats 1600000 in
theorem desk_any (v : Value) (J : List Job) (w : World) (hx0 : RdJ w v J) (hJ : FineJ J) :
    Calls Tryz.prog 87 #[.agg #[v]] w fun e w' => ∃ d, e = .returned (.pointer (some ⟨d, 0, none⟩)) ∧ DeskAt w' d J ∧ w.heap.size ≤ d ∧ Below w.heap.size w w' := by
  obtain ⟨a, c, rfl⟩ := hx0.sl
  have HX := Lib.hid hx0
  have h12 := hJ.n12
  have h1 := hJ.n1
  have HJ := Lib.hid hJ
  have gq : (w.alloc (.cells #[.slice a J.length c] 24)).cell? ⟨w.heap.size, 0, none⟩ = some (.slice a J.length c) := cnew rfl rfl
  have zq : w.heap.size < (w.alloc (.cells #[.slice a J.length c] 24)).heap.size := by simp
  have HB0 := Lib.hid (bal (bz w) (.cells #[.slice a J.length c] 24))
  clear hx0 hJ
  go_enter Tryz.func87, Tryz.ntmps87
  go_upto_region 1 with fail
  generalize w.alloc (.cells #[.slice a J.length c] 24) = w3 at *
  refine wp_region_flow [] [([0, 1, 2, 3], 4, true), ([5], 6, true)] [7] (by kernel_rfl) (by kernel_rfl) ?_
  intro wc hBc hh
  clear hh
  have HBC := Lib.hid hBc
  have hL := @Later.cell wc
  have k1 := (hBc.cell (p := ⟨w.heap.size, 0, none⟩) zq).trans gq
  have z1 := Nat.lt_of_lt_of_le zq hBc.size
  clear hBc gq zq
  simp only [flowP, flow, pickL, List.getElem?_cons_succ, List.getElem?_cons_zero]
  refine wpQuiet_nil ?_
  repeat (go_big_quiet_step (fail))
  refine wpQuiet_nil ?_
  refine wpList_make_marks rfl _ _ rfl J.length rfl rfl (by omega) ?_
  intro w4 hg4 hgr4
  have HG4 := Lib.hid (bgr (bz wc) hgr4 (fun k e => by cases e))
  have HC4 := Lib.hid hg4
  clear hg4 hgr4 hL k1 z1
  go_wp2
  refine seg_grow ⟨⟨_, HG4.out⟩, rfl⟩ ?_
  repeat (go_big_quiet_step (fail))
  refine wpQuiet_nil ?_
  go_wp2
  refine seg_grow ⟨⟨_, bal HG4.out _⟩, rfl⟩ ?_
  repeat (go_big_quiet_step (fail))
  refine wpQuiet_nil ?_
  refine only_done ?_
  have hgz : wc.heap.size < w4.heap.size := (Array.getElem?_eq_some_iff.1 HC4.out).1
  have HC5 := Lib.hid ((Below.heap_alloc w4 (.cells #[.slice a J.length c, .slice (some ⟨wc.heap.size, 0, none⟩) J.length J.length] 104) wc.heap.size hgz).trans HC4.out)
  have k0 : (w4.alloc (.cells #[.slice a J.length c, .slice (some ⟨wc.heap.size, 0, none⟩) J.length J.length] 104)).cell? ⟨w4.heap.size, 0, none⟩ = some (.slice a J.length c) := cnew rfl rfl
  have k1 : (w4.alloc (.cells #[.slice a J.length c, .slice (some ⟨wc.heap.size, 0, none⟩) J.length J.length] 104)).cell? ⟨w4.heap.size, 1, none⟩ = some (.slice (some ⟨wc.heap.size, 0, none⟩) J.length J.length) := cnew rfl rfl
  have kz : w4.heap.size < (w4.alloc (.cells #[.slice a J.length c, .slice (some ⟨wc.heap.size, 0, none⟩) J.length J.length] 104)).heap.size := by simp
  have HB5 := Lib.hid (bal HG4.out (.cells #[.slice a J.length c, .slice (some ⟨wc.heap.size, 0, none⟩) J.length J.length] 104))
  generalize w4.alloc (.cells #[.slice a J.length c, .slice (some ⟨wc.heap.size, 0, none⟩) J.length J.length] 104) = w5 at *
  obtain ⟨W0, hcl, q1, q2⟩ := run_clear_marks w5 101 wc.heap.size J.length J.length (by omega) HC5.out
  have kg : w5.heap.size ≤ W0.heap.size := q2.size
  have k2 : W0.cell? ⟨w4.heap.size, 1, none⟩ = some (.slice (some ⟨wc.heap.size, 0, none⟩) J.length J.length) := (World.cell?_of_block (w := w5) (q2.block _ kz (by simp; omega))).trans k1
  have k3 : W0.cell? ⟨w4.heap.size, 0, none⟩ = some (.slice a J.length c) := (World.cell?_of_block (w := w5) (q2.block _ kz (by simp; omega))).trans k0
  have Q1 := Lib.hid q1
  have HG0 := Lib.hid q2
  have kz2 := Nat.lt_of_lt_of_le kz kg
  have HDG0 := Lib.hid (show w4.heap.size ≠ wc.heap.size by omega)
  clear q1 q2 HC4 HC5 hgz
  go_wp2_with (rw [hcl])
  go_wp2
  clear hcl k0 k1 kz kg
  obtain ⟨g, hg⟩ : ∃ g, g = wc.heap.size := ⟨_, rfl⟩
  obtain ⟨d, hd⟩ : ∃ d, d = w4.heap.size := ⟨_, rfl⟩
  have HGE := Lib.hid hg; have HDE := Lib.hid hd
  rw [← hg] at Q1 HG0 k2 ⊢
  rw [← hd] at k2 k3 kz2 ⊢
  have HDG : Hid (d ≠ g) := Lib.hid (by have := HDG0.out; omega)
  have HGW := Lib.hid (show w.heap.size ≤ g by have := HB0.out.size; have := HBC.out.size; omega)
  have HDW := Lib.hid (show w.heap.size ≤ d by have := HB0.out.size; have := HBC.out.size; have := HG4.out.size; omega)
  have HBW0 : Hid (Below w.heap.size w W0) := Lib.hid (bgr (btr HB0.out (btr HBC.out HB5.out)) HG0.out (fun k e => by cases e; exact HGW.out))
  clear hg hd HB0 HBC HG4 HB5 HG0
  obtain ⟨n, hn⟩ : ∃ n, n = J.length := ⟨_, rfl⟩
  have HN := Lib.hid hn
  rw [← hn] at h12 h1 Q1 k2 k3 ⊢
  clear hn
  have HZ := Lib.hid (MrkC.zero n)
  go_loopw [26] (fun s26 wr => ∃ (i : Nat) (rows : Nat → List Int), i ≤ n ∧ s26 = .int .i64 i ∧ StD W0 g n rows wr ∧ (∀ j, j < i → rows j = mrk J j) ∧ (∀ j, i ≤ j → rows j = List.replicate 12 0)) (fun s26 _ => n - (intOf s26).toNat)
  case atStart => exact ⟨0, _, Nat.zero_le _, rfl, ⟨⟨_, HZ.out, Q1.out⟩, ⟨rfl, rfl, rfl, Nat.le_refl _, fun _ _ _ => rfl⟩⟩, fun j h => by omega, fun j _ => rfl⟩
  case round =>
    obtain ⟨i, rows, hi, rfl, hst, hold, hnew⟩ := hrel
    have HST := Lib.hid hst; have HOLD := Lib.hid hold; have HNEW := Lib.hid hnew
    rename World => wO
    clear hst hold hnew
    by_cases hlt : i < n
    · have hdg := HDG.out
      have HDG2 : Hid (StD W0 g n (fun j => if j = i then List.replicate 12 0 else rows j) wO) := Lib.hid (by
        have : (fun j => if j = i then List.replicate 12 0 else rows j) = rows := by
          funext j; split
          · rename_i e; rw [HNEW.out j (by omega)]
          · rfl
        rw [this]; exact HST.out)
      go_wp2_with fail
      go_loopw [] (fun wr => ∃ R : List Int, StD W0 g n (fun j => if j = i then R else rows j) wr ∧ RwI J i 0 0 R R) (fun wr => zcW wr g (i * 12))
      case atStart => exact ⟨_, HDG2.out, RwI.start (by simp) (fun c hc => .inl (elt_rep _ _ _ hc)) (fun c hc h => by rw [elt_rep _ _ _ hc] at h; omega)⟩
      case round =>
        clear HDG2
        obtain ⟨R, hst, hrw⟩ := hrel
        have HSR := Lib.hid hst; have HRW := Lib.hid hrw
        rename World => wP
        have gd1 := hst.other (b := d) (o := 1) hdg kz2 k2
        have gd0 := hst.other (b := d) (o := 0) hdg kz2 k3
        have hrg := Lib.hid (hst.range hlt (by rw [if_pos rfl]; exact hrw.len))
        rw [if_pos rfl] at hrg
        have hi12 : (Tryz.prog.info? 101).map (·.size) = some 12 := by kernel_rfl
        have HI12 := Lib.hid hi12; clear hi12
        have hri := Lib.hid (show (Tryz.prog.info? 101).map (·.size) = some (R.map (Value.int .i64)).length from by rw [List.length_map, hrw.len]; kernel_rfl)
        have HBX := Lib.hid (below_box wP #[.int .i64 0, .int .i64 0, .int .i64 0, .int .i64 0, .int .i64 0, .int .i64 0, .int .i64 0, .int .i64 0, .int .i64 0, .int .i64 0, .int .i64 0, .int .i64 0] (arrI R) 101)
        have HHX := Lib.hid (heap_box wP #[.int .i64 0, .int .i64 0, .int .i64 0, .int .i64 0, .int .i64 0, .int .i64 0, .int .i64 0, .int .i64 0, .int .i64 0, .int .i64 0, .int .i64 0, .int .i64 0] (arrI R) 101)
        clear hst hrw
        go_upto_region 7 with (first
          | refine wpList_load_mid rfl _ _ rfl g (i * 12) rfl _ _ hrg.out Tryz.underlying101 rfl hri.out ?_
          | refine wpList_store_row rfl 101 (.tmp 5) (.tmp 35) rfl wP.heap.size (arrI R) rfl rfl 101 _ (heap_alloc_new _ _) (by rw [arrI_size, HRW.out.len]; exact HI12.out) (by rw [arrI_size, HRW.out.len]; rfl) (one_arr _) ?_)
        generalize World.setRow _ _ _ = w6 at *
        have HS6 := Lib.hid (HSR.out.later HBX.out)
        have gd1 := HS6.out.other (b := d) (o := 1) hdg kz2 k2
        have gd0 := HS6.out.other (b := d) (o := 0) hdg kz2 k3
        obtain ⟨b5, hb5⟩ : ∃ b5, b5 = wP.heap.size := ⟨_, rfl⟩
        have HB5G : Hid (b5 ≠ g) := Lib.hid (by have := HSR.out.gz; omega)
        have HZ5 : Hid (zcW wP g (i * 12) = zer 12 R) := Lib.hid (by rw [HSR.out.zc hlt, if_pos rfl])
        have HM5 := Lib.hid (show wP.heap.size ≤ b5 by omega)
        rw [← hb5] at HHX ⊢
        clear hb5 HBX HSR hri hrg
        go_wp2
        clear gd1 gd0
        go_loopw [42] (fun s42 wr => ∃ (k : Nat) (R1 : List Int), k ≤ n ∧ s42 = .int .i64 k ∧ StD W0 g n (fun j => if j = i then R1 else rows j) wr ∧ RwI J i k 0 R R1 ∧ wr.heap[b5]? = some (.cells (arrI R) 101 (0, 0))) (fun s42 _ => n - (intOf s42).toNat)
        case atStart => exact ⟨0, R, Nat.zero_le _, rfl, HS6.out, HRW.out, HHX.out⟩
        case round =>
          clear HS6 HHX
          obtain ⟨k, R1, hk, rfl, hst, hrw, hbx⟩ := hrel
          have HS1 := Lib.hid hst; have HR1 := Lib.hid hrw; have HX1 := Lib.hid hbx
          rename World => wQ
          by_cases hkn : k < n
          · obtain ⟨bj, oj, a', c', e, hbj0, g10, g20, g30, hr⟩ := HX.out.get k (by have := HN.out; omega)
            subst e
            have hbw := hst.below HBW0.out HGW.out
            have g1 := (hbw.cell (p := ⟨bj, _, none⟩) hbj0).trans g10
            have g2 := (hbw.cell (p := ⟨bj, _, none⟩) hbj0).trans g20
            have g3 := (hbw.cell (p := ⟨bj, _, none⟩) hbj0).trans g30
            have hbj := Nat.lt_of_lt_of_le hbj0 hbw.size
            have HWW := Lib.hid (fun (wz : World) (h : Below w.heap.size w wz) => hr.mono h)
            clear g10 g20 g30 hbj0 hbw
            obtain ⟨m, hm⟩ : ∃ m, m = (job J k).ws.length := ⟨_, rfl⟩
            have HM := Lib.hid hm
            have hm12 := HJ.out.ws_le (i := k) (by have := HN.out; omega)
            rw [← hm] at g3 HWW hm12
            clear hm hst hrw hbx hr
            generalize (job J k).lo = lo at *
            generalize (job J k).hi = hh at *
            go_upto_region 10 with fail
            have HS7 := Lib.hid (HS1.out.later (bal (bz wQ) (.cells #[.int .i64 lo, .int .i64 hh, .slice a' m c'] 62)))
            have HX7 := Lib.hid ((Below.heap_alloc wQ (.cells #[.int .i64 lo, .int .i64 hh, .slice a' m c'] 62) b5 (Array.getElem?_eq_some_iff.1 HX1.out).1).trans HX1.out)
            have gq : (wQ.alloc (.cells #[.int .i64 lo, .int .i64 hh, .slice a' m c'] 62)).cell? ⟨wQ.heap.size, 2, none⟩ = some (.slice a' m c') := cnew rfl rfl
            have zq : wQ.heap.size < (wQ.alloc (.cells #[.int .i64 lo, .int .i64 hh, .slice a' m c'] 62)).heap.size := by simp
            generalize wQ.alloc (.cells #[.int .i64 lo, .int .i64 hh, .slice a' m c'] 62) = w7 at *
            clear g1 g2 g3 hbj
            go_wp2
            clear gq zq
            go_loopw [50] (fun s50 wr => ∃ (q : Nat) (R2 : List Int), q ≤ m ∧ s50 = .int .i64 q ∧ StD W0 g n (fun j => if j = i then R2 else rows j) wr ∧ RwI J i k q R R2 ∧ wr.heap[b5]? = some (.cells (arrI R) 101 (0, 0))) (fun s50 _ => m - (intOf s50).toNat)
            case atStart => exact ⟨0, R1, Nat.zero_le _, rfl, HS7.out, HR1.out, HX7.out⟩
            case round =>
              clear HS7 HX7
              obtain ⟨q, R2, hq, rfl, hst, hrw, hbx⟩ := hrel
              have HS8 := Lib.hid hst; have HR8 := Lib.hid hrw; have HX8 := Lib.hid hbx
              rename World => wR
              by_cases hqm : q < m
              · have HWS := HWW.out wR (hst.below HBW0.out HGW.out)
                obtain ⟨bx, ox, e, hbz, hcx⟩ := HWS.get (by have := HM.out; omega)
                subst e
                obtain ⟨b, hb, hbn, hed⟩ := HJ.out.wait (i := k) (j := q) (by have := HN.out; omega) (by have := HM.out; omega)
                have gx := hcx q (by have := HM.out; omega)
                rw [hb] at gx
                have HBE := Lib.hid hb
                have hb12 : b < 12 := by have := HN.out; omega
                have gw := cell_arr hbx (k := b) (by rw [hrw.wlen]; exact hb12)
                have gm := hst.cell hlt (k := k) (by omega)
                have gf := hst.frozen (i * 12 + k)
                have gd1 := hst.other (b := d) (o := 1) hdg kz2 k2
                rw [if_pos rfl] at gm
                have HSK := Lib.hid (fun h => hrw.skip (q := q) h)
                rw [HBE.out, Int.toNat_natCast] at HSK
                have HMK := Lib.hid (fun h => hrw.mark HJ.out (by have := HN.out; omega) (by have := HM.out; omega) (q := q) h)
                rw [HBE.out, Int.toNat_natCast] at HMK
                have HSM := Lib.hid (hst.mark hlt (k := k) (by omega) hrw.len 1)
                have HXM := Lib.hid ((Below.heap_setCell wR ⟨g, i * 12 + k, none⟩ (.int .i64 1) b5 (by exact HB5G.out)).trans hbx)
                have hw01 := hrw.wbit b hb12
                clear hst hrw hbx hcx hed hb hbn
                by_cases hbi : b = i
                · subst hbi
                  have t1 : ((b : Int) == (b : Int)) = true := by simp
                  have HR9 := Lib.hid (HMK.out (.inl rfl))
                  go_wp2_with fail
                  go_roundw
                  case rel => exact ⟨q + 1, R2.set k 1, by omega, by go_num, HSM.out, HR9.out, HXM.out⟩
                  case measure => simp [intOf]; omega
                · have t1 : ((b : Int) == (i : Int)) = false := by simp; omega
                  by_cases hw1 : elt R b = 1
                  · rw [hw1] at gw
                    have HR9 := Lib.hid (HMK.out (.inr hw1))
                    clear hw1 hw01
                    go_wp2_with fail
                    go_roundw
                    case rel => exact ⟨q + 1, R2.set k 1, by omega, by go_num, HSM.out, HR9.out, HXM.out⟩
                    case measure => simp [intOf]; omega
                  · have hw0 : elt R b = 0 := by omega
                    rw [hw0] at gw
                    have HR9 := Lib.hid (HSK.out (fun h => by rcases h with h | h <;> omega))
                    clear hw1 hw01 hw0
                    go_wp2_with fail
                    go_roundw
                    case rel => exact ⟨q + 1, R2, by omega, by go_num, HS8.out, HR9.out, HX8.out⟩
                    case measure => simp [intOf]; omega
              · have HR9 := Lib.hid (show RwI J i (k + 1) 0 R R2 from by
                  have hqm2 : q = (job J k).ws.length := by have := HM.out; omega
                  subst hqm2; exact hrw.next HJ.out)
                clear hst hrw hbx
                go_wp2_with fail
                go_roundw
                case rel => exact ⟨k + 1, R2, by omega, by go_num, HS8.out, HR9.out, HX8.out⟩
                case measure => simp [intOf]; omega
          · have hkn2 : k = n := by omega
            have HF1 := Lib.hid (show RwI J i J.length 0 R R1 from by rw [← HN.out, ← hkn2]; exact hrw)
            clear hkn2
            have gd1 := hst.other (b := d) (o := 1) hdg kz2 k2
            have zd1 : d < wQ.heap.size := Nat.lt_of_lt_of_le kz2 hst.gr.size
            obtain ⟨i3, hi3, _, _, _⟩ := info_parts num3
            have hne : ∀ w' : World, (binOp .eql 101 (.agg (arrI R)) (.agg (arrI R1))).run Tryz.prog w' = .ok (.bool (decide (R = R1))) w' := fun w' => by
              rw [run_eql_struct]
              unfold arrI
              rw [run_eq_arr (P := Tryz.prog) w' 9998 101 3 12 .i64 i3 Tryz.underlying101 hi3 (by kernel_rfl) Tryz.underlying3 R R1 hrw.wlen hrw.len]
              rfl
            have HGZ := Lib.hid hst.gz
            have hld : ∀ l : Later wQ, (loadVar 101 ⟨g, i * 12, none⟩).run Tryz.prog l.val = .ok (.agg (arrI R1)) l.val := fun l => by
              refine run_loadVar_mid l.val g (i * 12) 101 (R1.map (Value.int .i64)) _ (fun j v hv => ?_) Tryz.underlying101 rfl (by rw [List.length_map, hrw.len]; exact HI12.out)
              have := HS1.out.range hlt (by rw [if_pos rfl]; exact hrw.len)
              rw [if_pos rfl] at this
              exact (l.le.cell (p := ⟨g, i * 12 + j, none⟩) HGZ.out).trans (this j v hv)
            have HLD := Lib.hid hld
            have HNN := Lib.hid hne
            clear hne hi3 hld hst hrw hbx
            generalize hbq : decide (R = R1) = bq at *
            have HBQ := Lib.hid hbq
            clear hbq
            go_upto_region 17 with fail
            refine wp_region_flow [] [] [0, 1, 2, 3, 4, 5, 6, 7, 8] (by kernel_rfl) (by kernel_rfl) ?_
            intro wd hBd hh
            clear hh
            have HBD := Lib.hid hBd
            have hL := @Later.cell wd
            have k1 := (hBd.cell (p := ⟨d, 1, none⟩) zd1).trans gd1
            have z1 := Nat.lt_of_lt_of_le zd1 hBd.size
            have HG8 := Lib.hid ((hBd.block _ (Array.getElem?_eq_some_iff.1 HX1.out).1).trans HX1.out)
            have HLE := Lib.hid (show ∀ l : Later wd, (loadVar 101 ⟨g, i * 12, none⟩).run Tryz.prog l.val = .ok (.agg (arrI R1)) l.val from fun l => HLD.out ⟨l.val, btr HBD.out l.le⟩)
            have hne := HNN.out
            clear hBd gd1 zd1
            simp only [flowP, flow, pickL, List.getElem?_cons_succ, List.getElem?_cons_zero]
            refine wpQuiet_nil ?_
            repeat (first
              | (refine wpQuiet_load_row rfl 101 (.tmp 5) rfl b5 rfl 101 (arrI R) (0, 0) _ HG8.out Tryz.underlying101 rfl (by rw [arrI_size, HRW.out.len]; exact HI12.out) ?_)
              | (refine wpQuiet_load_part rfl 101 (.tmp 79) rfl ⟨g, i * 12, none⟩ rfl _ HLE.out ?_)
              | (quiet_step (fail)))
            refine wpQuiet_nil ?_
            refine only_done ?_
            clear hne hL k1 z1
            have HSD := Lib.hid (HS1.out.later HBD.out)
            cases bq with
            | true =>
              have HRR := of_decide_eq_true HBQ.out
              have HMR := Lib.hid (show R1 = mrk J i from by rw [HRR] at HF1; exact HF1.out.fin (by have := HN.out; omega))
              clear HRR
              go_wp2_with fail
              go_roundw
              case rel =>
                refine ⟨i + 1, _, by omega, by go_num, HSD.out, fun j hj => ?_, fun j hj => ?_⟩
                · by_cases e : j = i
                  · rw [if_pos e, e]; exact HMR.out
                  · rw [if_neg e]; exact HOLD.out j (by omega)
                · rw [if_neg (by omega)]; exact HNEW.out j (by omega)
              case measure => simp [intOf]; omega
            | false =>
              have HLT := Lib.hid (HF1.out.less (of_decide_eq_false HBQ.out))
              go_wp2_with fail
              go_roundw
              case rel => exact ⟨R1, HSD.out, RwI.start HF1.out.len HF1.out.bit HF1.out.snd⟩
              case measure => rw [HZ5.out, HSD.out.zc hlt, if_pos rfl]; exact HLT.out
    · have hin : i = n := by omega
      have HD1 := Lib.hid (HST.out.below HBW0.out HGW.out)
      go_wp2_with fail
      go_ret
      refine ⟨d, rfl, ?_, HDW.out, HD1.out⟩
      refine ⟨_, g, n, HST.out.other HDG.out kz2 k3, by rw [HN.out]; exact HX.out.mono HD1.out, by rw [← HN.out]; exact HST.out.other HDG.out kz2 k2, Nat.lt_of_lt_of_le kz2 HST.out.gr.size, HST.out.gz, fun j k hj hk => ?_⟩
      rw [← HN.out] at hj
      rw [HST.out.cell hj hk, HOLD.out j (by omega), mrk_at J j hk]
end Go.Proofs.YteknehlkdgamjaaGreat

namespace Go.Proofs.YteknehlkdgamjaaGreat
open Go.RowKit Go.Shelf

theorem DeskAt.get {w : World} {d : Nat} {J : List Job} (h : DeskAt w d J) : ∃ a c g cg, d < w.heap.size ∧ w.cell? ⟨d, 0, none⟩ = some (.slice a J.length c) ∧ RdJ w (.slice a J.length c) J ∧ w.cell? ⟨d, 1, none⟩ = some (.slice (some ⟨g, 0, none⟩) J.length cg) ∧ g < w.heap.size ∧
    ∀ i k, i < J.length → k < 12 → w.cell? ⟨g, i * 12 + k, none⟩ = some (.int .i64 (if aft J i k then 1 else 0)) := by
  obtain ⟨v, g, c, h1, h2, h3, h4, h5, h6⟩ := h
  obtain ⟨a, c', rfl⟩ := h2.sl
  exact ⟨a, c', g, c, h4, h1, h2, h3, h5, h6⟩
/-- The function value takes the index of a job and returns its days. -/
def DaysF (w : World) (k : Nat) (lb lc : Array Value) (n : Nat) (D : Nat → Int) : Prop :=
  (∀ args w, (callFunc k args).run Tryz.prog w = .ok (.enter k args) w) ∧ (∀ i, i < n → 0 ≤ D i ∧ D i ≤ 1000) ∧
  ∀ wz, Below w.heap.size w wz → ∀ i : Nat, i < n → Calls Tryz.prog k (lb.push (.int .i64 (i : Int)) ++ lc) wz fun e w' => e = .returned (.int .i64 (D i)) ∧ Below wz.heap.size wz w'
theorem DaysF.mono {w w' : World} {k n : Nat} {lb lc : Array Value} {D : Nat → Int} (h : DaysF w k lb lc n D) (hb : Below w.heap.size w w') : DaysF w' k lb lc n D :=
  ⟨h.1, h.2.1, fun wz hz => h.2.2 wz (btr hb hz)⟩
/-- The function value takes a number and answers p. -/
def TestF (w : World) (k : Nat) (lb lc : Array Value) (xs : List Int) (p : Int → Bool) : Prop :=
  (∀ args w, (callFunc k args).run Tryz.prog w = .ok (.enter k args) w) ∧
  ∀ wz, Below w.heap.size w wz → ∀ j, j < xs.length → Calls Tryz.prog k (lb.push (.int .i64 (elt xs j)) ++ lc) wz fun e w' => e = .returned (.bool (p (elt xs j))) ∧ Below wz.heap.size wz w'
def loD (J : List Job) (i : Nat) : Int := (job J i).lo
def hiD (J : List Job) (i : Nat) : Int := (job J i).hi
set_option maxRecDepth 100000 in
set_option maxHeartbeats 400000 in
theorem low_any (d i : Nat) (J : List Job) (w : World) (hd : DeskAt w d J) (hi : i < J.length) :
    Calls Tryz.prog 60 #[.pointer (some ⟨d, 0, none⟩), .int .i64 (i : Int)] w fun e w' => e = .returned (.int .i64 (loD J i)) ∧ w' = w := by
  obtain ⟨a, c, g, cg, hz, h1, h2, _⟩ := hd.get
  obtain ⟨b, o, a', c', rfl, hb, g1, g2, g3, hr⟩ := h2.get i hi
  have HE := Lib.hid (show loD J i = (job J i).lo from rfl)
  clear h2 hr hd
  generalize loD J i = q at *
  go_enter Tryz.func60, Tryz.ntmps60
  go_wp2_with fail
  go_ret
  exact ⟨ret_int HE.out.symm, rfl⟩
set_option maxRecDepth 100000 in
set_option maxHeartbeats 400000 in
theorem high_any (d i : Nat) (J : List Job) (w : World) (hd : DeskAt w d J) (hi : i < J.length) :
    Calls Tryz.prog 61 #[.pointer (some ⟨d, 0, none⟩), .int .i64 (i : Int)] w fun e w' => e = .returned (.int .i64 (hiD J i)) ∧ w' = w := by
  obtain ⟨a, c, g, cg, hz, h1, h2, _⟩ := hd.get
  obtain ⟨b, o, a', c', rfl, hb, g1, g2, g3, hr⟩ := h2.get i hi
  have HE := Lib.hid (show hiD J i = (job J i).hi from rfl)
  clear h2 hr hd
  generalize hiD J i = q at *
  go_enter Tryz.func61, Tryz.ntmps61
  go_wp2_with fail
  go_ret
  exact ⟨ret_int HE.out.symm, rfl⟩
theorem days_low {w : World} {d : Nat} {J : List Job} (hd : DeskAt w d J) (hJ : FineJ J) : DaysF w 60 #[.pointer (some ⟨d, 0, none⟩)] #[] J.length (loD J) := by
  refine ⟨enters_of Tryz.func60 (by kernel_rfl) rfl, fun i hi => ?_, fun wz hz i hi => ?_⟩
  · have := hJ.days i hi
    unfold loD; omega
  · refine (low_any d i J wz (hd.mono hz) hi).mono ?_
    rintro e w' ⟨rfl, rfl⟩
    exact ⟨rfl, bz _⟩
theorem days_high {w : World} {d : Nat} {J : List Job} (hd : DeskAt w d J) (hJ : FineJ J) : DaysF w 61 #[.pointer (some ⟨d, 0, none⟩)] #[] J.length (hiD J) := by
  refine ⟨enters_of Tryz.func61 (by kernel_rfl) rfl, fun i hi => ?_, fun wz hz i hi => ?_⟩
  · have := hJ.days i hi
    unfold hiD; omega
  · refine (high_any d i J wz (hd.mono hz) hi).mono ?_
    rintro e w' ⟨rfl, rfl⟩
    exact ⟨rfl, bz _⟩
theorem find_none_elt {p : Int → Bool} {xs : List Int} {k : Nat} (h : ∀ i, i < k → p (elt xs i) = false) (hk : k < xs.length) (hp : p (elt xs k) = true) : idxOf p xs = k := find_none_step (d := 0) h hk hp
theorem find_no_elt {p : Int → Bool} {xs : List Int} (h : ∀ i, i < xs.length → p (elt xs i) = false) : idxOf p xs = -1 := find_none (d := 0) h
set_option maxRecDepth 100000 in
set_option maxHeartbeats 400000 in
theorem indexfn_any (x : Value) (xs : List Int) (k : Nat) (lb lc : Array Value) (p : Int → Bool) (w : World) (hx0 : RdI w .i64 x xs) (hl : xs.length ≤ 1000) (hf : TestF w k lb lc xs p) :
    Calls Tryz.prog 108 #[x, .func (.func k) lb lc] w fun e w' => e = .returned (.int .i64 (idxOf p xs)) ∧ Below w.heap.size w w' := by
  obtain ⟨a, ca, rfl, _, hcm, hx⟩ := hx0.form
  have HX := Lib.hid hx0
  have HF := Lib.hid hf.2
  have eg := hf.1
  clear hx0 hcm hx hf
  go_enter Tryz.func108, Tryz.ntmps108
  go_wp2_with fail
  go_loopw [5, 8] (fun j i wr => ∃ q : Nat, q ≤ xs.length ∧ i = .int .i64 q ∧ (∀ i, i < q → p (elt xs i) = false) ∧ Below w.heap.size w wr) (fun _ i _ => xs.length - (intOf i).toNat)
  case atStart => exact ⟨0, Nat.zero_le _, rfl, by intro i h1; omega, Below.refl _ _⟩
  case round =>
    obtain ⟨q, hk, rfl, ht, hB⟩ := hrel
    have HT := Lib.hid ht; have HB := Lib.hid hB; clear ht hB
    by_cases hlt : q < xs.length
    · obtain ⟨bx, ox, rfl, hbx, hcx⟩ := (HX.out.mono HB.out).get (by omega)
      have gx := hcx q hlt
      have HC := Lib.hid (fun wz (h : Below w.heap.size w wz) => HF.out wz h q hlt)
      have HYES := Lib.hid (fun h => find_none_elt (p := p) HT.out hlt h)
      have HNO : Hid (p (elt xs q) = false → ∀ i, i < q + 1 → p (elt xs i) = false) := Lib.hid (fun h i hi => by
        by_cases e : i = q
        · subst e; exact h
        · exact HT.out i (by omega))
      clear hcx
      generalize hr : p (elt xs q) = r at *
      clear hr
      generalize elt xs q = y at *
      go_wp2_with fail
      refine (HC.out _ HB.out).mono ?_
      rintro e w2 ⟨rfl, hB2⟩
      have HB3 := Lib.hid (btr HB.out hB2)
      clear hB2
      cases r with
      | false =>
        have HN := Lib.hid (HNO.out rfl)
        go_wp2_with fail
        go_roundw
        case rel => exact ⟨q + 1, by omega, by go_num, HN.out, HB3.out⟩
        case measure => simp [intOf]; omega
      | true =>
        have HY := Lib.hid (HYES.out rfl)
        go_wp2_with fail
        go_ret
        exact ⟨ret_int HY.out.symm, HB3.out⟩
    · have HY := Lib.hid (find_no_elt (p := p) (xs := xs) fun i hi => HT.out i (by omega))
      go_wp2_with fail
      go_ret
      exact ⟨ret_int HY.out.symm, HB.out⟩
set_option maxRecDepth 100000 in
set_option maxHeartbeats 400000 in
theorem containsfn_any (x : Value) (xs : List Int) (k : Nat) (lb lc : Array Value) (p : Int → Bool) (w : World) (hx0 : RdI w .i64 x xs) (hl : xs.length ≤ 1000) (hf : TestF w k lb lc xs p) :
    Calls Tryz.prog 91 #[x, .func (.func k) lb lc] w fun e w' => e = .returned (.bool (xs.any p)) ∧ Below w.heap.size w w' := by
  have HI := Lib.hid (indexfn_any x xs k lb lc p w hx0 hl hf)
  have H := Lib.hid (idxOf_any p xs)
  clear hf hx0
  go_enter Tryz.func91, Tryz.ntmps91
  go_wp2_with fail
  refine HI.out.mono ?_
  rintro e w2 ⟨rfl, hB2⟩
  go_wp2_with fail
  go_ret
  exact ⟨ret_bool H.out, hB2⟩
end Go.Proofs.YteknehlkdgamjaaGreat

namespace Go.Proofs.YteknehlkdgamjaaGreat
open Go.RowKit Go.Shelf

theorem wpList_append_ran {w w' : World} {v x' y' : Value} {ops : Array Oper} {rest : List Oper} {o : Oper} {a : Act} {Q : Exit → Act → World → Prop} (t : TypeId) (hgd : o.guard = none) (s x : Operand)
    (ho : o.op = .call { callee := .builtin .append, args := #[s, x], argTypes := #[t, t] }) (hs : a.eval s = x') (hx : a.eval x = y') (hr : (Builtin.append_ #[t, t] o.type #[x', y']).run Tryz.prog w = .ok v w') (H : wpList Tryz.prog ops Q rest (a.put o.dst v) w') :
    wpList Tryz.prog ops Q (o :: rest) a w := by
  refine wpList_plain hgd fun _ hK => ?_
  unfold Oper.wp execOp
  simp only [ho, resolve, invoke, builtin, Sem.run_bind, Sem.run_pure, Result.andThen_ok, List.map_toArray, List.map_cons, List.map_nil, hs, hx, hr]
  exact hK _ _ H
theorem own_mono {w : World} {base base' n size : Nat} {e : TypeId} {v : Value} {xs : List Value} (h : w.ownsRow base e size v n xs) (hb : base' ≤ base) : w.ownsRow base' e size v n xs :=
  ⟨h.1, h.2.imp id fun ⟨g, cap, cur, h1, h2, h3⟩ => ⟨g, cap, cur, h1, Nat.le_trans hb h2, h3⟩⟩
theorem own_off {w : World} {base n : Nat} {a : Option Addr} {c : Nat} {xs : List Int} (h : rowI w base (.slice a n c) xs) : ∀ ad, a = some ad → ad.off = 0 ∧ ad.spot = none := by
  intro ad e; subst e
  rcases h.2 with ⟨e, _⟩ | ⟨g, cap, cur, e, _⟩
  · rw [Value.slice.injEq] at e; exact absurd e.1 (by simp)
  · rw [Value.slice.injEq] at e
    have e1 := Option.some.inj e.1
    subst e1; exact ⟨rfl, rfl⟩
theorem own_le {w : World} {base n : Nat} {a : Option Addr} {c : Nat} {xs : List Int} (h : rowI w base (.slice a n c) xs) : n ≤ c := by
  rcases h.2 with ⟨e, _⟩ | ⟨g, cap, cur, e, _, _, h1, _⟩
  · rw [Value.slice.injEq] at e; omega
  · rw [Value.slice.injEq] at e; omega
/-- A variable of the call's own that holds a list of the call's own. -/
structure OutC (w : World) (bo : Nat) (L : List Nat) : Prop where
  ex : ∃ a c, w.cell? ⟨bo, 0, none⟩ = some (.slice a L.length c) ∧ rowI w (bo + 1) (.slice a L.length c) (ints L)
  fr : w.frozen? ⟨bo, 0, none⟩ = false
  lt : bo < w.heap.size
theorem OutC.later {w w' : World} {bo : Nat} {L : List Nat} (h : OutC w bo L) (hb : Below w.heap.size w w') : OutC w' bo L := by
  obtain ⟨a, c, h1, h2⟩ := h.ex
  refine ⟨⟨a, c, (hb.cell (p := ⟨bo, 0, none⟩) h.lt).trans h1, owns_kept h2 hb⟩, ?_, Nat.lt_of_lt_of_le h.lt hb.size⟩
  have h3 := h.fr
  rw [World.frozen?] at h3 ⊢
  rw [hb.block bo h.lt]; exact h3
theorem OutC.push {w : World} {bo : Nat} {L : List Nat} (h : OutC w bo L) (hl : L.length ≤ 100) (i : Nat) {a : Option Addr} {c : Nat} (hc : w.cell? ⟨bo, 0, none⟩ = some (.slice a L.length c)) (ty : TypeId) :
    ∃ a' c' w', (Builtin.append_ #[41, 41] ty #[.slice a L.length L.length, .slice (some ⟨w.heap.size, 0, none⟩) 1 1]).run Tryz.prog (w.alloc (.cells #[.int .i64 (i : Int)] 3)) = .ok (.slice a' (L.length + 1) c') w' ∧
      Below w.heap.size w w' ∧ w'.cell? ⟨bo, 0, none⟩ = some (.slice a L.length c) ∧ w'.frozen? ⟨bo, 0, none⟩ = false ∧ bo < w'.heap.size ∧ OutC (w'.setCell ⟨bo, 0, none⟩ (.slice a' (L.length + 1) c')) bo (L ++ [i]) ∧ ∀ w0 : World, Below w0.heap.size w0 w → w0.heap.size ≤ bo → Below w0.heap.size w0 (w'.setCell ⟨bo, 0, none⟩ (.slice a' (L.length + 1) c')) := by
  obtain ⟨a', c', h1, h2⟩ := h.ex
  rw [hc] at h1
  cases h1
  have hb1 := bal (bz w) (.cells #[.int .i64 (i : Int)] 3)
  have hil : (ints L).length = L.length := ints_len L
  have had : ∀ ad, a = some ad → ad.off = 0 ∧ ad.spot = none := by
    intro ad e; subst e
    rcases h2.2 with ⟨e, _⟩ | ⟨g, cap, cur, e, _⟩
    · rw [Value.slice.injEq] at e; exact absurd e.1 (by simp)
    · rw [Value.slice.injEq] at e
      have e1 := Option.some.inj e.1
      subst e1; exact ⟨rfl, rfl⟩
  have hrd : RdI (w.alloc (.cells #[.int .i64 (i : Int)] 3)) .i64 (.slice a (ints L).length c) (ints L) := by rw [hil]; exact (RdI.of_owns h2).mono hb1
  obtain ⟨v9, w9, hrun, hown, hgr⟩ := append_clip (w.alloc (.cells #[.int .i64 (i : Int)] 3)) a (ints L).length c (ints L) hrd had (by omega) ⟨w.heap.size, 0, none⟩ (i : Int) (cnew rfl rfl) ty
  rw [hil] at hrun hown
  have hB9 : Below w.heap.size w w9 := bgr hb1 hgr (fun k e => by cases e)
  have hO9 := h.later hB9
  obtain ⟨a9, c9, rfl⟩ := owns_form hown
  refine ⟨a9, c9, w9, hrun, hB9, (hB9.cell (p := ⟨bo, 0, none⟩) h.lt).trans hc, hO9.fr, hO9.lt, ⟨⟨a9, c9, ?_, ?_⟩, ?_, ?_⟩, fun w0 h0 h1 => ?_⟩
  · obtain ⟨a2, c2, h3, _⟩ := hO9.ex
    rw [List.length_append, List.length_singleton]
    exact World.cell?_setCell_same _ _ _ h3
  · have hl2 : (L ++ [i]).length = L.length + 1 := by simp
    unfold rowI
    rw [hl2, ints_snoc, List.length_append, List.length_singleton, hil]
    have h4 := own_mono hown (base' := bo + 1) (by have := h.lt; simp; omega)
    refine h4.kept (grownBy_set w9 ⟨bo, 0, none⟩ _) ?_
    cases hv : (Value.slice a9 (L.length + 1) c9).ownBlock with
    | none => exact .inl rfl
    | some k =>
      right
      intro e
      have := (hown.lt k hv).1
      have h5 := h.lt
      simp only [Option.some.injEq] at e
      simp at this
      omega
  · rw [World.frozen?_setCell]; exact hO9.fr
  · simp; exact hO9.lt
  · have h5 := btr h0 hB9
    exact bgr h5 (grownBy_set w9 ⟨bo, 0, none⟩ _) (fun k e => by cases e; exact h1)
set_option maxRecDepth 100000 in
set_option maxHeartbeats 400000 in
theorem order1_any (bo : Nat) (L : List Nat) (y : Int) (w : World) (h : OutC w bo L) (hl : L.length ≤ 100) :
    Calls Tryz.prog 107 #[.int .i64 y, .pointer (some ⟨bo, 0, none⟩)] w fun e w' => e = .returned (.bool (!(ints L).contains y)) ∧ Below w.heap.size w w' := by
  obtain ⟨a, c, h1, h2⟩ := h.ex
  have hbz := h.lt
  have HR := Lib.hid (RdI.of_owns h2)
  clear h h2
  go_enter Tryz.func107, Tryz.ntmps107
  go_wp2_with fail
  refine (contains_any _ (ints L) y w HR.out (by rw [ints_len]; omega)).mono ?_
  rintro e w2 ⟨rfl, rfl⟩
  go_wp2_with fail
  go_ret
  exact ⟨ret_bool (by simp), bz _⟩
theorem order1_test {bo : Nat} {L : List Nat} {w : World} (h : OutC w bo L) (hl : L.length ≤ 100) (xs : List Int) : TestF w 107 #[] #[.pointer (some ⟨bo, 0, none⟩)] xs (fun y => !(ints L).contains y) :=
  ⟨enters_of Tryz.func107 (by kernel_rfl) rfl, fun wz hz j _ => order1_any bo L (elt xs j) wz (h.later hz) hl⟩
end Go.Proofs.YteknehlkdgamjaaGreat

namespace Go.Proofs.YteknehlkdgamjaaGreat
open Go.RowKit Go.Shelf

/-- How long the list is that a variable holds. -/
def lenC (w : World) (b : Nat) : Nat := match w.cell? ⟨b, 0, none⟩ with | some (.slice _ n _) => n | _ => 0
theorem OutC.len {w : World} {bo : Nat} {L : List Nat} (h : OutC w bo L) : lenC w bo = L.length := by
  obtain ⟨a, c, h1, _⟩ := h.ex
  unfold lenC; rw [h1]
theorem waits_any {J : List Job} (hJ : FineJ J) {i : Nat} (hi : i < J.length) (L : List Nat) : ((job J i).ws.any fun y => !(ints L).contains y) = false ↔ ∀ k, edg J k i = true → k ∈ L := by
  rw [List.any_eq_false]
  constructor
  · intro h k he
    obtain ⟨j, hj, e⟩ := hJ.edge he
    have := h _ (elt_mem hj)
    rw [Bool.not_eq_true, Bool.not_eq_false', List.contains_iff_mem, e, ints_mem] at this
    exact this
  · intro h x hx
    obtain ⟨j, hj, rfl⟩ := List.getElem_of_mem hx
    obtain ⟨b, e, _, he⟩ := hJ.wait hi hj
    rw [elt_lt hj] at e
    rw [Bool.not_eq_true, Bool.not_eq_false', List.contains_iff_mem, e, ints_mem]
    exact h b he
/-- In a round: L0 is what the list was, L what it is behind the jobs before i. -/
structure OrR (J : List Job) (L0 L : List Nat) (i : Nat) : Prop where
  ord : OrdI J L
  pre : L0 <+: L
  new : ∀ c, c < i → c < J.length → (∀ k, edg J k c = true → k ∈ L0) → c ∈ L
theorem OrR.start {J : List Job} {L : List Nat} (h : OrdI J L) : OrR J L L 0 := ⟨h, List.prefix_refl _, fun _ h => by omega⟩
theorem OrR.keep {J : List Job} {L0 L : List Nat} {i : Nat} (h : OrR J L0 L i) (hn : i ∈ L ∨ ¬ ∀ k, edg J k i = true → k ∈ L) : OrR J L0 L (i + 1) := by
  refine ⟨h.ord, h.pre, fun c hc hcn hw => ?_⟩
  by_cases e : c = i
  · subst e
    rcases hn with hn | hn
    · exact hn
    · exact absurd (fun k he => h.pre.subset (hw k he)) hn
  · exact h.new c (by omega) hcn hw
theorem OrR.add {J : List Job} {L0 L : List Nat} {i : Nat} (h : OrR J L0 L i) (hi : i < J.length) (hn : i ∉ L) (hw : ∀ k, edg J k i = true → k ∈ L) : OrR J L0 (L ++ [i]) (i + 1) := by
  refine ⟨h.ord.add hi hn hw, h.pre.trans (List.prefix_append _ _), fun c hc hcn hw => ?_⟩
  by_cases e : c = i
  · subst e; simp
  · exact List.mem_append_left _ (h.new c (by omega) hcn hw)
theorem OrR.more {J : List Job} (hJ : FineJ J) (hc : cir J = false) {L0 L : List Nat} (h : OrR J L0 L J.length) (hl : L0.length < J.length) : L0.length < L.length := by
  have hex : ∃ i, i < J.length ∧ i ∉ L0 := by
    refine Classical.byContradiction fun hn => ?_
    have h2 := inj_len id (List.range J.length) L0 List.nodup_range (fun _ _ _ _ e => e) (fun x hx => Classical.byContradiction fun hx2 => hn ⟨x, List.mem_range.1 hx, hx2⟩)
    rw [List.length_range] at h2
    omega
  obtain ⟨i, h1, h2, h3⟩ := ready_ex hJ hc hex
  have h4 := h.new i h1 h1 h3
  have h5 := h.pre.length_le
  rcases Nat.lt_or_ge L0.length L.length with h6 | h6
  · exact h6
  · have h7 := h.pre.eq_of_length (by omega)
    subst h7; exact absurd h4 h2
theorem OrR.le {J : List Job} {L0 L : List Nat} {i : Nat} (h : OrR J L0 L i) : L.length ≤ J.length := h.ord.len
set_option maxRecDepth 100000 in
set_option maxHeartbeats 1600000 in
theorem order_any (d : Nat) (J : List Job) (w : World) (hd : DeskAt w d J) (hJ : FineJ J) (hc : cir J = false) :
    Calls Tryz.prog 89 #[.pointer (some ⟨d, 0, none⟩)] w fun e w' => ∃ v L, e = .returned v ∧ OrdI J L ∧ L.length = J.length ∧ rowI w' w.heap.size v (ints L) ∧ Below w.heap.size w w' := by
  obtain ⟨a, c, g, cg, hz, h1, h2, _⟩ := hd.get
  have HJ := Lib.hid hJ; have HCI := Lib.hid hc; have HX := Lib.hid h2
  have h12 := hJ.n12
  have HO0 : Hid (OutC (w.alloc (.cells #[.slice none 0 0] 41)) w.heap.size []) := Lib.hid ⟨⟨none, 0, cnew rfl rfl, World.ownsRow_nil _ _ _ _⟩, frozen_of_row _ _ _ _ _ (heap_alloc_new _ _), by simp⟩
  have HB0 := Lib.hid (bal (bz w) (.cells #[.slice none 0 0] 41))
  clear hd hJ hc h2
  obtain ⟨n, hn⟩ : ∃ n, n = J.length := ⟨_, rfl⟩
  have HN := Lib.hid hn
  rw [← hn] at h1 h12
  clear hn
  go_enter Tryz.func89, Tryz.ntmps89
  go_wp2_with fail
  generalize w.alloc (.cells #[.slice none 0 0] 41) = w1 at *
  go_loopw [] (fun wr => ∃ L, OutC wr w.heap.size L ∧ OrdI J L ∧ Below w.heap.size w wr) (fun wr => n - lenC wr w.heap.size)
  case atStart => exact ⟨[], HO0.out, OrdI.nil J, HB0.out⟩
  case round =>
    clear HO0 HB0
    obtain ⟨L, ho, hor, hB⟩ := hrel
    have HO := Lib.hid ho; have HOR := Lib.hid hor; have HB := Lib.hid hB
    rename World => wO
    obtain ⟨ae, ce, hce, hre⟩ := ho.ex
    have hlt0 := ho.lt
    have hln := hor.len
    have gd := (hB.cell (p := ⟨d, 0, none⟩) hz).trans h1
    have zd := Nat.lt_of_lt_of_le hz hB.size
    have HRE := Lib.hid hre
    rw [← HN.out] at hln
    clear ho hor hB hre
    by_cases hfin : L.length < n
    · have dfin : decide (L.length < n) = true := by simp; omega
      have HFIN := Lib.hid hfin
      clear hfin
      go_upto_region 2 with fail
      go_quiet (fail)
      have HB1 := Lib.hid (btr HB.out (Below.drewN' nq (bz wO)))
      have HO1 := Lib.hid (HO.out.later (Below.drewN' nq (bz wO)))
      have gd1 := ((Below.drewN' nq (bz wO)).cell (p := ⟨d, 0, none⟩) zd).trans gd
      have zd1 := Nat.lt_of_lt_of_le zd (Below.drewN' nq (bz wO)).size
      have HLE := Lib.hid HO.out.len
      generalize wO.drewN nq = w2 at *
      clear gd zd hce hlt0
      go_wp2_with fail
      clear gd1 zd1
      go_loopw [22] (fun s22 wr => ∃ (i : Nat) (L1 : List Nat), i ≤ n ∧ s22 = .int .i64 i ∧ OutC wr w.heap.size L1 ∧ OrR J L L1 i ∧ Below w.heap.size w wr) (fun s22 _ => n - (intOf s22).toNat)
      case atStart => exact ⟨0, L, Nat.zero_le _, rfl, HO1.out, OrR.start HOR.out, HB1.out⟩
      case round =>
        clear HO1 HB1
        obtain ⟨i, L1, hi, rfl, ho, hr, hB⟩ := hrel
        have HO2 := Lib.hid ho; have HR2 := Lib.hid hr; have HB2 := Lib.hid hB
        rename World => wP
        by_cases hlt : i < n
        · obtain ⟨bj, oj, a', c', e, hbj0, g10, g20, g30, hrw⟩ := HX.out.get i (by have := HN.out; omega)
          subst e
          have g1 := (hB.cell (p := ⟨bj, _, none⟩) hbj0).trans g10
          have g2 := (hB.cell (p := ⟨bj, _, none⟩) hbj0).trans g20
          have g3 := (hB.cell (p := ⟨bj, _, none⟩) hbj0).trans g30
          have hbj := Nat.lt_of_lt_of_le hbj0 hB.size
          have HWW := Lib.hid (fun (wz : World) (h : Below w.heap.size w wz) => hrw.mono h)
          have HW0 := Lib.hid (waits_any HJ.out (i := i) (by have := HN.out; omega) L1).1
          have HW1 := Lib.hid (waits_any HJ.out (i := i) (by have := HN.out; omega) L1).2
          have hm12 := Lib.hid (HJ.out.ws_le (i := i) (by have := HN.out; omega))
          have hL1 := Lib.hid (show L1.length ≤ 12 by have := hr.le; have := HN.out; omega)
          clear g10 g20 g30 hbj0 hrw ho hr hB
          generalize (job J i).lo = lo at *
          generalize (job J i).hi = hh at *
          generalize hws : (job J i).ws = ws at *
          clear hws
          generalize hr : (ws.any fun y => !(ints L1).contains y) = r at *
          obtain ⟨m, hm⟩ : ∃ m, m = ws.length := ⟨_, rfl⟩
          have HM := Lib.hid hm
          have HRR := Lib.hid hr
          rw [← hm] at g3 HWW
          clear hm hr
          go_upto_region 6 with fail
          have hB3 := bal (bz wP) (.cells #[.int .i64 lo, .int .i64 hh, .slice a' m c'] 62)
          have HB3 := Lib.hid (btr HB2.out hB3)
          have HO3 := Lib.hid (HO2.out.later hB3)
          have gq : (wP.alloc (.cells #[.int .i64 lo, .int .i64 hh, .slice a' m c'] 62)).cell? ⟨wP.heap.size, 2, none⟩ = some (.slice a' m c') := cnew rfl rfl
          have zq : wP.heap.size < (wP.alloc (.cells #[.int .i64 lo, .int .i64 hh, .slice a' m c'] 62)).heap.size := by simp
          generalize wP.alloc (.cells #[.int .i64 lo, .int .i64 hh, .slice a' m c'] 62) = w3 at *
          clear hB3 g1 g2 g3 hbj
          go_wp2_with fail
          refine (containsfn_any _ ws _ _ _ (fun y => !(ints L1).contains y) w3 (HWW.out _ HB3.out) (by have := hm12.out; omega) (order1_test HO3.out (by have := hL1.out; omega) ws)).mono ?_
          rintro e w4 ⟨rfl, hB4⟩
          have HB4 := Lib.hid (btr HB3.out hB4)
          have HO4 := Lib.hid (HO3.out.later hB4)
          rw [HRR.out]
          clear hB4 gq zq
          cases r with
          | true =>
            have HK := Lib.hid (HR2.out.keep (.inr fun h => by have := HW1.out h; cases this))
            go_wp2_with fail
            go_roundw
            case rel => exact ⟨i + 1, L1, by omega, by go_num, HO4.out, HK.out, HB4.out⟩
            case measure => simp [intOf]; omega
          | false =>
            obtain ⟨a1, c1, hc1, hr1⟩ := HO4.out.ex
            have hz1 := HO4.out.lt
            have hf1 := HO4.out.fr
            have HC1 := Lib.hid hc1
            have HRD1 := Lib.hid (RdI.of_owns hr1)
            have hle1 := own_le hr1
            have had1 := own_off hr1
            clear hr1
            go_wp2_with fail
            refine (contains_any _ (ints L1) (i : Int) w4 HRD1.out (by have := hL1.out; rw [ints_len]; omega)).mono ?_
            rintro e w5 ⟨rfl, rfl⟩
            cases hct : (ints L1).contains (i : Int) with
            | true =>
              have HK := Lib.hid (HR2.out.keep (.inl (by rw [List.contains_iff_mem, ints_mem] at hct; exact hct)))
              clear hct
              go_wp2_with fail
              go_roundw
              case rel => exact ⟨i + 1, L1, by omega, by go_num, HO4.out, HK.out, HB4.out⟩
              case measure => simp [intOf]; omega
            | false =>
              have HK := Lib.hid (HR2.out.add (by have := HN.out; omega) (fun h => by rw [← ints_mem, ← List.contains_iff_mem, hct] at h; cases h) (HW0.out (by first | trivial | rfl)))
              clear hct
              have hs := run_clip a1 L1.length c1 hle1 had1
              obtain ⟨a9, c9, w9, hrun, hB9, hc9, hf9, hz9, ho9, hk9⟩ := HO4.out.push (by have := hL1.out; omega) i HC1.out 41
              have HO9 := Lib.hid ho9; have HB9 := Lib.hid (hk9 w HB4.out (Nat.le_refl _))
              clear ho9 hk9 hB9
              go_wp2_with (at_builtin; refine wpList_append_ran 41 rfl _ _ rfl rfl rfl hrun ?_)
              go_wp2
              go_roundw
              case rel => exact ⟨i + 1, L1 ++ [i], by omega, by go_num, HO9.out, HK.out, HB9.out⟩
              case measure => simp [intOf]; omega
        · have hin : i = n := by omega
          have HMO := Lib.hid (show L.length < L1.length by
            have h := HR2.out
            rw [hin, HN.out] at h
            exact h.more HJ.out HCI.out (by have := HFIN.out; have := HN.out; omega))
          have HLL := Lib.hid (show L1.length ≤ n by have := HR2.out.le; have := HN.out; omega)
          have HO2L := Lib.hid HO2.out.len
          clear hin ho hr hB
          go_wp2_with fail
          go_roundw
          case rel => exact ⟨L1, HO2.out, HR2.out.ord, HB2.out⟩
          case measure => rw [HO2L.out, HLE.out]; have := HMO.out; have := HLL.out; have := HFIN.out; omega
    · have dfin : decide (L.length < n) = false := by simp; omega
      have HEQ := Lib.hid (show L.length = J.length by have := HN.out; omega)
      clear hfin hln
      go_upto_region 2 with fail
      go_quiet (fail)
      have HB1 := Lib.hid (btr HB.out (Below.drewN' nq (bz wO)))
      have HO1 := Lib.hid (HO.out.later (Below.drewN' nq (bz wO)))
      generalize wO.drewN nq = w2 at *
      clear hce hlt0 gd zd
      obtain ⟨a1, c1, hc1, hr1⟩ := HO1.out.ex
      have hz1 := HO1.out.lt
      have HRF := Lib.hid (show rowI w2 w.heap.size (.slice a1 L.length c1) (ints L) from own_mono hr1 (by omega))
      clear hr1
      go_wp2_with fail
      go_ret
      exact ⟨_, L, rfl, HOR.out, HEQ.out, HRF.out, HB1.out⟩
end Go.Proofs.YteknehlkdgamjaaGreat

namespace Go.Proofs.YteknehlkdgamjaaGreat
open Go.RowKit Go.Shelf

def ownI (w : World) (base g n cap : Nat) (zs : List Int) : Prop := w.ownsRow base 3 1 (.slice (some ⟨g, 0, none⟩) n cap) n (zs.map (Value.int .i64))
theorem ownI.len {w : World} {base g n cap : Nat} {zs : List Int} (h : ownI w base g n cap zs) : zs.length = n := by
  have := h.1; simpa using this
theorem ownI.cell {w : World} {base g n cap : Nat} {zs : List Int} (h : ownI w base g n cap zs) {j : Nat} (hj : j < n) : w.cell? ⟨g, j, none⟩ = some (.int .i64 (zs[j]?.getD 0)) := by
  have hl := h.len
  rw [World.ownsRow.cellAt h j (by omega)]
  simp [show j < zs.length by omega]
theorem ownI.set {w : World} {base g n cap : Nat} {zs : List Int} (h : ownI w base g n cap zs) (j : Nat) (x : Int) : ownI (w.setCell ⟨g, j, none⟩ (.int .i64 x)) base g n cap (zs.set j x) := by
  have := (World.ownsRow.stored h j (.int .i64 x)).1
  unfold ownI
  rw [List.map_set]; exact this
theorem ownI.drewN {w : World} {base g n cap : Nat} {zs : List Int} (h : ownI w base g n cap zs) (k : Nat) : ownI (w.drewN k) base g n cap zs := h
theorem ownI.lt {w : World} {base g n cap : Nat} {zs : List Int} (h : ownI w base g n cap zs) : g < w.heap.size := by
  rcases h.2 with ⟨h', _⟩ | ⟨g', cap', cur, h', _, hg, _⟩
  · simp at h'
  · simp only [Value.slice.injEq, Option.some.injEq, Addr.mk.injEq, and_true, true_and] at h'
    obtain ⟨rfl, rfl⟩ := h'
    exact (Array.getElem?_eq_some_iff.1 hg).1
theorem grown_set {w w' : World} {g j : Nat} {u : Value} (h : w.grownBy w' (some g)) : w.grownBy (w'.setCell ⟨g, j, none⟩ u) (some g) :=
  ⟨h.os, h.tape, h.output, by have := h.size; simp; omega, fun k hk hne => by
    rw [heap_setCell_other w' ⟨g, j, none⟩ k u (fun e => hne (by simp [e]))]; exact h.block k hk hne⟩
theorem grown_drewN {w w' : World} {r : Option Nat} (k : Nat) (h : w.grownBy w' r) : w.grownBy (w'.drewN k) r := ⟨h.os, h.tape, h.output, h.size, h.block⟩
theorem grown_rfl (w : World) (r : Option Nat) : w.grownBy w r := ⟨rfl, rfl, rfl, Nat.le_refl _, fun _ _ _ => rfl⟩
theorem rowI.ofI {w : World} {base g n cap : Nat} {zs : List Int} (h : ownI w base g n cap zs) : rowI w base (.slice (some ⟨g, 0, none⟩) n cap) zs := by
  have := h.len
  unfold rowI; rw [this]; exact h
theorem rowI.toI {w : World} {base : Nat} {v : Value} {zs : List Int} (h : rowI w base v zs) (h0 : 0 < zs.length) : ∃ g cap, v = .slice (some ⟨g, 0, none⟩) zs.length cap ∧ ownI w base g zs.length cap zs := by
  have h' := h
  rcases h.2 with ⟨_, h2⟩ | ⟨g, cap, cur, rfl, _⟩
  · omega
  · exact ⟨g, cap, rfl, h'⟩
theorem set_get (l : List Int) (i j : Nat) (v : Int) (hi : i < l.length) : (l.set i v)[j]?.getD 0 = if i = j then v else l[j]?.getD 0 := by
  rw [List.getElem?_set]
  by_cases e : i = j
  · subst e; simp [hi]
  · simp [e]
/-- Turned from both ends up to i. -/
def RevA (n i : Nat) (zs cur : List Int) : Prop := ∀ t, t < n → cur[t]?.getD 0 = if t < i ∨ n ≤ t + i then zs[n - 1 - t]?.getD 0 else zs[t]?.getD 0
theorem RevA.step {n i m : Nat} {zs cur : List Int} (h : RevA n i zs cur) (hm : m + i + 1 = n) (him : i < m) (hl : cur.length = n) : RevA n (i + 1) zs ((cur.set i (cur[m]?.getD 0)).set m (cur[i]?.getD 0)) := by
  intro t ht
  have hi := h i (by omega)
  have hmm := h m (by omega)
  rw [if_neg (by omega)] at hi hmm
  rw [set_get _ _ _ _ (by simp; omega), set_get _ _ _ _ (by omega)]
  by_cases e1 : m = t
  · subst e1
    rw [if_pos rfl, hi, if_pos (by omega), show n - 1 - m = i by omega]
  · rw [if_neg e1]
    by_cases e2 : i = t
    · subst e2
      rw [if_pos rfl, hmm, if_pos (by omega), show n - 1 - i = m by omega]
    · rw [if_neg e2, h t ht]
      by_cases e3 : t < i ∨ n ≤ t + i
      · rw [if_pos e3, if_pos (by omega)]
      · rw [if_neg e3, if_neg (by omega)]
theorem RevA.done {n i : Nat} {zs cur : List Int} (h : RevA n i zs cur) (hi : n ≤ 2 * i + 1) (hl : cur.length = n) (hz : zs.length = n) : cur = zs.reverse := by
  apply List.ext_getElem
  · simp [hl, hz]
  · intro t h1 h2
    have ht := h t (by omega)
    have e0 : cur[t]?.getD 0 = cur[t] := by simp [h1]
    rw [e0] at ht
    rw [ht, List.getElem_reverse]
    by_cases e3 : t < i ∨ n ≤ t + i
    · rw [if_pos e3]
      have hb : n - 1 - t < zs.length := by omega
      simp only [hz]
      rw [List.getElem?_eq_getElem hb]; rfl
    · rw [if_neg e3]
      have : t = n - 1 - t := by omega
      simp only [hz]
      simp [show t < zs.length by omega]
      congr 1
set_option maxRecDepth 100000 in
set_option maxHeartbeats 4000000 in
theorem rev_own (base g n cap : Nat) (zs : List Int) (w : World) (h : ownI w base g n cap zs) (hn : n ≤ 100) :
    Calls Tryz.prog 90 #[.slice (some ⟨g, 0, none⟩) n cap] w fun e w' => (∃ v, e = .returned v) ∧ ownI w' base g n cap zs.reverse ∧ w.grownBy w' (some g) := by
  have HO := Lib.hid h
  have HZ := Lib.hid h.len
  clear h
  have hw0 : IntKind.i64.wrap ((n : Int) - 1) = (n : Int) - 1 := IntWalk.i64_in _ (by omega)
  go_enter Tryz.func90, Tryz.ntmps90
  go_wp2_with fail
  go_loopw [2, 3] (fun iv jv wr => ∃ (i : Nat) (cur : List Int), i ≤ n ∧ iv = .int .i64 i ∧ jv = .int .i64 ((n : Int) - 1 - i) ∧ RevA n i zs cur ∧ ownI wr base g n cap cur ∧ w.grownBy wr (some g)) (fun iv _ _ => n - (intOf iv).toNat)
  case atStart => exact ⟨0, zs, Nat.zero_le _, rfl, by simp, fun t ht => by rw [if_neg (by omega)], HO.out, grown_rfl _ _⟩
  case round =>
    obtain ⟨i, cur, hi, rfl, rfl, hr, ho, hg⟩ := hrel
    have HR := Lib.hid hr; have HW := Lib.hid ho; have HG := Lib.hid hg
    have hl := ho.len
    clear hr ho hg
    by_cases hlt : (i : Int) < (n : Int) - 1 - i
    · obtain ⟨m, hm⟩ : ∃ m, m + i + 1 = n := ⟨n - 1 - i, by omega⟩
      have hmv : (n : Int) - 1 - i = (m : Int) := by omega
      rw [hmv]
      have HR2 := Lib.hid (HR.out.step hm (by omega) hl)
      have HW2 := Lib.hid (fun wz (h : ownI wz base g n cap cur) => (h.set i (cur[m]?.getD 0)).set m (cur[i]?.getD 0))
      have hx1 := HW.out.cell (j := i) (by omega)
      have hx2 := HW.out.cell (j := m) (by omega)
      have HC1 := Lib.hid (fun wz (h : ownI wz base g n cap cur) => h.cell (j := i) (by omega))
      have HC2 := Lib.hid (fun wz (h : ownI wz base g n cap cur) => h.cell (j := m) (by omega))
      clear hx1 hx2
      generalize cur[i]?.getD 0 = x at *
      generalize cur[m]?.getD 0 = y at *
      have j1 : (m : Int) < n := by omega
      have j2 : (i : Int) < n := by omega
      have j3 : m < n := by omega
      have j4 : i < n := by omega
      have j5 : (i : Int) < m := by omega
      have j6 : (0 : Int) ≤ (m : Int) := by omega
      have j7 : (0 : Int) ≤ (i : Int) := by omega
      have w1 : IntKind.i64.wrap ((i : Int) + 1) = (i : Int) + 1 := IntWalk.i64_in _ (by omega)
      have w2 : IntKind.i64.wrap ((m : Int) - 1) = (m : Int) - 1 := IntWalk.i64_in _ (by omega)
      have HMV := Lib.hid hm
      clear hmv hm hlt hl hw0
      go_wp2_with fail
      refine wp_region_flow [2, 3] [([0, 1, 4, 5, 6, 7, 8, 9, 10, 11, 12], 13, false), ([], 14, false), ([], 15, false)] [] (by kernel_rfl) (by kernel_rfl) ?_
      intro wc hB hh
      have HC := Lib.hid (show ownI wc base g n cap cur by unfold ownI World.ownsRow; rw [hh]; exact HW.out)
      have HGC := Lib.hid (show w.grownBy wc (some g) from ⟨hB.os.trans HG.out.os, hB.tape.trans HG.out.tape, hB.output.trans HG.out.output, by rw [hh]; exact HG.out.size, fun r h1 h2 => by rw [hh]; exact HG.out.block r h1 h2⟩)
      clear hh
      have c1 := HC1.out wc HC.out
      have c2 := HC2.out wc HC.out
      have f1 := World.ownsRow.frozenAt HC.out i
      have f2 := World.ownsRow.frozenAt HC.out m
      have zg := HC.out.lt
      have hL := @Later.cell wc
      clear hB
      simp only [flowP, flow, pickL, List.getElem?_cons_succ, List.getElem?_cons_zero]
      repeat (go_big_quiet_step (fail))
      refine wpQuiet_nil ?_
      repeat (go_big_quiet_step (fail))
      refine wpQuiet_nil ?_
      go_wp2
      refine seg_write ?_
      refine wpQuiet_nil ?_
      go_wp2
      refine seg_write ?_
      refine wpQuiet_nil ?_
      go_wp2
      refine seg_write ?_
      refine wpQuiet_nil ?_
      refine only_done ?_
      go_wp2_with fail
      go_roundw
      case rel => exact ⟨i + 1, _, by omega, by go_num, by have := HMV.out; congr 1; omega, HR2.out, HW2.out wc HC.out, grown_set (grown_set HGC.out)⟩
      case measure => simp [intOf]; omega
    · have HD := Lib.hid (HR.out.done (by omega) hl HZ.out)
      clear hl
      go_wp2_with fail
      exact bodyPost_end (results_none rfl _ _ _) rfl ⟨⟨_, rfl⟩, by rw [← HD.out]; exact HW.out, HG.out⟩
set_option maxRecDepth 100000 in
set_option maxHeartbeats 4000000 in
theorem rev_nil (w : World) : Calls Tryz.prog 90 #[.slice none 0 0] w fun e w' => (∃ v, e = .returned v) ∧ w' = w := by
  go_enter Tryz.func90, Tryz.ntmps90
  go_wp2_with fail
  go_loopw [2, 3] (fun iv jv wr => iv = .int .i64 0 ∧ jv = .int .i64 (-1) ∧ wr = w) (fun _ _ _ => 0)
  case atStart => exact ⟨rfl, rfl, rfl⟩
  case round =>
    obtain ⟨rfl, rfl, rfl⟩ := hrel
    go_wp2_with fail
    exact bodyPost_end (results_none rfl _ _ _) rfl ⟨⟨_, rfl⟩, rfl⟩
end Go.Proofs.YteknehlkdgamjaaGreat

namespace Go.Proofs.YteknehlkdgamjaaGreat
open Go.RowKit Go.Shelf

/-- A list of int64 of the call's own. -/
def rowL (w : World) (base : Nat) (u : Value) (xs : List Int) : Prop := w.ownsRow base 2 1 u xs.length (xs.map (Value.int .i64))
theorem rowL.stored {w : World} {base g n c : Nat} {xs : List Int} (h : rowL w base (.slice (some ⟨g, 0, none⟩) n c) xs) (k : Nat) (x : Int) : rowL (w.setCell ⟨g, k, none⟩ (.int .i64 x)) base (.slice (some ⟨g, 0, none⟩) n c) (xs.set k x) := by
  obtain ⟨a, c', e⟩ := owns_form h
  have hn : n = xs.length := by simp at e; exact e.2.1
  subst hn
  have := (World.ownsRow.stored h k (.int .i64 x)).1
  unfold rowL
  rw [List.length_set, List.map_set]
  exact this
theorem rowL.rd {w : World} {base : Nat} {u : Value} {xs : List Int} (h : rowL w base u xs) : RdI w .i64 u xs := RdI.of_owns h
theorem rowL.at {w : World} {base g n c : Nat} {xs : List Int} (h : rowL w base (.slice (some ⟨g, 0, none⟩) n c) xs) (j : Nat) (hj : j < xs.length) : g < w.heap.size ∧ w.cell? ⟨g, j, none⟩ = some (.int .i64 (elt xs j)) ∧ w.frozen? ⟨g, j, none⟩ = false := by
  obtain ⟨a, c', e⟩ := owns_form h
  have hn : n = xs.length := by simp at e; exact e.2.1
  subst hn
  have h1 := World.ownsRow.cellAt h j (by omega)
  rw [List.getElem?_map, List.getElem?_eq_getElem hj] at h1
  refine ⟨World.block_lt_of_cell? _ _ h1, by rw [h1, elt_lt hj]; rfl, World.ownsRow.frozenAt h j⟩
theorem wpList_make_longs {w : World} {ops : Array Oper} {rest : List Oper} {o : Oper} {a : Act} {Q : Exit → Act → World → Prop} (hg : o.guard = none) (l c : Operand) (hop : o.op = Op.makeSlice 35 l c) (n : Nat) (hl : a.eval l = .int .i64 (n : Int)) (hc : a.eval c = .int .i64 (n : Int)) (hn : n ≤ 1000)
    (hK : ∀ w', rowL w' w.heap.size (.slice (some ⟨w.heap.size, 0, none⟩) n n) (zeros n) → w.grownBy w' none → wpList Tryz.prog ops Q rest (a.put o.dst (.slice (some ⟨w.heap.size, 0, none⟩) n n)) w') : wpList Tryz.prog ops Q (o :: rest) a w := by
  obtain ⟨i0, hi, hz0, hz1, hz2⟩ := info_parts num2
  refine wpList_make_full _ hg l c 35 hop w.heap.size 2 i0 (.int .i64 0) 1 Tryz.underlying35 hi hz0 hz1 .i64 .i64 _ _ n hl hc rfl rfl (by rw [hz2]; omega) (by simp only [maxLen]; omega) (Nat.le_refl _) ?_
  intro w' h1 h2
  refine hK w' ?_ h2
  unfold rowL
  rw [zeros_len]
  rw [Nat.mul_one] at h1
  have : (Value.int IntKind.i64 0).cells = #[Value.int .i64 0] := rfl
  rw [this, made_zeros] at h1
  exact h1
set_option maxRecDepth 100000 in
set_option maxHeartbeats 1600000 in
theorem begins_any (d k : Nat) (lb lc : Array Value) (J : List Job) (D : Nat → Int) (w : World) (hd : DeskAt w d J) (hJ : FineJ J) (hc : cir J = false) (hf : DaysF w k lb lc J.length D) :
    Calls Tryz.prog 59 #[.pointer (some ⟨d, 0, none⟩), .func (.func k) lb lc] w fun e w' => ∃ v, e = .returned v ∧ rowL w' w.heap.size v (fnL (beg J D) J.length) ∧ Below w.heap.size w w' := by
  obtain ⟨a, c, g, cg, hz, h1, h2, _⟩ := hd.get
  have HD := Lib.hid hd
  have HJ := Lib.hid hJ; have HCI := Lib.hid hc; have HX := Lib.hid h2; have HF := Lib.hid hf
  have HDB := Lib.hid (fun i hi => (hf.2.1 i hi))
  have eg := hf.1
  have h12 := hJ.n12
  clear hd hJ hc h2 hf
  obtain ⟨n, hn⟩ : ∃ n, n = J.length := ⟨_, rfl⟩
  have HN := Lib.hid hn
  rw [← hn] at h1 h12
  clear hn
  go_enter Tryz.func59, Tryz.ntmps59
  go_upto_region 2 with (refine wpList_make_longs rfl _ _ rfl n rfl rfl (by omega) ?_)
  intro w1 hr1 hg1
  have hB1 : Below w.heap.size w w1 := bgr (bz w) hg1 (fun k e => by cases e)
  have HB1 := Lib.hid hB1
  have HR1 := Lib.hid hr1
  have hgz : w.heap.size < w1.heap.size := by
    by_cases h0 : n = 0
    · exfalso; have := HJ.out.n1; have := HN.out; omega
    · exact (hr1.at 0 (by rw [zeros_len]; omega)).1
  have HGZ := Lib.hid hgz
  clear hr1 hg1 hB1 hgz
  go_wp2_with fail
  refine (order_any d J w1 (HD.out.mono HB1.out) HJ.out HCI.out).mono ?_
  rintro e w2 ⟨v2, L, rfl, hor, hll, hro, hB2⟩
  have HOR := Lib.hid hor; have HLL := Lib.hid (show L.length = n by rw [HN.out]; exact hll)
  have HB2 := Lib.hid (btr HB1.out hB2)
  have HR2 := Lib.hid (show rowL w2 w.heap.size (.slice (some ⟨w.heap.size, 0, none⟩) n n) (zeros n) from owns_kept HR1.out hB2)
  have HO2 := Lib.hid (show rowI w2 (w.heap.size + 1) v2 (ints L) from own_mono hro (by have := HGZ.out; omega))
  obtain ⟨a2, c2, hv2⟩ := owns_form hro
  rw [ints_len, HLL.out] at hv2
  subst hv2
  have HZ := Lib.hid (BpI.zero J D L)
  have HFIN := Lib.hid (fun X h => BpI.fin (J := J) (D := D) (X := X) hor hll h)
  rw [← HN.out] at HZ HFIN
  clear hor hll hro hB2 HR1 HB1
  go_wp2_with fail
  go_loopw [20] (fun s20 wr => ∃ (p : Nat) (X : List Int), p ≤ n ∧ s20 = .int .i64 p ∧ rowL wr w.heap.size (.slice (some ⟨w.heap.size, 0, none⟩) n n) X ∧ rowI wr (w.heap.size + 1) (.slice a2 n c2) (ints L) ∧ BpI J D L p 0 X ∧ Below w.heap.size w wr) (fun s20 _ => n - (intOf s20).toNat)
  case atStart => exact ⟨0, _, Nat.zero_le _, rfl, HR2.out, HO2.out, HZ.out, HB2.out⟩
  case round =>
    clear HR2 HO2 HB2
    obtain ⟨p, X, hp, rfl, hr, ho, hx, hB⟩ := hrel
    have HR3 := Lib.hid hr; have HO3 := Lib.hid ho; have HX3 := Lib.hid hx; have HB3 := Lib.hid hB
    rename World => wO
    by_cases hlt : p < n
    · obtain ⟨i, hi⟩ : ∃ i, L[p]? = some i := ⟨_, List.getElem?_eq_getElem (by have := HLL.out; omega)⟩
      have hin := HOR.out.lt i (List.mem_of_getElem? hi)
      have HI := Lib.hid hi; have HIN := Lib.hid hin
      obtain ⟨go, co, e, hgo, hco, _⟩ := ho.get p (by rw [ints_len, HLL.out]; exact hlt)
      rw [Value.slice.injEq] at e
      have e1 := e.1
      clear e
      subst e1
      have hei : elt (ints L) p = (i : Int) := by
        rw [ints_at (by have := HLL.out; omega)]
        have h3 := List.getElem?_eq_some_iff.1 hi
        rw [h3.2]
      rw [hei] at hco
      obtain ⟨bj, oj, a', c', e, hbj0, g10, g20, g30, hrw⟩ := HX.out.get i hin
      subst e
      have g3 := (hB.cell (p := ⟨bj, _, none⟩) hbj0).trans g30
      have gd := (hB.cell (p := ⟨d, 0, none⟩) hz).trans h1
      have hbj := Nat.lt_of_lt_of_le hbj0 hB.size
      have zd := Nat.lt_of_lt_of_le hz hB.size
      have hiN : i < n := by have := HN.out; omega
      have HWW := Lib.hid (fun (wz : World) (h : Below w.heap.size w wz) => hrw.mono h)
      obtain ⟨m, hm⟩ : ∃ m, m = (job J i).ws.length := ⟨_, rfl⟩
      have HM := Lib.hid hm
      have hm12 : m ≤ 12 := by have := HJ.out.ws_le hin; omega
      rw [← hm] at g3 HWW
      clear g10 g20 g30 hbj0 hrw hr ho hx hB hei hi hin hm
      go_wp2_with fail
      clear hco hgo gd zd g3 hbj
      go_loopw [34] (fun s34 wr => ∃ (q : Nat) (X1 : List Int), q ≤ m ∧ s34 = .int .i64 q ∧ rowL wr w.heap.size (.slice (some ⟨w.heap.size, 0, none⟩) n n) X1 ∧ rowI wr (w.heap.size + 1) (.slice (some ⟨go, 0, none⟩) n c2) (ints L) ∧ BpI J D L p q X1 ∧ Below w.heap.size w wr) (fun s34 _ => m - (intOf s34).toNat)
      case atStart => exact ⟨0, X, Nat.zero_le _, rfl, HR3.out, HO3.out, HX3.out, HB3.out⟩
      case round =>
        clear HR3 HO3 HX3 HB3
        obtain ⟨q, X1, hq, rfl, hr, ho, hx, hB⟩ := hrel
        have HR4 := Lib.hid hr; have HO4 := Lib.hid ho; have HX4 := Lib.hid hx; have HB4 := Lib.hid hB
        rename World => wP
        by_cases hqm : q < m
        · obtain ⟨bx, ox, e, hbx, hcx⟩ := (HWW.out _ HB4.out).get (by have := HM.out; omega)
          subst e
          have gx := hcx q (by have := HM.out; omega)
          obtain ⟨b, hb, hbn, hed⟩ := HJ.out.wait (i := i) (j := q) HIN.out (by have := HM.out; omega)
          rw [hb] at gx
          have hbN : b < n := by have := HN.out; omega
          have HST := Lib.hid ((hx.wait HJ.out HCI.out HOR.out HI.out (by have := HM.out; omega) hb).1)
          have hlen : X1.length = n := by rw [hx.len, HN.out]
          have gi := (hr.at i (by omega)).2.1
          have gf := (hr.at i (by omega)).2.2
          have gb := (hr.at b (by omega)).2.1
          have gz := (hr.at b (by omega)).1
          have i1 := hx.lo i HIN.out
          have i2 := hx.hi i HIN.out
          have b1 := hx.lo b hbn
          have b2 := hx.hi b hbn
          have i3 := beg_bd HJ.out (fun i hi => (HDB.out i hi).2) (i := i) HIN.out
          have b3 := beg_bd HJ.out (fun i hi => (HDB.out i hi).2) (i := b) hbn
          have d1 := (HDB.out b hbn).1
          have d2 := (HDB.out b hbn).2
          have HCB := Lib.hid (fun wz (h : Below w.heap.size w wz) => HF.out.2.2 wz h b hbn)
          have HRS := Lib.hid (fun wz (h : rowL wz w.heap.size (.slice (some ⟨w.heap.size, 0, none⟩) n n) X1) => h.stored i (max (elt X1 i) (elt X1 b + D b)))
          have HAT := Lib.hid (fun wz (h : rowL wz w.heap.size (.slice (some ⟨w.heap.size, 0, none⟩) n n) X1) => h.at i (by omega))
          have hx1 : elt X1 i ≤ 12000 := by omega
          have hx2 : elt X1 b ≤ 12000 := by omega
          clear hcx hb hr ho hx hB hed i2 b2 i3 b3
          generalize elt X1 i = xi at *
          generalize elt X1 b = xb at *
          generalize D b = db at *
          go_upto_region 8 with fail
          refine wp_region_flow [] [([0, 1, 2, 3, 4, 5, 6, 7, 8, 9, 10, 11], 12, true), ([13, 14, 15], 16, false)] [] (by kernel_rfl) (by kernel_rfl) ?_
          intro wc hBc hh
          clear hh
          have HBC := Lib.hid (btr HB4.out hBc)
          have HR5 := Lib.hid (show rowL wc w.heap.size (.slice (some ⟨w.heap.size, 0, none⟩) n n) X1 from owns_kept HR4.out hBc)
          have HO5 := Lib.hid (show rowI wc (w.heap.size + 1) (.slice (some ⟨go, 0, none⟩) n c2) (ints L) from owns_kept HO4.out hBc)
          have hL := @Later.cell wc
          have k1 := (hBc.cell (p := ⟨w.heap.size, i, none⟩) gz).trans gi
          have k2 := (hBc.cell (p := ⟨w.heap.size, b, none⟩) gz).trans gb
          have z1 := Nat.lt_of_lt_of_le gz hBc.size
          clear hBc gi gb gx hbx
          simp only [flowP, flow, pickL, List.getElem?_cons_succ, List.getElem?_cons_zero]
          refine wpQuiet_nil ?_
          repeat (go_big_quiet_step (fail))
          refine wpQuiet_nil ?_
          go_wp2_with fail
          refine (HCB.out _ HBC.out).mono ?_
          rintro e w6 ⟨rfl, hB6⟩
          have HB6 := Lib.hid (btr HBC.out hB6)
          have HR6 := Lib.hid (show rowL w6 w.heap.size (.slice (some ⟨w.heap.size, 0, none⟩) n n) X1 from owns_kept HR5.out hB6)
          have HO6 := Lib.hid (show rowI w6 (w.heap.size + 1) (.slice (some ⟨go, 0, none⟩) n c2) (ints L) from owns_kept HO5.out hB6)
          have HB6' := Lib.hid hB6
          clear hB6
          go_wp2
          refine seg_grow ⟨⟨_, HB6'.out⟩, rfl⟩ ?_
          obtain ⟨z6, k6, f6⟩ := HAT.out _ HR6.out
          clear hL k1 k2 z1
          have hor : (xi < xb + db ∧ max xi (xb + db) = xb + db) ∨ (¬ xi < xb + db ∧ max xi (xb + db) = xi) := by omega
          rcases hor with ⟨hcm, hmx⟩ | ⟨hcm, hmx⟩
          all_goals
            have HS6 := Lib.hid (HRS.out _ HR6.out)
            have HX6 := Lib.hid HST.out
            rw [hmx] at HS6 HX6
            have HOS := Lib.hid (show rowI (w6.setCell ⟨w.heap.size, i, none⟩ (.int .i64 (max xi (xb + db)))) (w.heap.size + 1) (.slice (some ⟨go, 0, none⟩) n c2) (ints L) from by
              refine World.ownsRow.kept HO6.out (grownBy_set w6 ⟨w.heap.size, i, none⟩ _) (.inr fun e => ?_)
              have h9 := (rowI.lt HO6.out (k := w.heap.size) e).1
              omega)
            have HBS := Lib.hid (show Below w.heap.size w (w6.setCell ⟨w.heap.size, i, none⟩ (.int .i64 (max xi (xb + db)))) from bgr HB6.out (grownBy_set w6 ⟨w.heap.size, i, none⟩ _) (fun k e => by cases e; exact Nat.le_refl _))
            rw [hmx] at HOS HBS
            clear hmx
            repeat (go_big_quiet_step (fail))
            refine wpQuiet_nil ?_
            go_wp2
            refine seg_write ?_
            refine wpQuiet_nil ?_
            refine only_done ?_
            go_wp2_with fail
            go_roundw
            case rel => exact ⟨q + 1, _, by omega, by go_num, HS6.out, HOS.out, HX6.out, HBS.out⟩
            case measure => simp [intOf]; omega
        · have HX5 := Lib.hid (show BpI J D L (p + 1) 0 X1 from BpI.next HJ.out HOR.out HI.out (by have h := HX4.out; have hqe : q = (job J i).ws.length := (by have := HM.out; omega); rw [hqe] at h; exact h))
          clear hr ho hx hB
          go_wp2_with fail
          go_roundw
          case rel => exact ⟨p + 1, X1, by omega, by go_num, HR4.out, HO4.out, HX5.out, HB4.out⟩
          case measure => simp [intOf]; omega
    · have HXE := Lib.hid (HFIN.out X (by have h := HX3.out; have hpe : p = L.length := (by have := HLL.out; omega); rw [hpe] at h; exact h))
      clear hr ho hx hB
      go_wp2_with fail
      go_ret
      exact ⟨_, rfl, by rw [← HN.out, ← HXE.out]; exact HR3.out, HB3.out⟩
end Go.Proofs.YteknehlkdgamjaaGreat

namespace Go.Proofs.YteknehlkdgamjaaGreat
open Go.RowKit Go.Shelf

theorem ints_rev (L : List Nat) : ints L.reverse = (ints L).reverse := by simp [ints]
theorem ownI.lt' {w : World} {base g n cap : Nat} {zs : List Int} (h : ownI w base g n cap zs) : base ≤ g := (World.ownsRow.lt h g rfl).1
set_option maxRecDepth 100000 in
set_option maxHeartbeats 1600000 in
theorem tails_any (d k : Nat) (lb lc : Array Value) (J : List Job) (D : Nat → Int) (w : World) (hd : DeskAt w d J) (hJ : FineJ J) (hc : cir J = false) (hf : DaysF w k lb lc J.length D) :
    Calls Tryz.prog 64 #[.pointer (some ⟨d, 0, none⟩), .func (.func k) lb lc] w fun e w' => ∃ v, e = .returned v ∧ rowL w' w.heap.size v (fnL (tl J D) J.length) ∧ Below w.heap.size w w' := by
  obtain ⟨a, c, g, cg, hz, h1, h2, _⟩ := hd.get
  have HD := Lib.hid hd
  have HJ := Lib.hid hJ; have HCI := Lib.hid hc; have HX := Lib.hid h2; have HF := Lib.hid hf
  have HDB := Lib.hid (fun i hi => (hf.2.1 i hi))
  have eg := hf.1
  have h12 := hJ.n12
  clear hd hJ hc h2 hf
  obtain ⟨n, hn⟩ : ∃ n, n = J.length := ⟨_, rfl⟩
  have HN := Lib.hid hn
  rw [← hn] at h1 h12
  clear hn
  go_enter Tryz.func64, Tryz.ntmps64
  go_upto_region 2 with (refine wpList_make_longs rfl _ _ rfl n rfl rfl (by omega) ?_)
  intro w1 hr1 hg1
  have hB1 : Below w.heap.size w w1 := bgr (bz w) hg1 (fun k e => by cases e)
  have HB1 := Lib.hid hB1
  have HR1 := Lib.hid hr1
  have hgz : w.heap.size < w1.heap.size := by
    by_cases h0 : n = 0
    · exfalso; have := HJ.out.n1; have := HN.out; omega
    · exact (hr1.at 0 (by rw [zeros_len]; omega)).1
  have HGZ := Lib.hid hgz
  clear hr1 hg1 hB1 hgz
  go_wp2_with fail
  refine (order_any d J w1 (HD.out.mono HB1.out) HJ.out HCI.out).mono ?_
  rintro e w2 ⟨v2, L, rfl, hor, hll, hro, hB2⟩
  have HOR := Lib.hid hor; have HLL := Lib.hid (show L.length = n by rw [HN.out]; exact hll)
  have HLL' := Lib.hid hll
  have HB2 := Lib.hid (btr HB1.out hB2)
  have HR2 := Lib.hid (show rowL w2 w.heap.size (.slice (some ⟨w.heap.size, 0, none⟩) n n) (zeros n) from owns_kept HR1.out hB2)
  have HO2 := Lib.hid (show rowI w2 (w.heap.size + 1) v2 (ints L) from own_mono hro (by have := HGZ.out; omega))
  obtain ⟨a2, c2, hv2⟩ := owns_form hro
  rw [ints_len, HLL.out] at hv2
  subst hv2
  have HZ := Lib.hid (TpI.zero J D L.reverse)
  have HFIN := Lib.hid (fun X h => TpI.fin (J := J) (D := D) (X := X) HJ.out hor hll h)
  rw [← HN.out] at HZ HFIN
  have h0 : 0 < (ints L).length := by rw [ints_len, HLL.out]; have := HJ.out.n1; have := HN.out; omega
  obtain ⟨ga, ca, e, hown⟩ := rowI.toI HO2.out h0
  rw [Value.slice.injEq] at e
  have e1 := e.1
  have e3 := e.2.2
  clear e hro h0
  subst e1
  subst e3
  rw [ints_len, HLL.out] at hown
  have HOW := Lib.hid hown
  have HRG := Lib.hid (hown.lt')
  clear hor hll hB2 HR1 HB1 HO2 hown
  go_wp2_with fail
  refine (rev_own (w.heap.size + 1) ga n c2 (ints L) w2 HOW.out (by omega)).mono ?_
  rintro e w3 ⟨⟨v3, rfl⟩, how3, hgr3⟩
  have HO3 := Lib.hid (show rowI w3 (w.heap.size + 1) (.slice (some ⟨ga, 0, none⟩) n c2) (ints L.reverse) from by rw [ints_rev]; exact rowI.ofI how3)
  have HB3 := Lib.hid (show Below w.heap.size w w3 from bgr HB2.out hgr3 (fun k e => by cases e; have := HRG.out; omega))
  have HR3 := Lib.hid (show rowL w3 w.heap.size (.slice (some ⟨w.heap.size, 0, none⟩) n n) (zeros n) from by
    refine World.ownsRow.kept HR2.out hgr3 (.inr fun e => ?_)
    have h9 := HRG.out
    have e2 : w.heap.size = ga := Option.some.inj e
    omega)
  clear how3 hgr3 HOW HRG HR2 HB2
  go_wp2_with fail
  go_loopw [24] (fun s24 wr => ∃ (p : Nat) (X : List Int), p ≤ n ∧ s24 = .int .i64 p ∧ rowL wr w.heap.size (.slice (some ⟨w.heap.size, 0, none⟩) n n) X ∧ rowI wr (w.heap.size + 1) (.slice (some ⟨ga, 0, none⟩) n c2) (ints L.reverse) ∧ TpI J D L.reverse p 0 X ∧ Below w.heap.size w wr) (fun s24 _ => n - (intOf s24).toNat)
  case atStart => exact ⟨0, _, Nat.zero_le _, rfl, HR3.out, HO3.out, HZ.out, HB3.out⟩
  case round =>
    clear HR3 HO3 HB3
    obtain ⟨p, X, hp, rfl, hr, ho, hx, hB⟩ := hrel
    have HR3 := Lib.hid hr; have HO3 := Lib.hid ho; have HX3 := Lib.hid hx; have HB3 := Lib.hid hB
    rename World => wO
    by_cases hlt : p < n
    · obtain ⟨i, hi⟩ : ∃ i, L.reverse[p]? = some i := ⟨_, List.getElem?_eq_getElem (by have := HLL.out; rw [List.length_reverse]; omega)⟩
      have hin := HOR.out.lt i (List.mem_reverse.1 (List.mem_of_getElem? hi))
      have HI := Lib.hid hi; have HIN := Lib.hid hin
      obtain ⟨go, co, e, hgo, hco, _⟩ := ho.get p (by rw [ints_len, List.length_reverse, HLL.out]; exact hlt)
      rw [Value.slice.injEq] at e
      have e1 : ga = go := by have := Option.some.inj e.1; simpa using this
      clear e
      subst e1
      have hei : elt (ints L.reverse) p = (i : Int) := by
        rw [ints_at (by have := HLL.out; rw [List.length_reverse]; omega)]
        have h3 := List.getElem?_eq_some_iff.1 hi
        rw [h3.2]
      rw [hei] at hco
      obtain ⟨bj, oj, a', c', e, hbj0, g10, g20, g30, hrw⟩ := HX.out.get i hin
      subst e
      have g3 := (hB.cell (p := ⟨bj, _, none⟩) hbj0).trans g30
      have gd := (hB.cell (p := ⟨d, 0, none⟩) hz).trans h1
      have hbj := Nat.lt_of_lt_of_le hbj0 hB.size
      have zd := Nat.lt_of_lt_of_le hz hB.size
      have hiN : i < n := by have := HN.out; omega
      have HWW := Lib.hid (fun (wz : World) (h : Below w.heap.size w wz) => hrw.mono h)
      obtain ⟨m, hm⟩ : ∃ m, m = (job J i).ws.length := ⟨_, rfl⟩
      have HM := Lib.hid hm
      have hm12 : m ≤ 12 := by have := HJ.out.ws_le hin; omega
      rw [← hm] at g3 HWW
      clear g10 g20 g30 hbj0 hrw hr ho hx hB hei hi hin hm
      go_wp2_with fail
      clear hco hgo gd zd g3 hbj
      go_loopw [38] (fun s38 wr => ∃ (q : Nat) (X1 : List Int), q ≤ m ∧ s38 = .int .i64 q ∧ rowL wr w.heap.size (.slice (some ⟨w.heap.size, 0, none⟩) n n) X1 ∧ rowI wr (w.heap.size + 1) (.slice (some ⟨ga, 0, none⟩) n c2) (ints L.reverse) ∧ TpI J D L.reverse p q X1 ∧ Below w.heap.size w wr) (fun s38 _ => m - (intOf s38).toNat)
      case atStart => exact ⟨0, X, Nat.zero_le _, rfl, HR3.out, HO3.out, HX3.out, HB3.out⟩
      case round =>
        clear HR3 HO3 HX3 HB3
        obtain ⟨q, X1, hq, rfl, hr, ho, hx, hB⟩ := hrel
        have HR4 := Lib.hid hr; have HO4 := Lib.hid ho; have HX4 := Lib.hid hx; have HB4 := Lib.hid hB
        rename World => wP
        by_cases hqm : q < m
        · obtain ⟨bx, ox, e, hbx, hcx⟩ := (HWW.out _ HB4.out).get (by have := HM.out; omega)
          subst e
          have gx := hcx q (by have := HM.out; omega)
          obtain ⟨b, hb, hbn, hed⟩ := HJ.out.wait (i := i) (j := q) HIN.out (by have := HM.out; omega)
          rw [hb] at gx
          have hbN : b < n := by have := HN.out; omega
          have HST := Lib.hid ((hx.wait HJ.out HCI.out HOR.out HLL'.out HI.out (by have := HM.out; omega) hb))
          have hlen : X1.length = n := by rw [hx.len, HN.out]
          have gi := (hr.at i (by omega)).2.1
          have gb := (hr.at b (by omega)).2.1
          have gz := (hr.at b (by omega)).1
          have i1 := hx.lo i HIN.out
          have i2 := hx.hi i HIN.out
          have b1 := hx.lo b hbn
          have b2 := hx.hi b hbn
          have i3 := tl_bd HJ.out (fun i hi => (HDB.out i hi).2) (i := i) HIN.out
          have b3 := tl_bd HJ.out (fun i hi => (HDB.out i hi).2) (i := b) hbn
          have d1 := (HDB.out i HIN.out).1
          have d2 := (HDB.out i HIN.out).2
          have HCB := Lib.hid (fun wz (h : Below w.heap.size w wz) => HF.out.2.2 wz h i HIN.out)
          have HRS := Lib.hid (fun wz (h : rowL wz w.heap.size (.slice (some ⟨w.heap.size, 0, none⟩) n n) X1) => h.stored b (max (elt X1 b) (elt X1 i + D i)))
          have HAT := Lib.hid (fun wz (h : rowL wz w.heap.size (.slice (some ⟨w.heap.size, 0, none⟩) n n) X1) => h.at b (by omega))
          have hx1 : elt X1 i ≤ 12000 := by omega
          have hx2 : elt X1 b ≤ 12000 := by omega
          clear hcx hb hr ho hx hB hed i2 b2 i3 b3
          generalize elt X1 i = xi at *
          generalize elt X1 b = xb at *
          generalize D i = db at *
          go_upto_region 10 with fail
          refine wp_region_flow [] [([0, 1, 2, 3, 4, 5, 6, 7, 8, 9, 10, 11], 12, true), ([13, 14, 15], 16, false)] [] (by kernel_rfl) (by kernel_rfl) ?_
          intro wc hBc hh
          clear hh
          have HBC := Lib.hid (btr HB4.out hBc)
          have HR5 := Lib.hid (show rowL wc w.heap.size (.slice (some ⟨w.heap.size, 0, none⟩) n n) X1 from owns_kept HR4.out hBc)
          have HO5 := Lib.hid (show rowI wc (w.heap.size + 1) (.slice (some ⟨ga, 0, none⟩) n c2) (ints L.reverse) from owns_kept HO4.out hBc)
          have hL := @Later.cell wc
          have k1 := (hBc.cell (p := ⟨w.heap.size, i, none⟩) gz).trans gi
          have k2 := (hBc.cell (p := ⟨w.heap.size, b, none⟩) gz).trans gb
          have z1 := Nat.lt_of_lt_of_le gz hBc.size
          clear hBc gi gb gx hbx
          simp only [flowP, flow, pickL, List.getElem?_cons_succ, List.getElem?_cons_zero]
          refine wpQuiet_nil ?_
          repeat (go_big_quiet_step (fail))
          refine wpQuiet_nil ?_
          go_wp2_with fail
          refine (HCB.out _ HBC.out).mono ?_
          rintro e w6 ⟨rfl, hB6⟩
          have HB6 := Lib.hid (btr HBC.out hB6)
          have HR6 := Lib.hid (show rowL w6 w.heap.size (.slice (some ⟨w.heap.size, 0, none⟩) n n) X1 from owns_kept HR5.out hB6)
          have HO6 := Lib.hid (show rowI w6 (w.heap.size + 1) (.slice (some ⟨ga, 0, none⟩) n c2) (ints L.reverse) from owns_kept HO5.out hB6)
          have HB6' := Lib.hid hB6
          clear hB6
          go_wp2
          refine seg_grow ⟨⟨_, HB6'.out⟩, rfl⟩ ?_
          obtain ⟨z6, k6, f6⟩ := HAT.out _ HR6.out
          clear hL k1 k2 z1
          have hor : (xb < xi + db ∧ max xb (xi + db) = xi + db) ∨ (¬ xb < xi + db ∧ max xb (xi + db) = xb) := by omega
          rcases hor with ⟨hcm, hmx⟩ | ⟨hcm, hmx⟩
          all_goals
            have HS6 := Lib.hid (HRS.out _ HR6.out)
            have HX6 := Lib.hid HST.out
            rw [hmx] at HS6 HX6
            have HOS := Lib.hid (show rowI (w6.setCell ⟨w.heap.size, b, none⟩ (.int .i64 (max xb (xi + db)))) (w.heap.size + 1) (.slice (some ⟨ga, 0, none⟩) n c2) (ints L.reverse) from by
              refine World.ownsRow.kept HO6.out (grownBy_set w6 ⟨w.heap.size, b, none⟩ _) (.inr fun e => ?_)
              have h9 := (rowI.lt HO6.out (k := w.heap.size) e).1
              omega)
            have HBS := Lib.hid (show Below w.heap.size w (w6.setCell ⟨w.heap.size, b, none⟩ (.int .i64 (max xb (xi + db)))) from bgr HB6.out (grownBy_set w6 ⟨w.heap.size, b, none⟩ _) (fun k e => by cases e; exact Nat.le_refl _))
            rw [hmx] at HOS HBS
            clear hmx
            repeat (go_big_quiet_step (fail))
            refine wpQuiet_nil ?_
            go_wp2
            refine seg_write ?_
            refine wpQuiet_nil ?_
            refine only_done ?_
            go_wp2_with fail
            go_roundw
            case rel => exact ⟨q + 1, _, by omega, by go_num, HS6.out, HOS.out, HX6.out, HBS.out⟩
            case measure => simp [intOf]; omega
        · have HX5 := Lib.hid (show TpI J D L.reverse (p + 1) 0 X1 from TpI.next HJ.out HI.out (by have h := HX4.out; have hqe : q = (job J i).ws.length := (by have := HM.out; omega); rw [hqe] at h; exact h))
          clear hr ho hx hB
          go_wp2_with fail
          go_roundw
          case rel => exact ⟨p + 1, X1, by omega, by go_num, HR4.out, HO4.out, HX5.out, HB4.out⟩
          case measure => simp [intOf]; omega
    · have HXE := Lib.hid (HFIN.out X (by have h := HX3.out; have hpe : p = L.length := (by have := HLL.out; omega); rw [hpe] at h; exact h))
      clear hr ho hx hB
      go_wp2_with fail
      go_ret
      exact ⟨_, rfl, by rw [← HN.out, ← HXE.out]; exact HR3.out, HB3.out⟩
end Go.Proofs.YteknehlkdgamjaaGreat

namespace Go.Proofs.YteknehlkdgamjaaGreat
open Go.RowKit Go.Shelf

set_option maxRecDepth 100000 in
set_option maxHeartbeats 1600000 in
theorem takes_any (d k : Nat) (lb lc : Array Value) (J : List Job) (D : Nat → Int) (w : World) (hd : DeskAt w d J) (hJ : FineJ J) (hc : cir J = false) (hf : DaysF w k lb lc J.length D) :
    Calls Tryz.prog 63 #[.pointer (some ⟨d, 0, none⟩), .func (.func k) lb lc] w fun e w' => e = .returned (.int .i64 (takes J D)) ∧ Below w.heap.size w w' := by
  have HB := Lib.hid (begins_any d k lb lc J D w hd hJ hc hf)
  have HF := Lib.hid hf
  have eg := hf.1
  have HDB := Lib.hid hf.2.1
  have HBB := Lib.hid (fun i (hi : i < J.length) => beg_bd hJ (fun i hi => (hf.2.1 i hi).2) hi)
  have HTB := Lib.hid (fun i (hi : i ≤ J.length) => takTo_bd hJ (fun i hi => (hf.2.1 i hi).2) hi)
  have HTA := Lib.hid (takTo_all J D)
  have h12 := hJ.n12
  clear hd hJ hc hf
  go_enter Tryz.func63, Tryz.ntmps63
  go_wp2_with fail
  refine HB.out.mono ?_
  rintro e w2 ⟨v, rfl, hr, hB⟩
  obtain ⟨av, cv, rfl⟩ := owns_form hr
  have HB2 := Lib.hid hB
  have HR := Lib.hid hr.rd
  rw [fnL_len] at HR
  rw [fnL_len]
  clear hr hB HB
  obtain ⟨n, hn⟩ : ∃ n, n = J.length := ⟨_, rfl⟩
  have HN := Lib.hid hn
  rw [← hn] at h12 HR HTA HF HDB HBB HTB
  rw [← hn]
  clear hn
  go_wp2_with fail
  have HTS := Lib.hid (fun i => show takTo J D (i + 1) = max (takTo J D i) (beg J D i + D i) from rfl)
  have HT0 := Lib.hid (show takTo J D 0 = 0 from rfl)
  have HTN := Lib.hid (takTo_nn J D)
  have HBN := Lib.hid (beg_nn J D)
  go_loopw [5, 12] (fun s5 s12 wr => ∃ i : Nat, i ≤ n ∧ s12 = .int .i64 i ∧ s5 = .int .i64 (takTo J D i) ∧ Below w2.heap.size w2 wr) (fun _ s12 _ => n - (intOf s12).toNat)
  case atStart => exact ⟨0, Nat.zero_le _, rfl, by rw [HT0.out], bz w2⟩
  case round =>
    obtain ⟨i, hi, rfl, rfl, hB⟩ := hrel
    have HB3 := Lib.hid hB
    by_cases hlt : i < n
    · obtain ⟨b, o, e, hb, hc⟩ := (HR.out.mono hB).get (by rw [fnL_len]; have := HN.out; omega)
      subst e
      have g := hc i (by rw [fnL_len]; have := HN.out; omega)
      rw [fnL_at _ (by have := HN.out; omega)] at g
      have HCB := Lib.hid (fun wz (h : Below w.heap.size w wz) => HF.out.2.2 wz h i hlt)
      have HS := Lib.hid (HTS.out i)
      have t1 := HTN.out i
      have t2 := HTB.out i hi
      have b1 := HBN.out i
      have b2 := HBB.out i hlt
      have d1 := (HDB.out i hlt).1
      have d2 := (HDB.out i hlt).2
      clear hc hB
      generalize takTo J D i = x at *
      generalize beg J D i = y at *
      generalize D i = z at *
      go_wp2_with fail
      refine (HCB.out _ (btr HB2.out HB3.out)).mono ?_
      rintro e w4 ⟨rfl, hB4⟩
      have HB4 := Lib.hid (btr HB3.out hB4)
      clear hB4
      have hor : (x < y + z ∧ max x (y + z) = y + z) ∨ (¬ x < y + z ∧ max x (y + z) = x) := by omega
      rcases hor with ⟨hcm, hmx⟩ | ⟨hcm, hmx⟩
      all_goals
        rw [hmx] at HS
        clear hmx
        go_wp2_with fail
        go_roundw
        case rel => exact ⟨i + 1, by omega, by go_num, by rw [HS.out], HB4.out⟩
        case measure => simp [intOf]; omega
    · have hin : i = n := by omega
      rw [hin, HTA.out]
      clear hB hin
      go_wp2_with fail
      go_ret
      exact ⟨rfl, btr HB2.out HB3.out⟩
end Go.Proofs.YteknehlkdgamjaaGreat
