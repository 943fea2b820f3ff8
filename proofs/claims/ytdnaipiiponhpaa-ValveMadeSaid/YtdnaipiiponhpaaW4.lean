/- Pattern: the first pattern that a row does not sort; valid rows, and the refusal. -/
import Derived.Test.YtdnaipiiponhpaaW3
import Derived.Lib.SliceRun
import Derived.WalkMore
namespace Go.Proofs.Ytdnaipiiponhpaa
open Go.RowKit Go.Shelf
attribute [local go_sem] Oper.semAt_some
theorem run_store_fn (P : Program) (w : World) (a : Addr) (m : Mode) (f : Fn) (x y : Array Value) : (store a (.func f x y) m).run P w = stored P w a (.func f x y) m := run_store P w a _ m rfl
attribute [local go_sem] run_store_fn

/-- The first pattern that a row does not sort. -/
def patternO (p : Nat) (V : List (Int × Int)) : Option (List Int) := (lanes p).find? fun l => !sortedB ((runV V l).take p)
def patternL (p : Nat) (V : List (Int × Int)) : List Int := match patternO p V with | some l => l.take p | none => []
def patternE (p : Nat) (V : List (Int × Int)) : Int := match patternO p V with | some _ => 0 | none => 5

set_option maxRecDepth 100000 in
set_option maxHeartbeats 400000 in
theorem pattern_no (p : Int) (x : Value) (V : List (Int × Int)) (w : World) (hx0 : RdP w x V) (hl : V.length ≤ 1000) (h : checkR p V ≠ 0) :
    Calls Try.prog 23 #[.agg #[.int .i64 p, x]] w fun e w' => e = .returned (.tuple #[.slice none 0 0, .int .i64 (checkR p V)]) ∧ Below w.heap.size w w' := by
  obtain ⟨a, ca, rfl, _, _, _⟩ := hx0.form
  have H0 := Lib.hid (fun w1 (hB : Below w.heap.size w w1) => open_no p (.slice a V.length ca) V w1 (hx0.mono hB) hl h)
  generalize hc : checkR p V = c at *
  have HC := Lib.hid hc; clear hc
  have hcb : (c != 0) = true := by simpa using h
  have hce : (c == 0) = false := by simpa using h
  clear h
  go_enter Try.func23, Try.ntmps23
  go_wp2_with fail
  go_step3
  go_wp2_with fail
  refine (H0.out _ (bal (bal (bal (bz _) _) _) _)).mono ?_
  rintro e w2 ⟨rfl, hB2⟩
  have hB3 : Below w.heap.size w w2 := btr (bal (bal (bal (bz _) _) _) _) hB2
  have r1 : w2.cell? ⟨w.heap.size + 1, 0, none⟩ = some (.slice none 0 0) := (hB2.cell (by simp)).trans (cal _ (cnew (by simp) rfl))
  have r2 : w2.cell? ⟨w.heap.size + 1 + 1, 0, none⟩ = some (.int .i64 0) := (hB2.cell (by simp)).trans (cnew (by simp) rfl)
  have f1 : w2.frozen? ⟨w.heap.size + 1, 0, none⟩ = false := (hB2.frozen (by simp)).trans (fal _ (fnew (by simp)) (by simp))
  have f2 : w2.frozen? ⟨w.heap.size + 1 + 1, 0, none⟩ = false := (hB2.frozen (by simp)).trans (fnew (by simp))
  have hz2 := hB2.size
  simp only [World.size_alloc] at hz2
  clear hB2
  have z1 : w.heap.size + 1 < w2.heap.size := by omega
  have z2 : w.heap.size + 1 + 1 < w2.heap.size := by omega
  go_wp2
  simp only [Exit.noGoto]
  refine bodyPost_ret (results_cell2 rfl rfl rfl (v := .slice none 0 0) (v' := .int .i64 c) ?_ ?_) rfl ⟨rfl, ?_⟩
  · go_simp
  · go_simp
  · exact bal (bset (bset hB3 (by simp) _) (by simp; omega) _) _

theorem abides_heap' {lo hi j : Nat} {o : Obj} (h1 : j < lo ∨ hi ≤ j) : Abides1 lo hi (fun W => W.heap[j]? = some o) :=
  fun _ _ _ h hg hr => (hg.block j (Array.getElem?_eq_some_iff.1 h).1 (fun e => by have := hr _ e.symm; omega)).trans h
theorem RdC.same {w w' : World} {g n cap n' : Nat} {cs : List Value} (h : RdC w (.slice (some ⟨g, 0, none⟩) n cap) n' cs) (hg : w'.heap[g]? = w.heap[g]?) : RdC w' (.slice (some ⟨g, 0, none⟩) n cap) n' cs := by
  obtain ⟨a, cap', e, h1, h2, h⟩ := h
  refine ⟨a, cap', e, h1, h2, fun hne => ?_⟩
  obtain ⟨b, off, rfl, h3, h4⟩ := h hne
  cases e
  have h5 : g < w'.heap.size := by
    rw [Array.getElem?_eq_getElem h3] at hg
    exact (Array.getElem?_eq_some_iff.1 hg).1
  exact ⟨g, 0, rfl, h5, fun j u hu => (World.cell?_of_block (by simpa using hg)).trans (h4 j u hu)⟩
theorem owns_clear {base e g n cap : Nat} {z : Value} (k : Nat) : ∀ (o : Nat) (w : World), w.ownsRow base e 1 (.slice (some ⟨g, 0, none⟩) n cap) n (List.replicate n z) → (w.setCells g o (List.replicate k z)).ownsRow base e 1 (.slice (some ⟨g, 0, none⟩) n cap) n (List.replicate n z) := by
  induction k with
  | zero => intro o w h; exact h
  | succ k ih =>
    intro o w h
    rw [List.replicate_succ]
    refine ih (o + 1) _ ?_
    have := (h.stored o z).1
    rw [List.set_replicate_self] at this
    exact this
theorem bsets {a : World} {g : Nat} {z : Value} (hg : a.heap.size ≤ g) (k : Nat) : ∀ (o : Nat) (w : World), Below a.heap.size a w → Below a.heap.size a (w.setCells g o (List.replicate k z)) := by
  induction k with
  | zero => intro o w h; exact h
  | succ k ih =>
    intro o w h
    rw [List.replicate_succ]
    exact ih (o + 1) _ (bset h hg _)
/-- The first k numbers of a list, and nothing behind them. -/
def fillK (p k : Nat) (l : List Int) : List Int := (List.range p).map fun j => if j < k then l[j]?.getD 0 else 0
theorem fillK_zero (p : Nat) (l : List Int) : fillK p 0 l = List.replicate p 0 := by
  apply List.ext_getElem
  · simp [fillK]
  · intro i h1 h2; simp [fillK]
theorem fillK_length (p k : Nat) (l : List Int) : (fillK p k l).length = p := by simp [fillK]
theorem fillK_all (p : Nat) (l : List Int) (h : p ≤ l.length) : fillK p p l = l.take p := by
  apply List.ext_getElem
  · simp [fillK]; omega
  · intro i h1 h2
    have h3 : i < p := by simpa [fillK] using h1
    simp [fillK, h3, show i < l.length by omega]
theorem fillK_step (p k : Nat) (l : List Int) (_hk : k < p) : (fillK p k l).set k (l[k]?.getD 0) = fillK p (k + 1) l := by
  apply List.ext_getElem
  · simp [fillK]
  · intro i h1 h2
    have h3 : i < p := by simpa [fillK] using h2
    rw [List.getElem_set]
    by_cases e : k = i
    · subst e; simp [fillK]
    · simp only [fillK, List.getElem_map, List.getElem_range, if_neg e]
      by_cases h : i < k
      · rw [if_pos h, if_pos (by omega)]
      · rw [if_neg h, if_neg (by omega)]
theorem owns_lt {w : World} {base e g n cap : Nat} {cs : List Value} (h : w.ownsRow base e 1 (.slice (some ⟨g, 0, none⟩) n cap) n cs) (hn : 0 < n) : g < w.heap.size := by
  have h1 := h.cellAt 0 (by omega)
  have h2 : 0 < cs.length := by rw [h.1]; omega
  rw [List.getElem?_eq_getElem h2] at h1
  exact World.block_lt_of_cell? _ _ h1
theorem grown_of {a w : World} (h : Below a.heap.size a w) : a.grownBy w none := ⟨h.os, h.tape, h.output, h.size, fun r h1 _ => h.block r h1⟩
theorem owns_kept {w w' : World} {base e size n : Nat} {v : Value} {xs : List Value} (h : w.ownsRow base e size v n xs) (hb : Below w.heap.size w w') : w'.ownsRow base e size v n xs := by
  refine h.kept (grown_of hb) ?_
  cases hv : v.ownBlock with
  | none => exact .inl rfl
  | some k => exact .inr (by simp)
theorem find_prefix {α : Type} {q : α → Bool} {pre xs : List α} {x : α} (h : pre ++ [x] <+: xs) (h1 : ∀ l ∈ pre, q l = false) (h2 : q x = true) : xs.find? q = some x := by
  obtain ⟨ys, rfl⟩ := h
  have e : pre.find? q = none := by rw [List.find?_eq_none]; intro l hl; rw [h1 l hl]; simp
  rw [List.append_assoc, List.find?_append, e]
  simp [h2]
theorem zero3 (w : World) : (zeroValue 3).run Try.prog w = .ok (.int .i64 0) w := by kernel_rfl
theorem Try.info3' : (Try.prog.info? 3).map (fun i => (i.zero, i.size, i.bytes)) = some (some (.int .i64 0), 1, 8) := by kernel_rfl

set_option maxRecDepth 100000 in
set_option maxHeartbeats 2000000 in
theorem pattern_ok (p : Nat) (x : Value) (V : List (Int × Int)) (w : World) (hx0 : RdP w x V) (hV : OkRow p V) :
    Calls Try.prog 23 #[.agg #[.int .i64 p, x]] w fun e w' => ∃ v, e = .returned (.tuple #[v, .int .i64 (patternE p V)]) ∧ RdI w' .i64 v (patternL p V) ∧ Below w.heap.size w w' := by
  have hp1 := hV.p1; have hp8 := hV.p8; have h40 := hV.len
  obtain ⟨a, ca, rfl, hca, hca2, _⟩ := hx0.form
  refine callsIn_wide (n := 10).1 ?_
  refine callsIn_of_wp_marks Try.func23 rfl trivial ?_ rfl
  simp only [Try.ntmps23, List.size_toArray, List.length_cons, List.length_nil, Nat.reduceAdd, Nat.reduceSub, Array.replicate_succ, Array.replicate_zero, List.push_toArray, List.append_toArray, List.nil_append, List.cons_append]
  gi_wp2_with fail
  refine wpIn_wide.2 (wp_scope_straight (wpIn_wide (n := 10).1 ?_))
  gi_wp2_with fail
  refine ⟨trivial, callsIn_wide.2 ((open_ok p _ V _ (hx0.mono (bal (bal (bal (bz _) _) _) _)) hV).mono ?_)⟩
  rintro e w2 ⟨b, rfl, hb0, hb, hB2⟩
  have hz2 := hB2.size
  have hB3 : Below w.heap.size w w2 := btr (bal (bal (bal (bz _) _) _) _) hB2
  have r1 : w2.cell? ⟨w.heap.size + 1, 0, none⟩ = some (.slice none 0 0) := (hB2.cell (by simp)).trans (cal _ (cnew (by simp) rfl))
  have r2 : w2.cell? ⟨w.heap.size + 1 + 1, 0, none⟩ = some (.int .i64 0) := (hB2.cell (by simp)).trans (cnew (by simp) rfl)
  have f1 : w2.frozen? ⟨w.heap.size + 1, 0, none⟩ = false := (hB2.frozen (by simp)).trans (fal _ (fnew (by simp)) (by simp))
  have f2 : w2.frozen? ⟨w.heap.size + 1 + 1, 0, none⟩ = false := (hB2.frozen (by simp)).trans (fnew (by simp))
  simp only [World.size_alloc] at hz2 hb0
  clear hB2
  have z1 : w.heap.size + 1 < w2.heap.size := by omega
  have z2 : w.heap.size + 1 + 1 < w2.heap.size := by omega
  gi_wp2_with fail
  refine wpIn_wide.2 (wp_label ?_)
  gi_wp2_with fail
  refine ⟨trivial, callsIn_wide.2 ((patterns_any _ _).mono ?_)⟩
  rintro e w4 ⟨rfl, hw4⟩
  have hb2 : Below w2.heap.size w2 w4 := by rw [← hw4]; exact bal (bal (bal (bz _) _) _) _
  have hsz : w2.heap.size + 3 ≤ w4.heap.size := by rw [← hw4]; simp
  have c0 : w4.cell? ⟨w2.heap.size, 0, none⟩ = some (.pointer (some ⟨b, 0, none⟩)) := by rw [← hw4]; exact cal _ (cal _ (cnew rfl rfl))
  have c1 : w4.cell? ⟨w2.heap.size + 1, 0, none⟩ = some (.func (.func 64) #[.pointer (some ⟨b, 0, none⟩)] #[]) := by rw [← hw4]; exact cal _ (cnew (by simp) rfl)
  have c3 : w4.cell? ⟨w2.heap.size + 2, 0, none⟩ = some (.pointer (some ⟨b, 0, none⟩)) := by rw [← hw4]; exact cnew (by simp) rfl
  simp only [World.size_alloc]
  clear hw4
  have hx2 := hx0.mono hB3
  have hb4 := hb.mono hb2
  have hx4 := hx2.mono hb2
  have hB4 : Below w.heap.size w w4 := btr hB3 hb2
  have R1 := Lib.hid ((hb2.cell (p := ⟨w.heap.size + 1, 0, none⟩) z1).trans r1)
  have R2 := Lib.hid ((hb2.cell (p := ⟨w.heap.size + 1 + 1, 0, none⟩) z2).trans r2)
  have F1 := Lib.hid ((hb2.frozen (p := ⟨w.heap.size + 1, 0, none⟩) z1).trans f1)
  have F2 := Lib.hid ((hb2.frozen (p := ⟨w.heap.size + 1 + 1, 0, none⟩) z2).trans f2)
  clear r1 r2 f1 f2
  gi_wp2_with fail
  refine range_law (gf := 80) (lb := #[.pointer (some ⟨w2.heap.size + 2, 0, none⟩)]) rfl (enters_of Try.func80 (by kernel_rfl) rfl) (patterns_yields _ (w2.heap.size + 2) b p _ (by omega) (by omega)) (fun _ => rfl)
    (fun pre W => Below w4.heap.size w4 W ∧ ∀ l ∈ pre, sortedB ((runV V l).take p) = true)
    (fun c pre W => c = .ret ∧ ∃ lx g o, patternO p V = some lx ∧ w4.heap.size + 2 + 1 ≤ g ∧ (∀ W' : World, W'.heap[g]? = some o → RdI W' .i64 (.slice (some ⟨g, 0, none⟩) p p) (lx.take p)) ∧ W.heap[g]? = some o ∧ Below w.heap.size w W ∧ W.cell? ⟨w.heap.size + 1, 0, none⟩ = some (.slice (some ⟨g, 0, none⟩) p p) ∧ W.cell? ⟨w.heap.size + 1 + 1, 0, none⟩ = some (.int .i64 0))
    (fun s => (abides_below (Nat.le_refl _) (Nat.le_refl _)).and abides_pure)
    (fun c s => abides_pure.and (abides_ex fun lx => abides_ex fun g => abides_ex fun o => abides_pure.and (fun W W' row ⟨h0, h5, h1, h2, h3, h4⟩ hg hr => ⟨h0, h5, abides_heap' (.inr h0) _ _ _ h1 hg hr, abides_below (by omega) (by omega) _ _ _ h2 hg hr, abides_cell (by simp; omega) _ _ _ h3 hg hr, abides_cell (by simp; omega) _ _ _ h4 hg hr⟩)))
    (fun s W1 h => ⟨(h.1.cell (p := ⟨w2.heap.size + 2, 0, none⟩) (by simp; omega)).trans c3, hb4.mono h.1⟩)
    ⟨bz _, by simp⟩ ?round ?done ?stop
  case round =>
    rintro l pre lx W ⟨hB, hpre⟩ hpx hszW
    have HLL := Lib.hid (lane_len hpx)
    have HLX : Hid (lx ∈ lanes p) := by obtain ⟨ys, e⟩ := hpx; rw [← e]; exact Lib.hid (by simp)
    gi_wp2_with (refine inStoreRow (fun _ => trivial) rfl 75 (.tmp 7) (.tmp 22) rfl W.heap.size (arrI lx) rfl rfl 75 _ (heap_alloc_new _ _) (arr8 _ HLL.out) (by rw [arrI_size, HLL.out]; rfl) (one_arr _) ?_)
    refine ⟨kf_box _ _ _ _ _, fun W2 hg2 hs2 => ?_⟩
    obtain ⟨hl2, hze, hB2, _⟩ := round_start (by omega) hg2 hs2
    have hzw : W.heap.size < W2.heap.size := by omega
    clear hze
    have hB5 : Below w4.heap.size w4 W2 := hB.trans (hB2.mono (by omega))
    clear hg2 hs2
    have d0 := (hB5.cell (p := ⟨w2.heap.size, 0, none⟩) (by simp; omega)).trans c0
    have d1 := (hB5.cell (p := ⟨w2.heap.size + 1, 0, none⟩) (by simp; omega)).trans c1
    have hbb := hb4.mono hB5
    have hxx := hx4.mono hB5
    have HL2 := Lib.hid hl2; have HX := Lib.hid hpx; have HP := Lib.hid hpre
    clear hl2 hpx hpre hB2
    gi_wp2_with fail
    have HRUN := Lib.hid (show (runV V lx).length = 8 by rw [runV_length]; exact HLL.out)
    have hC : ∀ l' : Later W2, Calls Try.prog 58 #[.pointer (some ⟨b, 0, none⟩), .agg (arrI lx), .int .i64 (V.length : Int)] l'.val fun e w'' => e = .returned (.agg (arrI (runV V lx))) ∧ ∃ x : Later W2, w'' = x.val := by
      intro l'
      have := run_any b p _ V lx V.length l'.val (hbb.mono l'.le) (hxx.mono l'.le) (Nat.le_refl _) hV HLL.out
      rw [List.take_length] at this
      exact Calls.later this
    have hS : ∀ l' : Later W2, Calls Try.prog 64 #[.pointer (some ⟨b, 0, none⟩), .agg (arrI (runV V lx))] l'.val fun e w'' => e = .returned (.bool (sortedB ((runV V lx).take p))) ∧ ∃ x : Later W2, w'' = x.val := by
      intro l'
      have := bsorted_any b p _ (runV V lx) l'.val (hbb.mono l'.le) (by omega) (by omega) HRUN.out
      exact Calls.later this
    have HC := Lib.hid hC; have HS := Lib.hid hS; clear hC hS
    obtain ⟨q0, q1, q2⟩ := hbb
    have hL := @Later.cell W2
    have l0 := World.block_lt_of_cell? W2 _ d0
    have l2 := World.block_lt_of_cell? W2 _ d1
    simp only at l0 l2
    generalize hv : sortedB ((runV V lx).take p) = y at *
    have HV := Lib.hid hv; clear hv
    simp only [Act.put]
    refine in_region_later (r := some l) (by kernel_rfl) (by kernel_rfl) (by rfl) ?_
    repeat (first
      | (refine wpQuiet_load_row rfl 75 (.tmp 7) rfl W.heap.size rfl 75 (arrI lx) (0, 0) _ HL2.out Try.underlying75 rfl (arr8 _ HLL.out) ?_)
      | (quiet_step (first | (go_at_call 58; exact HC.out _) | (go_at_call 64; exact HS.out _))))
    refine wpQuiet_nil ?_
    intro w6 hw6
    have hL6 : Below W2.heap.size W2 w6 := by obtain ⟨⟨_, h⟩, rfl⟩ := hw6; exact h
    clear hw6
    have hB6 : Below w4.heap.size w4 w6 := btr hB5 hL6
    cases y
    · have e0 := (hB6.cell (p := ⟨w2.heap.size, 0, none⟩) (by simp; omega)).trans c0
      have hbe := hb4.mono hB6
      have hl6 := (hL6.block W.heap.size (by omega)).trans HL2.out
      have hzw6 := hL6.size
      obtain ⟨i0, hi, hz0, hz1, hz2⟩ := info_parts Try.info3'
      obtain ⟨w7, hmk, hown, hgrow⟩ := run_makeSlice_full (P := Try.prog) (w := w6) w6.heap.size 34 3 i0 (.int .i64 0) 1 Try.underlying34 hi hz0 hz1 .i64 .i64 p (by omega) (by rw [hz2]; omega) (by simp only [maxLen]; omega) (Nat.le_refl _)
      rw [Nat.mul_one, show (Value.int .i64 0).cells = #[Value.int .i64 0] from rfl, made_zeros, List.map_replicate] at hown
      have hB7 := bgr (bz w6) hgrow (fun k h => by cases h)
      have hcl : ∀ ty, (Builtin.clear_ #[34] ty #[.slice (some ⟨w6.heap.size, 0, none⟩) p p]).run Try.prog w7 = .ok (.tuple #[]) (w7.setCells w6.heap.size 0 (List.replicate p (.int .i64 0))) :=
        fun ty => Lib.run_clear_slice w7 34 3 ty (.int .i64 0) Try.underlying34 zero3 rfl rfl w6.heap.size 0 p p (by omega) (fun j hj => by have := hown.cellAt j (by omega); rw [Nat.zero_add, this]; simp [hj]) (fun j hj => by rw [Nat.zero_add]; exact hown.frozenAt j)
      have hown8 := owns_clear p 0 w7 hown
      have hB8 := bsets (Nat.le_refl _) (z := .int .i64 0) p 0 w7 hB7
      obtain ⟨q0, q1, q2⟩ := hbe
      have HL6 := Lib.hid hl6; clear hl6
      have HO := Lib.hid hown8
      clear hown hown8 hgrow hB7
      generalize hw8 : w7.setCells w6.heap.size 0 (List.replicate p (.int .i64 0)) = w8 at *
      gi_wp2
      clear hw8 hcl hmk w7
      have hz8 : w6.heap.size < w8.heap.size := owns_lt HO.out (by omega)
      gi_loopw [9, 43, 44, 45, 46, 47, 48, 49, 50, 51, 52, 53, 54, 55] (fun _ i _ _ _ _ _ _ _ _ _ _ _ _ wr => ∃ k : Nat, k ≤ p ∧ i = .int .i64 k ∧ Below w6.heap.size w6 wr ∧ wr.ownsRow w6.heap.size 3 1 (.slice (some ⟨w6.heap.size, 0, none⟩) p p) p ((fillK p k lx).map (Value.int .i64)))
        (fun _ i _ _ _ _ _ _ _ _ _ _ _ _ _ => ((p : Int) - intOf i).toNat)
      case atStart => exact ⟨0, Nat.zero_le _, rfl, hB8, by rw [fillK_zero, List.map_replicate]; exact HO.out⟩
      case round =>
        obtain ⟨k, hk, rfl, hbr, hor⟩ := hrel
        by_cases hkp : k < p
        · have hbit := lane_bits HLX.out k
          have hlr := (hbr.block W.heap.size (by omega)).trans HL6.out
          have hcc : wr.cell? ⟨W.heap.size, k, none⟩ = some (.int .i64 (lx[k]?.getD 0)) := (cell_of_row wr _ _ _ _ _ hlr).trans (arrI_get _ _ (by rw [HLL.out]; omega))
          have cf := hor.frozenAt k
          have cc := hor.cellAt k (by omega)
          have e0 : ((fillK p k lx).map (Value.int .i64))[k]? = some (.int .i64 0) := by simp [fillK, hkp]
          rw [e0] at cc
          have hO := Lib.hid hor
          have hwz := hbr.size
          have hk8 : (k : Int) < 8 := by omega
          have hWw : W.heap.size < wr.heap.size := by omega
          have hnew : ∀ W' : World, Below wr.heap.size wr W' → (W'.setCell ⟨w6.heap.size, k, none⟩ (.int .i64 (lx[k]?.getD 0))).ownsRow w6.heap.size 3 1 (.slice (some ⟨w6.heap.size, 0, none⟩) p p) p ((fillK p (k + 1) lx).map (Value.int .i64)) := by
            intro W' hW'
            have := ((owns_kept hor hW').stored k (.int .i64 (lx[k]?.getD 0))).1
            rw [← List.map_set, fillK_step p k lx hkp] at this
            exact this
          have HN := Lib.hid hnew
          have hgl := owns_lt hor (by omega)
          clear hor hnew hlr e0
          generalize lx[k]?.getD 0 = v at *
          have hwv : IntKind.i64.wrap (0 + v) = v := by rw [Int.zero_add]; exact IntWalk.i64_in _ (by omega)
          have hL := @Later.cell wr
          gi_wp2
          refine in_region_tail (r := some l) 9 (by kernel_rfl) (by kernel_rfl) (by rfl) (by intro h; obtain ⟨_, _, h⟩ := h; exact h) ?_
          simp only [List.take_succ_cons, List.take_zero]
          repeat (quiet_step (fail))
          refine wpQuiet_nil ?_
          intro w9 hw9
          have hL9 : Below wr.heap.size wr w9 := by obtain ⟨⟨_, h⟩, rfl⟩ := hw9; exact h
          clear hw9 hL hcc
          have cf9 := (hL9.frozen (p := ⟨w6.heap.size, k, none⟩) hgl).trans cf
          have cc9 := (hL9.cell (p := ⟨w6.heap.size, k, none⟩) hgl).trans cc
          clear cf cc
          have hgl9 : w6.heap.size < w9.heap.size := by have := hL9.size; omega
          simp only [List.drop_succ_cons, List.drop_zero]
          go_wp2
          gi_wp2
          exact ⟨⟨k + 1, by omega, by simp, bset (btr hbr hL9) (by simp) _, HN.out _ hL9⟩, by simp [intOf]; omega⟩
        · have hkk : k = p := by omega
          subst hkk
          rw [fillK_all _ _ (by rw [HLL.out]; omega)] at hor
          have hrd := RdI.of_owns hor
          have hgl := owns_lt hor (by omega)
          obtain ⟨o, ho⟩ : ∃ o, wr.heap[w6.heap.size]? = some o := ⟨_, Array.getElem?_eq_getElem hgl⟩
          have hwz := hbr.size
          have hB9 : Below w4.heap.size w4 wr := btr hB6 hbr
          have hK9 : KF w4.heap.size W2 wr := KF.of_below (btr hL6 hbr)
          have s1 := (hB9.cell (p := ⟨w.heap.size + 1, 0, none⟩) (by simp; omega)).trans R1.out
          have s2 := (hB9.cell (p := ⟨w.heap.size + 1 + 1, 0, none⟩) (by simp; omega)).trans R2.out
          have s3 := (hB9.frozen (p := ⟨w.heap.size + 1, 0, none⟩) (by simp; omega)).trans F1.out
          have s4 := (hB9.frozen (p := ⟨w.heap.size + 1 + 1, 0, none⟩) (by simp; omega)).trans F2.out
          have HRD := Lib.hid hrd; have HOo := Lib.hid ho
          have S1 := Lib.hid s1; have S2 := Lib.hid s2
          clear hor hrd ho
          gi_wp2
          refine ⟨(hK9.set (by simp; omega) _).set (by simp; omega) _, rfl, lx, w6.heap.size, o, find_prefix HX.out (fun l' h' => by rw [HP.out l' h']; rfl) (by rw [HV.out]; rfl), by omega, fun W' h' => RdC.same HRD.out (h'.trans HOo.out.symm), ?_, bset (bset (btr hB4 hB9) (by simp) _) (by simp; omega) _, ?_, ?_⟩
          · exact (Below.heap_setCell _ _ _ _ (by simp; omega)).trans ((Below.heap_setCell _ _ _ _ (by simp; omega)).trans HOo.out)
          · exact (World.cell?_of_block (Below.heap_setCell _ _ _ _ (by simp))).trans (World.cell?_setCell_same' _ _ _ (by rw [S1.out]; rfl))
          · exact World.cell?_setCell_same' _ _ _ (by rw [World.cell?_of_block (w := wr) (Below.heap_setCell _ _ _ _ (by simp)), S2.out]; rfl)
    · gi_wp2
      refine ⟨KF.of_below hL6, hB6, fun l' hl' => ?_⟩
      rw [List.mem_append, List.mem_singleton] at hl'
      rcases hl' with h | h
      · exact HP.out l' h
      · subst h; exact HV.out
  case done =>
    rintro W ⟨hB, hpre⟩ hD
    have HD := Lib.hid hD; have HP := Lib.hid hpre; clear hD hpre
    have s1 := (hB.cell (p := ⟨w.heap.size + 1, 0, none⟩) (by simp; omega)).trans R1.out
    have s2 := (hB.cell (p := ⟨w.heap.size + 1 + 1, 0, none⟩) (by simp; omega)).trans R2.out
    have s3 := (hB.frozen (p := ⟨w.heap.size + 1, 0, none⟩) (by simp; omega)).trans F1.out
    have s4 := (hB.frozen (p := ⟨w.heap.size + 1 + 1, 0, none⟩) (by simp; omega)).trans F2.out
    have S1 := Lib.hid s1; have S2 := Lib.hid s2
    have hn : patternO p V = none := by
      unfold patternO
      rw [List.find?_eq_none]
      intro l hl
      rw [HP.out l hl]
      simp
    have HN := Lib.hid hn; clear hn
    gi_wp2
    simp only [Exit.noGoto]
    have hD2 : ((W.setCell ⟨w.heap.size + 1, 0, none⟩ (.slice none 0 0)).setCell ⟨w.heap.size + 1 + 1, 0, none⟩ (.int .i64 5)).heap[w4.heap.size]? = some (.deferred (some [])) :=
      (Below.heap_setCell _ _ _ _ (by simp; omega)).trans ((Below.heap_setCell _ _ _ _ (by simp; omega)).trans HD.out)
    refine ⟨by simp, .inl ⟨_, _, rfl, run_takeDeferred hD2, ?_⟩⟩
    have g1 : ((W.setCell ⟨w.heap.size + 1, 0, none⟩ (.slice none 0 0)).setCell ⟨w.heap.size + 1 + 1, 0, none⟩ (.int .i64 5)).cell? ⟨w.heap.size + 1, 0, none⟩ = some (.slice none 0 0) :=
      (World.cell?_of_block (Below.heap_setCell _ _ _ _ (by simp))).trans (World.cell?_setCell_same' _ _ _ (by rw [S1.out]; rfl))
    have g2 : ((W.setCell ⟨w.heap.size + 1, 0, none⟩ (.slice none 0 0)).setCell ⟨w.heap.size + 1 + 1, 0, none⟩ (.int .i64 5)).cell? ⟨w.heap.size + 1 + 1, 0, none⟩ = some (.int .i64 5) :=
      World.cell?_setCell_same' _ _ _ (by rw [World.cell?_of_block (w := W) (Below.heap_setCell _ _ _ _ (by simp)), S2.out]; rfl)
    have cX1 := cell_put w4.heap.size (.deferred none) g1 (by simp; omega)
    have cX2 := cell_put w4.heap.size (.deferred none) g2 (by simp; omega)
    have bX : Below w.heap.size w (((W.setCell ⟨w.heap.size + 1, 0, none⟩ (.slice none 0 0)).setCell ⟨w.heap.size + 1 + 1, 0, none⟩ (.int .i64 5)).putObj w4.heap.size (.deferred none)) :=
      below_put (bset (bset (btr hB4 hB) (by simp) _) (by simp; omega) _) _ (by omega)
    generalize ((W.setCell ⟨w.heap.size + 1, 0, none⟩ (.slice none 0 0)).setCell ⟨w.heap.size + 1 + 1, 0, none⟩ (.int .i64 5)).putObj w4.heap.size (.deferred none) = X at *
    refine ⟨_, results_cell2 rfl rfl rfl (v := .slice none 0 0) (v' := .int .i64 5) (by go_simp) (by go_simp), .slice none 0 0, ?_, ?_, bX⟩
    · unfold patternE; rw [HN.out]
    · unfold patternL; rw [HN.out]; exact ⟨none, 0, rfl, Nat.le_refl _, by unfold maxLen; omega, fun h => absurd rfl h⟩
  case stop =>
    rintro c pre W hpre ⟨rfl, lx, g, o, hpo, hge, hrd, hgo, hB, hc1, hc2⟩ hD
    have HD := Lib.hid hD; have HN := Lib.hid hpo; have HRD := Lib.hid hrd; have HGO := Lib.hid hgo; clear hD hpo hrd hgo
    gi_wp2
    simp only [Exit.noGoto]
    refine ⟨by simp, .inl ⟨_, _, rfl, run_takeDeferred HD.out, ?_⟩⟩
    have cX1 := cell_put w4.heap.size (.deferred none) hc1 (by simp; omega)
    have cX2 := cell_put w4.heap.size (.deferred none) hc2 (by simp; omega)
    have hX : (W.putObj w4.heap.size (.deferred none)).heap[g]? = some o := (World.putObj_heap_other (by omega)).trans HGO.out
    have HX := Lib.hid hX; clear hX
    have bX : Below w.heap.size w (W.putObj w4.heap.size (.deferred none)) := below_put hB _ (by omega)
    generalize W.putObj w4.heap.size (.deferred none) = X at *
    refine ⟨_, results_cell2 rfl rfl rfl (v := .slice (some ⟨g, 0, none⟩) p p) (v' := .int .i64 0) (by go_simp) (by go_simp), .slice (some ⟨g, 0, none⟩) p p, ?_, ?_, bX⟩
    · unfold patternE; rw [HN.out]
    · unfold patternL; rw [HN.out]; exact HRD.out X HX.out
end Go.Proofs.Ytdnaipiiponhpaa
