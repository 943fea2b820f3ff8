/- slices.Clone and slices.Delete at pins. -/
import Derived.Test.YtooddicegkiiiaaX1
import Derived.Deep.RegionLaw
import Derived.Lib.SliceRun
namespace Go.Proofs.Ytooddicegkiiiaa
open Go.RowKit Go.Shelf

theorem RdC.news {w : World} {a : Option Addr} {cap n : Nat} {cs : List Value} (h : RdC w (.slice a n cap) n cs) (hne : cs ≠ []) :
    ∃ ad : Addr, a = some ad ∧ ad.spot = none ∧ ad.block < w.heap.size ∧ ∀ j u, cs[j]? = some u → w.cell? (ad.add j) = some u := by
  obtain ⟨a', cap', e, _, _, h⟩ := h
  simp only [Value.slice.injEq] at e
  obtain ⟨rfl, -, rfl⟩ := e
  obtain ⟨b, off, rfl, hb, hc⟩ := h hne
  refine ⟨_, rfl, rfl, hb, fun j u hj => ?_⟩
  have := hc j u hj
  have e : (⟨b, off, none⟩ : Addr).add j = ⟨b, off + j, none⟩ := by unfold Addr.add; split <;> simp_all
  rw [e]; exact this
theorem prs_ne {V : List (Int × Int)} (h : 0 < V.length) : prs V ≠ [] := by
  intro e; have := prs_length V; rw [e] at this; simp at this; omega

def CloneOk (V : List (Int × Int)) (w : World) (e : Ending) (w' : World) : Prop := ∃ g c, e = .returned (.slice (some ⟨g, 0, none⟩) V.length c) ∧ w'.ownsRow w.heap.size 55 2 (.slice (some ⟨g, 0, none⟩) V.length c) V.length (prs V) ∧ Below w.heap.size w w'
set_option maxRecDepth 100000 in
/-- slices.Clone of a list of pins that is not empty. -/
theorem clone_any (y : Value) (V : List (Int × Int)) (w : World) (hy0 : RdP w y V) (hn : 0 < V.length) (hn' : V.length ≤ 1000) :
    Calls Try.prog 73 #[y] w (CloneOk V w) := by
  obtain ⟨b, cb, rfl, hcb, hcb2, _⟩ := hy0.form
  obtain ⟨i0, hi, hz0, hz1, hz2⟩ := info_parts info55
  obtain ⟨ad, rfl, hsp, hbd, hnews⟩ := RdC.news hy0 (prs_ne hn)
  have HY := Lib.hid hy0; clear hy0
  have HLL := Lib.hid (prs_length V)
  have HC2 := Lib.hid (prs_num V)
  have hnw : ∀ j u, (prs V)[j]? = some u → (w.alloc (.cells #[] 55)).cell? (ad.add j) = some u := by
    intro j u hj
    have := hnews j u hj
    have e : (ad.add j).block = ad.block := by unfold Addr.add; split <;> rfl
    exact (World.cell?_of_block (w := w) (by rw [e]; exact Below.heap_alloc _ _ _ hbd)).trans this
  have HNW := Lib.hid hnw; clear hnw hnews
  have hnl := fun (w : World) (a : Option Addr) (n c : Nat) => Lib.run_eql_slice_nil (P := Try.prog) w 22 55 a n c 0 0 Try.underlying22
  go_enter Try.func73, Try.ntmps73
  go_wp2_with (at_builtin; refine wpList_append_own _ rfl _ _ 22 rfl w.heap.size 55 i0 (.agg #[.int .i64 0, .int .i64 0]) 2 16 Try.underlying22 hi hz0 hz1 hz2 rfl (by decide) _ 0 [] rfl (World.ownsRow_made w #[] 0 (Nat.le_refl _) (by simp) (by simp)) ad V.length cb (prs V) rfl HLL.out HNW.out HC2.out (by simp only [maxLen]; omega) (by omega) (by simp) ?_)
  intro v' w1 hown hgrow hnil
  clear hnil
  have hB1 : Below w.heap.size w w1 := bgr (bal (bz _) _) hgrow (by intro k h; simp [Value.ownBlock] at h; omega)
  clear hgrow
  have hown2 : w1.ownsRow w.heap.size 55 2 v' V.length (prs V) := by simpa using hown
  obtain ⟨a, c, rfl, _, hac⟩ := owns_clip hown2
  have ha : ∃ g, a = some ⟨g, 0, none⟩ := by
    rcases hown2.2 with ⟨_, h0⟩ | ⟨g, cap, cur, e, _⟩
    · omega
    · simp at e; exact ⟨g, e.1⟩
  obtain ⟨g, rfl⟩ := ha
  have HOW := Lib.hid hown2; clear hown hown2
  go_wp2
  go_ret
  exact ⟨g, c, rfl, HOW.out, hB1⟩

theorem run_clear_one (w : World) (b o c : Nat) (ty : TypeId) (h0 : (w.cell? ⟨b, o, none⟩).isSome = true) (h1 : (w.cell? ⟨b, o + 1, none⟩).isSome = true) (f0 : w.frozen? ⟨b, o, none⟩ = false) (f1 : w.frozen? ⟨b, o + 1, none⟩ = false) :
    (Builtin.clear_ #[22] ty #[.slice (some ⟨b, o, none⟩) 1 c]).run Try.prog w = .ok (.tuple #[]) (w.setCells b o [.int .i64 0, .int .i64 0]) := by
  have hv : (zeroValue 55).run Try.prog w = .ok (.agg #[.int .i64 0, .int .i64 0]) w := by kernel_rfl
  have hzc : (Builtin.zeroCells (Value.agg #[.int .i64 0, .int .i64 0]).cells 1).toList = [.int .i64 0, .int .i64 0] := by simp [Builtin.zeroCells, Value.cells, Array.range]
  have hst := run_storeCells_cells (P := Try.prog) b o [.int .i64 0, .int .i64 0] 0 w
    (by intro j hj; match j, hj with
        | 0, _ => simpa using h0
        | 1, _ => simpa using h1)
    (by intro j hj; match j, hj with
        | 0, _ => simpa using f0
        | 1, _ => simpa using f1)
    (by intro v hv'; simp at hv'; subst hv'; rfl)
  simp only [Nat.add_zero] at hst
  simp [Builtin.clear_, run_underlying Try.underlying22, hv, hzc, hst]

theorem prs_erase (V : List (Int × Int)) : ∀ i, i < V.length → prs (V.eraseIdx i) = (prs V).take (i * 2) ++ (prs V).drop ((i + 1) * 2) := by
  induction V with
  | nil => intro i h; simp at h
  | cons p V ih =>
    intro i h
    cases i with
    | zero => simp [prs]
    | succ i =>
      have := ih i (by simpa using h)
      have e1 : (i + 1) * 2 = i * 2 + 1 + 1 := by omega
      have e2 : (i + 1 + 1) * 2 = (i + 1) * 2 + 1 + 1 := by omega
      simp only [List.eraseIdx_cons_succ, prs, List.flatMap_cons, List.cons_append, List.nil_append] at this ⊢
      rw [this, e2, e1]
      simp
theorem bsetsL {a : World} {g : Nat} (hg : a.heap.size ≤ g) (vs : List Value) : ∀ (o : Nat) (w : World), Below a.heap.size a w → Below a.heap.size a (w.setCells g o vs) := by
  induction vs with
  | nil => intro o w h; exact h
  | cons v vs ih => intro o w h; exact ih (o + 1) _ (bset h hg _)

theorem run_cutTo (g n c i : Nat) (h : i ≤ c) (w : World) : (Instr.slice 22 (.slice (some ⟨g, 0, none⟩) n c) none (some (.int .i64 (i : Int))) none).run Try.prog w = .ok (.slice (some ⟨g, 0, none⟩) i c) w := by
  obtain ⟨i0, hi, hz0, hz1, hz2⟩ := info_parts info55
  have h2 : ¬ ((c : Int) < (i : Int)) := by omega
  simp [Instr.slice, run_underlying Try.underlying22, Sem.run_bind, Instr.sliceBounds, Instr.sliceBound, asIntOf, h, sizeOf, typeInfo, hi, Addr.add]
theorem run_cutFrom (g n c i : Nat) (h : i + 1 ≤ n) (w : World) : (Instr.slice 22 (.slice (some ⟨g, 0, none⟩) n c) (some (.int .i64 ((i : Int) + 1))) none none).run Try.prog w = .ok (.slice (if c = i + 1 then some ⟨g, 0, none⟩ else some ⟨g, (i + 1) * 2, none⟩) (n - (i + 1)) (c - (i + 1))) w := by
  obtain ⟨i0, hi, hz0, hz1, hz2⟩ := info_parts info55
  have h1 : ¬ ((i : Int) + 1 < 0) := by omega
  have h2 : ¬ ((n : Int) < (i : Int) + 1) := by omega
  have h3 : ((i : Int) + 1).toNat = i + 1 := by omega
  by_cases hq : c = i + 1
  · simp [Instr.slice, run_underlying Try.underlying22, Sem.run_bind, Instr.sliceBounds, Instr.sliceBound, asIntOf, sizeOf, typeInfo, hi, hz1, Addr.add, h1, h2, h3, hq]
    all_goals first | omega | skip
  · simp [Instr.slice, run_underlying Try.underlying22, Sem.run_bind, Instr.sliceBounds, Instr.sliceBound, asIntOf, sizeOf, typeInfo, hi, hz1, Addr.add, h1, h2, h3, hq]
    all_goals first | omega | skip
theorem run_cutLast (g n c : Nat) (h : 1 ≤ n) (hc : n ≤ c) (w : World) : (Instr.slice 22 (.slice (some ⟨g, 0, none⟩) (n - 1) c) (some (.int .i64 ((n - 1 : Nat) : Int))) (some (.int .i64 (n : Int))) none).run Try.prog w = .ok (.slice (some ⟨g, (n - 1) * 2, none⟩) 1 (c - (n - 1))) w := by
  obtain ⟨i0, hi, hz0, hz1, hz2⟩ := info_parts info55
  have hq : ¬ (c = n - 1) := by omega
  have h4 : n - (n - 1) = 1 := by omega
  simp [Instr.slice, run_underlying Try.underlying22, Sem.run_bind, Instr.sliceBounds, Instr.sliceBound, asIntOf, sizeOf, typeInfo, hi, hz1, Addr.add, hq, h4]
  rw [if_pos hc]
  split <;> simp_all

def DelOk (V : List (Int × Int)) (i : Nat) (B : Nat) (w : World) (e : Ending) (w' : World) : Prop := ∃ v, e = .returned v ∧ RdP w' v (V.eraseIdx i) ∧ ∀ a : World, a.heap.size ≤ B → Below a.heap.size a w → Below a.heap.size a w'
set_option maxRecDepth 100000 in
set_option maxHeartbeats 1000000 in
theorem delete_any (g c B : Nat) (V : List (Int × Int)) (i : Nat) (w : World) (ho : w.ownsRow B 55 2 (.slice (some ⟨g, 0, none⟩) V.length c) V.length (prs V)) (hi : i < V.length) (hl : V.length ≤ 5) :
    Calls Try.prog 72 #[.slice (some ⟨g, 0, none⟩) V.length c, .int .i64 i, .int .i64 ((i : Int) + 1)] w (DelOk V i B w) := by
  obtain ⟨i0, hi0, hz0, hz1, hz2⟩ := info_parts info55
  have hcn : V.length ≤ c ∧ B ≤ g ∧ c ≤ maxLen := by
    rcases ho.2 with ⟨h, _⟩ | ⟨g', cap, cur, h, hb, _, hc, hm, _⟩
    · cases h
    · simp at h; obtain ⟨rfl, rfl⟩ := h; exact ⟨hc, hb, hm⟩
  obtain ⟨hcn, hBg, hcm⟩ := hcn
  have hii : ((i : Int) == (i : Int) + 1) = false := by rw [beq_eq_false_iff_ne]; omega
  have hcell : ∀ j, j < V.length * 2 → w.cell? ⟨g, j, none⟩ = (prs V)[j]? := fun j hj => ho.cellAt j hj
  have hfro : ∀ j, w.frozen? ⟨g, j, none⟩ = false := by
    intro j
    rcases ho.2 with ⟨h, _⟩ | ⟨g', cap, cur, h, hb, hg, hc, _⟩
    · cases h
    · simp at h; obtain ⟨rfl, rfl⟩ := h; exact frozen_of_row w g j _ _ hg
  have hnl : ((prs V).drop ((i + 1) * 2)).length = (V.length - (i + 1)) * 2 := by rw [List.length_drop, prs_length]; omega
  have hcw : ∀ wc : World, wc.heap = w.heap → ∀ j, wc.cell? ⟨g, j, none⟩ = w.cell? ⟨g, j, none⟩ := fun wc h j => World.cell?_of_block (by rw [h])
  have hfw : ∀ wc : World, wc.heap = w.heap → ∀ j, wc.frozen? ⟨g, j, none⟩ = false := fun wc h j => by
    rw [← hfro j]; simp only [World.frozen?, h]
  have hsome : ∀ wc : World, wc.heap = w.heap → ∀ j, j < V.length * 2 → (wc.cell? ⟨g, j, none⟩).isSome = true := fun wc h j hj => by
    rw [hcw wc h j, hcell j hj, List.getElem?_eq_getElem (by rw [prs_length]; exact hj)]; rfl
  have hgz : g < w.heap.size := by
    have h := hsome w rfl 0 (by omega)
    obtain ⟨u, hu⟩ := Option.isSome_iff_exists.1 h
    exact World.block_lt_of_cell? w _ hu
  have hW1 : ∀ wc : World, wc.heap = w.heap → ∀ j, j < (V.length - 1) * 2 → (wc.setCells g (i * 2) ((prs V).drop ((i + 1) * 2))).cell? ⟨g, j, none⟩ = (prs (V.eraseIdx i))[j]? := by
    intro wc h j hj
    rw [prs_erase V i hi]
    by_cases hji : j < i * 2
    · rw [World.cell?_setCells_out _ _ _ _ _ (fun _ _ => .inl hji), hcw wc h j, hcell j (by omega), List.getElem?_append_left (by rw [List.length_take, prs_length]; omega), List.getElem?_take_of_lt hji]
    · have := World.cell?_setCells_in g ((prs V).drop ((i + 1) * 2)) (i * 2) wc (fun j' hj' => hsome wc h _ (by omega)) (j - i * 2) (by omega)
      rw [show i * 2 + (j - i * 2) = j by omega] at this
      rw [this, List.getElem?_append_right (by rw [List.length_take, prs_length]; omega), List.length_take, prs_length, show min (i * 2) (V.length * 2) = i * 2 by omega, List.getElem?_eq_getElem (by omega)]
  have hfin : ∀ wc : World, wc.heap = w.heap → RdP ((wc.setCells g (i * 2) ((prs V).drop ((i + 1) * 2))).setCells g ((V.length - 1) * 2) [.int .i64 0, .int .i64 0]) (.slice (some ⟨g, 0, none⟩) (V.length - 1) c) (V.eraseIdx i) := by
    intro wc h
    have hel : (V.eraseIdx i).length = V.length - 1 := by rw [List.length_eraseIdx, if_pos hi]
    refine ⟨_, _, by rw [hel], by rw [hel]; omega, hcm, fun _ => ⟨g, 0, rfl, ?_, fun j u hu => ?_⟩⟩
    · have h1 : ∀ (vs : List Value) (o : Nat) (x : World), (x.setCells g o vs).heap.size = x.heap.size := by
        intro vs
        induction vs with
        | nil => intro o x; rfl
        | cons v vs ih => intro o x; rw [World.setCells, ih]; simp
      rw [h1, h1, h]; exact hgz
    · have hj : j < (V.length - 1) * 2 := by have := (List.getElem?_eq_some_iff.1 hu).1; rw [prs_length, hel] at this; exact this
      rw [Nat.zero_add, World.cell?_setCells_out _ _ _ _ _ (fun _ _ => .inl hj), hW1 wc h j hj, hu]
  have HFIN := Lib.hid hfin; clear hfin
  obtain ⟨A, hA⟩ : ∃ A : Option Addr, A = if c = i + 1 then some ⟨g, 0, none⟩ else some ⟨g, (i + 1) * 2, none⟩ := ⟨_, rfl⟩
  have hap : ∀ wc : World, wc.heap = w.heap → ∀ ty, (Builtin.append_ #[22, 22] ty #[.slice (some ⟨g, 0, none⟩) i c, .slice A (V.length - (i + 1)) (c - (i + 1))]).run Try.prog wc = .ok (.slice (some ⟨g, 0, none⟩) (V.length - 1) c) (wc.setCells g (i * 2) ((prs V).drop ((i + 1) * 2))) := by
    intro wc h ty
    obtain ⟨ad, had, hn⟩ : ∃ ad, A = some ad ∧ ∀ j u, ((prs V).drop ((i + 1) * 2))[j]? = some u → wc.cell? (ad.add j) = some u := by
      by_cases hq : c = i + 1
      · refine ⟨_, by rw [hA, if_pos hq], fun j u hu => ?_⟩
        have := (List.getElem?_eq_some_iff.1 hu).1
        omega
      · refine ⟨_, by rw [hA, if_neg hq], fun j u hu => ?_⟩
        have := (List.getElem?_eq_some_iff.1 hu).1
        rw [Go.WideShapes.add_plain, hcw wc h, hcell _ (by omega), ← hu, List.getElem?_drop]
    subst had
    have := run_append_room_cells (P := Try.prog) wc 22 ty 55 i0 Try.underlying22 hi0 g 0 i c ad (V.length - (i + 1)) (c - (i + 1)) ((prs V).drop ((i + 1) * 2)) (by rw [hz1]; exact hnl) hn (fun u hu => prs_num V u (List.mem_of_mem_drop hu)) (by omega)
      (fun j hj => by rw [hz1]; exact hsome wc h _ (by omega)) (fun j hj => hfw wc h _)
    rw [hz1, Nat.zero_add, show i + (V.length - (i + 1)) = V.length - 1 by omega] at this
    exact this
  have hcl : ∀ wc : World, wc.heap = w.heap → ∀ ty, (Builtin.clear_ #[22] ty #[.slice (some ⟨g, (V.length - 1) * 2, none⟩) 1 (c - (V.length - 1))]).run Try.prog (wc.setCells g (i * 2) ((prs V).drop ((i + 1) * 2))) = .ok (.tuple #[]) ((wc.setCells g (i * 2) ((prs V).drop ((i + 1) * 2))).setCells g ((V.length - 1) * 2) [.int .i64 0, .int .i64 0]) := by
    intro wc h ty
    have hss : ∀ j, j < V.length * 2 → ((V.length - 1) * 2 ≤ j) → ((wc.setCells g (i * 2) ((prs V).drop ((i + 1) * 2))).cell? ⟨g, j, none⟩).isSome = true := by
      intro j hj hj2
      rw [World.cell?_setCells_out _ _ _ _ _ (fun _ _ => .inr (by simp only; omega))]
      exact hsome wc h j hj
    exact run_clear_one _ _ _ _ _ (hss _ (by omega) (by omega)) (hss _ (by omega) (by omega)) (by rw [World.frozen?_setCells]; exact hfw wc h _) (by rw [World.frozen?_setCells]; exact hfw wc h _)
  have HAP := Lib.hid hap; have HCL := Lib.hid hcl; have HA := Lib.hid hA
  clear hap hcl hA hcell hfro ho hnl hcw hfw hsome hW1 hcm
  have hs1 := run_cutTo g V.length c i (by omega)
  have hs2 := run_cutFrom g V.length c i (by omega)
  rw [← HA.out] at hs2
  have hs3 := run_cutLast g V.length c (by omega) hcn
  go_enter Try.func72, Try.ntmps72
  go_wp2_with fail
  refine wp_region_flowS (fun w2 => ∃ x : AnyW w, w2 = x.val) [] [([0, 1, 2, 3, 4, 5], 6, true)] [7] (by kernel_rfl) (by kernel_rfl) (fun _ _ _ => anyW _ _) ?_
  intro wc hBc hh
  have HH := Lib.hid hh; have HBC := Lib.hid hBc; clear hh hBc
  simp only [flowP, flow, pickL, List.getElem?_cons_succ, List.getElem?_cons_zero]
  refine wpQuiet_nil ?_
  repeat (go_big_quiet_step (fail))
  refine wpQuiet_nil ?_
  go_wp2_with (at_builtin; refine wpList_append_eq _ rfl _ _ 22 rfl _ _ rfl rfl (HAP.out wc HH.out _) ?_)
  refine seg_grow (anyW _ _) ?_
  repeat (go_big_quiet_step (fail))
  refine wpQuiet_nil ?_
  refine only_done ?_
  have hcl := HCL.out wc HH.out
  go_wp2_with fail
  go_ret
  exact ⟨_, rfl, HFIN.out wc HH.out, fun a ha hb => bsetsL (by omega) _ _ _ (bsetsL (by omega) _ _ _ (btr hb HBC.out))⟩
end Go.Proofs.Ytooddicegkiiiaa
