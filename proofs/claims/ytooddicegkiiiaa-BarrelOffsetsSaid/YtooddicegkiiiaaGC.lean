/- Merged texts: Group, Offsets, range over a function, Next. -/
import Derived.Test.YtooddicegkiiiaaGB
import Derived.Laws.CopyOwn
import Derived.Deep.OwnRows
import Derived.Deep.RegionLaw
import Derived.Lib.SliceRun
import Derived.Test.YtooddicegkiiiaaGA
namespace Go.Proofs.Ytooddicegkiiiaa
open Go.RowKit Go.Shelf

/-- What Group returns. -/
def grpN (V : List (Int × Int)) : List Nat := if checkP V = 0 then gre V V.length [] 0 else []
def GrpOk (V : List (Int × Int)) (w : World) (e : Ending) (w' : World) : Prop := ∃ v, e = .returned (.tuple #[v, .int .i64 (checkP V)]) ∧ RdI w' .i64 v (natL (grpN V)) ∧ Below w.heap.size w w'
theorem splice_all {α : Type} (cur cs : List α) (h : cur.length = cs.length) : splice cur 0 cs = cs := by
  simp [splice, h]

set_option maxRecDepth 100000 in
set_option maxHeartbeats 1000000 in
theorem group_any (x : Value) (V : List (Int × Int)) (w : World) (hx0 : RdP w x V) (hl : V.length ≤ 1000) :
    Calls Try.prog 35 #[x] w (GrpOk V w) := by
  obtain ⟨a, ca, rfl, _, hca2, _⟩ := hx0.form
  clear hca2
  unfold GrpOk grpN
  by_cases hc : checkP V = 0
  · rw [if_pos hc, hc]
    have hV := okPins_of hc
    have h5 := hV.l5
    have HO := Lib.hid (open_ok _ _ V [] w hx0 (rdI_nil _ _) (by simp) (by rw [openE_nil]; exact hc))
    have hgl := (gre_inc V V.length [] 0 ⟨List.Pairwise.nil, by simp⟩ (by simp)).len
    have HG := Lib.hid (fun b w' hD => greatest_n V b h5 V.length [] 0 (.slice none 0 0) w' hD (World.ownsRow_nil _ _ _ _) ⟨List.Pairwise.nil, by simp⟩ (by simp) (Nat.zero_le _) (by omega))
    clear hc
    unfold GreOk at HG
    generalize gre V V.length [] 0 = g at *
    go_enter Try.func35, Try.ntmps35
    go_wp2_with fail
    refine HO.out.mono ?_
    rintro e w2 ⟨b, rfl, hb, hD, hB2⟩
    have HB2 := Lib.hid hB2; have HD := Lib.hid hD
    clear hB2 hD
    go_wp2_with fail
    refine (HG.out b _ HD.out).mono ?_
    rintro e w3 ⟨v, rfl, hown, hB3⟩
    obtain ⟨av, cv, e, _, hav⟩ := owns_clip hown
    subst e
    rw [natL_len]
    have hrd := hown.rd.form
    obtain ⟨a', c', he, _, _, hcell⟩ := hrd
    simp only [Value.slice.injEq] at he
    obtain ⟨rfl, _, rfl⟩ := he
    rw [natL_len] at hcell
    have HC := Lib.hid hcell; have HB3 := Lib.hid hB3
    have hmk : ∀ w' : World, (Instr.makeSlice 25 (.int .i64 (g.length : Int)) (.int .i64 (g.length : Int))).run Try.prog w' = .ok (.slice (some ⟨w'.heap.size, 0, none⟩) g.length g.length) (w'.alloc (.cells (madeCells #[.int .i64 0] g.length) 3)) :=
      fun w' => run_make_row' 25 3 (.int .i64 0) 8 Try.underlying25 num3 rfl .i64 .i64 g.length (by omega) (by omega) w'
    obtain ⟨cur, hcur⟩ : ∃ cur, (madeCells #[.int .i64 0] g.length).toList = cur := ⟨_, rfl⟩
    obtain ⟨cs, hcs⟩ : ∃ cs, (natL g).map (Value.int .i64) = cs := ⟨_, rfl⟩
    have hl1 : cur.length = g.length := by rw [← hcur]; simp [madeCells]
    have hl2 : cs.length = g.length := by rw [← hcs]; simp [natL]
    have hn : cs.length = Nat.min g.length g.length := by rw [hl2]; exact (Nat.min_self _).symm
    have hone : ∀ v ∈ cs, v.oneCell' = true := by rw [← hcs]; simp [Value.oneCell']
    have hpos : 0 < cs.length → ∃ ad, av = some ad ∧ ∀ j v, cs[j]? = some v → (w3.alloc (.cells (madeCells #[.int .i64 0] g.length) 3)).cell? (ad.add j) = some v := by
      intro h
      obtain ⟨b', off, rfl, hb', hc'⟩ := hcell (by omega)
      refine ⟨_, rfl, fun j v hv => ?_⟩
      have hj : j < g.length := by have := (List.getElem?_eq_some_iff.1 hv).1; omega
      rw [Go.WideShapes.add_plain]
      refine cal _ ((hc' j hj).trans ?_)
      rw [← hcs] at hv
      simp [natL, hj] at hv
      simp [natL, hj, hv]
    have hheap : (w3.alloc (.cells (madeCells #[.int .i64 0] g.length) 3)).heap[w3.heap.size]? = some (.cells cur.toArray 3 (0, 0)) := by
      rw [heap_alloc_new, ← hcur]
    have hsp : splice cur 0 cs = cs := splice_all _ _ (by omega)
    have hfit : 0 + cs.length ≤ cur.length := by omega
    have hBw : Below w3.heap.size w3 (w3.alloc (.cells (madeCells #[.int .i64 0] g.length) 3)) := bal (bz _) _
    have HN := Lib.hid hn; have HONE := Lib.hid hone; have HPOS := Lib.hid hpos; have HHEAP := Lib.hid hheap; have HSP := Lib.hid hsp; have HFIT := Lib.hid hfit; have HBW := Lib.hid hBw; have HCS := Lib.hid hcs; have HL2 := Lib.hid hl2
    clear hown hB3 hcell hl1 hl2 hn hone hpos hheap hsp hfit hBw hcur hcs
    have hz3 : (Try.prog.info? 3).map (·.size) = some 1 := by kernel_rfl
    have HZ := Lib.hid hz3; clear hz3
    go_wp2_with (refine wpList_copy_splice rfl (.tmp 21) (.tmp 22) 25 25 rfl 3 Try.underlying25 HZ.out _ _ g.length g.length g.length cv rfl rfl w3.heap.size 0 cur 3 HHEAP.out cs HN.out (fun h => ⟨rfl, HPOS.out h⟩) HFIT.out HONE.out w3.heap.size w3 HBW.out (Nat.le_refl _) ?_; intro w7 h7 hB7)
    go_ret2
    refine ⟨.slice (some ⟨w3.heap.size, 0, none⟩) g.length g.length, rfl, ?_, btr HB2.out (btr HB3.out hB7)⟩
    have h8 := h7.out
    rw [HSP.out, ← HCS.out] at h8
    have hz7 := (Array.getElem?_eq_some_iff.1 h8).1
    refine ⟨_, _, by rw [natL_len], by rw [natL_len]; exact Nat.le_refl _, by unfold maxLen; omega, fun _ => ⟨_, _, rfl, hz7, fun j u hu => ?_⟩⟩
    rw [cell_of_row w7 _ _ _ _ _ h8, Nat.zero_add]
    simpa using hu
  · rw [if_neg hc]
    have HO := Lib.hid (open_no _ _ V [] w hx0 (rdI_nil _ _) hl (by simp) (by rw [openE_nil]; exact hc))
    rw [openE_nil] at HO
    have hcb : (checkP V != 0) = true := by simpa using hc
    have hce : (checkP V == 0) = false := by simpa using hc
    clear hc
    generalize checkP V = q at *
    go_enter Try.func35, Try.ntmps35
    go_wp2_with fail
    refine HO.out.mono ?_
    rintro e w2 ⟨rfl, hB2⟩
    go_wp2_with fail
    go_ret2
    exact ⟨_, rfl, rdI_nil _ _, hB2⟩
end Go.Proofs.Ytooddicegkiiiaa

namespace Go.Proofs.Ytooddicegkiiiaa
open Go.RowKit Go.Shelf

theorem RdC.news {w : World} {a : Option Addr} {cap n : Nat} {cs : List Value} (h : RdC w (.slice a n cap) n cs) (hne : cs ≠ []) :
    ∃ ad : Addr, a = some ad ∧ ad.spot = none ∧ ad.block < w.heap.size ∧ ∀ j u, cs[j]? = some u → w.cell? (ad.add j) = some u := by
  obtain ⟨a', cap', e, _, _, h⟩ := h
  simp only [Value.slice.injEq] at e
  obtain ⟨rfl, -, rfl⟩ := e
  obtain ⟨b, off, rfl, hb, hc⟩ := h hne
  refine ⟨_, rfl, rfl, hb, fun j u hj => ?_⟩
  have := hc j u hj
  have e : (⟨b, off, none⟩ : Addr).add j = ⟨b, off + j, none⟩ := by unfold Addr.add; split <;> simp_all
  rw [e]; exact this
theorem prs_ne {V : List (Int × Int)} (h : 0 < V.length) : prs V ≠ [] := by
  intro e; have := prs_length V; rw [e] at this; simp at this; omega

def CloneOk (V : List (Int × Int)) (w : World) (e : Ending) (w' : World) : Prop := ∃ g c, e = .returned (.slice (some ⟨g, 0, none⟩) V.length c) ∧ w'.ownsRow w.heap.size 55 2 (.slice (some ⟨g, 0, none⟩) V.length c) V.length (prs V) ∧ Below w.heap.size w w'
set_option maxRecDepth 100000 in
/-- slices.Clone of a list of pins that is not empty. -/
theorem clone_any (y : Value) (V : List (Int × Int)) (w : World) (hy0 : RdP w y V) (hn : 0 < V.length) (hn' : V.length ≤ 1000) :
    Calls Try.prog 73 #[y] w (CloneOk V w) := by
  obtain ⟨b, cb, rfl, hcb, hcb2, _⟩ := hy0.form
  obtain ⟨i0, hi, hz0, hz1, hz2⟩ := info_parts info55
  obtain ⟨ad, rfl, hsp, hbd, hnews⟩ := RdC.news hy0 (prs_ne hn)
  have HY := Lib.hid hy0; clear hy0
  have HLL := Lib.hid (prs_length V)
  have HC2 := Lib.hid (prs_num V)
  have hnw : ∀ j u, (prs V)[j]? = some u → (w.alloc (.cells #[] 55)).cell? (ad.add j) = some u := by
    intro j u hj
    have := hnews j u hj
    have e : (ad.add j).block = ad.block := by unfold Addr.add; split <;> rfl
    exact (World.cell?_of_block (w := w) (by rw [e]; exact Below.heap_alloc _ _ _ hbd)).trans this
  have HNW := Lib.hid hnw; clear hnw hnews
  have hnl := fun (w : World) (a : Option Addr) (n c : Nat) => Lib.run_eql_slice_nil (P := Try.prog) w 22 55 a n c 0 0 Try.underlying22
  go_enter Try.func73, Try.ntmps73
  go_wp2_with (at_builtin; refine wpList_append_own _ rfl _ _ 22 rfl w.heap.size 55 i0 (.agg #[.int .i64 0, .int .i64 0]) 2 16 Try.underlying22 hi hz0 hz1 hz2 rfl (by decide) _ 0 [] rfl (World.ownsRow_made w #[] 0 (Nat.le_refl _) (by simp) (by simp)) ad V.length cb (prs V) rfl HLL.out HNW.out HC2.out (by simp only [maxLen]; omega) (by omega) (by simp) ?_)
  intro v' w1 hown hgrow hnil
  clear hnil
  have hB1 : Below w.heap.size w w1 := bgr (bal (bz _) _) hgrow (by intro k h; simp [Value.ownBlock] at h; omega)
  clear hgrow
  have hown2 : w1.ownsRow w.heap.size 55 2 v' V.length (prs V) := by simpa using hown
  obtain ⟨a, c, rfl, _, hac⟩ := owns_clip hown2
  have ha : ∃ g, a = some ⟨g, 0, none⟩ := by
    rcases hown2.2 with ⟨_, h0⟩ | ⟨g, cap, cur, e, _⟩
    · omega
    · simp at e; exact ⟨g, e.1⟩
  obtain ⟨g, rfl⟩ := ha
  have HOW := Lib.hid hown2; clear hown hown2
  go_wp2
  go_ret
  exact ⟨g, c, rfl, HOW.out, hB1⟩

theorem run_clear_one (w : World) (b o c : Nat) (ty : TypeId) (h0 : (w.cell? ⟨b, o, none⟩).isSome = true) (h1 : (w.cell? ⟨b, o + 1, none⟩).isSome = true) (f0 : w.frozen? ⟨b, o, none⟩ = false) (f1 : w.frozen? ⟨b, o + 1, none⟩ = false) :
    (Builtin.clear_ #[22] ty #[.slice (some ⟨b, o, none⟩) 1 c]).run Try.prog w = .ok (.tuple #[]) (w.setCells b o [.int .i64 0, .int .i64 0]) := by
  have hv : (zeroValue 55).run Try.prog w = .ok (.agg #[.int .i64 0, .int .i64 0]) w := by kernel_rfl
  have hzc : (Builtin.zeroCells (Value.agg #[.int .i64 0, .int .i64 0]).cells 1).toList = [.int .i64 0, .int .i64 0] := by simp [Builtin.zeroCells, Value.cells, Array.range]
  have hst := run_storeCells_cells (P := Try.prog) b o [.int .i64 0, .int .i64 0] 0 w
    (by intro j hj; match j, hj with
        | 0, _ => simpa using h0
        | 1, _ => simpa using h1)
    (by intro j hj; match j, hj with
        | 0, _ => simpa using f0
        | 1, _ => simpa using f1)
    (by intro v hv'; simp at hv'; subst hv'; rfl)
  simp only [Nat.add_zero] at hst
  simp [Builtin.clear_, run_underlying Try.underlying22, hv, hzc, hst]

theorem prs_erase (V : List (Int × Int)) : ∀ i, i < V.length → prs (V.eraseIdx i) = (prs V).take (i * 2) ++ (prs V).drop ((i + 1) * 2) := by
  induction V with
  | nil => intro i h; simp at h
  | cons p V ih =>
    intro i h
    cases i with
    | zero => simp [prs]
    | succ i =>
      have := ih i (by simpa using h)
      have e1 : (i + 1) * 2 = i * 2 + 1 + 1 := by omega
      have e2 : (i + 1 + 1) * 2 = (i + 1) * 2 + 1 + 1 := by omega
      simp only [List.eraseIdx_cons_succ, prs, List.flatMap_cons, List.cons_append, List.nil_append] at this ⊢
      rw [this, e2, e1]
      simp
theorem bsetsL {a : World} {g : Nat} (hg : a.heap.size ≤ g) (vs : List Value) : ∀ (o : Nat) (w : World), Below a.heap.size a w → Below a.heap.size a (w.setCells g o vs) := by
  induction vs with
  | nil => intro o w h; exact h
  | cons v vs ih => intro o w h; exact ih (o + 1) _ (bset h hg _)

theorem run_cutTo (g n c i : Nat) (h : i ≤ c) (w : World) : (Instr.slice 22 (.slice (some ⟨g, 0, none⟩) n c) none (some (.int .i64 (i : Int))) none).run Try.prog w = .ok (.slice (some ⟨g, 0, none⟩) i c) w := by
  obtain ⟨i0, hi, hz0, hz1, hz2⟩ := info_parts info55
  have h2 : ¬ ((c : Int) < (i : Int)) := by omega
  simp [Instr.slice, run_underlying Try.underlying22, Sem.run_bind, Instr.sliceBounds, Instr.sliceBound, asIntOf, h, sizeOf, typeInfo, hi, Addr.add]
theorem run_cutFrom (g n c i : Nat) (h : i + 1 ≤ n) (w : World) : (Instr.slice 22 (.slice (some ⟨g, 0, none⟩) n c) (some (.int .i64 ((i : Int) + 1))) none none).run Try.prog w = .ok (.slice (if c = i + 1 then some ⟨g, 0, none⟩ else some ⟨g, (i + 1) * 2, none⟩) (n - (i + 1)) (c - (i + 1))) w := by
  obtain ⟨i0, hi, hz0, hz1, hz2⟩ := info_parts info55
  have h1 : ¬ ((i : Int) + 1 < 0) := by omega
  have h2 : ¬ ((n : Int) < (i : Int) + 1) := by omega
  have h3 : ((i : Int) + 1).toNat = i + 1 := by omega
  by_cases hq : c = i + 1
  · simp [Instr.slice, run_underlying Try.underlying22, Sem.run_bind, Instr.sliceBounds, Instr.sliceBound, asIntOf, sizeOf, typeInfo, hi, hz1, Addr.add, h1, h2, h3, hq]
    all_goals first | omega | skip
  · simp [Instr.slice, run_underlying Try.underlying22, Sem.run_bind, Instr.sliceBounds, Instr.sliceBound, asIntOf, sizeOf, typeInfo, hi, hz1, Addr.add, h1, h2, h3, hq]
    all_goals first | omega | skip
theorem run_cutLast (g n c : Nat) (h : 1 ≤ n) (hc : n ≤ c) (w : World) : (Instr.slice 22 (.slice (some ⟨g, 0, none⟩) (n - 1) c) (some (.int .i64 ((n - 1 : Nat) : Int))) (some (.int .i64 (n : Int))) none).run Try.prog w = .ok (.slice (some ⟨g, (n - 1) * 2, none⟩) 1 (c - (n - 1))) w := by
  obtain ⟨i0, hi, hz0, hz1, hz2⟩ := info_parts info55
  have hq : ¬ (c = n - 1) := by omega
  have h4 : n - (n - 1) = 1 := by omega
  simp [Instr.slice, run_underlying Try.underlying22, Sem.run_bind, Instr.sliceBounds, Instr.sliceBound, asIntOf, sizeOf, typeInfo, hi, hz1, Addr.add, hq, h4]
  rw [if_pos hc]
  split <;> simp_all

def DelOk (V : List (Int × Int)) (i : Nat) (B : Nat) (w : World) (e : Ending) (w' : World) : Prop := ∃ v, e = .returned v ∧ RdP w' v (V.eraseIdx i) ∧ ∀ a : World, a.heap.size ≤ B → Below a.heap.size a w → Below a.heap.size a w'
set_option maxRecDepth 100000 in
set_option maxHeartbeats 1000000 in
theorem delete_any (g c B : Nat) (V : List (Int × Int)) (i : Nat) (w : World) (ho : w.ownsRow B 55 2 (.slice (some ⟨g, 0, none⟩) V.length c) V.length (prs V)) (hi : i < V.length) (hl : V.length ≤ 5) :
    Calls Try.prog 72 #[.slice (some ⟨g, 0, none⟩) V.length c, .int .i64 i, .int .i64 ((i : Int) + 1)] w (DelOk V i B w) := by
  obtain ⟨i0, hi0, hz0, hz1, hz2⟩ := info_parts info55
  have hcn : V.length ≤ c ∧ B ≤ g ∧ c ≤ maxLen := by
    rcases ho.2 with ⟨h, _⟩ | ⟨g', cap, cur, h, hb, _, hc, hm, _⟩
    · cases h
    · simp at h; obtain ⟨rfl, rfl⟩ := h; exact ⟨hc, hb, hm⟩
  obtain ⟨hcn, hBg, hcm⟩ := hcn
  have hii : ((i : Int) == (i : Int) + 1) = false := by rw [beq_eq_false_iff_ne]; omega
  have hcell : ∀ j, j < V.length * 2 → w.cell? ⟨g, j, none⟩ = (prs V)[j]? := fun j hj => ho.cellAt j hj
  have hfro : ∀ j, w.frozen? ⟨g, j, none⟩ = false := by
    intro j
    rcases ho.2 with ⟨h, _⟩ | ⟨g', cap, cur, h, hb, hg, hc, _⟩
    · cases h
    · simp at h; obtain ⟨rfl, rfl⟩ := h; exact frozen_of_row w g j _ _ hg
  have hnl : ((prs V).drop ((i + 1) * 2)).length = (V.length - (i + 1)) * 2 := by rw [List.length_drop, prs_length]; omega
  have hcw : ∀ wc : World, wc.heap = w.heap → ∀ j, wc.cell? ⟨g, j, none⟩ = w.cell? ⟨g, j, none⟩ := fun wc h j => World.cell?_of_block (by rw [h])
  have hfw : ∀ wc : World, wc.heap = w.heap → ∀ j, wc.frozen? ⟨g, j, none⟩ = false := fun wc h j => by
    rw [← hfro j]; simp only [World.frozen?, h]
  have hsome : ∀ wc : World, wc.heap = w.heap → ∀ j, j < V.length * 2 → (wc.cell? ⟨g, j, none⟩).isSome = true := fun wc h j hj => by
    rw [hcw wc h j, hcell j hj, List.getElem?_eq_getElem (by rw [prs_length]; exact hj)]; rfl
  have hgz : g < w.heap.size := by
    have h := hsome w rfl 0 (by omega)
    obtain ⟨u, hu⟩ := Option.isSome_iff_exists.1 h
    exact World.block_lt_of_cell? w _ hu
  have hW1 : ∀ wc : World, wc.heap = w.heap → ∀ j, j < (V.length - 1) * 2 → (wc.setCells g (i * 2) ((prs V).drop ((i + 1) * 2))).cell? ⟨g, j, none⟩ = (prs (V.eraseIdx i))[j]? := by
    intro wc h j hj
    rw [prs_erase V i hi]
    by_cases hji : j < i * 2
    · rw [World.cell?_setCells_out _ _ _ _ _ (fun _ _ => .inl hji), hcw wc h j, hcell j (by omega), List.getElem?_append_left (by rw [List.length_take, prs_length]; omega), List.getElem?_take_of_lt hji]
    · have := World.cell?_setCells_in g ((prs V).drop ((i + 1) * 2)) (i * 2) wc (fun j' hj' => hsome wc h _ (by omega)) (j - i * 2) (by omega)
      rw [show i * 2 + (j - i * 2) = j by omega] at this
      rw [this, List.getElem?_append_right (by rw [List.length_take, prs_length]; omega), List.length_take, prs_length, show min (i * 2) (V.length * 2) = i * 2 by omega, List.getElem?_eq_getElem (by omega)]
  have hfin : ∀ wc : World, wc.heap = w.heap → RdP ((wc.setCells g (i * 2) ((prs V).drop ((i + 1) * 2))).setCells g ((V.length - 1) * 2) [.int .i64 0, .int .i64 0]) (.slice (some ⟨g, 0, none⟩) (V.length - 1) c) (V.eraseIdx i) := by
    intro wc h
    have hel : (V.eraseIdx i).length = V.length - 1 := by rw [List.length_eraseIdx, if_pos hi]
    refine ⟨_, _, by rw [hel], by rw [hel]; omega, hcm, fun _ => ⟨g, 0, rfl, ?_, fun j u hu => ?_⟩⟩
    · have h1 : ∀ (vs : List Value) (o : Nat) (x : World), (x.setCells g o vs).heap.size = x.heap.size := by
        intro vs
        induction vs with
        | nil => intro o x; rfl
        | cons v vs ih => intro o x; rw [World.setCells, ih]; simp
      rw [h1, h1, h]; exact hgz
    · have hj : j < (V.length - 1) * 2 := by have := (List.getElem?_eq_some_iff.1 hu).1; rw [prs_length, hel] at this; exact this
      rw [Nat.zero_add, World.cell?_setCells_out _ _ _ _ _ (fun _ _ => .inl hj), hW1 wc h j hj, hu]
  have HFIN := Lib.hid hfin; clear hfin
  obtain ⟨A, hA⟩ : ∃ A : Option Addr, A = if c = i + 1 then some ⟨g, 0, none⟩ else some ⟨g, (i + 1) * 2, none⟩ := ⟨_, rfl⟩
  have hap : ∀ wc : World, wc.heap = w.heap → ∀ ty, (Builtin.append_ #[22, 22] ty #[.slice (some ⟨g, 0, none⟩) i c, .slice A (V.length - (i + 1)) (c - (i + 1))]).run Try.prog wc = .ok (.slice (some ⟨g, 0, none⟩) (V.length - 1) c) (wc.setCells g (i * 2) ((prs V).drop ((i + 1) * 2))) := by
    intro wc h ty
    obtain ⟨ad, had, hn⟩ : ∃ ad, A = some ad ∧ ∀ j u, ((prs V).drop ((i + 1) * 2))[j]? = some u → wc.cell? (ad.add j) = some u := by
      by_cases hq : c = i + 1
      · refine ⟨_, by rw [hA, if_pos hq], fun j u hu => ?_⟩
        have := (List.getElem?_eq_some_iff.1 hu).1
        omega
      · refine ⟨_, by rw [hA, if_neg hq], fun j u hu => ?_⟩
        have := (List.getElem?_eq_some_iff.1 hu).1
        rw [Go.WideShapes.add_plain, hcw wc h, hcell _ (by omega), ← hu, List.getElem?_drop]
    subst had
    have := run_append_room_cells (P := Try.prog) wc 22 ty 55 i0 Try.underlying22 hi0 g 0 i c ad (V.length - (i + 1)) (c - (i + 1)) ((prs V).drop ((i + 1) * 2)) (by rw [hz1]; exact hnl) hn (fun u hu => prs_num V u (List.mem_of_mem_drop hu)) (by omega)
      (fun j hj => by rw [hz1]; exact hsome wc h _ (by omega)) (fun j hj => hfw wc h _)
    rw [hz1, Nat.zero_add, show i + (V.length - (i + 1)) = V.length - 1 by omega] at this
    exact this
  have hcl : ∀ wc : World, wc.heap = w.heap → ∀ ty, (Builtin.clear_ #[22] ty #[.slice (some ⟨g, (V.length - 1) * 2, none⟩) 1 (c - (V.length - 1))]).run Try.prog (wc.setCells g (i * 2) ((prs V).drop ((i + 1) * 2))) = .ok (.tuple #[]) ((wc.setCells g (i * 2) ((prs V).drop ((i + 1) * 2))).setCells g ((V.length - 1) * 2) [.int .i64 0, .int .i64 0]) := by
    intro wc h ty
    have hss : ∀ j, j < V.length * 2 → ((V.length - 1) * 2 ≤ j) → ((wc.setCells g (i * 2) ((prs V).drop ((i + 1) * 2))).cell? ⟨g, j, none⟩).isSome = true := by
      intro j hj hj2
      rw [World.cell?_setCells_out _ _ _ _ _ (fun _ _ => .inr (by simp only; omega))]
      exact hsome wc h j hj
    exact run_clear_one _ _ _ _ _ (hss _ (by omega) (by omega)) (hss _ (by omega) (by omega)) (by rw [World.frozen?_setCells]; exact hfw wc h _) (by rw [World.frozen?_setCells]; exact hfw wc h _)
  have HAP := Lib.hid hap; have HCL := Lib.hid hcl; have HA := Lib.hid hA
  clear hap hcl hA hcell hfro ho hnl hcw hfw hsome hW1 hcm
  have hs1 := run_cutTo g V.length c i (by omega)
  have hs2 := run_cutFrom g V.length c i (by omega)
  rw [← HA.out] at hs2
  have hs3 := run_cutLast g V.length c (by omega) hcn
  go_enter Try.func72, Try.ntmps72
  go_wp2_with fail
  refine wp_region_flowS (fun w2 => ∃ x : AnyW w, w2 = x.val) [] [([0, 1, 2, 3, 4, 5], 6, true)] [7] (by kernel_rfl) (by kernel_rfl) (fun _ _ _ => anyW _ _) ?_
  intro wc hBc hh
  have HH := Lib.hid hh; have HBC := Lib.hid hBc; clear hh hBc
  simp only [flowP, flow, pickL, List.getElem?_cons_succ, List.getElem?_cons_zero]
  refine wpQuiet_nil ?_
  repeat (go_big_quiet_step (fail))
  refine wpQuiet_nil ?_
  go_wp2_with (at_builtin; refine wpList_append_eq _ rfl _ _ 22 rfl _ _ rfl rfl (HAP.out wc HH.out _) ?_)
  refine seg_grow (anyW _ _) ?_
  repeat (go_big_quiet_step (fail))
  refine wpQuiet_nil ?_
  refine only_done ?_
  have hcl := HCL.out wc HH.out
  go_wp2_with fail
  go_ret
  exact ⟨_, rfl, HFIN.out wc HH.out, fun a ha hb => bsetsL (by omega) _ _ _ (bsetsL (by omega) _ _ _ (btr hb HBC.out))⟩
end Go.Proofs.Ytooddicegkiiiaa

namespace Go.Proofs.Ytooddicegkiiiaa
open Go.RowKit Go.Shelf

/-- What Offsets returns. -/
def offApart (V : List (Int × Int)) (i : Nat) : Int := gcdI (jB (V.eraseIdx i)) (pin V i).1
def offAt (V : List (Int × Int)) (i : Nat) (k : Nat) : Int := jA (V.eraseIdx i) % offApart V i + (k : Int) * offApart V i
def offN (V : List (Int × Int)) (i : Nat) : Nat := ((pin V i).1 / offApart V i).toNat
def offE (V : List (Int × Int)) (i : Int) : Int := if checkP V ≠ 0 then checkP V else if outB 0 ((V.length : Int) - 1) i then 2 else 0
def offL (V : List (Int × Int)) (i : Int) : List Int := if checkP V ≠ 0 then [] else if outB 0 ((V.length : Int) - 1) i then [] else if jO (V.eraseIdx i.toNat) then (List.range (offN V i.toNat)).map (offAt V i.toNat) else []
def OffOk (V : List (Int × Int)) (i : Int) (w : World) (e : Ending) (w' : World) : Prop := ∃ v, e = .returned (.tuple #[v, .int .i64 (offE V i)]) ∧ RdI w' .i64 v (offL V i) ∧ Below w.heap.size w w'
/-- The first k of n numbers, and 0. -/
def partK (f : Nat → Int) (n k : Nat) : List Int := (List.range n).map fun j => if j < k then f j else 0
theorem partK_len (f : Nat → Int) (n k : Nat) : (partK f n k).length = n := by simp [partK]
theorem partK_set (f : Nat → Int) (n k : Nat) : (partK f n k).set k (f k) = partK f n (k + 1) := by
  apply List.ext_getElem
  · simp [partK]
  · intro i h1 h2
    simp only [partK, List.getElem_set, List.getElem_map, List.getElem_range]
    by_cases e : k = i
    · subst e; simp
    · rw [if_neg e]
      have : i < k ↔ i < k + 1 := by omega
      simp [this]
theorem partK_all (f : Nat → Int) (n : Nat) : partK f n n = (List.range n).map f := by
  apply List.ext_getElem
  · simp [partK]
  · intro i h1 h2
    have : i < n := by simpa [partK] using h1
    simp [partK, this]
theorem partK_zero (f : Nat → Int) (n : Nat) : partK f n 0 = List.replicate n 0 := by
  apply List.ext_getElem
  · simp [partK]
  · intro i h1 h2; simp [partK]
theorem made_zero (n : Nat) : madeCells #[Value.int .i64 0] n = arrI (List.replicate n 0) := by
  apply Array.ext
  · simp [madeCells, arrI]
  · intro i h1 h2; simp [madeCells, arrI, Nat.mod_one]
theorem clear_same {g n : Nat} {t : TypeId} (k : Nat) : ∀ (o : Nat) (w : World), w.heap[g]? = some (.cells (arrI (List.replicate n 0)) t (0, 0)) → (w.setCells g o (List.replicate k (.int .i64 0))).heap[g]? = some (.cells (arrI (List.replicate n 0)) t (0, 0)) := by
  induction k with
  | zero => intro o w h; exact h
  | succ k ih =>
    intro o w h
    rw [List.replicate_succ, World.setCells]
    refine ih (o + 1) _ ?_
    have := heap_setCell_same w g o _ _ (.int .i64 0) h
    rw [arrI_set, List.set_replicate_self] at this
    exact this
theorem OkV.erase {V : List (Int × Int)} (h : OkV V) (i : Nat) : OkV (V.eraseIdx i) := fun v hv => h v (List.mem_of_mem_eraseIdx hv)

theorem prod_bd : ∀ V : List (Int × Int), OkV V → ∃ d : Int, 1 ≤ d ∧ d ≤ 200 ^ V.length ∧ ∀ x ∈ V, x.1 ∣ d
  | [], _ => ⟨1, by omega, by simp, by simp⟩
  | x :: V, h => by
    obtain ⟨d, h1, h2, h3⟩ := prod_bd V (fun y hy => h y (by simp [hy]))
    have hx := h x (by simp)
    refine ⟨d * x.1, ?_, ?_, fun y hy => ?_⟩
    · have := Int.mul_le_mul_of_nonneg_left hx.1 (show 0 ≤ d by omega)
      omega
    · rw [List.length_cons, Int.pow_succ]
      have k1 : d * x.1 ≤ d * 200 := Int.mul_le_mul_of_nonneg_left hx.2.1 (by omega)
      have k2 : d * 200 ≤ 200 ^ V.length * 200 := Int.mul_le_mul_of_nonneg_right h2 (by omega)
      omega
    · rcases List.mem_cons.1 hy with rfl | hy
      · exact Int.dvd_mul_left _ _
      · exact Int.dvd_mul_of_dvd_left (h3 y hy)
theorem Joined.le {V : List (Int × Int)} {t p : Int} (h : Joined V t p) (hV : OkV V) (hl : V.length ≤ 5) : p ≤ 320000000000 := by
  obtain ⟨d, h1, h2, h3⟩ := prod_bd V hV
  have := Int.le_of_dvd (by omega) ((h.per d).2 h3)
  have := pow200 _ hl
  omega

set_option maxRecDepth 100000 in
set_option maxHeartbeats 2000000 in
theorem offsets_any (x : Value) (V : List (Int × Int)) (i : Int) (w : World) (hx0 : RdP w x V) (hl : V.length ≤ 1000) :
    Calls Try.prog 41 #[x, .int .i64 i] w (OffOk V i w) := by
  obtain ⟨a, ca, rfl, hca, hca2, hx⟩ := hx0.form
  clear hca2
  unfold OffOk
  by_cases hc : checkP V = 0
  · have e1 : offE V i = if outB 0 ((V.length : Int) - 1) i then 2 else 0 := by unfold offE; rw [if_neg (by simpa using hc)]
    have e2 : offL V i = if outB 0 ((V.length : Int) - 1) i then [] else if jO (V.eraseIdx i.toNat) then (List.range (offN V i.toNat)).map (offAt V i.toNat) else [] := by unfold offL; rw [if_neg (by simpa using hc)]
    rw [e1, e2]; clear e1 e2
    have hV := okPins_of hc
    have h1 := hV.l1; have h5 := hV.l5
    have HC := Lib.hid hc; clear hc
    cases ho : [i].any (outB 0 ((V.length : Int) - 1))
    · have hb : 0 ≤ i ∧ i < V.length := by simp [outB] at ho; omega
      have ho2 : outB 0 ((V.length : Int) - 1) i = false := by simpa using ho
      rw [ho2]
      simp only [Bool.false_eq_true, if_false]
      have HH := Lib.hid ho; clear ho ho2
      obtain ⟨n, rfl⟩ := Int.eq_ofNat_of_zero_le hb.1
      have hn : n < V.length := by omega
      rw [Int.toNat_natCast]
      clear hb
      have hE := hV.v.erase n
      have hel : (V.eraseIdx n).length ≤ 5 := by have := List.length_eraseIdx_le V n; omega
      have HJT := Lib.hid (fun h => j_true hE h)
      have HJ := Lib.hid (fun b w' hD => join_any b (V.eraseIdx n) w' hD hE hel)
      have HND := Lib.hid (fun y w' hy => newdrum_any y (V.eraseIdx n) w' hy hE hel)
      have hp := hV.v.at hn
      have hat : ∀ k, offAt V n k = jA (V.eraseIdx n) % offApart V n + (k : Int) * offApart V n := fun k => rfl
      have hnn : offN V n = ((pin V n).1 / offApart V n).toNat := rfl
      have hap : offApart V n = gcdI (jB (V.eraseIdx n)) (pin V n).1 := rfl
      obtain ⟨OL, hOL⟩ : ∃ OL : Bool → List Int, (fun o => if o then (List.range (offN V n)).map (offAt V n) else []) = OL := ⟨_, rfl⟩
      have hol : (if jO (V.eraseIdx n) = true then (List.range (offN V n)).map (offAt V n) else []) = OL (jO (V.eraseIdx n)) := by rw [← hOL]
      rw [hol]
      have HOF : Hid (OL false = []) := Lib.hid (by rw [← hOL]; rfl)
      have HOT : Hid (OL true = (List.range (offN V n)).map (offAt V n)) := Lib.hid (by rw [← hOL]; rfl)
      clear hol hOL
      have HAT := Lib.hid hat; have HNN := Lib.hid hnn; have HAP := Lib.hid hap
      clear hat hnn hap
      generalize jO (V.eraseIdx n) = o at *
      generalize jA (V.eraseIdx n) = A at *
      generalize jB (V.eraseIdx n) = B at *
      go_enter Try.func41, Try.ntmps41
      go_wp2_with fail
      refine (checkpins_any _ V _ hx0 hl).mono ?_
      rintro e w2 ⟨rfl, hB2⟩
      rw [HC.out]
      have HB2 := Lib.hid hB2; clear hB2
      go_wp2_with fail
      refine (within_any _ [(n : Int)] _ _ _ (slice_one _ _ _) (by simp)).mono ?_
      rintro e w3 ⟨rfl, hB3⟩
      rw [HH.out]
      have HB3 := Lib.hid (btr (bal (bz w2) _) hB3); clear hB3
      have hx3 := hx0.mono (btr HB2.out HB3.out)
      go_wp2_with fail
      refine (clone_any _ V _ hx3 (by omega) (by omega)).mono ?_
      rintro e w4 ⟨g, c, rfl, hown, hB4⟩
      have HB4 := Lib.hid hB4; have HOWN := Lib.hid hown; clear hB4 hown hx3
      go_wp2_with fail
      refine (delete_any g c w3.heap.size V n _ HOWN.out hn h5).mono ?_
      rintro e w5 ⟨v, rfl, hv, hB5⟩
      have HB5 := Lib.hid (hB5 w3 (Nat.le_refl _) HB4.out); have HV5 := Lib.hid hv; clear hB5 hv
      go_wp2_with fail
      refine (HND.out v _ HV5.out).mono ?_
      rintro e w6 ⟨b, rfl, hb6, hD6, hB6⟩
      have HB6 := Lib.hid hB6; have HD6 := Lib.hid hD6; clear hB6 hb6 hD6
      go_wp2_with fail
      refine (HJ.out b _ HD6.out).mono ?_
      rintro e w7 ⟨rfl, hB7⟩
      have HB7 := Lib.hid (btr HB2.out (btr HB3.out (btr HB5.out (btr HB6.out hB7)))); clear hB7
      cases o
      · go_wp2_with fail
        go_ret2
        exact ⟨_, rfl, by rw [HOF.out]; exact rdI_nil _ _, HB7.out⟩
      · have hJ := HJT.out rfl
        have a0 := hJ.t0; have a1 := hJ.tp
        obtain ⟨p1, p2, p3, p4⟩ := hp
        have hB200 : B ≤ 320000000000 := hJ.le hE hel
        obtain ⟨bx, ox, rfl, hbx, hcx⟩ := hx (by omega)
        have gx := (HB7.out.cell (p := ⟨bx, ox + n * 2, none⟩) hbx).trans (hcx n hn).1
        change w7.cell? _ = some (Value.int .i64 (pin V n).1) at gx
        have hz7 : bx < w7.heap.size := Nat.lt_of_lt_of_le hbx HB7.out.size
        clear hx hcx hJ
        generalize (pin V n).1 = P at *
        have g1 := gcdI_pos B P (by omega)
        have g2 := Int.le_of_dvd (by omega) (gcdI_dvd_right B P)
        have hCM := fun w' => common_i B P w' (by omega) (by omega) (by omega) (by omega)
        generalize hap : offApart V n = ap at *
        rw [← HAP.out] at hCM g1 g2
        have HCM := Lib.hid hCM; clear hCM hap
        obtain ⟨m, hm⟩ : ∃ m : Nat, P / ap = (m : Int) := Int.eq_ofNat_of_zero_le (Int.ediv_nonneg (by omega) (by omega))
        have hm1 : 1 ≤ m := by
          have hd : ap ∣ P := by rw [HAP.out]; exact gcdI_dvd_right B P
          have : 0 < P / ap := Int.ediv_pos_of_pos_of_dvd (by omega) (by omega) hd
          omega
        have hm2 : m ≤ 200 := by
          have : P / ap ≤ P := Int.ediv_le_self _ (by omega)
          omega
        have hmk : ∀ w' : World, (Instr.makeSlice 45 (.int .i64 (m : Int)) (.int .i64 (m : Int))).run Try.prog w' = .ok (.slice (some ⟨w'.heap.size, 0, none⟩) m m) (w'.alloc (.cells (arrI (List.replicate m 0)) 2)) := by
          intro w'
          rw [← made_zero]
          exact run_make_row' 45 2 (.int .i64 0) 8 Try.underlying45 num2 rfl .i64 .i64 m (by omega) (by omega) w'
        have hh0 := heap_alloc_new w7 (.cells (arrI (List.replicate m 0)) 2)
        have hcl : ∀ ty, (Builtin.clear_ #[45] ty #[.slice (some ⟨w7.heap.size, 0, none⟩) m m]).run Try.prog (w7.alloc (.cells (arrI (List.replicate m 0)) 2)) = .ok (.tuple #[]) ((w7.alloc (.cells (arrI (List.replicate m 0)) 2)).setCells w7.heap.size 0 (List.replicate m (.int .i64 0))) := by
          intro ty
          refine Lib.run_clear_slice _ 45 2 ty (.int .i64 0) Try.underlying45 (fun w => by kernel_rfl) rfl rfl w7.heap.size 0 m m (by omega) (fun j hj => ?_) (fun j hj => frozen_of_row _ _ _ _ _ hh0)
          rw [cell_of_row _ _ _ _ _ _ hh0, Nat.zero_add, arrI_get _ _ (by simpa using hj)]; rfl
        have hB8 : Below w7.heap.size w7 ((w7.alloc (.cells (arrI (List.replicate m 0)) 2)).setCells w7.heap.size 0 (List.replicate m (.int .i64 0))) := bsetsL (Nat.le_refl _) _ _ _ (bal (bz _) _)
        have hr8 : ((w7.alloc (.cells (arrI (List.replicate m 0)) 2)).setCells w7.heap.size 0 (List.replicate m (.int .i64 0))).heap[w7.heap.size]? = some (.cells (arrI (partK (offAt V n) m 0)) 2 (0, 0)) := by
          rw [partK_zero]; exact clear_same m 0 _ hh0
        have HB8 := Lib.hid hB8; have HR8 := Lib.hid hr8
        clear hh0 hB8 hr8
        go_wp2_with fail
        refine (HCM.out _).mono ?_
        rintro e w8 ⟨rfl, rfl⟩
        go_wp2_with fail
        clear hmk hcl gx
        generalize ((w7.alloc (.cells (arrI (List.replicate m 0)) 2)).setCells w7.heap.size 0 (List.replicate m (.int .i64 0))) = w8 at *
        have HM := Lib.hid hm; clear hm
        have HBW8 := Lib.hid (btr HB7.out HB8.out)
        have hle7 := HB7.out.size
        generalize hg7 : w7.heap.size = g7 at *
        clear hg7
        go_loopw [13, 57] (fun _ s57 wr => ∃ k : Nat, k ≤ m ∧ s57 = .int .i64 k ∧ wr.heap[g7]? = some (.cells (arrI (partK (offAt V n) m k)) 2 (0, 0)) ∧ (∀ a : World, a.heap.size ≤ g7 → Below a.heap.size a w8 → Below a.heap.size a wr)) (fun _ s57 _ => m - (intOf s57).toNat)
        case atStart => exact ⟨0, Nat.zero_le _, rfl, HR8.out, fun _ _ h => h⟩
        case round =>
          obtain ⟨k, hk, rfl, hr, hBr⟩ := hrel
          have HBR := Lib.hid hBr; clear hBr
          by_cases hlt : k < m
          · have hgz := (Array.getElem?_eq_some_iff.1 hr).1
            have hpl := partK_len (offAt V n) m k
            have ck := (cell_of_row wr g7 k _ _ _ hr).trans (arrI_get _ k (by rw [hpl]; exact hlt))
            have fk := frozen_of_row wr g7 k _ _ hr
            have hfz : ∃ z, (partK (offAt V n) m k)[k]?.getD 0 = z := ⟨_, rfl⟩
            obtain ⟨z, hz⟩ := hfz
            rw [hz] at ck
            have hval := HAT.out k
            have q0 := Int.emod_nonneg A (b := ap) (by omega)
            have q1 := Int.emod_lt_of_pos A (b := ap) (by omega)
            obtain ⟨t1, t2⟩ := mul_bd (k : Int) ap 200 200 (by omega) (by omega) (by omega) (by omega)
            have w1 : IntKind.i64.wrap ((k : Int) * ap) = (k : Int) * ap := IntWalk.i64_in _ (by omega)
            have w2' : IntKind.i64.wrap (A % ap + (k : Int) * ap) = A % ap + (k : Int) * ap := IntWalk.i64_in _ (by omega)
            have HR := Lib.hid hr; have HVAL := Lib.hid hval
            clear hr hval hpl hz
            go_wp2_with fail
            go_roundw
            case rel =>
              have hx1 := heap_setCell_same wr g7 k _ _ (.int .i64 (offAt V n k)) HR.out
              rw [arrI_set, partK_set, HVAL.out] at hx1
              exact ⟨k + 1, by omega, by go_num, hx1, fun a ha hb => bset (HBR.out a ha hb) ha _⟩
            case measure => simp [intOf]; omega
          · have hkm : k = m := by omega
            rw [hkm, partK_all] at hr
            have HR := Lib.hid hr; clear hr hkm
            go_wp2_with fail
            go_ret2
            refine ⟨.slice (some ⟨g7, 0, none⟩) m m, rfl, ?_, ?_⟩
            · have hn1 : offN V n = m := by rw [HNN.out, HM.out]; rfl
              rw [HOT.out, hn1]
              refine ⟨some ⟨g7, 0, none⟩, m, by simp, by simp, by unfold maxLen; omega, fun _ => ⟨g7, 0, rfl, (Array.getElem?_eq_some_iff.1 HR.out).1, fun j u hu => ?_⟩⟩
              rw [cell_of_row _ _ _ _ _ _ HR.out, Nat.zero_add]
              simpa [arrI] using hu
            · exact HBR.out w hle7 HBW8.out
    · have ho2 : outB 0 ((V.length : Int) - 1) i = true := by simpa using ho
      rw [ho2]
      simp only [if_true]
      have HH := Lib.hid ho; clear ho ho2
      go_enter Try.func41, Try.ntmps41
      go_wp2_with fail
      refine (checkpins_any _ V _ hx0 hl).mono ?_
      rintro e w2 ⟨rfl, hB2⟩
      rw [HC.out]
      go_wp2_with fail
      refine (within_any _ [i] _ _ _ (slice_one _ _ _) (by simp)).mono ?_
      rintro e w3 ⟨rfl, hB3⟩
      rw [HH.out]
      go_wp2_with fail
      go_ret2
      exact ⟨_, rfl, rdI_nil _ _, btr (bal hB2 _) hB3⟩
  · have e1 : offE V i = checkP V := by unfold offE; rw [if_pos (by simpa using hc)]
    have e2 : offL V i = [] := by unfold offL; rw [if_pos (by simpa using hc)]
    rw [e1, e2]; clear e1 e2
    have HP := Lib.hid (checkpins_any _ V w hx0 hl)
    have hcb : (checkP V != 0) = true := by simpa using hc
    have hce : (checkP V == 0) = false := by simpa using hc
    clear hc
    generalize checkP V = q at *
    go_enter Try.func41, Try.ntmps41
    go_wp2_with fail
    refine HP.out.mono ?_
    rintro e w2 ⟨rfl, hB2⟩
    go_wp2_with fail
    go_ret2
    exact ⟨_, rfl, rdI_nil _ _, hB2⟩
end Go.Proofs.Ytooddicegkiiiaa

namespace Go.Proofs.Ytooddicegkiiiaa
open Go.RowKit Go.Shelf

/-- An assertion that abides new blocks, draws, and the turn of a block of R. -/
def AbR (R : Nat → Prop) (I : World → Prop) : Prop := ∀ W W' row, I W → W.grownBy W' row → (∀ r, row = some r → R r) → I W'
theorem AbR.and {R : Nat → Prop} {I J : World → Prop} (h : AbR R I) (k : AbR R J) : AbR R (fun W => I W ∧ J W) := fun W W' row ⟨h1, h2⟩ hg hr => ⟨h W W' row h1 hg hr, k W W' row h2 hg hr⟩
theorem abR_pure {R : Nat → Prop} {q : Prop} : AbR R (fun _ => q) := fun _ _ _ h _ _ => h
theorem abR_heap {R : Nat → Prop} {j : Nat} {o : Obj} (h1 : ¬ R j) : AbR R (fun W => W.heap[j]? = some o) :=
  fun _ _ _ h hg hr => (hg.block j (Array.getElem?_eq_some_iff.1 h).1 (fun e => h1 (hr _ e.symm))).trans h
theorem abR_below {R : Nat → Prop} {a : World} (h1 : ∀ r, R r → a.heap.size ≤ r) : AbR R (fun W => Below a.heap.size a W) :=
  fun _ _ _ h hg hr => bgr h hg (fun k e => h1 k (hr k e))

/-- The iterator's contract, for a loop that is left in its first round: it yields x, if o; then it is told to stop. -/
def YieldsO {α : Type} (n : Nat) (P : Program) (g : Nat) (lb : Array Value) (encs : α → Array Value) (R : Nat → Prop) (o : Bool) (x : α) (W : World) : Prop :=
  ∀ (l : Nat) (J Jx : World → Prop), AbR R J → AbR R Jx →
    (o = true → ∀ W1, J W1 → W.heap.size ≤ W1.heap.size → YieldAt Fence.wide (n - 1) P l (encs x) W1 fun e W' => e = .returned (.bool false) ∧ Jx W') → J W →
    CallsIn Fence.wide n P g (#[.func (.yield l) #[] #[]] ++ lb) W fun e W' => (∃ v, e = .returned v) ∧ ((o = false ∧ J W') ∨ (o = true ∧ Jx W'))

/-- How the round may end. -/
def roundEndO (lo : Nat) (Ix : Code → World → Prop) (W : World) : Exit → Act → World → Prop
  | .ret, _, W' => KF lo W W' ∧ Ix .ret W'
  | .exit id, _, W' => KF lo W W' ∧ Ix (.exit id) W'
  | .goto t, _, W' => KF lo W W' ∧ Ix (.goto t) W'
  | _, _, _ => False

/-- The statement 'for x := range g', left in its first round. -/
theorem range_once {P : Program} {n : Nat} {α : Type} {g : Operand} {ps : Array Tmp} {assign body : Code} {Q : Exit → Act → World → Prop} {a : Act} {w : World}
    {gf : Nat} {lb : Array Value} (hg : a.eval g = .func (.func gf) #[] lb) (eg : ∀ args w, (callFunc gf args).run P w = .ok (.enter gf args) w)
    {encs : α → Array Value} {R : Nat → Prop} {o : Bool} {x : α} (hR : ∀ r, R r → r < w.heap.size) (hseq : ∀ V, Below w.heap.size w V → YieldsO (n - 1) P gf lb encs R o x V) (hps : (encs x).size = ps.size)
    (I : World → Prop) (Ix : Code → World → Prop) (hI : AbR (fun r => R r ∨ (w.heap.size ≤ r ∧ r < w.heap.size + 2)) I) (hIx : ∀ c, AbR (fun r => R r ∨ (w.heap.size ≤ r ∧ r < w.heap.size + 2)) (Ix c)) (h0 : I w)
    (hround : o = true → ∀ (l : Nat) (W : World), I W → w.heap.size + 2 ≤ W.heap.size →
      assign.wpIn (Fence.wide.inRound l) (n - 1 - 1) P (Exit.then (fun a₁ W₁ => KF w.heap.size W W₁ ∧ ∀ W₂, W₁.grownBy W₂ (some (w.heap.size + 1)) → W₂.heap.size = W₁.heap.size →
          body.wpIn (Fence.wide.inRound l) (n - 1 - 1) P (roundEndO w.heap.size Ix W₂) a₁ W₂) (fun _ _ _ => False))
        { tmps := (ps.zip (encs x)).foldl (fun t (p, v) => t.setIfInBounds p v) a.tmps, defers := [] } W)
    (hdone : o = false → ∀ (W : World), I W → W.heap[w.heap.size]? = some (.deferred (some [])) → Q .normal { a with defers := { target := .collected w.heap.size, args := #[] } :: a.defers } W)
    (hstop : o = true → ∀ (c : Code) (W : World), Ix c W → W.heap[w.heap.size]? = some (.deferred (some [])) → c.wpIn Fence.wide n P Q { a with defers := { target := .collected w.heap.size, args := #[] } :: a.defers } W) :
    (Code.rangeFunc g ps assign body).wpIn Fence.wide n P Q a w := by
  refine wpIn_rangeFunc ?_
  intro fn hfn
  let rec0 : LoopState → Option Code → Loop := fun st pe => { state := st, pending := pe, fn, tmps := a.tmps, params := ps, assign, body, defers := w.heap.size }
  obtain ⟨V, hV⟩ : ∃ V, (w.alloc (.deferred (some []))).alloc (.loop (rec0 .ready none)) = V := ⟨_, rfl⟩
  have hVs : V.heap.size = w.heap.size + 2 := by rw [← hV]; simp
  have hVl : V.heap[w.heap.size + 1]? = some (.loop (rec0 .ready none)) := by rw [← hV]; exact heap_alloc2_new _ _ _
  have hVd : V.heap[w.heap.size]? = some (.deferred (some [])) := by rw [← hV]; exact heap_alloc2_old _ _ _
  have hVB : Below w.heap.size w V := by rw [← hV]; exact bal (bal (bz _) _) _
  have hVI : I V := by
    rw [← hV]
    exact hI _ _ none (hI _ _ none h0 (World.grownBy_alloc _ _ none) (fun r e => by cases e)) (World.grownBy_alloc _ _ none) (fun r e => by cases e)
  have keep : ∀ {X Y : World} {row : Option Nat} {j : Nat} {o : Obj}, X.heap[j]? = some o → w.heap.size ≤ j → X.grownBy Y row → (∀ r, row = some r → R r) → Y.heap[j]? = some o := by
    intro X Y row j o hx hj hgr hr
    rw [hgr.block j (Array.getElem?_eq_some_iff.1 hx).1 (fun e => by have := hR j (hr j e.symm); omega)]
    exact hx
  have turn : ∀ {X : World} {o : Obj} {J : World → Prop}, AbR (fun r => R r ∨ (w.heap.size ≤ r ∧ r < w.heap.size + 2)) J → J X → J (X.putObj (w.heap.size + 1) o) :=
    fun h hx => h _ _ (some (w.heap.size + 1)) hx (grownBy_putObj' _ _ _) (fun r e => by cases e; exact .inr ⟨by omega, by omega⟩)
  refine ⟨w.heap.size + 1, [{ target := .collected w.heap.size, args := #[] }], V, { target := .fn (.func gf) lb, args := #[.func (.yield (w.heap.size + 1)) #[] #[]] }, V, gf,
    #[.func (.yield (w.heap.size + 1)) #[] #[]] ++ lb, V, ?_, ?_, fun _ _ => trivial, ?_, fun h => by simp [Fence.wide] at h, ?_⟩
  · rw [← hV]; exact run_enterLoop_outer _ _ _ _ _
  · simp only [resolve, hg]
    simp [go_sem]
  · simp [invoke, go_sem, eg]
  refine (hseq V hVB (w.heap.size + 1)
    (fun X => I X ∧ X.heap[w.heap.size + 1]? = some (.loop (rec0 .ready none)) ∧ X.heap[w.heap.size]? = some (.deferred (some [])))
    (fun X => ∃ c, Ix c X ∧ X.heap[w.heap.size + 1]? = some (.loop (rec0 .done (some c))) ∧ X.heap[w.heap.size]? = some (.deferred (some [])))
    (fun X Y row h hgr hr => ⟨hI X Y row h.1 hgr (fun r e => .inl (hr r e)), keep h.2.1 (by omega) hgr hr, keep h.2.2 (by omega) hgr hr⟩)
    (fun X Y row h hgr hr => by
      obtain ⟨c, h1, h2, h3⟩ := h
      exact ⟨c, hIx c X Y row h1 hgr (fun r e => .inl (hr r e)), keep h2 (by omega) hgr hr, keep h3 (by omega) hgr hr⟩)
    ?_ ⟨hVI, hVl, hVd⟩).mono ?_
  · rintro ho X ⟨hi, hl, hd⟩ hsz
    have hlt : w.heap.size + 1 < X.heap.size := (Array.getElem?_eq_some_iff.1 hl).1
    refine ⟨fn, _, assign, body, run_yield (args := encs x) hl hps, roundIn_of_wpIn trivial (wpIn_mono (hround ho (w.heap.size + 1) X hi (by omega)) ?_)⟩
    rintro e a1 X1 hp
    cases e with
    | normal =>
      obtain ⟨hk1, hbody⟩ := hp
      have hl1 := (hk1.same _ (by omega) hlt).trans hl
      have hd1 := (hk1.same _ (by omega) (by omega)).trans hd
      refine ⟨_, run_beginRound hl1 rfl, wpIn_mono (hbody _ (grownBy_putObj' _ _ _) (by simp)) ?_⟩
      have hlt1 : w.heap.size + 1 < X1.heap.size := (Array.getElem?_eq_some_iff.1 hl1).1
      have fin : ∀ (jump : Code) (X3 : World), KF w.heap.size (X1.putObj (w.heap.size + 1) (.loop { rec0 .ready none with state := .busy })) X3 →
          (Instr.endRound (w.heap.size + 1) (some jump)).run P X3 = .ok (.bool false) (X3.putObj (w.heap.size + 1) (.loop (rec0 .done (some jump)))) ∧
          (X3.putObj (w.heap.size + 1) (.loop (rec0 .done (some jump)))).heap[w.heap.size + 1]? = some (.loop (rec0 .done (some jump))) ∧
          (X3.putObj (w.heap.size + 1) (.loop (rec0 .done (some jump)))).heap[w.heap.size]? = some (.deferred (some [])) := by
        intro jump X3 hk3
        have hl3 : X3.heap[w.heap.size + 1]? = some (.loop { rec0 .ready none with state := .busy }) := (hk3.same _ (by omega) (by simp; omega)).trans (World.putObj_heap_same hlt1)
        have hd3 : X3.heap[w.heap.size]? = some (.deferred (some [])) := (hk3.same _ (by omega) (by simp; omega)).trans ((World.putObj_heap_other (by omega)).trans hd1)
        exact ⟨run_endRound (some jump) hl3, World.putObj_heap_same (Array.getElem?_eq_some_iff.1 hl3).1, (World.putObj_heap_other (by omega)).trans hd3⟩
      rintro e2 a3 X3 hp2
      cases e2 with
      | normal => exact hp2.elim
      | ret =>
        obtain ⟨hk3, hi3⟩ := hp2
        obtain ⟨f1, f2, f3⟩ := fin .ret X3 hk3
        exact ⟨_, _, f1, rfl, _, turn (hIx _) hi3, f2, f3⟩
      | exit id =>
        obtain ⟨hk3, hi3⟩ := hp2
        obtain ⟨f1, f2, f3⟩ := fin (.exit id) X3 hk3
        exact ⟨_, _, f1, rfl, _, turn (hIx _) hi3, f2, f3⟩
      | goto t =>
        obtain ⟨hk3, hi3⟩ := hp2
        obtain ⟨f1, f2, f3⟩ := fin (.goto t) X3 hk3
        exact ⟨_, _, f1, rfl, _, turn (hIx _) hi3, f2, f3⟩
      | panic ch => exact hp2.elim
      | outgrown => exact hp2.elim
    | ret => exact hp.elim
    | exit id => exact hp.elim
    | goto t => exact hp.elim
    | panic ch => exact hp.elim
    | outgrown => exact hp.elim
  · rintro e X ⟨⟨v, rfl⟩, ⟨ho, hi, hl, hd⟩ | ⟨ho, c, hi, hl, hd⟩⟩
    · exact ⟨none, _, run_endLoop hl (by simp [rec0]), hdone ho _ (turn hI hi) ((World.putObj_heap_other (by omega)).trans hd)⟩
    · exact ⟨some c, _, run_endLoop hl (by simp [rec0]), hstop ho c _ (turn (hIx _) hi) ((World.putObj_heap_other (by omega)).trans hd)⟩
end Go.Proofs.Ytooddicegkiiiaa

namespace Go.Proofs.Ytooddicegkiiiaa
open Go.RowKit Go.Shelf
attribute [local go_sem] Oper.semAt_some

/-- The first one from f on. -/
def nextF (A B f : Int) : Int := if A < f then A + (f - A + B - 1) / B * B else A
set_option maxRecDepth 100000 in
set_option maxHeartbeats 1000000 in
theorem times_yields (n : Nat) (pk pf pa pb : Nat) (o : Bool) (A B f : Int) (W : World) (ck : W.cell? ⟨pk, 0, none⟩ = some (.bool o)) (cf : W.cell? ⟨pf, 0, none⟩ = some (.int .i64 f)) (ca : W.cell? ⟨pa, 0, none⟩ = some (.int .i64 A)) (cb : W.cell? ⟨pb, 0, none⟩ = some (.int .i64 B))
    (fa : W.frozen? ⟨pa, 0, none⟩ = false) (hA : o = true → 0 ≤ A ∧ A < B) (hB : B ≤ 320000000000) (hf : 0 ≤ f) (hf2 : f ≤ 1000000000000) :
    YieldsO n Try.prog 79 #[.pointer (some ⟨pk, 0, none⟩), .pointer (some ⟨pf, 0, none⟩), .pointer (some ⟨pa, 0, none⟩), .pointer (some ⟨pb, 0, none⟩)] (fun t => #[.int .i64 t]) (fun r => r = pa) o (nextF A B f) W := by
  intro l J Jx hJ hJx hY h0
  refine callsIn_of_wp Try.func79 rfl trivial ?_ rfl
  simp only [Try.ntmps79, List.size_toArray, List.length_cons, List.length_nil, Nat.reduceAdd, Nat.reduceSub, Array.replicate_succ, Array.replicate_zero, List.push_toArray, List.append_toArray, List.nil_append, List.cons_append]
  have zk := World.block_lt_of_cell? W _ ck
  have zf := World.block_lt_of_cell? W _ cf
  have za := World.block_lt_of_cell? W _ ca
  have zb := World.block_lt_of_cell? W _ cb
  simp only at zk zf za zb
  cases o
  · gi_wp2
    refine bodyPost_ret (results_none rfl _ _ _) rfl ?_
    exact ⟨⟨_, rfl⟩, h0⟩
  · obtain ⟨a0, a1⟩ := hA rfl
    replace hY := hY rfl
    by_cases hlt : A < f
    · have hnf : nextF A B f = A + (f - A + B - 1) / B * B := by unfold nextF; rw [if_pos hlt]
      rw [hnf] at hY
      clear hnf
      have q0 : 0 ≤ (f - A + B - 1) / B := Int.ediv_nonneg (by omega) (by omega)
      have q1 : (f - A + B - 1) / B ≤ f - A + B - 1 := Int.ediv_le_self _ (by omega)
      have q2 : 0 ≤ (f - A + B - 1) / B * B := Int.mul_nonneg q0 (by omega)
      have q3 : (f - A + B - 1) / B * B ≤ f - A + B - 1 := Int.ediv_mul_le _ (by omega)
      have w1 : IntKind.i64.wrap (f - A) = f - A := IntWalk.i64_in _ (by omega)
      have w2 : IntKind.i64.wrap (f - A + B) = f - A + B := IntWalk.i64_in _ (by omega)
      have w3 : IntKind.i64.wrap (f - A + B - 1) = f - A + B - 1 := IntWalk.i64_in _ (by omega)
      have w4 : IntKind.i64.wrap ((f - A + B - 1).tdiv B) = (f - A + B - 1) / B := by rw [Int.tdiv_eq_ediv_of_nonneg (by omega)]; exact IntWalk.i64_in _ (by omega)
      have w5 : IntKind.i64.wrap ((f - A + B - 1) / B * B) = (f - A + B - 1) / B * B := IntWalk.i64_in _ (by omega)
      have w6 : IntKind.i64.wrap (A + (f - A + B - 1) / B * B) = A + (f - A + B - 1) / B * B := IntWalk.i64_in _ (by omega)
      generalize hq : (f - A + B - 1) / B * B = q at *
      have hbb : ((B : Int) == 0) = false := by rw [beq_eq_false_iff_ne]; omega
      gi_wp2_with fail
      refine in_region_flow (r := none) [] [([0, 1, 2, 3, 4, 5, 6, 7, 8, 9, 10, 11], 12, false)] [] (by kernel_rfl) (by kernel_rfl) (by rfl) ?_
      intro wc hBc hh
      have d1 := (hBc.cell zf).trans cf
      have d2 := (hBc.cell za).trans ca
      have d3 := (hBc.cell zb).trans cb
      have d4 := (hBc.frozen za).trans fa
      have y1 : pf < wc.heap.size := Nat.lt_of_lt_of_le zf hBc.size
      have y2 : pa < wc.heap.size := Nat.lt_of_lt_of_le za hBc.size
      have y3 : pb < wc.heap.size := Nat.lt_of_lt_of_le zb hBc.size
      have hL := @Later.cell wc
      have HBc := Lib.hid hBc; have HH := Lib.hid hh
      clear hh hBc ck cf ca cb fa
      simp only [flowP, flow, pickL, List.getElem?_cons_succ, List.getElem?_cons_zero]
      refine wpQuiet_nil ?_
      repeat (go_big_quiet_step (fail))
      refine wpQuiet_nil ?_
      go_wp2
      refine seg_write ?_
      refine wpQuiet_nil ?_
      refine only_done ?_
      have hJ2 : J (wc.setCell ⟨pa, 0, none⟩ (.int .i64 (A + q))) := by
        refine hJ _ _ (some pa) (hJ _ _ none h0 (grown_of HBc.out) (fun r e => by cases e)) (grownBy_set wc _ _) (fun r e => by cases e; rfl)
      have hz2 : W.heap.size ≤ (wc.setCell ⟨pa, 0, none⟩ (.int .i64 (A + q))).heap.size := by simp; exact HBc.out.size
      have c2 : (wc.setCell ⟨pa, 0, none⟩ (.int .i64 (A + q))).cell? ⟨pa, 0, none⟩ = some (.int .i64 (A + q)) := World.cell?_setCell_same' _ _ _ (by rw [d2]; rfl)
      obtain ⟨fn, tmps, assign, body, hy, hR2⟩ := hY _ hJ2 hz2
      have HR2 := Lib.hid hR2
      clear hR2 hJ2 hz2 d1 d2 d3 d4 w1 w2 w3 w4 w5 w6
      generalize (wc.setCell ⟨pa, 0, none⟩ (.int .i64 (A + q))) = w5 at *
      gi_wp2_with fail
      refine wpIn_loop_rounds 1 ?_
      rw [roundsIn_succ]
      gi_wp2_with fail
      refine ⟨fun h => by simp [Fence.wide] at h, ?_⟩
      refine HR2.out.mono ?_
      rintro e W3 ⟨rfl, hJx3⟩
      gi_wp2
      exact bodyPost_end (results_none rfl _ _ _) rfl ⟨⟨_, rfl⟩, hJx3⟩
    · have hnf : nextF A B f = A := by unfold nextF; rw [if_neg hlt]
      rw [hnf] at hY
      clear hnf
      obtain ⟨fn, tmps, assign, body, hy, hR2⟩ := hY W h0 (Nat.le_refl _)
      gi_wp2_with fail
      refine wpIn_loop_rounds 1 ?_
      rw [roundsIn_succ]
      gi_wp2_with fail
      refine ⟨fun h => by simp [Fence.wide] at h, ?_⟩
      refine hR2.mono ?_
      rintro e W3 ⟨rfl, hJx3⟩
      gi_wp2
      exact bodyPost_end (results_none rfl _ _ _) rfl ⟨⟨_, rfl⟩, hJx3⟩
end Go.Proofs.Ytooddicegkiiiaa

namespace Go.Proofs.Ytooddicegkiiiaa
open Go.RowKit Go.Shelf
attribute [local go_sem] Oper.semAt_some

/-- The cells that the iterator has captured. -/
structure Cap (W : World) (pk pf pa pb : Nat) (o : Bool) (A B f : Int) : Prop where
  k : W.cell? ⟨pk, 0, none⟩ = some (.bool o)
  f : W.cell? ⟨pf, 0, none⟩ = some (.int .i64 f)
  a : W.cell? ⟨pa, 0, none⟩ = some (.int .i64 A)
  b : W.cell? ⟨pb, 0, none⟩ = some (.int .i64 B)
  fa : W.frozen? ⟨pa, 0, none⟩ = false
theorem Cap.mono {W W' : World} {pk pf pa pb : Nat} {o : Bool} {A B f : Int} (h : Cap W pk pf pa pb o A B f) (hb : Below W.heap.size W W') : Cap W' pk pf pa pb o A B f :=
  ⟨(hb.cell (World.block_lt_of_cell? W _ h.k)).trans h.k, (hb.cell (World.block_lt_of_cell? W _ h.f)).trans h.f, (hb.cell (World.block_lt_of_cell? W _ h.a)).trans h.a, (hb.cell (World.block_lt_of_cell? W _ h.b)).trans h.b, (hb.frozen (World.block_lt_of_cell? W _ h.a)).trans h.fa⟩

def TimesOk (V : List (Int × Int)) (f : Int) (w : World) (e : Ending) (w' : World) : Prop :=
  ∃ pk pf pa pb, e = .returned (.func (.func 79) #[] #[.pointer (some ⟨pk, 0, none⟩), .pointer (some ⟨pf, 0, none⟩), .pointer (some ⟨pa, 0, none⟩), .pointer (some ⟨pb, 0, none⟩)]) ∧ w.heap.size ≤ pa ∧ Cap w' pk pf pa pb (jO V) (jA V) (jB V) f ∧ Below w.heap.size w w'
set_option maxRecDepth 100000 in
set_option maxHeartbeats 1000000 in
theorem times_any (b : Nat) (V : List (Int × Int)) (f : Int) (w : World) (hD : IsDrum w b V) (hV : OkV V) (hl : V.length ≤ 5) :
    Calls Try.prog 64 #[.pointer (some ⟨b, 0, none⟩), .int .i64 f] w (TimesOk V f w) := by
  have HJ := Lib.hid (fun w' hb => join_any b V w' (hD.mono (w' := w') hb) hV hl)
  unfold TimesOk
  generalize jO V = o at *
  generalize jA V = A at *
  generalize jB V = B at *
  go_enter Try.func64, Try.ntmps64
  go_wp2_with fail
  refine (HJ.out _ (bal (bz _) _)).mono ?_
  rintro e w2 ⟨rfl, hB2⟩
  have hz := hB2.size
  rw [World.size_alloc] at hz
  have cf : w2.cell? ⟨w.heap.size, 0, none⟩ = some (.int .i64 f) := (hB2.cell (by simp)).trans (cnew rfl rfl)
  have HCF := Lib.hid cf; have HB2 := Lib.hid hB2
  clear cf hB2
  go_wp2_with fail
  go_ret
  refine ⟨_, _, _, _, rfl, ?_, ⟨cnew (by simp) rfl, cal _ (cal _ (cal _ HCF.out)), cal _ (cal _ (cnew rfl rfl)), cal _ (cnew (by simp) rfl), fal _ (fal _ (fnew rfl) (by simp)) (by simp; omega)⟩, bal (bal (bal (btr (bal (bz _) _) HB2.out) _) _) _⟩
  omega
end Go.Proofs.Ytooddicegkiiiaa

namespace Go.Proofs.Ytooddicegkiiiaa
open Go.RowKit Go.Shelf
attribute [local go_sem] Oper.semAt_some

theorem slice_one_at (w : World) (a : Int) (t : TypeId) {b : Nat} (hb : b = w.heap.size) : RdI (w.alloc (.cells #[.int .i64 a] t)) .i64 (.slice (some ⟨b, 0, none⟩) 1 1) [a] := by subst hb; exact slice_one w a t
/-- What Next returns. -/
def nxO (A B : Int) (o : Bool) (f : Int) : Int × Int := if o then (if 1000000000000 < nextF A B f then (0, 4) else (nextF A B f, 0)) else (0, 21)
def nextN (V : List (Int × Int)) (f : Int) : Int := if openE V [f] = 0 then (nxO (jA V) (jB V) (jO V) f).1 else 0
def nextE (V : List (Int × Int)) (f : Int) : Int := if openE V [f] = 0 then (nxO (jA V) (jB V) (jO V) f).2 else openE V [f]

set_option maxRecDepth 100000 in
set_option maxHeartbeats 2000000 in
theorem next_any (x : Value) (V : List (Int × Int)) (f : Int) (w : World) (hx0 : RdP w x V) (hl : V.length ≤ 1000) :
    Calls Try.prog 27 #[x, .int .i64 f] w fun e w' => e = .returned (.tuple #[.int .i64 (nextN V f), .int .i64 (nextE V f)]) ∧ Below w.heap.size w w' := by
  obtain ⟨a, ca, rfl, hca, hca2, _⟩ := hx0.form
  clear hca2
  by_cases hc : openE V [f] = 0
  · have e1 : nextN V f = (nxO (jA V) (jB V) (jO V) f).1 := by unfold nextN; rw [if_pos hc]
    have e2 : nextE V f = (nxO (jA V) (jB V) (jO V) f).2 := by unfold nextE; rw [if_pos hc]
    rw [e1, e2]; clear e1 e2
    obtain ⟨hc1, hc2⟩ := openE_zero hc
    have hV := okPins_of hc1
    have h5 := hV.l5
    have hft : 0 ≤ f ∧ f ≤ 1000000000000 := by simp [outB] at hc2; omega
    obtain ⟨f0, f1⟩ := hft
    have HO := Lib.hid (fun w' (hx : RdP w' (.slice a V.length ca) V) y hy => open_ok _ y V [f] w' hx hy (by simp) hc)
    have HT := Lib.hid (fun b w' hD => times_any b V f w' hD hV.v h5)
    have HJT := Lib.hid (fun h => (⟨(j_true hV.v h).t0, (j_true hV.v h).tp⟩ : 0 ≤ jA V ∧ jA V < jB V))
    have HJB : Hid (jB V ≤ 320000000000) := by
      cases ho : jO V with
      | true => exact Lib.hid ((j_true hV.v ho).le hV.v h5)
      | false => exact Lib.hid (by rw [(j_false hV.v ho).2.2]; omega)
    clear hc hc1 hc2
    unfold TimesOk at HT
    generalize jO V = o at *
    generalize jA V = A at *
    generalize jB V = B at *
    generalize hnx : nxO A B o f = nx at *
    have HNX := Lib.hid hnx; clear hnx
    obtain ⟨rN, rE⟩ := nx
    simp only
    refine callsIn_wide (n := 10).1 ?_
    refine callsIn_of_wp_marks Try.func27 rfl trivial ?_ rfl
    simp only [Try.ntmps27, List.size_toArray, List.length_cons, List.length_nil, Nat.reduceAdd, Nat.reduceSub, Array.replicate_succ, Array.replicate_zero, List.push_toArray, List.append_toArray, List.nil_append, List.cons_append]
    gi_wp2_with fail
    refine ⟨trivial, callsIn_wide.2 ((HO.out _ (hx0.mono (bal (bal (bal (bz _) _) _) _)) _ ?_).mono ?_)⟩
    · exact slice_one_at _ f 2 (by simp)
    rintro e w2 ⟨b, rfl, hb, hD, hB2⟩
    have HB2 := Lib.hid hB2; have HD := Lib.hid hD; clear hB2 hD
    gi_wp2_with fail
    refine ⟨trivial, callsIn_wide.2 ((HT.out b _ HD.out).mono ?_)⟩
    rintro e w4 ⟨pk, pf, pa, pb, rfl, hpa, hcap, hB4⟩
    have hz2 := HB2.out.size
    simp only [World.size_alloc] at hz2
    have r4 : w4.heap[w.heap.size]? = some (.cells #[.int .i64 0] 2 (0, 0)) :=
      (hB4.block _ (by omega)).trans ((HB2.out.block _ (by simp; omega)).trans ((Below.heap_alloc _ _ _ (by simp; omega)).trans ((Below.heap_alloc _ _ _ (by simp)).trans (heap_alloc_new _ _))))
    have r5 : w4.heap[w.heap.size + 1]? = some (.cells #[.int .i64 0] 26 (0, 0)) := by
      have h := heap_alloc_new (w.alloc (.cells #[.int .i64 0] 2)) (.cells #[.int .i64 0] 26)
      rw [World.size_alloc] at h
      exact (hB4.block _ (by omega)).trans ((HB2.out.block _ (by simp)).trans ((Below.heap_alloc _ _ _ (by simp)).trans h))
    have hBw : Below w.heap.size w w4 := btr (bal (bal (bal (bz _) _) _) _) (btr HB2.out hB4)
    have hz4 := hB4.size
    have HB4 := Lib.hid hB4; have HCAP := Lib.hid hcap; have HR4 := Lib.hid r4; have HR5 := Lib.hid r5; have HBW := Lib.hid hBw
    clear hB4 hcap r4 r5 hBw
    gi_wp2_with fail
    refine range_once (gf := 79) (lb := #[.pointer (some ⟨pk, 0, none⟩), .pointer (some ⟨pf, 0, none⟩), .pointer (some ⟨pa, 0, none⟩), .pointer (some ⟨pb, 0, none⟩)]) rfl (enters_of Try.func79 (by kernel_rfl) rfl)
      (encs := fun t => #[.int .i64 t]) (R := fun r => r = pa) (o := o) (x := nextF A B f) ?hR ?hseq rfl
      (fun W => W.heap[w.heap.size]? = some (.cells #[.int .i64 0] 2 (0, 0)) ∧ W.heap[w.heap.size + 1]? = some (.cells #[.int .i64 0] 26 (0, 0)) ∧ Below w.heap.size w W)
      (fun c W => c = .ret ∧ W.heap[w.heap.size]? = some (.cells #[.int .i64 rN] 2 (0, 0)) ∧ W.heap[w.heap.size + 1]? = some (.cells #[.int .i64 rE] 26 (0, 0)) ∧ Below w.heap.size w W)
      ?hI ?hIx ⟨HR4.out, HR5.out, HBW.out⟩ ?round ?done ?stop
    case hR => rintro r rfl; exact World.block_lt_of_cell? w4 _ HCAP.out.a
    case hseq =>
      intro V' hV'
      have hc := HCAP.out.mono hV'
      exact times_yields _ pk pf pa pb o A B f V' hc.k hc.f hc.a hc.b hc.fa HJT.out HJB.out f0 f1
    case hI => exact (abR_heap (by rintro (h | h) <;> omega)).and ((abR_heap (by rintro (h | h) <;> omega)).and (abR_below (by rintro r (h | h) <;> omega)))
    case hIx => exact fun c => abR_pure.and ((abR_heap (by rintro (h | h) <;> omega)).and ((abR_heap (by rintro (h | h) <;> omega)).and (abR_below (by rintro r (h | h) <;> omega))))
    case round =>
      rintro ho l W ⟨i4, i5, hB⟩ hszW
      subst ho
      have hnx := HNX.out
      unfold nxO at hnx
      simp only [if_true] at hnx
      generalize nextF A B f = t at *
      have HI4 := Lib.hid i4; have HI5 := Lib.hid i5; have HB := Lib.hid hB
      clear i4 i5 hB
      gi_wp2_with fail
      refine ⟨KF.refl _ _, fun W2 hg2 hs2 => ?_⟩
      have j4 : W2.heap[w.heap.size]? = some (.cells #[.int .i64 0] 2 (0, 0)) := (hg2.block _ (Array.getElem?_eq_some_iff.1 HI4.out).1 (by simp; omega)).trans HI4.out
      have j5 : W2.heap[w.heap.size + 1]? = some (.cells #[.int .i64 0] 26 (0, 0)) := (hg2.block _ (Array.getElem?_eq_some_iff.1 HI5.out).1 (by simp; omega)).trans HI5.out
      have hB2' : Below w.heap.size w W2 := bgr HB.out hg2 (by rintro k e; cases e; omega)
      have c4 : W2.cell? ⟨w.heap.size, 0, none⟩ = some (.int .i64 0) := by rw [cell_of_row W2 _ 0 _ _ _ j4]; rfl
      have c5 : W2.cell? ⟨w.heap.size + 1, 0, none⟩ = some (.int .i64 0) := by rw [cell_of_row W2 _ 0 _ _ _ j5]; rfl
      have f4 := frozen_of_row W2 w.heap.size 0 _ _ j4
      have f5 := frozen_of_row W2 (w.heap.size + 1) 0 _ _ j5
      have s4 := fun u => heap_setCell_same W2 w.heap.size 0 _ _ u j4
      have HJ5 := Lib.hid j5; have HB2' := Lib.hid hB2'; have HS4 := Lib.hid s4
      have z4 := (Array.getElem?_eq_some_iff.1 j4).1
      have z5 := (Array.getElem?_eq_some_iff.1 j5).1
      have fin : ∀ (act : Act) (u v : Int), (u, v) = (rN, rE) → roundEndO w4.heap.size (fun c W => c = .ret ∧ W.heap[w.heap.size]? = some (.cells #[.int .i64 rN] 2 (0, 0)) ∧ W.heap[w.heap.size + 1]? = some (.cells #[.int .i64 rE] 26 (0, 0)) ∧ Below w.heap.size w W) W2 .ret act ((W2.setCell ⟨w.heap.size, 0, none⟩ (.int .i64 u)).setCell ⟨w.heap.size + 1, 0, none⟩ (.int .i64 v)) := by
        intro act u v huv
        simp only [Prod.mk.injEq] at huv
        obtain ⟨rfl, rfl⟩ := huv
        refine ⟨((KF.refl _ _).set (by simp; omega) _).set (by simp; omega) _, rfl, ?_, ?_, bset (bset HB2'.out (Nat.le_refl _) _) (by simp) _⟩
        · exact (heap_setCell_other _ _ _ _ (by simp)).trans (HS4.out _)
        · exact heap_setCell_same _ _ 0 _ _ _ ((heap_setCell_other _ _ _ _ (by simp)).trans HJ5.out)
      by_cases ht : 1000000000000 < t
      · rw [if_pos ht] at hnx
        have HNX' := Lib.hid hnx; clear hnx hg2 hs2 j4 j5 hB2' s4
        have FIN := Lib.hid fin; clear fin
        gi_wp2_with fail
        exact FIN.out _ _ _ HNX'.out
      · rw [if_neg ht] at hnx
        have HNX' := Lib.hid hnx; clear hnx hg2 hs2 j4 j5 hB2' s4
        have FIN := Lib.hid fin; clear fin
        gi_wp2_with fail
        exact FIN.out _ _ _ HNX'.out
    case done =>
      rintro ho W ⟨i4, i5, hB⟩ hD
      subst ho
      have hnx := HNX.out
      unfold nxO at hnx
      simp only [Bool.false_eq_true, if_false, Prod.mk.injEq] at hnx
      obtain ⟨rfl, rfl⟩ := hnx
      have HI4 := Lib.hid i4; have HI5 := Lib.hid i5; have HB := Lib.hid hB; have HDD := Lib.hid hD
      have c4 : W.cell? ⟨w.heap.size, 0, none⟩ = some (.int .i64 0) := by rw [cell_of_row W _ 0 _ _ _ i4]; rfl
      have c5 : W.cell? ⟨w.heap.size + 1, 0, none⟩ = some (.int .i64 0) := by rw [cell_of_row W _ 0 _ _ _ i5]; rfl
      have f4 := frozen_of_row W w.heap.size 0 _ _ i4
      have f5 := frozen_of_row W (w.heap.size + 1) 0 _ _ i5
      have z5 := (Array.getElem?_eq_some_iff.1 i5).1
      clear i4 i5 hB hD
      gi_wp2_with fail
      have hD2 : ((W.setCell ⟨w.heap.size, 0, none⟩ (.int .i64 0)).setCell ⟨w.heap.size + 1, 0, none⟩ (.int .i64 21)).heap[w4.heap.size]? = some (.deferred (some [])) :=
        (heap_setCell_other _ _ _ _ (by simp; omega)).trans ((heap_setCell_other _ _ _ _ (by simp; omega)).trans HDD.out)
      have x4 := (World.putObj_heap_other (r := w4.heap.size) (o := .deferred none) (k := w.heap.size) (by omega)).trans ((heap_setCell_other (W.setCell ⟨w.heap.size, 0, none⟩ (.int .i64 0)) ⟨w.heap.size + 1, 0, none⟩ w.heap.size (.int .i64 21) (by simp)).trans (heap_setCell_same W w.heap.size 0 _ _ (.int .i64 0) HI4.out))
      have x5 := (World.putObj_heap_other (r := w4.heap.size) (o := .deferred none) (k := w.heap.size + 1) (by omega)).trans (heap_setCell_same (W.setCell ⟨w.heap.size, 0, none⟩ (.int .i64 0)) (w.heap.size + 1) 0 _ _ (.int .i64 21) ((heap_setCell_other _ _ _ _ (by simp)).trans HI5.out))
      have bX := below_put (bset (bset HB.out (p := ⟨w.heap.size, 0, none⟩) (Nat.le_refl _) (.int .i64 0)) (p := ⟨w.heap.size + 1, 0, none⟩) (by simp) (.int .i64 21)) (r := w4.heap.size) (.deferred none) (by omega)
      refine ⟨by simp, .inl ⟨_, _, rfl, run_takeDeferred hD2, ?_⟩⟩
      have y4 := cell_of_row _ _ 0 _ _ _ x4
      have y5 := cell_of_row _ _ 0 _ _ _ x5
      change _ = some (Value.int .i64 0) at y4
      change _ = some (Value.int .i64 21) at y5
      clear x4 x5
      generalize World.putObj _ _ _ = X at *
      exact ⟨_, results_cell2 rfl rfl rfl (by go_simp) (by go_simp), rfl, bX⟩
    case stop =>
      rintro ho c W ⟨rfl, i4, i5, hB⟩ hD
      have HI4 := Lib.hid i4; have HI5 := Lib.hid i5; have HB := Lib.hid hB; have HDD := Lib.hid hD
      clear i4 i5 hB hD
      gi_wp2_with fail
      refine ⟨by simp, .inl ⟨_, _, rfl, run_takeDeferred HDD.out, ?_⟩⟩
      have x4 := (World.putObj_heap_other (w := W) (r := w4.heap.size) (o := .deferred none) (k := w.heap.size) (by omega)).trans HI4.out
      have x5 := (World.putObj_heap_other (w := W) (r := w4.heap.size) (o := .deferred none) (k := w.heap.size + 1) (by omega)).trans HI5.out
      have bX := below_put HB.out (r := w4.heap.size) (.deferred none) (by omega)
      have y4 := cell_of_row _ _ 0 _ _ _ x4
      have y5 := cell_of_row _ _ 0 _ _ _ x5
      change _ = some (Value.int .i64 rN) at y4
      change _ = some (Value.int .i64 rE) at y5
      clear x4 x5
      generalize World.putObj _ _ _ = X at *
      exact ⟨_, results_cell2 rfl rfl rfl (by go_simp) (by go_simp), rfl, bX⟩
  · have e1 : nextN V f = 0 := by unfold nextN; rw [if_neg hc]
    have e2 : nextE V f = openE V [f] := by unfold nextE; rw [if_neg hc]
    rw [e1, e2]; clear e1 e2
    have HO := Lib.hid (fun w' (hx : RdP w' (.slice a V.length ca) V) y hy => open_no _ y V [f] w' hx hy hl (by simp) hc)
    have hcb : (openE V [f] != 0) = true := by simpa using hc
    have hce : (openE V [f] == 0) = false := by simpa using hc
    clear hc
    generalize openE V [f] = q at *
    go_enter Try.func27, Try.ntmps27
    go_wp2_with fail
    refine (HO.out _ (hx0.mono (bal (bal (bal (bz _) _) _) _)) _ (slice_one_at _ f 2 (by simp))).mono ?_
    rintro e w2 ⟨rfl, hB2⟩
    have c4 : w2.cell? ⟨w.heap.size, 0, none⟩ = some (.int .i64 0) := (hB2.cell (by simp; omega)).trans (cal _ (cal _ (cnew rfl rfl)))
    have c5 : w2.cell? ⟨w.heap.size + 1, 0, none⟩ = some (.int .i64 0) := (hB2.cell (by simp)).trans (cal _ (cnew (by simp) rfl))
    have f4 : w2.frozen? ⟨w.heap.size, 0, none⟩ = false := (hB2.frozen (by simp; omega)).trans (fal _ (fal _ (fnew rfl) (by simp)) (by simp; omega))
    have f5 : w2.frozen? ⟨w.heap.size + 1, 0, none⟩ = false := (hB2.frozen (by simp)).trans (fal _ (fnew (by simp)) (by simp))
    have z5 := World.block_lt_of_cell? w2 _ c5
    simp only at z5
    have HB2 := Lib.hid hB2; clear hB2
    go_wp2_with fail
    have y4 : ((w2.setCell ⟨w.heap.size, 0, none⟩ (.int .i64 0)).setCell ⟨w.heap.size + 1, 0, none⟩ (.int .i64 q)).cell? ⟨w.heap.size, 0, none⟩ = some (.int .i64 0) := by
      rw [World.cell?_setCell_other _ _ _ _ (by simp)]; exact World.cell?_setCell_same' _ _ _ (by rw [c4]; rfl)
    have y5 : ((w2.setCell ⟨w.heap.size, 0, none⟩ (.int .i64 0)).setCell ⟨w.heap.size + 1, 0, none⟩ (.int .i64 q)).cell? ⟨w.heap.size + 1, 0, none⟩ = some (.int .i64 q) :=
      World.cell?_setCell_same' _ _ _ (by rw [World.cell?_setCell_other _ _ _ _ (by simp), c5]; rfl)
    have bX : Below w.heap.size w ((w2.setCell ⟨w.heap.size, 0, none⟩ (.int .i64 0)).setCell ⟨w.heap.size + 1, 0, none⟩ (.int .i64 q)) := bset (bset (btr (bal (bal (bal (bz _) _) _) _) HB2.out) (Nat.le_refl _) _) (by simp) _
    generalize World.setCell _ _ _ = X at *
    exact bodyPost_ret (results_cell2 rfl rfl rfl (by go_simp) (by go_simp)) rfl ⟨rfl, bX⟩
end Go.Proofs.Ytooddicegkiiiaa
