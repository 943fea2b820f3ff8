/- From a walk to the given statement: arguments opened, read again behind the call; no condition. -/
import Derived.Test.YteknehlkdgamjaaGreatMGA
import Derived.Test.YteknehlkdgamjaaGreatMGB
import Derived.ProofKit
import Derived.OpenShut
import Derived.Lib.SmallJoins
import Derived.Deep.Slices
namespace Go.Proofs.YteknehlkdgamjaaGreat
open Go.ChangeShapes Go.WideShapes Go.ChangeAt Go.RowKit Go.Deep Go.Joins

theorem Tryz.own : ownKnob Tryz.prog.godebug = none := by kernel_rfl
theorem Tryz.laidOut : laidOutB Tryz.prog = true := by kernel_rfl

theorem rdLL_nil (w : World) : RdLL w (.slice none 0 0) [] := ⟨[], rfl, ⟨none, 0, rfl, Nat.le_refl _, by simp only [maxLen]; omega, fun h => absurd rfl h⟩, fun i e he => by simp at he⟩
section
variable {H : Type} {enc : TypeId × Value → H} {P : Program} {W W' : World}
theorem trodAll_later (hl : laidOutB P = true) (hb : Below W.heap.size W W') : ∀ (ts : List TypeId) (vs : List Value) (ds : List (DataW H)) (ps : List MemPlace), ts.all (fun t => P.readableRec t && decide (t < P.types.size)) = true →
    DataW.TrodAll enc P W 0 (fun _ => true) true ts vs ds ps → (∀ x ∈ ps, x.block < W.heap.size) → DataW.TrodAll enc P W' 0 (fun b => decide (b < W.heap.size)) true ts vs ds ps
  | [], [], [], _, _, h, _ => h
  | t :: ts, v :: vs, d :: ds, ps, hr, ⟨p, q, h1, h2, he⟩, hlt => by
    subst he
    simp only [List.all_cons, Bool.and_eq_true, decide_eq_true_eq] at hr
    exact ⟨p, q, Below.trod hl hr.1.1 hr.1.2 h1 hb (fun x hx => hlt x (List.mem_append_left _ hx)), trodAll_later hl hb ts vs ds q hr.2 h2 (fun x hx => hlt x (List.mem_append_right _ hx)), rfl⟩
  | [], _ :: _, _, _, _, h, _ => h.elim
  | [], [], _ :: _, _, _, h, _ => h.elim
  | _ :: _, [], _, _, _, h, _ => h.elim
  | _ :: _, _ :: _, [], _, _, h, _ => h.elim

theorem law_post {f : Func} {s : ChangeSpec} {args : Array Value} {ds : List (DataW H)} {before : List MemPlace} {b4 : TypeId} (hl : laidOutB P = true) (h4 : P.underlying b4 = some .bool)
    (hW : DataW.Whole enc P f.params.toList s.vars false W args.toList ds [] before) (hA : DataW.TrodAll enc P W 0 (fun _ => true) true f.params.toList args.toList ds before) (hrt : f.resultTypes = #[b4]) (hr : (s.fn H (ds ++ [])).results = [.lit (.bool true)]) (ha : (s.fn H (ds ++ [])).args = ds)
    (hv : s.vars = []) (hvv : (s.fn H (ds ++ [])).vars = []) (hread : f.params.toList.all (fun t => P.readableRec t && decide (t < P.types.size)) = true) (hb : Below W.heap.size W W') :
    s.post enc P f false true false false W args (.bool true) W' := by
  refine ⟨ds, [], before, [], before, [], hW, ?_, ?_, ?_, hb.frame _, fun h => by cases h⟩
  · rw [hr, hrt]
    exact trodAll_cons_mk (shut_bool h4 _) trodAll_mk0
  · rw [ha]
    exact trodAll_later hl hb _ _ _ _ hread hA hW.lt
  · rw [hv, hvv]; rfl
end

section
variable {H : Type} {enc : TypeId × Value → H} {W : World}
set_option maxRecDepth 100000 in
theorem open_ints_at {fuel : Nat} {t e : TypeId} {k : IntKind} {v : Value} {cs : List Value} {y : DataW H × List MemPlace} (ht : Tryz.prog.underlying t = some (.slice e)) (he : Tryz.prog.underlying e = some (.int k)) (hc : Tryz.prog.cellsOf e = 1)
    (hf : DataW.trod enc Tryz.prog W 0 (fun _ => true) true fuel t cs = some y) (hcs0 : cs = [v]) (hlt : ∀ x ∈ y.2, x.block < W.heap.size) : ∃ xs : List Int, RdI W k v xs ∧ ∀ n ∈ xs, (Lit.int k n).wf = true := by
  subst hcs0
  obtain ⟨d, p⟩ := y
  simp only at hlt
  rcases open_ints ht he hc hf with ⟨hcs, hx⟩ | ⟨a, len, cap, zs, hcs, _, hl, hm, hz, hx, hcell, hwz⟩
  · simp at hcs
    subst hcs
    exact ⟨[], ⟨none, 0, rfl, Nat.le_refl _, Nat.zero_le _, fun h => absurd rfl h⟩, fun n hn => by cases hn⟩
  · simp at hcs
    subst hcs
    simp only [Prod.mk.injEq] at hx
    obtain ⟨rfl, rfl⟩ := hx
    simp only [if_true] at hz
    have hlen : (zs.take len).length = len := by rw [List.length_take]; omega
    refine ⟨zs.take len, ⟨some a, cap, by rw [hlen], by rw [hlen]; exact hl, hm, fun hne => ?_⟩, fun n hn => hwz n (List.mem_of_mem_take hn)⟩
    have hl0 : 0 < len := by
      rcases Nat.eq_zero_or_pos len with h0 | h0
      · subst h0; simp at hne
      · exact h0
    obtain ⟨b, off, spot⟩ := a
    have hspot : spot = none := by simpa [Addr.add] using World.cell?_spot (hcell 0 (by omega))
    subst hspot
    refine ⟨b, off, rfl, hlt (.cell b off) (MemPlace.mem_row.2 ⟨0, by omega, by simp⟩), fun j u hj => ?_⟩
    have hjl : j < len := by have := (List.getElem?_eq_some_iff.1 hj).1; simp at this; omega
    have hjz : j < zs.length := by omega
    have := hcell j hjz
    rw [add_plain] at this
    rw [this, ← hj]
    simp [hjl, List.getD, hjz]


set_option maxRecDepth 100000 in
theorem open_ints_rd {r : Reach} {b0 : Nat} {t e : TypeId} {k : IntKind} {v : Value} {d : DataW H} {p : List MemPlace} (ht : Tryz.prog.underlying t = some (.slice e)) (he : Tryz.prog.underlying e = some (.int k)) (hc : Tryz.prog.cellsOf e = 1)
    (hv : Value.okWide Tryz.prog W r b0 t v) (h : DataW.Trod enc Tryz.prog W 0 (fun _ => true) true t v d p) (hlt : ∀ x ∈ p, x.block < W.heap.size) : ∃ xs : List Int, RdI W k v xs ∧ ∀ n ∈ xs, (Lit.int k n).wf = true := by
  obtain ⟨a0, len, cap, rfl⟩ := okWide_slice ht hv
  obtain ⟨fuel, hf⟩ := h
  exact open_ints_at ht he hc hf rfl hlt
set_option maxRecDepth 100000 in
theorem open_rows {r : Reach} {b0 : Nat} {v : Value} {d : DataW H} {p : List MemPlace} (hv : Value.okWide Tryz.prog W r b0 70 v) (h : DataW.Trod enc Tryz.prog W 0 (fun _ => true) true 70 v d p) (hlt : ∀ x ∈ p, x.block < W.heap.size) : ∃ R : List (List Int), RdLL W v R := by
  obtain ⟨a0, len, cap, rfl⟩ := okWide_slice Tryz.underlying70 hv
  obtain ⟨fuel, hf⟩ := h
  rcases open_slice1 Tryz.underlying70 (by kernel_rfl) hf with ⟨hcs, _⟩ | ⟨a, len', cap', m, n, V, D, Pl, hcs, _, hl, hm, hmm, hx, hi⟩
  · have hcs' : [Value.slice a0 len cap] = [Value.slice none 0 0] := hcs
    simp only [List.cons.injEq, Value.slice.injEq, and_true] at hcs'
    obtain ⟨rfl, rfl, rfl⟩ := hcs'
    exact ⟨[], rdLL_nil W⟩
  · have hcs' : [Value.slice a0 len cap] = [Value.slice (some a) len' cap'] := hcs
    simp only [List.cons.injEq, Value.slice.injEq, and_true] at hcs'
    obtain ⟨rfl, rfl, rfl⟩ := hcs'
    simp only [if_true] at hmm
    simp only [Prod.mk.injEq] at hx
    obtain ⟨_, rfl⟩ := hx
    have hr : ∀ i, i < len → ∃ xs : List Int, RdI W .i64 (V i) xs := fun i hil => by
      obtain ⟨xs, h1, _⟩ := open_ints_at Tryz.underlying41 Tryz.underlying3 (by kernel_rfl) (hi i (by omega)).2 rfl (fun x hx => hlt x (List.mem_append_right _ (List.mem_flatMap.2 ⟨i, List.mem_range.2 (by omega), hx⟩)))
      exact ⟨xs, h1⟩
    have hc : ∃ xs : Nat → List Int, ∀ i, i < len → RdI W .i64 (V i) (xs i) := by
      classical
      exact ⟨fun i => if h : i < len then Classical.choose (hr i h) else [], fun i h => by simp only [dif_pos h]; exact Classical.choose_spec (hr i h)⟩
    obtain ⟨xs, hxs⟩ := hc
    refine ⟨(List.range len).map xs, (List.range len).map V, by simp, ⟨some a, cap, by simp, by simpa using hl, hm, fun hne => ?_⟩, fun i e he => ?_⟩
    · have hl0 : 0 < len := by
        rcases Nat.eq_zero_or_pos len with h0 | h0
        · subst h0; simp at hne
        · exact h0
      obtain ⟨b, off, spot⟩ := a
      have hspot : spot = none := by simpa [Addr.add] using World.cell?_spot (hi 0 (by omega)).1
      subst hspot
      have hb := World.block_lt_of_cell? W _ (hi 0 (by omega)).1
      refine ⟨b, off, rfl, by simpa [Addr.add] using hb, fun j u hj => ?_⟩
      have hjl : j < len := by have := (List.getElem?_eq_some_iff.1 hj).1; simpa using this
      have := (hi j (by omega)).1
      rw [add_plain] at this
      rw [this, ← hj]
      simp [hjl]
    · have hil : i < len := by have := (List.getElem?_eq_some_iff.1 he).1; simpa using this
      have hev : V i = e := by simpa [hil] using he
      subst hev
      have hrow : row ((List.range len).map xs) i = xs i := by unfold row; simp [hil]
      rw [hrow]
      exact hxs i hil
set_option maxRecDepth 100000 in
/-- Work: jobs that are read. -/
theorem open_jobs_at {fuel : Nat} {cs : List Value} {y : DataW H × List MemPlace} {v : Value} (h : DataW.trod enc Tryz.prog W 0 (fun _ => true) true fuel 22 cs = some y) (hcs : cs = [v]) (hlt : ∀ x ∈ y.2, x.block < W.heap.size) : ∃ J : List Job, RdJ W v J := by
  have c62 : Tryz.prog.cellsOf 62 = 3 := by kernel_rfl
  have c32 : Tryz.prog.cellsOf 32 = 2 := by kernel_rfl
  have c41 : Tryz.prog.cellsOf 41 = 1 := by kernel_rfl
  have c2 : Tryz.prog.cellsOf 2 = 1 := by kernel_rfl
  subst hcs
  rcases open_slice Tryz.underlying22 h with ⟨hc, rfl⟩ | ⟨a, len, cap, m, n, D, Pl, hc, _, hl, hm, hmm, rfl, hi⟩
  · simp at hc
    subst hc
    exact ⟨[], none, 0, rfl, Nat.le_refl _, by unfold maxLen; omega, fun h => by simp at h⟩
  · simp at hc
    subst hc
    simp only [if_true] at hmm
    subst hmm
    rw [c62] at hi hlt
    have key : ∀ i, i < len → ∃ q : Int × Int × Value × List Int, (W.cell? (a.add (i * 3)) = some (.int .i64 q.1) ∧ W.cell? (a.add (i * 3 + 1)) = some (.int .i64 q.2.1) ∧ W.cell? (a.add (i * 3 + 2)) = some q.2.2.1) ∧ RdI W .i64 q.2.2.1 q.2.2.2 := by
      intro i hil
      obtain ⟨cs', h1, h2⟩ := hi i (by omega)
      obtain ⟨_, hcl, hat⟩ := World.cells?_some h1
      match cs', hcl with
      | [d0, d1, d2], _ =>
        obtain ⟨y0, y1, n, hy, _, h0, h1'⟩ := trod_struct2 Tryz.underlying62 h2
        rw [c32] at h0
        rw [c41] at h1'
        obtain ⟨z0, z1, n', _, _, k0, k1⟩ := trod_struct2 Tryz.underlying32 h0
        rw [c2] at k0 k1
        obtain ⟨n0, e0, _, _⟩ := DataW.trod_int Tryz.underlying2 k0
        obtain ⟨n1, e1, _, _⟩ := DataW.trod_int Tryz.underlying2 k1
        simp at e0 e1
        subst e0; subst e1
        have hy2 : Pl i = y0.2 ++ y1.2 := by simpa using congrArg Prod.snd hy
        obtain ⟨xs, hxs, _⟩ := open_ints_at (v := d2) Tryz.underlying41 Tryz.underlying3 (by kernel_rfl) h1' (by simp) (fun x hx => hlt x (List.mem_append_right _ (List.mem_flatMap.2 ⟨i, List.mem_range.2 (by omega), by rw [hy2]; exact List.mem_append_right _ hx⟩)))
        refine ⟨(n0, n1, d2, xs), ⟨?_, ?_, ?_⟩, hxs⟩
        · have := hat 0 (by omega); rw [Go.Deep.add_add] at this; simpa using this
        · have := hat 1 (by omega); rw [Go.Deep.add_add] at this; simpa using this
        · have := hat 2 (by omega); rw [Go.Deep.add_add] at this; simpa using this
    obtain ⟨f, hf⟩ := choose_lt key
    have hjob : ∀ i, i < len → job ((List.range len).map fun i => ⟨(f i).1, (f i).2.1, (f i).2.2.2⟩) i = ⟨(f i).1, (f i).2.1, (f i).2.2.2⟩ := fun i hi => by simp [job, hi]
    refine ⟨(List.range len).map fun i => ⟨(f i).1, (f i).2.1, (f i).2.2.2⟩, some a, m, by simp, by simpa using hl, hm, fun hne => ?_⟩
    have hl0 : 0 < len := by simpa using hne
    obtain ⟨b, off, spot⟩ := a
    have hspot : spot = none := by simpa [Addr.add] using World.cell?_spot (hf 0 hl0).1.1
    subst hspot
    refine ⟨b, off, rfl, hlt (.cell b off) (List.mem_append_left _ (MemPlace.mem_row.2 ⟨0, by omega, by simp⟩)), fun j hj => ?_⟩
    have hjl : j < len := by simpa using hj
    obtain ⟨⟨g0, g1, g2⟩, hr⟩ := hf j hjl
    rw [add_plain] at g0 g1 g2
    rw [hjob j hjl]
    exact ⟨g0, g1, _, g2, hr⟩
set_option maxRecDepth 100000 in
theorem open_work {r : Reach} {b0 : Nat} {v : Value} {d : DataW H} {p : List MemPlace} (hv : Value.okWide Tryz.prog W r b0 24 v) (h : DataW.Trod enc Tryz.prog W 0 (fun _ => true) true 24 v d p) (hlt : ∀ x ∈ p, x.block < W.heap.size) :
    ∃ (x : Value) (J : List Job), v = .agg #[x] ∧ RdJ W x J := by
  obtain ⟨cs, rfl, hsz⟩ := okWide_struct Tryz.underlying24 hv
  have hC : Tryz.prog.cellsOf 24 = 1 := by kernel_rfl
  rw [hC] at hsz
  obtain ⟨x, rfl⟩ : ∃ x, cs = #[x] := by
    match cs, hsz with
    | ⟨[x]⟩, _ => exact ⟨x, rfl⟩
  obtain ⟨fuel, hf⟩ := h
  obtain ⟨y0, n, hx, _, h0⟩ := trod_struct1 Tryz.underlying24 hf
  have hp : p = y0.2 := by simpa using congrArg Prod.snd hx
  obtain ⟨J, hJ⟩ := open_jobs_at (v := x) h0 (by simp [Value.cells]; kernel_rfl) (fun z hz => hlt z (by rw [hp]; exact hz))
  exact ⟨x, J, rfl, hJ⟩
end
end Go.Proofs.YteknehlkdgamjaaGreat
