/- A list of lists that the call itself makes; no condition. -/
import Derived.Test.YtdnaipiiponhpaaOwn
namespace Go.Proofs.Ytdnaipiiponhpaa
open Go.RowKit Go.Shelf

theorem own_ne {w : World} {b1 b2 : Nat} {e1 e2 : TypeId} {s1 s2 : Nat} {v1 v2 : Value} {n1 n2 : Nat} {x1 x2 : List Value} (h1 : w.ownsRow b1 e1 s1 v1 n1 x1) (h2 : w.ownsRow b2 e2 s2 v2 n2 x2) (he : e1 ≠ e2) : v1.ownBlock = none ∨ v1.ownBlock ≠ v2.ownBlock := by
  rcases h1.2 with ⟨rfl, _⟩ | ⟨g, cap, cur, rfl, _, hg, _⟩
  · exact .inl rfl
  · refine .inr ?_
    rcases h2.2 with ⟨rfl, _⟩ | ⟨g', cap', cur', rfl, _, hg', _⟩
    · simp [Value.ownBlock]
    · simp only [Value.ownBlock, ne_eq, Option.some.injEq]
      rintro rfl
      rw [hg] at hg'
      simp at hg'
      exact he hg'.2

/-- v is a slice of the slices vs, which the call owns; each holds the numbers of Os. -/
structure OwnLL (w : World) (base : Nat) (v : Value) (p : Nat) (Os : List (List Int)) (vs : List Value) : Prop where
  own : w.ownsRow base 25 1 v Os.length vs
  el : ∀ (i : Nat) (e : Value), vs[i]? = some e → w.ownsRow base 2 1 e p ((Os[i]?.getD []).map (Value.int .i64))
theorem OwnLL.later {w w' : World} {base p : Nat} {v : Value} {Os : List (List Int)} {vs : List Value} (h : OwnLL w base v p Os vs) (hb : Below w.heap.size w w') : OwnLL w' base v p Os vs :=
  ⟨owns_kept h.own hb, fun i e he => owns_kept (h.el i e he) hb⟩
theorem OwnLL.len {w : World} {base p : Nat} {v : Value} {Os : List (List Int)} {vs : List Value} (h : OwnLL w base v p Os vs) : vs.length = Os.length := by have := h.own.1; simpa using this
theorem OwnLL.get {w : World} {base p : Nat} {v : Value} {Os : List (List Int)} {vs : List Value} (h : OwnLL w base v p Os vs) (i : Nat) (hi : i < Os.length) :
    ∃ g c e a d, v = .slice (some ⟨g, 0, none⟩) Os.length c ∧ g < w.heap.size ∧ w.cell? ⟨g, i, none⟩ = some e ∧ e = .slice a p d ∧ w.ownsRow base 2 1 e p ((Os[i]?.getD []).map (Value.int .i64)) := by
  have hl := h.len
  have hv : vs[i]? = some (vs[i]'(by omega)) := List.getElem?_eq_getElem (by omega)
  have he := h.el i _ hv
  have ho := h.own
  rcases h.own.2 with ⟨_, h0⟩ | ⟨g, cap, cur, rfl, _, hg, _⟩
  · omega
  · obtain ⟨a, d, hf⟩ := owns_form he
    have hc := ho.cellAt i (show i < Os.length * 1 by omega)
    exact ⟨g, cap, _, a, d, rfl, (Array.getElem?_eq_some_iff.1 hg).1, by simpa [hv] using hc, hf, he⟩
theorem OwnLL.push {w w' : World} {base p : Nat} {v v' e : Value} {Os : List (List Int)} {vs : List Value} {x : List Int} {o : Obj} (h : OwnLL w base v p Os vs) (he : w.ownsRow base 2 1 e p (x.map (Value.int .i64))) (hown' : w'.ownsRow base 25 1 v' (Os.length + 1) (vs ++ [e]))
    (hgrow : (w.alloc o).grownBy w' v.ownBlock) : OwnLL w' base v' p (Os ++ [x]) (vs ++ [e]) := by
  have hl := h.len
  have hk : ∀ (e : Value) (x : List Int), w.ownsRow base 2 1 e p (x.map (Value.int .i64)) → w'.ownsRow base 2 1 e p (x.map (Value.int .i64)) := fun e x he =>
    (he.alloc o).kept hgrow (own_ne he h.own (by decide))
  refine ⟨by simpa using hown', fun i u hu => ?_⟩
  rcases Nat.lt_or_ge i vs.length with hi | hi
  · rw [List.getElem?_append_left hi] at hu
    rw [List.getElem?_append_left (by omega)]
    exact hk _ _ (h.el i u hu)
  · have hi2 : i = vs.length := by have := (List.getElem?_eq_some_iff.1 hu).1; simp at this; omega
    subst hi2
    simp at hu
    subst hu
    rw [hl]
    simpa using hk _ _ he
theorem Try.info25 : (Try.prog.info? 25).map (fun i => (i.zero, i.size, i.bytes)) = some (some (.slice none 0 0), 1, 24) := by kernel_rfl
theorem wpList_append_list {w : World} {base p : Nat} {v : Value} {Os : List (List Int)} {vs : List Value} {ops : Array Oper} {rest : List Oper} {o : Oper} {a : Act} {Q : Exit → Act → World → Prop} (hgd : o.guard = none) (s x : Operand)
    (ho : o.op = .call { callee := .builtin .append, args := #[s, x], argTypes := #[102, 102] }) (h : OwnLL w base v p Os vs) (e : Value) (he1 : e.oneCell' = true) (hs : a.eval s = v) (hx : a.eval x = .slice (some ⟨w.heap.size, 0, none⟩) 1 1) (hl : Os.length ≤ 1000) (hb : base ≤ w.heap.size)
    (H : ∀ v' w', w'.ownsRow base 25 1 v' (Os.length + 1) (vs ++ [e]) → (w.alloc (.cells #[e] 25)).grownBy w' v.ownBlock → wpList Try.prog ops Q rest (a.put o.dst v') w') :
    wpList Try.prog ops Q (o :: rest) a (w.alloc (.cells #[e] 25)) := by
  obtain ⟨i0, hi, hz0, hz1, hz2⟩ := info_parts Try.info25
  refine wpList_append_own _ hgd s x 102 ho base 25 i0 (.slice none 0 0) 1 24 Try.underlying102 hi hz0 hz1 hz2 rfl (by decide) _ _ _ hs (h.own.alloc _) ⟨w.heap.size, 0, none⟩ 1 1 [e] hx rfl (fun j u hj => ?_) (fun u hu => by simp at hu; subst hu; exact he1)
    (by simp only [maxLen]; omega) (by omega) (by simp; omega) ?_
  · match j, hj with
    | 0, hj => simp at hj; subst hj; rw [Go.WideShapes.add_plain]; simp
  · exact fun v' w' h1 h2 _ => H v' w' h1 h2

end Go.Proofs.Ytdnaipiiponhpaa
