/- Two rows of jobs of the call's own, to which it appends; no condition. -/
import Derived.Test.YteknehlkdgamjaaGreatMU2
namespace Go.Proofs.YteknehlkdgamjaaGreat
open Go.RowKit Go.Shelf

/-- Jobs of the call's own; their waits lie in no block of Z. -/
structure BJ (w : World) (Z : Nat → Prop) (v : Value) (K : List Job) (es : List Value) : Prop where
  len : es.length = K.length
  out : w.ownsRow 0 62 3 v K.length (jcs K es)
  el : ∀ i e, es[i]? = some e → RdI w .i64 e (job K i).ws ∧ Ap (fun k => Z k ∨ v.ownBlock = some k) e
section
variable {w w' : World} {Z Z' C : Nat → Prop} {v : Value} {K : List Job} {es : List Value}
theorem BJ.form (h : BJ w Z v K es) : ∃ a c, v = .slice a K.length c := owns_form h.out
theorem BJ.fr (h : BJ w Z v K es) (hF : Fr w w' C) (h1 : ∀ k, v.ownBlock = some k → ¬ C k) (h2 : ∀ k, C k → Z k) : BJ w' Z v K es :=
  ⟨h.len, owns_fr h.out hF h1, fun i e he => ⟨rdI_fr (h.el i e he).1 hF ((h.el i e he).2.mono fun k hk => .inl (h2 k hk)), (h.el i e he).2⟩⟩
theorem BJ.later (h : BJ w Z v K es) (hb : Below w.heap.size w w') : BJ w' Z v K es :=
  ⟨h.len, owns_kept h.out hb, fun i e he => ⟨(h.el i e he).1.mono hb, (h.el i e he).2⟩⟩
theorem BJ.zone (h : BJ w Z v K es) (h2 : ∀ k, Z' k → Z k ∨ w.heap.size ≤ k) : BJ w Z' v K es :=
  ⟨h.len, h.out, fun i e he => ⟨(h.el i e he).1, fun b o s n c e' hn hb => by
    rcases hb with hb | hb
    · rcases h2 b hb with h3 | h3
      · exact (h.el i e he).2 b o s n c e' hn (.inl h3)
      · exact ap_old (B := fun k => w.heap.size ≤ k) (h.el i e he).1 (fun k hk => hk) b o s n c e' hn h3
    · exact (h.el i e he).2 b o s n c e' hn (.inr hb)⟩⟩
theorem BJ.rd (h : BJ w Z v K es) : RdJ w v K := by
  have ho := h.out
  rcases h.out.2 with ⟨rfl, h0⟩ | ⟨g, cap, cur, rfl, hb, hg, h1, h2, h3, h4⟩
  · have : K = [] := List.eq_nil_of_length_eq_zero h0
    subst this
    exact ⟨none, 0, rfl, Nat.le_refl _, by unfold maxLen; omega, fun h => by simp at h⟩
  · refine ⟨_, cap, rfl, h1, h2, fun _ => ⟨g, 0, rfl, (Array.getElem?_eq_some_iff.1 hg).1, fun j hj => ?_⟩⟩
    have c := fun k (hk : k < K.length * 3) => ho.cellAt k hk
    obtain ⟨j1, j2, j3⟩ := jcs_at h.len j hj
    have hv : es[j]? = some (es[j]'(by rw [h.len]; exact hj)) := List.getElem?_eq_getElem (by rw [h.len]; exact hj)
    refine ⟨?_, ?_, _, ?_, (h.el j _ hv).1⟩
    · rw [Nat.zero_add, c _ (by omega), j1]
    · rw [Nat.zero_add, c _ (by omega), j2]
    · rw [Nat.zero_add, c _ (by omega), j3, hv]
/-- 'append' of a job, whose waits are read. -/
theorem BJ.push {j : Job} {e : Value} {ops : Array Oper} {rest : List Oper} {o : Oper} {a : Act} {Q : Exit → Act → World → Prop} (h : BJ w Z v K es) (he : RdI w .i64 e j.ws) (hap : Ap (fun k => Z k ∨ v.ownBlock = some k) e) (hgd : o.guard = none) (s x : Operand)
    (ho : o.op = .call { callee := .builtin .append, args := #[s, x], argTypes := #[22, 22] }) (hs : a.eval s = v) {nb : Nat} (hx : a.eval x = .slice (some ⟨nb, 0, none⟩) 1 1) (hnb : nb = w.heap.size) (hl : K.length ≤ 1000)
    (H : ∀ v' w', BJ w' Z v' (K ++ [j]) (es ++ [e]) → Fr w w' (fun k => v.ownBlock = some k) → (v'.ownBlock = v.ownBlock ∨ v'.ownBlock = some (w.heap.size + 1)) → wpList Tryz.prog ops Q rest (a.put o.dst v') w') :
    wpList Tryz.prog ops Q (o :: rest) a (w.alloc (.cells #[.int .i64 j.lo, .int .i64 j.hi, e] 62)) := by
  subst hnb
  obtain ⟨i0, hi, hz0, hz1, hz2⟩ := info_parts infoJ
  have hlen := h.len
  have he1 : e.oneCell' = true := by
    obtain ⟨_, _, rfl, _⟩ := he
    rfl
  refine wpList_append_own_at _ hgd s x 22 ho 0 62 i0 (.agg #[.int .i64 0, .int .i64 0, .slice none 0 0]) 3 40 Tryz.underlying22 hi hz0 hz1 hz2 rfl (by decide) _ _ _ hs (World.ownsRow.alloc h.out _) ⟨w.heap.size, 0, none⟩ 1 1 [.int .i64 j.lo, .int .i64 j.hi, e] hx rfl (fun k u hk => ?_) (fun u hu => ?_)
    (by simp only [maxLen]; omega) (by omega) (Nat.zero_le _) ?_
  · match k, hk with
    | 0, hk => simp at hk; subst hk; exact cnew rfl rfl
    | 1, hk => simp at hk; subst hk; exact cnew rfl rfl
    | 2, hk => simp at hk; subst hk; exact cnew rfl rfl
    | k + 3, hk => simp at hk
  · simp at hu
    rcases hu with rfl | rfl | rfl
    · rfl
    · rfl
    · exact he1
  · intro v' w' h1 h2 _ h4
    rw [World.size_alloc] at h4
    have hF : Fr w w' (fun k => v.ownBlock = some k) := (Fr.grown (World.grownBy_alloc w _ none) (fun j e => by cases e)).trans (Fr.grown h2 fun j ej => ej)
    have key : ∀ (f : Value) (xs : List Int), RdI w .i64 f xs → Ap (fun k => Z k ∨ v.ownBlock = some k) f → RdI w' .i64 f xs ∧ Ap (fun k => Z k ∨ v'.ownBlock = some k) f := fun f xs hr ha => by
      refine ⟨rdI_fr hr hF (ha.mono fun k hk => .inr hk), ?_⟩
      rcases h4 with h4 | h4
      · rw [h4]; exact ha
      · rw [h4]
        refine Ap.or (ha.mono fun k hk => .inl hk) (ap_old hr fun k hk => ?_)
        simp at hk; omega
    refine H v' w' ⟨by simp [hlen], ?_, fun i f hf => ?_⟩ hF h4
    · rw [jcs_snoc j e hlen, List.length_append]; exact h1
    · rw [job_snoc]
      rcases Nat.lt_or_ge i es.length with hi | hi
      · rw [List.getElem?_append_left hi] at hf
        rw [if_neg (by omega)]
        exact key f _ (h.el i f hf).1 (h.el i f hf).2
      · have hj2 : i = es.length := by have := (List.getElem?_eq_some_iff.1 hf).1; simp at this; omega
        subst hj2
        simp at hf
        subst hf
        rw [if_pos (by omega)]
        exact key _ _ he hap
end
/-- Two rows of jobs, each with a variable, in blocks g1 b1, g2 b2 (or new ones, from zb on). -/
structure Two (w : World) (g1 b1 g2 b2 zb : Nat) (v u : Value) (K L : List Job) (es fs : List Value) : Prop where
  c1 : w.heap[b1]? = some (.cells #[v] 24 (0, 0))
  c2 : w.heap[b2]? = some (.cells #[u] 24 (0, 0))
  r1 : BJ w (fun k => k = b1 ∨ k = b2 ∨ u.ownBlock = some k) v K es
  r2 : BJ w (fun k => k = b1 ∨ k = b2 ∨ v.ownBlock = some k) u L fs
  o1 : ∀ k, v.ownBlock = some k → (k = g1 ∨ zb ≤ k) ∧ u.ownBlock ≠ some k
  o2 : ∀ k, u.ownBlock = some k → (k = g2 ∨ zb ≤ k) ∧ v.ownBlock ≠ some k
  ne : b1 < zb ∧ b2 < zb ∧ b1 ≠ b2 ∧ g1 ≠ b1 ∧ g1 ≠ b2 ∧ g2 ≠ b1 ∧ g2 ≠ b2 ∧ g1 < zb ∧ g2 < zb ∧ zb ≤ w.heap.size
/-- The blocks that may turn. -/
def Mut (g1 b1 g2 b2 zb : Nat) (k : Nat) : Prop := k = g1 ∨ k = b1 ∨ k = g2 ∨ k = b2 ∨ zb ≤ k
section
variable {w w' : World} {g1 b1 g2 b2 zb : Nat} {v u : Value} {K L : List Job} {es fs : List Value}
theorem Two.swap (h : Two w g1 b1 g2 b2 zb v u K L es fs) : Two w g2 b2 g1 b1 zb u v L K fs es :=
  ⟨h.c2, h.c1, h.r2.zone (fun k hk => .inl (by rcases hk with h | h | h <;> simp [h])), h.r1.zone (fun k hk => .inl (by rcases hk with h | h | h <;> simp [h])), h.o2, h.o1,
   ⟨h.ne.2.1, h.ne.1, Ne.symm h.ne.2.2.1, h.ne.2.2.2.2.2.2.1, h.ne.2.2.2.2.2.1, h.ne.2.2.2.2.1, h.ne.2.2.2.1, h.ne.2.2.2.2.2.2.2.2.1, h.ne.2.2.2.2.2.2.2.1, h.ne.2.2.2.2.2.2.2.2.2⟩⟩
theorem Two.later (h : Two w g1 b1 g2 b2 zb v u K L es fs) (hb : Below w.heap.size w w') : Two w' g1 b1 g2 b2 zb v u K L es fs :=
  ⟨(hb.block b1 (by have := h.ne; omega)).trans h.c1, (hb.block b2 (by have := h.ne; omega)).trans h.c2, h.r1.later hb, h.r2.later hb, h.o1, h.o2,
   ⟨h.ne.1, h.ne.2.1, h.ne.2.2.1, h.ne.2.2.2.1, h.ne.2.2.2.2.1, h.ne.2.2.2.2.2.1, h.ne.2.2.2.2.2.2.1, h.ne.2.2.2.2.2.2.2.1, h.ne.2.2.2.2.2.2.2.2.1, Nat.le_trans h.ne.2.2.2.2.2.2.2.2.2 hb.size⟩⟩
/-- The first row has grown to v', and v' is stored into its variable. -/
theorem Two.grown (h : Two w g1 b1 g2 b2 zb v u K L es fs) {v' : Value} {K' : List Job} {es' : List Value} (h1 : BJ w' (fun k => k = b1 ∨ k = b2 ∨ u.ownBlock = some k) v' K' es') (hF : Fr w w' (fun k => v.ownBlock = some k)) (hv : v'.ownBlock = v.ownBlock ∨ v'.ownBlock = some (w.heap.size + 1)) :
    Two (w'.setCell ⟨b1, 0, none⟩ v') g1 b1 g2 b2 zb v' u K' L es' fs ∧ Fr w (w'.setCell ⟨b1, 0, none⟩ v') (Mut g1 b1 g2 b2 zb) := by
  obtain ⟨n1, n2, n3, n4, n5, n6, n7, n8, n9, n10⟩ := h.ne
  have hvb : ∀ k, v.ownBlock = some k → k ≠ b1 ∧ k ≠ b2 := fun k hk => by rcases (h.o1 k hk).1 with e | e <;> omega
  have hub : ∀ k, u.ownBlock = some k → k ≠ b1 ∧ k ≠ b2 ∧ k < w.heap.size := fun k hk => by
    have h3 := (World.ownsRow.lt h.r2.out k hk).2
    rcases (h.o2 k hk).1 with e | e <;> exact ⟨by omega, by omega, h3⟩
  have hvb' : ∀ k, v'.ownBlock = some k → (k = g1 ∨ zb ≤ k) ∧ u.ownBlock ≠ some k ∧ k ≠ b1 ∧ k ≠ b2 := fun k hk => by
    rcases hv with e | e
    · rw [e] at hk
      exact ⟨(h.o1 k hk).1, (h.o1 k hk).2, hvb k hk⟩
    · rw [e] at hk
      cases hk
      exact ⟨.inr (by omega), fun hh => by have := (hub _ hh).2.2; omega, by omega, by omega⟩
  have hc1 : w'.heap[b1]? = some (.cells #[v] 24 (0, 0)) := (hF.block b1 (by omega) (fun e => (hvb b1 e).1 rfl)).trans h.c1
  have hc2 : w'.heap[b2]? = some (.cells #[u] 24 (0, 0)) := (hF.block b2 (by omega) (fun e => (hvb b2 e).2 rfl)).trans h.c2
  have hS : Fr w' (w'.setCell ⟨b1, 0, none⟩ v') (fun k => k = b1) := Fr.set (B := fun k => k = b1) (p := ⟨b1, 0, none⟩) rfl v'
  have r2' : BJ w' (fun k => k = b1 ∨ k = b2 ∨ v.ownBlock = some k) u L fs := h.r2.fr hF (fun k hk e => (h.o2 k hk).2 e) (fun k hk => .inr (.inr hk))
  have hsz : w.heap.size ≤ w'.heap.size := hF.size
  have r2z : BJ w' (fun k => k = b1 ∨ k = b2 ∨ v'.ownBlock = some k) u L fs := by
    refine ⟨r2'.len, r2'.out, fun i e he => ⟨(r2'.el i e he).1, ?_⟩⟩
    have h5 := (h.r2.zone (Z' := fun k => k = b1 ∨ k = b2 ∨ v'.ownBlock = some k) (fun k hk => by
      rcases hk with hk | hk | hk
      · exact .inl (.inl hk)
      · exact .inl (.inr (.inl hk))
      · rcases hv with e | e
        · rw [e] at hk; exact .inl (.inr (.inr hk))
        · rw [e] at hk; cases hk; exact .inr (by omega))).el i e he
    exact h5.2
  refine ⟨⟨?_, ?_, h1.fr hS (fun k hk e => (hvb' k hk).2.2.1 e) (fun k hk => .inl hk), r2z.fr hS (fun k hk e => (hub k hk).1 e) (fun k hk => .inl hk), fun k hk => ⟨(hvb' k hk).1, (hvb' k hk).2.1⟩, fun k hk => ⟨(h.o2 k hk).1, fun e => (hvb' k e).2.1 hk⟩,
    n1, n2, n3, n4, n5, n6, n7, n8, n9, by rw [World.size_setCell]; omega⟩, ?_⟩
  · rw [heap_setCell_same _ b1 0 _ _ _ hc1]; rfl
  · rw [heap_setCell_other w' ⟨b1, 0, none⟩ b2 v' (fun e => n3 (by simp at e; omega))]; exact hc2
  · refine (hF.mono fun k _ hk => ?_).trans (hS.mono fun k _ hk => .inr (.inl hk))
    rcases (h.o1 k hk).1 with e | e
    · exact .inl e
    · exact .inr (.inr (.inr (.inr e)))
end
theorem BJ.fr2 {w w' : World} {Z C : Nat → Prop} {v : Value} {K : List Job} {es : List Value} (h : BJ w Z v K es) (hF : Fr w w' C) (h1 : ∀ k, v.ownBlock = some k → ¬ C k) (h2 : ∀ (i : Nat) (e : Value), es[i]? = some e → Ap C e) : BJ w' Z v K es :=
  ⟨h.len, owns_fr h.out hF h1, fun i e he => ⟨rdI_fr (h.el i e he).1 hF (h2 i e he), (h.el i e he).2⟩⟩
section
variable {w w' : World} {g1 b1 g2 b2 zb : Nat} {v u : Value} {K L : List Job} {es fs : List Value}
theorem Two.fr {C : Nat → Prop} (h : Two w g1 b1 g2 b2 zb v u K L es fs) (hF : Fr w w' C) (h1 : ¬ C b1) (h2 : ¬ C b2) (h3 : ∀ k, v.ownBlock = some k → ¬ C k) (h4 : ∀ k, u.ownBlock = some k → ¬ C k)
    (h5 : ∀ (i : Nat) (e : Value), es[i]? = some e → Ap C e) (h6 : ∀ (i : Nat) (e : Value), fs[i]? = some e → Ap C e) : Two w' g1 b1 g2 b2 zb v u K L es fs :=
  ⟨(hF.block b1 (by have := h.ne; omega) h1).trans h.c1, (hF.block b2 (by have := h.ne; omega) h2).trans h.c2, h.r1.fr2 hF h3 h5, h.r2.fr2 hF h4 h6, h.o1, h.o2,
   ⟨h.ne.1, h.ne.2.1, h.ne.2.2.1, h.ne.2.2.2.1, h.ne.2.2.2.2.1, h.ne.2.2.2.2.2.1, h.ne.2.2.2.2.2.2.1, h.ne.2.2.2.2.2.2.2.1, h.ne.2.2.2.2.2.2.2.2.1, Nat.le_trans h.ne.2.2.2.2.2.2.2.2.2 hF.size⟩⟩
theorem Two.row (h : Two w g1 b1 g2 b2 zb v u K L es fs) {e : Value} {xs : List Int} {base : Nat} (hr : rowI w base e xs) (k : Nat) (hk : v.ownBlock = some k) : e.ownBlock ≠ some k := fun h3 => by
  rcases own_ne hr h.r1.out (by decide) with h4 | h4
  · rw [h4] at h3; cases h3
  · exact h4 (by rw [h3, hk])
theorem Two.ap (h : Two w g1 b1 g2 b2 zb v u K L es fs) {e : Value} {xs : List Int} {base : Nat} (hr : rowI w base e xs) (hb : zb ≤ base) :
    Ap (fun k => (k = b1 ∨ k = b2 ∨ u.ownBlock = some k) ∨ v.ownBlock = some k) e := ap_own hr fun k hk h3 => by
  have h4 := (World.ownsRow.lt hr k h3).1
  have := h.ne
  rcases hk with (hk | hk | hk) | hk
  · omega
  · omega
  · exact h.swap.row hr k hk h3
  · exact h.row hr k hk h3
/-- A row of numbers stays when the first row of jobs grows and is stored. -/
theorem Two.keep (h : Two w g1 b1 g2 b2 zb v u K L es fs) {e : Value} {xs : List Int} {base : Nat} (hr : rowI w base e xs) (hb : zb ≤ base) (hF : Fr w w' (fun k => v.ownBlock = some k)) (x : Value) : rowI (w'.setCell ⟨b1, 0, none⟩ x) base e xs :=
  owns_set (owns_fr hr hF fun k hk h3 => h.row hr k h3 hk) (by have := h.ne; omega) 0 x
end
section
variable {w w' : World} {g1 b1 g2 b2 zb : Nat} {v u : Value} {K L : List Job} {es fs : List Value}
theorem Two.cell1 (h : Two w g1 b1 g2 b2 zb v u K L es fs) (hF : Fr w w' (fun k => v.ownBlock = some k)) : w'.heap[b1]? = some (.cells #[v] 24 (0, 0)) :=
  (hF.block b1 (by have := h.ne; omega) (fun e => by have h1 := (h.o1 b1 e).1; have := h.ne; omega)).trans h.c1
theorem Mut.swap {k : Nat} (h : Mut g2 b2 g1 b1 zb k) : Mut g1 b1 g2 b2 zb k := by
  unfold Mut at *
  rcases h with h | h | h | h | h
  · exact .inr (.inr (.inl h))
  · exact .inr (.inr (.inr (.inl h)))
  · exact .inl h
  · exact .inr (.inl h)
  · exact .inr (.inr (.inr (.inr h)))
end
/-- The first blocks of a world alone. -/
theorem trunc (w : World) (s : Nat) (hs : s ≤ w.heap.size) : ∃ w0 : World, w0.heap.size = s ∧ Below w0.heap.size w0 w ∧ ∀ p : Addr, p.block < s → w0.cell? p = w.cell? p := by
  have hz : (w.heap.extract 0 s).size = s := by simp; omega
  have hb : ∀ k, k < s → w.heap[k]? = (w.heap.extract 0 s)[k]? := fun k hk => by
    rw [Array.getElem?_extract]
    simp
    omega
  refine ⟨{ w with heap := w.heap.extract 0 s }, hz, ⟨rfl, rfl, rfl, ?_, fun k hk => ?_⟩, fun p hp => ?_⟩
  · show (w.heap.extract 0 s).size ≤ w.heap.size
    omega
  · exact hb k (by rw [hz] at hk; exact hk)
  · exact (World.cell?_of_block (w := { w with heap := w.heap.extract 0 s }) (w' := w) (a := p) (hb p.block hp)).symm
end Go.Proofs.YteknehlkdgamjaaGreat
