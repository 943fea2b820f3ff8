/- Jobs of the call's own, to which it appends; no condition. -/
import Derived.Test.YteknehlkdgamjaaGreatMGB
namespace Go.Proofs.YteknehlkdgamjaaGreat
open Go.RowKit Go.Shelf

def jcs : List Job → List Value → List Value
  | j :: K, e :: es => .int .i64 j.lo :: .int .i64 j.hi :: e :: jcs K es
  | _, _ => []
theorem jcs_len : ∀ {K : List Job} {es : List Value}, es.length = K.length → (jcs K es).length = K.length * 3
  | [], [], _ => rfl
  | j :: K, e :: es, h => by
    have := jcs_len (K := K) (es := es) (by simpa using h)
    simp [jcs, this]; omega
theorem jcs_at : ∀ {K : List Job} {es : List Value}, es.length = K.length → ∀ (i : Nat), i < K.length →
    (jcs K es)[i * 3]? = some (.int .i64 (job K i).lo) ∧ (jcs K es)[i * 3 + 1]? = some (.int .i64 (job K i).hi) ∧ (jcs K es)[i * 3 + 2]? = es[i]?
  | j :: K, e :: es, _, 0, _ => ⟨rfl, rfl, rfl⟩
  | j :: K, e :: es, h, i + 1, hi => by
    have := jcs_at (K := K) (es := es) (by simpa using h) i (by simpa using hi)
    have e1 : (i + 1) * 3 = i * 3 + 1 + 1 + 1 := by omega
    rw [e1]
    simpa [jcs, job] using this
theorem jcs_snoc (j : Job) (e : Value) : ∀ {K : List Job} {es : List Value}, es.length = K.length → jcs (K ++ [j]) (es ++ [e]) = jcs K es ++ [.int .i64 j.lo, .int .i64 j.hi, e]
  | [], [], _ => rfl
  | k :: K, f :: es, h => by
    have := jcs_snoc j e (K := K) (es := es) (by simpa using h)
    simp [jcs, this]
theorem job_snoc {K : List Job} {j : Job} {i : Nat} : job (K ++ [j]) i = if i = K.length then j else job K i := by
  unfold job
  by_cases h : i < K.length
  · rw [List.getElem?_append_left h, if_neg (by omega)]
  · by_cases e : i = K.length
    · subst e; simp
    · rw [if_neg e, List.getElem?_eq_none (by simp; omega), List.getElem?_eq_none (by omega)]
/-- What a slice reads lies in no block of B. -/
def Ap (B : Nat → Prop) (e : Value) : Prop := ∀ b o s n c, e = .slice (some ⟨b, o, s⟩) n c → 0 < n → ¬ B b
theorem rdI_fr {w w' : World} {B : Nat → Prop} {e : Value} {xs : List Int} (h : RdI w .i64 e xs) (hF : Fr w w' B) (ha : Ap B e) : RdI w' .i64 e xs := by
  obtain ⟨a, cap, rfl, h1, h2, h3⟩ := h
  refine ⟨a, cap, rfl, h1, h2, fun hn => ?_⟩
  obtain ⟨b, off, rfl, hb, hc⟩ := h3 hn
  have hl : 0 < xs.length := by
    cases xs with
    | nil => exact absurd rfl hn
    | cons _ _ => simp
  refine ⟨b, off, rfl, Nat.lt_of_lt_of_le hb hF.size, fun j u hj => ?_⟩
  exact (World.cell?_of_block (a := ⟨b, off + j, none⟩) (hF.block b hb (ha _ _ _ _ _ rfl hl))).trans (hc j u hj)
theorem ap_old {w : World} {B : Nat → Prop} {e : Value} {xs : List Int} (h : RdI w .i64 e xs) (hB : ∀ k, B k → w.heap.size ≤ k) : Ap B e := by
  obtain ⟨a, cap, rfl, h1, h2, h3⟩ := h
  intro b o s n c e hn hb
  cases e
  obtain ⟨b', off, e, hb', _⟩ := h3 (by intro e; rw [List.map_eq_nil_iff] at e; rw [e] at hn; simp at hn)
  cases e
  have := hB _ hb
  omega
theorem ap_own {w : World} {base : Nat} {B : Nat → Prop} {e : Value} {xs : List Int} (h : rowI w base e xs) (hB : ∀ k, B k → e.ownBlock ≠ some k) : Ap B e := by
  intro b o s n c e' _ hb
  subst e'
  exact hB b hb rfl
theorem Ap.mono {B C : Nat → Prop} {e : Value} (h : Ap B e) (k : ∀ j, C j → B j) : Ap C e := fun b o s n c e hn hc => h b o s n c e hn (k b hc)
theorem Ap.or {B C : Nat → Prop} {e : Value} (h : Ap B e) (k : Ap C e) : Ap (fun j => B j ∨ C j) e := fun b o s n c e hn hc => hc.elim (h b o s n c e hn) (k b o s n c e hn)
theorem infoJ : (Tryz.prog.info? 62).map (fun i => (i.zero, i.size, i.bytes)) = some (some (.agg #[.int .i64 0, .int .i64 0, .slice none 0 0]), 3, 40) := by kernel_rfl
/-- Jobs of the call's own; variables of the call lie in blocks from z to base. -/
structure JL (w : World) (base z : Nat) (v : Value) (K : List Job) (es : List Value) : Prop where
  len : es.length = K.length
  out : w.ownsRow base 62 3 v K.length (jcs K es)
  el : ∀ i e, es[i]? = some e → RdI w .i64 e (job K i).ws ∧ Ap (fun k => (z ≤ k ∧ k < base) ∨ v.ownBlock = some k) e
section
variable {w w' : World} {base z : Nat} {v : Value} {K : List Job} {es : List Value}
theorem JL.nil (w : World) (base z : Nat) : JL w base z (.slice none 0 0) [] [] :=
  ⟨rfl, World.ownsRow_nil _ _ _ _, fun i e h => by simp at h⟩
theorem JL.later (h : JL w base z v K es) (hb : Below w.heap.size w w') : JL w' base z v K es :=
  ⟨h.len, owns_kept h.out hb, fun i e he => ⟨(h.el i e he).1.mono hb, (h.el i e he).2⟩⟩
theorem JL.set (h : JL w base z v K es) {r : Nat} (h1 : z ≤ r) (h2 : r < base) (i : Nat) (u : Value) : JL (w.setCell ⟨r, i, none⟩ u) base z v K es :=
  ⟨h.len, owns_set h.out h2 _ _, fun j e he => ⟨rdI_fr (h.el j e he).1 (Fr.set (B := fun k => k = r) rfl u) ((h.el j e he).2.mono fun k hk => .inl (by omega)), (h.el j e he).2⟩⟩
theorem JL.form (h : JL w base z v K es) : ∃ a c, v = .slice a K.length c := owns_form h.out
theorem JL.rd (h : JL w base z v K es) : RdJ w v K := by
  have ho := h.out
  rcases h.out.2 with ⟨rfl, h0⟩ | ⟨g, cap, cur, rfl, hb, hg, h1, h2, h3, h4⟩
  · have : K = [] := List.eq_nil_of_length_eq_zero h0
    subst this
    exact ⟨none, 0, rfl, Nat.le_refl _, by unfold maxLen; omega, fun h => by simp at h⟩
  · refine ⟨_, cap, rfl, h1, h2, fun _ => ⟨g, 0, rfl, (Array.getElem?_eq_some_iff.1 hg).1, fun j hj => ?_⟩⟩
    have c := fun k (hk : k < K.length * 3) => ho.cellAt k hk
    obtain ⟨j1, j2, j3⟩ := jcs_at h.len j hj
    have hv : es[j]? = some (es[j]'(by rw [h.len]; exact hj)) := List.getElem?_eq_getElem (by rw [h.len]; exact hj)
    refine ⟨?_, ?_, _, ?_, (h.el j _ hv).1⟩
    · rw [Nat.zero_add, c _ (by omega), j1]
    · rw [Nat.zero_add, c _ (by omega), j2]
    · rw [Nat.zero_add, c _ (by omega), j3, hv]
/-- 'append' of a job, whose waits are read. -/
theorem JL.push {j : Job} {e : Value} {ops : Array Oper} {rest : List Oper} {o : Oper} {a : Act} {Q : Exit → Act → World → Prop} (h : JL w base z v K es) (he : RdI w .i64 e j.ws) (hap : Ap (fun k => (z ≤ k ∧ k < base) ∨ v.ownBlock = some k) e) (hgd : o.guard = none) (s x : Operand)
    (ho : o.op = .call { callee := .builtin .append, args := #[s, x], argTypes := #[22, 22] }) (hs : a.eval s = v) {nb : Nat} (hx : a.eval x = .slice (some ⟨nb, 0, none⟩) 1 1) (hnb : nb = w.heap.size) (hl : K.length ≤ 1000) (hb : base ≤ w.heap.size)
    (H : ∀ v' w', JL w' base z v' (K ++ [j]) (es ++ [e]) → (w.alloc (.cells #[.int .i64 j.lo, .int .i64 j.hi, e] 62)).grownBy w' v.ownBlock → wpList Tryz.prog ops Q rest (a.put o.dst v') w') :
    wpList Tryz.prog ops Q (o :: rest) a (w.alloc (.cells #[.int .i64 j.lo, .int .i64 j.hi, e] 62)) := by
  subst hnb
  obtain ⟨i0, hi, hz0, hz1, hz2⟩ := info_parts infoJ
  have hlen := h.len
  have he1 : e.oneCell' = true := by
    obtain ⟨_, _, rfl, _⟩ := he
    rfl
  refine wpList_append_own_at _ hgd s x 22 ho base 62 i0 (.agg #[.int .i64 0, .int .i64 0, .slice none 0 0]) 3 40 Tryz.underlying22 hi hz0 hz1 hz2 rfl (by decide) _ _ _ hs (World.ownsRow.alloc h.out _) ⟨w.heap.size, 0, none⟩ 1 1 [.int .i64 j.lo, .int .i64 j.hi, e] hx rfl (fun k u hk => ?_) (fun u hu => ?_)
    (by simp only [maxLen]; omega) (by omega) (by simp; omega) ?_
  · match k, hk with
    | 0, hk => simp at hk; subst hk; exact cnew rfl rfl
    | 1, hk => simp at hk; subst hk; exact cnew rfl rfl
    | 2, hk => simp at hk; subst hk; exact cnew rfl rfl
    | k + 3, hk => simp at hk
  · simp at hu
    rcases hu with rfl | rfl | rfl
    · rfl
    · rfl
    · exact he1
  · intro v' w' h1 h2 _ h4
    have hF : Fr w w' (fun k => v.ownBlock = some k) := (Fr.grown (World.grownBy_alloc w _ none) (fun j e => by cases e)).trans (Fr.grown h2 fun j ej => ej)
    have key : ∀ (f : Value) (xs : List Int), RdI w .i64 f xs → Ap (fun k => (z ≤ k ∧ k < base) ∨ v.ownBlock = some k) f → RdI w' .i64 f xs ∧ Ap (fun k => (z ≤ k ∧ k < base) ∨ v'.ownBlock = some k) f := fun f xs hr ha => by
      refine ⟨rdI_fr hr hF (ha.mono fun k hk => .inr hk), ?_⟩
      rcases h4 with h4 | h4
      · rw [h4]; exact ha
      · rw [h4]
        refine Ap.or (ha.mono fun k hk => .inl hk) (ap_old hr fun k hk => ?_)
        simp at hk; omega
    refine H v' w' ⟨by simp [hlen], ?_, fun i f hf => ?_⟩ h2
    · rw [jcs_snoc j e hlen, List.length_append]; exact h1
    · rw [job_snoc]
      rcases Nat.lt_or_ge i es.length with hi | hi
      · rw [List.getElem?_append_left hi] at hf
        rw [if_neg (by omega)]
        exact key f _ (h.el i f hf).1 (h.el i f hf).2
      · have hj2 : i = es.length := by have := (List.getElem?_eq_some_iff.1 hf).1; simp at this; omega
        subst hj2
        simp at hf
        subst hf
        rw [if_pos (by omega)]
        exact key _ _ he hap
end
end Go.Proofs.YteknehlkdgamjaaGreat
