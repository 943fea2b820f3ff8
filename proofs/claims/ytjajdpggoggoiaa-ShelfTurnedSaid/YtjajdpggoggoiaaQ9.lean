/- Plain: more room; kinds and the third rule; days one behind the other; the second rule and depths; valid days. -/
import Derived.Test.YtjajdpggoggoiaaGG
import Derived.Test.YtjajdpggoggoiaaGE
namespace Go.Proofs.Ytjajdpggoggoiaa

theorem trace_wider {R R' : Nat} {W : List Int} {B : Nat → List Int} (h : Dual.Trace R W B) (hR : R ≤ R') : Dual.Trace R' W B :=
  ⟨h.zero, fun i hi => ⟨(h.nodup i hi).1, Nat.le_trans (h.nodup i hi).2 hR⟩, h.has, h.sub⟩
theorem few_wider {R R' : Int} {W : List Int} (hd : OkD R W) (hd' : OkD R' W) (h : R ≤ R') : aheadD R' W W.length 0 ≤ aheadD R W W.length 0 := by
  rw [few_run hd]
  exact few_le hd' (trace_wider ((run_lazy (rule := 3) hd).trace hd) (by omega))
theorem few_any {R rule : Int} {W : List Int} (hd : OkD R W) : aheadD R W W.length 0 ≤ fetN W (runL R rule W) W.length := few_le hd ((run_lazy (rule := rule) hd).trace hd)
/-- What kinds say of the third rule. -/
theorem kind_run {R : Int} {W : List Int} (hd : OkD R W) {p : Nat} (hp : p < W.length) {k : Int} (h : KindIs R W p k) : (k = 2 → want W p ∉ runL R 3 W p) ∧ (k = 0 → want W p ∈ runL R 3 W p) := by
  have hz := run_lazy (rule := 3) hd
  obtain ⟨S, hS, hS2⟩ := hz.way hd
  have hc := hz.cost hd hS2 W.length (Nat.le_refl _)
  rw [← few_run hd] at hc
  have hw := hd.at hp
  have hq : ((want W p).toNat : Int) = want W p := by omega
  have h1 := onOf_at (S p) (want W p).toNat (by omega)
  rw [(hS2 p (by omega)).2, onL_at _ _ (by omega), hq] at h1
  have hb := bitN_le (S p) (want W p).toNat
  constructor
  · intro hk hm
    rw [if_pos hm] at h1
    have : MayB R W p 1 := ⟨S, hS, hc, by omega⟩
    rcases h with ⟨_, g, _⟩ | ⟨g, _⟩ | ⟨g, _⟩
    · exact g this
    · omega
    · omega
  · intro hk
    refine Classical.byContradiction fun hm => ?_
    rw [if_neg hm] at h1
    have : MayB R W p 0 := ⟨S, hS, hc, by omega⟩
    rcases h with ⟨g, _⟩ | ⟨_, g, _⟩ | ⟨g, _⟩
    · omega
    · exact g this
    · omega
theorem mem_fet {R rule : Int} {W : List Int} {i : Nat} (hi : i < W.length) : (i : Int) ∈ (runK R rule W W.length).fet ↔ want W i ∉ runL R rule W i := by
  rw [runK_fet]
  simp only [List.mem_map, List.mem_filter, List.mem_range, decide_eq_true_eq]
  constructor
  · rintro ⟨j, ⟨_, h2⟩, h3⟩
    have : j = i := by omega
    subst this; exact h2
  · intro h; exact ⟨i, ⟨hi, h⟩, rfl⟩

/-! Days one behind the other. -/
theorem want_left {d e : List Int} {i : Nat} (h : i < d.length) : want (d ++ e) i = want d i := by simp [want, h, List.getElem?_append_left]
theorem want_right {d e : List Int} {i : Nat} : want (d ++ e) (d.length + i) = want e i := by simp [want, List.getElem?_append_right]
theorem okD_left {R : Int} {d e : List Int} (h : OkD R (d ++ e)) : OkD R d := ⟨h.r1, h.r6, by have := h.l16; simp at this; omega, fun x hx => h.ok x (by simp [hx])⟩
theorem okD_right {R : Int} {d e : List Int} (h : OkD R (d ++ e)) : OkD R e := ⟨h.r1, h.r6, by have := h.l16; simp at this; omega, fun x hx => h.ok x (by simp [hx])⟩
theorem fetN_congr {W V : List Int} {L M : Nat → List Int} : ∀ k, (∀ i, i < k → (want W i ∈ L i ↔ want V i ∈ M i)) → fetN W L k = fetN V M k
  | 0, _ => rfl
  | k + 1, h => by
    unfold fetN
    rw [fetN_congr k fun i hi => h i (by omega)]
    have := h k (by omega)
    by_cases g : want W k ∈ L k
    · rw [if_pos g, if_pos (this.1 g)]
    · rw [if_neg g, if_neg (fun g2 => g (this.2 g2))]
theorem fetN_succ (W : List Int) (L : Nat → List Int) (k : Nat) : fetN W L (k + 1) = fetN W L k + if want W k ∈ L k then 0 else 1 := rfl
theorem few_join_le {R : Int} {d e : List Int} (h : OkD R (d ++ e)) : aheadD R (d ++ e) (d ++ e).length 0 ≤ aheadD R d d.length 0 + aheadD R e e.length 0 := by
  have h1 := okD_left h; have h2 := okD_right h
  rw [few_run h1, few_run h2]
  have t1 := (run_lazy (rule := 3) h1).trace h1
  have t2 := (run_lazy (rule := 3) h2).trace h2
  have ht : Dual.Trace R.toNat (d ++ e) (fun i => if i ≤ d.length then runL R 3 d i else runL R 3 e (i - d.length)) := by
    refine ⟨by simp [t1.zero], fun i hi => ?_, fun i hi => ?_, fun i hi x hx => ?_⟩
    · simp only [List.length_append] at hi
      by_cases g : i ≤ d.length
      · simp only [if_pos g]; exact t1.nodup i g
      · simp only [if_neg g]; exact t2.nodup _ (by omega)
    · simp only [List.length_append] at hi
      by_cases g : i + 1 ≤ d.length
      · simp only [if_pos g]
        have := t1.has i (by omega)
        show want (d ++ e) i ∈ _
        rw [want_left (by omega)]; exact this
      · simp only [if_neg g]
        have := t2.has (i - d.length) (by omega)
        show want (d ++ e) i ∈ _
        have e1 : want (d ++ e) i = want e (i - d.length) := by
          have := want_right (d := d) (e := e) (i := i - d.length)
          rwa [show d.length + (i - d.length) = i by omega] at this
        rw [e1, show i + 1 - d.length = i - d.length + 1 by omega]; exact this
    · simp only [List.length_append] at hi
      by_cases g : i + 1 ≤ d.length
      · simp only [if_pos g] at hx
        simp only [if_pos (show i ≤ d.length by omega)]
        rcases t1.sub i (by omega) x hx with h | h
        · left; rw [h]; exact (want_left (by omega)).symm
        · exact .inr h
      · simp only [if_neg g] at hx
        rw [show i + 1 - d.length = i - d.length + 1 by omega] at hx
        have e1 : want (d ++ e) i = want e (i - d.length) := by
          have := want_right (d := d) (e := e) (i := i - d.length)
          rwa [show d.length + (i - d.length) = i by omega] at this
        rcases t2.sub (i - d.length) (by omega) x hx with h | h
        · left; rw [h]; exact e1.symm
        · by_cases g2 : i ≤ d.length
          · have : i = d.length := by omega
            subst this
            rw [Nat.sub_self, t2.zero] at h
            cases h
          · simp only [if_neg g2]; exact .inr h
  have hf := few_le h ht
  have key : ∀ k, k ≤ e.length → fetN (d ++ e) (fun i => if i ≤ d.length then runL R 3 d i else runL R 3 e (i - d.length)) (d.length + k) ≤ fetN d (runL R 3 d) d.length + fetN e (runL R 3 e) k := by
    intro k
    induction k with
    | zero =>
      intro _
      rw [Nat.add_zero, fetN_congr (W := d ++ e) (V := d) (M := runL R 3 d) d.length (fun i hi => by
        simp only [if_pos (show i ≤ d.length by omega)]
        rw [want_left hi])]
      show _ ≤ _ + 0
      omega
    | succ k ih =>
      intro hk
      have := ih (by omega)
      rw [← Nat.add_assoc, fetN_succ (d ++ e), fetN_succ e, want_right]
      by_cases g : k = 0
      · subst g
        have : want e 0 ∉ runL R 3 e 0 := by show want e 0 ∉ []; simp
        rw [if_neg this]
        split <;> omega
      · simp only [if_neg (show ¬ (d.length + k ≤ d.length) by omega), show d.length + k - d.length = k by omega]
        split <;> omega
  have := key e.length (Nat.le_refl _)
  rw [← List.length_append] at this
  omega
/-- How many pauses there are behind a want at most: one that begins with each want. -/
theorem prov_more {R : Int} {d e : List Int} (hl : (d ++ e).length ≤ 1000) (X : List Nat) : provN R e (nl X) ≤ provN R (d ++ e) (nl (X.map (· + d.length))) := by
  unfold provN
  rw [nl_len, nl_len, List.length_map, ← free_same (by simp at hl; omega), ← free_same hl]
  have h1 : (List.filter (freeP (nl (X.map (· + d.length)))) (lastL (d ++ e) (d ++ e).length)).length ≤ d.length + (List.filter (freeP (nl X)) (lastL e e.length)).length := by
    have hle := nodup_le ((List.filter (freeP (nl (X.map (· + d.length)))) (lastL (d ++ e) (d ++ e).length)).map (·.1)) ((List.range d.length).map (fun (i : Nat) => (i : Int)) ++ (List.filter (freeP (nl X)) (lastL e e.length)).map (fun p => p.1 + (d.length : Int))) (by
      rw [List.Nodup, List.pairwise_map]
      refine List.Pairwise.imp_of_mem ?_ ((nodup_lastL (d ++ e) _).filter _)
      intro p q hp hq hpq e1
      obtain ⟨a, b, g1, g2, g3, rfl⟩ := mem_lastL.1 (List.mem_filter.1 hp).1
      obtain ⟨a', b', g1', g2', g3', rfl⟩ := mem_lastL.1 (List.mem_filter.1 hq).1
      simp only at e1
      have : a = a' := by omega
      subst this
      have := (pauseB_iff hl g1 g2).1 g3
      have := (pauseB_iff hl g1' g2').1 g3'
      have : b = b' := by omega
      subst this
      exact hpq rfl) (fun x hx => by
      obtain ⟨p, hp, rfl⟩ := List.mem_map.1 hx
      obtain ⟨hm, hf⟩ := List.mem_filter.1 hp
      obtain ⟨a, b, g1, g2, g3, rfl⟩ := mem_lastL.1 hm
      by_cases ha : a < d.length
      · exact List.mem_append_left _ (List.mem_map.2 ⟨a, List.mem_range.2 ha, rfl⟩)
      · refine List.mem_append_right _ (List.mem_map.2 ⟨(((a - d.length : Nat) : Int), ((b - d.length : Nat) : Int)), List.mem_filter.2 ⟨mem_lastL.2 ⟨a - d.length, b - d.length, by omega, by simp at g2; omega, ?_, rfl⟩, ?_⟩, by simp only; omega⟩)
        · have w1 : ∀ k, d.length ≤ k → want (d ++ e) k = want e (k - d.length) := fun k hk => by
            have := want_right (d := d) (e := e) (i := k - d.length)
            rwa [show d.length + (k - d.length) = k by omega] at this
          unfold pauseB at g3
          rw [Bool.and_eq_true, decide_eq_true_eq, soleB_iff g1 g2, w1 b (by omega), w1 a (by omega)] at g3
          refine pause_of (by simp at g2; omega) (by omega) g3.1 fun k k1 k2 => ?_
          have := g3.2 (k + d.length) (by omega) (by omega)
          rw [w1 _ (by omega), show k + d.length - d.length = k by omega] at this
          exact this
        · rw [freeP_iff] at hf ⊢
          intro t ht hh
          exact hf (t + d.length) (List.mem_map.2 ⟨t, ht, rfl⟩) (by omega))
    simpa using hle
  unfold freeN
  have : (d ++ e).length = d.length + e.length := List.length_append
  omega
theorem prov_before {R : Int} {d e : List Int} (hl : (d ++ e).length ≤ 1000) (X : List Nat) : provN R d (nl X) ≤ provN R (d ++ e) (nl X) := by
  unfold provN
  rw [nl_len, ← free_same (by simp at hl; omega), ← free_same hl]
  have h1 : (List.filter (freeP (nl X)) (lastL (d ++ e) (d ++ e).length)).length ≤ e.length + (List.filter (freeP (nl X)) (lastL d d.length)).length := by
    have hle := nodup_le ((List.filter (freeP (nl X)) (lastL (d ++ e) (d ++ e).length)).map (·.2)) ((List.range e.length).map (fun (i : Nat) => (i : Int) + (d.length : Int)) ++ (List.filter (freeP (nl X)) (lastL d d.length)).map (·.2)) (by
      rw [List.Nodup, List.pairwise_map]
      refine List.Pairwise.imp_of_mem ?_ ((nodup_lastL (d ++ e) _).filter _)
      intro p q hp hq hpq e1
      obtain ⟨a, b, g1, g2, g3, rfl⟩ := mem_lastL.1 (List.mem_filter.1 hp).1
      obtain ⟨a', b', g1', g2', g3', rfl⟩ := mem_lastL.1 (List.mem_filter.1 hq).1
      simp only at e1
      have : b = b' := by omega
      subst this
      have := pause_one g2 g1 g1' g3 g3'
      subst this
      exact hpq rfl) (fun x hx => by
      obtain ⟨p, hp, rfl⟩ := List.mem_map.1 hx
      obtain ⟨hm, hf⟩ := List.mem_filter.1 hp
      obtain ⟨a, b, g1, g2, g3, rfl⟩ := mem_lastL.1 hm
      by_cases hb : b < d.length
      · refine List.mem_append_right _ (List.mem_map.2 ⟨((a : Int), (b : Int)), List.mem_filter.2 ⟨mem_lastL.2 ⟨a, b, g1, hb, ?_, rfl⟩, hf⟩, rfl⟩)
        unfold pauseB at g3
        rw [Bool.and_eq_true, decide_eq_true_eq, soleB_iff g1 g2, want_left hb, want_left (by omega)] at g3
        refine pause_of hb g1 g3.1 fun k k1 k2 => ?_
        have := g3.2 k k1 k2
        rw [want_left (by omega)] at this
        exact this
      · exact List.mem_append_left _ (List.mem_map.2 ⟨b - d.length, List.mem_range.2 (by simp at g2; omega), by simp only; omega⟩))
    simpa using hle
  unfold freeN
  have : (d ++ e).length = d.length + e.length := List.length_append
  omega
theorem few_join_ge {R : Int} {d e : List Int} (h : OkD R (d ++ e)) : aheadD R d d.length 0 ≤ aheadD R (d ++ e) (d ++ e).length 0 ∧ aheadD R e e.length 0 ≤ aheadD R (d ++ e) (d ++ e).length 0 := by
  have h16 := h.l16
  constructor
  · obtain ⟨X, x1, x2, x3⟩ := prov_most (okD_left h)
    have h1 := prov_before (R := R) (d := d) (e := e) (by omega) X
    have h2 := prov_le h (nat_okT (n := (d ++ e).length) x1 (fun t ht => by have := x2 t ht; simp; omega) (fun t _ => by omega))
    omega
  · obtain ⟨X, x1, x2, x3⟩ := prov_most (okD_right h)
    have h1 := prov_more (R := R) (d := d) (e := e) (by omega) X
    have h2 := prov_le h (nat_okT (n := (d ++ e).length) (X := X.map (· + d.length)) (by
      rw [List.pairwise_map]
      exact x1.imp fun h => by omega) (fun t ht => by
      obtain ⟨u, hu, rfl⟩ := List.mem_map.1 ht
      have := x2 u hu; simp; omega) (fun t _ => by omega))
    omega
end Go.Proofs.Ytjajdpggoggoiaa
