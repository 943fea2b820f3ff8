/- Plain facts: a row without its needless valves. -/
import Derived.Test.YtdnaipiiponhpaaGF
namespace Go.Proofs.Ytdnaipiiponhpaa

theorem run_cutK {p : Nat} {V : List (Int × Int)} (h : OkV p V) (l : List Int) (hl : l.length = p) : ∀ k, k ≤ V.length → runV (rcutK p V k) l = runV (V.take k) l
  | 0, _ => by simp [rcutK, runV]
  | k + 1, hk => by
    have ih := run_cutK h l hl k (by omega)
    rw [rcutK_succ, runV_snoc V k (by omega)]
    cases hn : rneedB p V k with
    | true => rw [if_pos rfl, ih, need_all h (by omega) hn l hl]
    | false => rw [if_neg (by simp), runV_append, ih]; rfl
theorem cut_at {p : Nat} {V : List (Int × Int)} : ∀ n, n ≤ V.length → ∀ j, j < (rcutK p V n).length → ∃ k, k < n ∧ rneedB p V k = false ∧ (rcutK p V n)[j]?.getD (0, 0) = V[k]?.getD (0, 0) ∧ (rcutK p V n).take j = rcutK p V k
  | 0, _, j, hj => by simp [rcutK] at hj
  | n + 1, hn, j, hj => by
    rw [rcutK_succ] at hj ⊢
    cases hb : rneedB p V n with
    | true =>
      rw [hb, if_pos rfl] at hj
      rw [if_pos rfl]
      obtain ⟨k, h1, h2, h3, h4⟩ := cut_at n (by omega) j hj
      exact ⟨k, by omega, h2, h3, h4⟩
    | false =>
      rw [hb, if_neg (by simp)] at hj
      rw [if_neg (by simp)]
      rcases Nat.lt_or_ge j (rcutK p V n).length with h | h
      · obtain ⟨k, h1, h2, h3, h4⟩ := cut_at n (by omega) j h
        exact ⟨k, by omega, h2, by rw [List.getElem?_append_left h]; exact h3, by rw [List.take_append_of_le_length (by omega)]; exact h4⟩
      · have hj2 : j = (rcutK p V n).length := by simp at hj; omega
        subst hj2
        exact ⟨n, by omega, hb, by simp, by simp⟩
theorem cut_ok {p : Nat} {V : List (Int × Int)} (h : OkV p V) : OkV p (rcutK p V V.length) := by
  intro v hv
  obtain ⟨i, hi, rfl⟩ := List.mem_map.1 hv
  have hi' : i < V.length := List.mem_range.1 (List.mem_filter.1 hi).1
  rw [List.getElem?_eq_getElem hi']
  exact h _ (List.getElem_mem hi')
/-- No valve that is left is needless. -/
theorem cut_none {p : Nat} {V : List (Int × Int)} (h : OkV p V) (j : Nat) (hj : j < (rcutK p V V.length).length) : rneedB p (rcutK p V V.length) j = false := by
  obtain ⟨k, h1, h2, h3, h4⟩ := cut_at V.length (Nat.le_refl _) j hj
  unfold rneedB at h2 ⊢
  rw [List.all_eq_false] at h2 ⊢
  obtain ⟨t, ht, hm⟩ := h2
  refine ⟨t, ht, ?_⟩
  unfold meetsB at hm ⊢
  rw [h3, h4, run_cutK h _ (bitsOf_len p t) k (by omega)]
  exact hm
theorem cut_needL {p : Nat} {V : List (Int × Int)} (h : OkV p V) : rneedL p (rcutK p V V.length) (rcutK p V V.length).length = [] := by
  unfold rneedL
  rw [List.map_eq_nil_iff, List.filter_eq_nil_iff]
  intro k hk
  rw [cut_none h k (List.mem_range.1 hk)]; simp
theorem cut_count (p : Nat) (V : List (Int × Int)) (n : Nat) : (rcutK p V n).length + (rneedL p V n).length = n := by
  induction n with
  | zero => rfl
  | succ n ih =>
    rw [rcutK_succ, rneedL_succ]
    cases rneedB p V n <;> simp <;> omega
theorem need_twice {p : Nat} {V : List (Int × Int)} (h : OkV p V) (k : Nat) (hk : k + 1 < V.length) (he : V[k + 1]?.getD (0, 0) = V[k]?.getD (0, 0)) : rneedB p V (k + 1) = true := by
  unfold rneedB
  rw [List.all_eq_true]
  intro t _
  unfold meetsB
  rw [he, runV_snoc V k (by omega)]
  have hm : V[k] ∈ V := List.getElem_mem (by omega)
  obtain ⟨h1, h2, h3⟩ := h _ hm
  have hg : V[k]?.getD (0, 0) = V[k] := by simp [show k < V.length by omega]
  rw [hg]
  have hl : (runV (V.take k) (bitsOf p t)).length = p := by rw [runV_length, bitsOf_len]
  rw [stepV_get _ _ h1 h2 (by rw [hl]; exact h3), stepV_get _ _ h1 h2 (by rw [hl]; exact h3), if_neg (by omega), if_pos rfl, if_pos rfl]
  simp only [Bool.not_eq_true', decide_eq_false_iff_not]
  omega
end Go.Proofs.Ytdnaipiiponhpaa
