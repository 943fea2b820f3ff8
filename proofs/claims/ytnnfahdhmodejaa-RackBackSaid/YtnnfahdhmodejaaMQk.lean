/- A sequence of the numbers from 1 on, each once; where each number was; read from its end; plain. -/
import Derived.Test.YtnnfahdhmodejaaMQh
namespace Go.Proofs.Ytnnfahdhmodejaa

/-- Two elements change places. -/
def swp (l : List Int) (i k : Nat) : List Int := (l.set i (elt l k)).set k (elt l i)
theorem swp_perm {l : List Int} {i k : Nat} (hi : i < l.length) (hk : k < l.length) : (swp l i k).Perm l := by
  have h1 : ∀ (l : List Int) (j : Nat) (x : Int), j < l.length → (elt l j :: l.set j x).Perm (x :: l) := fun l j x hj => by
    rw [List.set_eq_take_append_cons_drop, if_pos hj, elt_lt hj]
    conv => rhs; rw [← List.take_append_drop j l, List.drop_eq_getElem_cons hj]
    exact (List.perm_middle.cons _).trans ((List.Perm.swap _ _ _).trans (List.perm_middle.symm.cons _))
  unfold swp
  have h2 := h1 (l.set i (elt l k)) k (elt l i) (by simpa using hk)
  have h3 := h1 l i (elt l k) hi
  have e : elt (l.set i (elt l k)) k = elt l k := by rw [elt_set hi]; split <;> simp_all
  rw [e] at h2
  have h5 : (elt l k :: swp l i k).Perm (elt l k :: l) := h2.trans h3
  exact h5.cons_inv
/-- The sequence, by numbers. -/
def kOf (bs : List Int) (i : Nat) : Nat := (elt bs (i % bs.length)).toNat % (i + 1)
def shf (bs : List Int) : Nat → List Int
  | 0 => []
  | i + 1 => if bs.length = 0 then shf bs i ++ [(i : Int) + 1] else swp (shf bs i ++ [(i : Int) + 1]) i (kOf bs i)
theorem shf_len (bs : List Int) : ∀ i, (shf bs i).length = i
  | 0 => rfl
  | i + 1 => by
    unfold shf
    split <;> simp [swp, shf_len bs i]
theorem shf_perm (bs : List Int) : ∀ i, (shf bs i).Perm ((List.range i).map fun (j : Nat) => (j : Int) + 1)
  | 0 => List.Perm.refl _
  | i + 1 => by
    have ih := shf_perm bs i
    have hb : (shf bs i ++ [(i : Int) + 1]).Perm ((List.range (i + 1)).map fun (j : Nat) => (j : Int) + 1) := by
      rw [List.range_succ, List.map_append]
      exact ih.append_right _
    unfold shf
    split
    · exact hb
    · have hk : kOf bs i < i + 1 := Nat.mod_lt _ (by omega)
      exact (swp_perm (by simp [shf_len]) (by simp [shf_len]; omega)).trans hb
theorem shf_all (bs : List Int) (n : Nat) : (shf bs n).Nodup ∧ ∀ x, x ∈ shf bs n ↔ 1 ≤ x ∧ x ≤ (n : Int) := by
  have h := shf_perm bs n
  refine ⟨h.nodup_iff.2 (List.pairwise_map.2 ((List.nodup_range (n := n)).imp fun hab e => hab (by omega))), fun x => ?_⟩
  rw [h.mem_iff, List.mem_map]
  constructor
  · rintro ⟨j, hj, rfl⟩
    have := List.mem_range.1 hj
    omega
  · rintro ⟨h1, h2⟩
    exact ⟨(x - 1).toNat, List.mem_range.2 (by omega), by omega⟩
/-- Where each number was, as far as the first k places tell. -/
def atL (s : List Int) (n : Nat) : Nat → List Int
  | 0 => zeros n
  | k + 1 => (atL s n k).set (elt s k - 1).toNat ((k : Int) + 1)
def bkL (s : List Int) (n : Nat) : Nat → List Int
  | 0 => zeros n
  | k + 1 => (bkL s n k).set (n - 1 - k) (elt s k)
theorem atL_len (s : List Int) (n : Nat) : ∀ k, (atL s n k).length = n
  | 0 => zeros_len n
  | k + 1 => by unfold atL; rw [List.length_set]; exact atL_len s n k
theorem bkL_len (s : List Int) (n : Nat) : ∀ k, (bkL s n k).length = n
  | 0 => zeros_len n
  | k + 1 => by unfold bkL; rw [List.length_set]; exact bkL_len s n k
theorem nodup_elt {s : List Int} (h : s.Nodup) {i j : Nat} (hi : i < s.length) (hj : j < s.length) (e : elt s i = elt s j) : i = j := by
  rw [elt_lt hi, elt_lt hj] at e
  have hp := List.pairwise_iff_getElem.1 h
  rcases Nat.lt_trichotomy i j with h1 | h1 | h1
  · exact absurd e (hp i j hi hj h1)
  · exact h1
  · exact absurd e.symm (hp j i hj hi h1)
theorem atL_elt {s : List Int} (hn : s.Nodup) (hb : ∀ x ∈ s, 1 ≤ x ∧ x ≤ (s.length : Int)) : ∀ k, k ≤ s.length → ∀ j, j < k → elt (atL s s.length k) (elt s j - 1).toNat = (j : Int) + 1
  | 0, _, j, h => by omega
  | k + 1, hk, j, h => by
    have hbk := hb _ (elt_mem (show k < s.length by omega))
    have hbj := hb _ (elt_mem (show j < s.length by omega))
    unfold atL
    rw [elt_set (by rw [atL_len]; omega)]
    by_cases e : j = k
    · subst e; rw [if_pos rfl]
    · rw [if_neg (fun e2 => e (nodup_elt hn (by omega) (by omega) (by omega)))]
      exact atL_elt hn hb k (by omega) j (by omega)
theorem bkL_elt (s : List Int) : ∀ k, k ≤ s.length → ∀ j, j < k → elt (bkL s s.length k) (s.length - 1 - j) = elt s j
  | 0, _, j, h => by omega
  | k + 1, hk, j, h => by
    unfold bkL
    rw [elt_set (by rw [bkL_len]; omega)]
    by_cases e : j = k
    · subst e; rw [if_pos rfl]
    · rw [if_neg (by omega)]
      exact bkL_elt s k (by omega) j (by omega)
theorem bkL_rev (s : List Int) : bkL s s.length s.length = s.reverse := by
  apply list_ext
  · rw [bkL_len, List.length_reverse]
  · intro i hi
    rw [bkL_len] at hi
    have := bkL_elt s s.length (Nat.le_refl _) (s.length - 1 - i) (by omega)
    rw [show s.length - 1 - (s.length - 1 - i) = i by omega] at this
    rw [this, elt_lt (show s.length - 1 - i < s.length by omega), elt_lt (show i < s.reverse.length by simpa using hi), List.getElem_reverse]
structure Inv (s t : List Int) : Prop where
  len : t.length = s.length
  iff : ∀ i j, i < s.length → j < s.length → (elt s i = (j : Int) + 1 ↔ elt t j = (i : Int) + 1)
  nod : t.Nodup
  bd : ∀ x ∈ t, 1 ≤ x ∧ x ≤ (s.length : Int)
theorem atL_inv {s : List Int} (hn : s.Nodup) (hm : ∀ x, x ∈ s ↔ 1 ≤ x ∧ x ≤ (s.length : Int)) : Inv s (atL s s.length s.length) := by
  have hb : ∀ x ∈ s, 1 ≤ x ∧ x ≤ (s.length : Int) := fun x hx => (hm x).1 hx
  have hl := atL_len s s.length s.length
  have key := atL_elt hn hb s.length (Nat.le_refl _)
  have hsur : ∀ j, j < s.length → ∃ i, i < s.length ∧ elt s i = (j : Int) + 1 := fun j hj => mem_row_elt ((hm ((j : Int) + 1)).2 (by omega))
  have hat : ∀ i j : Nat, i < s.length → elt s i = (j : Int) + 1 → elt (atL s s.length s.length) j = (i : Int) + 1 := fun i j hi e => by
    have := key i hi
    rwa [e, show ((j : Int) + 1 - 1).toNat = j by omega] at this
  have hiff : ∀ i j, i < s.length → j < s.length → (elt s i = (j : Int) + 1 ↔ elt (atL s s.length s.length) j = (i : Int) + 1) := fun i j hi hj => by
    refine ⟨hat i j hi, fun e => ?_⟩
    obtain ⟨i', hi', e'⟩ := hsur j hj
    have h2 := hat i' j hi' e'
    have : i = i' := by omega
    subst this; exact e'
  refine ⟨hl, hiff, List.pairwise_iff_getElem.2 fun a b ha hb' hab e => ?_, fun x hx => ?_⟩
  · rw [hl] at ha hb'
    obtain ⟨i, hi, e1⟩ := hsur a ha
    have h1 := hat i a hi e1
    have h2 : elt (atL s s.length s.length) b = (i : Int) + 1 := by rw [← h1, elt_lt (by omega), elt_lt (by omega)]; exact e.symm
    have h3 := (hiff i b hi hb').2 h2
    omega
  · obtain ⟨j, hj, rfl⟩ := mem_row_elt hx
    obtain ⟨i, hi, e1⟩ := hsur j (by omega)
    rw [hat i j hi e1]; omega
theorem seqC_nums {s : List Int} (h12 : s.length ≤ 12) (hb : ∀ x ∈ s, 1 ≤ x ∧ x ≤ (s.length : Int)) : seqC s = 0 := by
  unfold seqC
  rw [if_neg (by omega), if_neg]
  rw [Bool.not_eq_true, List.any_eq_false]
  intro x hx
  have := hb x hx
  simp [outB]; omega
theorem shp_turn {P : List (List Int)} (h : Tab P) : shpI (turnT P) = exchL (shpI P) := by
  have hl : (turnT P).length = (hd P).length := by unfold turnT; rw [len_fold P [] h]; simp
  have h0 : (elt (shpI P) 0).toNat = (hd P).length := by cases P <;> simp [shpI, elt, hd]
  apply list_ext
  · rw [show (exchL (shpI P)).length = (elt (shpI P) 0).toNat by simp [exchL], h0]; simp [shpI, hl]
  · intro j hj
    simp only [shpI, List.length_map] at hj
    have e1 : elt (shpI (turnT P)) j = ((row (turnT P) j).length : Int) := by unfold elt shpI; simp [hj, row]
    have e2 : elt (exchL (shpI P)) j = cntGt (shpI P) j := by unfold elt exchL; simp [h0, ← hl, hj]
    rw [e1, e2]
    unfold turnT cntGt
    rw [row_fold]
    simp only [row, List.getElem?_nil, Option.getD_none, List.nil_append, List.length_map, shpI, List.filter_map]
    congr 3
    funext l
    simp
theorem turn_in {P : List (List Int)} (h : Tab P) {i k : Nat} (hk : k < (row (turnT P) i).length) : k < P.length ∧ i < (row P k).length := by
  have hk' := hk
  unfold turnT at hk'
  rw [row_fold] at hk'
  simp only [row, List.getElem?_nil, Option.getD_none, List.nil_append, List.length_map] at hk'
  have hf := (tab_filter i h).1
  have hkP : k < P.length := by have := List.length_filter_le (fun l => decide (i < l.length)) P; omega
  refine ⟨hkP, ?_⟩
  have hm : (P.filter fun l => decide (i < l.length))[k] ∈ P.filter fun l => decide (i < l.length) := List.getElem_mem hk'
  have h2 := (List.mem_filter.1 hm).2
  rw [decide_eq_true_eq] at h2
  have e : (P.filter fun l => decide (i < l.length))[k]? = P[k]? := by
    conv => lhs; rw [hf]
    rw [List.getElem?_take, if_pos hk']
  rw [List.getElem?_eq_getElem hk', List.getElem?_eq_getElem hkP] at e
  rw [row_lt hkP, ← Option.some.inj e]
  exact h2
end Go.Proofs.Ytnnfahdhmodejaa
