/- Put and Take undo one another, with their errors; plain. -/
import Derived.Test.YtnnfahdhmodejaaMGJ
namespace Go.Proofs.Ytnnfahdhmodejaa

theorem put_flat : ∀ (R : List (List Int)) (t : Int), (putR R t).1.flatten.Perm (t :: R.flatten)
  | [], t => by simp [putR]
  | l :: R, t => by
    have ih := put_flat R
    rw [putR_row]
    unfold rowB
    split
    · simp only [putW, List.flatten_cons]
      exact (List.Perm.append_right _ (List.perm_append_singleton t l))
    · rename_i hk
      have hk : ins l t < l.length := by have := ins_le l t; omega
      simp only [putW, List.flatten_cons]
      have h1 : (l.set (ins l t) t).Perm (t :: l.eraseIdx (ins l t)) := by
        rw [List.set_eq_take_append_cons_drop, if_pos hk, List.eraseIdx_eq_take_drop_succ]
        exact List.perm_middle
      have h2 : l.Perm (elt l (ins l t) :: l.eraseIdx (ins l t)) := by
        rw [elt_lt hk, List.eraseIdx_eq_take_drop_succ]
        conv => lhs; rw [← List.take_append_drop (ins l t) l, List.drop_eq_getElem_cons hk]
        exact List.perm_middle
      refine (h1.append (ih _)).trans ?_
      refine List.Perm.cons _ ?_
      refine (List.perm_middle).trans ?_
      exact (h2.symm.append_right R.flatten)
theorem any_out {l : List Int} {lo hi : Int} (h : ∀ x ∈ l, lo ≤ x ∧ x ≤ hi) : l.any (outB lo hi) = false := by
  rw [List.any_eq_false]
  intro x hx
  have := h x hx
  simp [outB]; omega
theorem out_any {l : List Int} {lo hi : Int} (h : l.any (outB lo hi) = false) : ∀ x ∈ l, lo ≤ x ∧ x ≤ hi := fun x hx => outB_bd (by have := List.any_eq_false.1 h x hx; simpa using this)
theorem outB_no {lo hi x : Int} (h : lo ≤ x ∧ x ≤ hi) : outB lo hi x = false := by simp [outB]; omega
theorem can_put {R : List (List Int)} (t : Int) (h : Tab R) : Can (putR R t).1 (putR R t).2 := by
  obtain ⟨h1, h2, h3⟩ := put_row R t
  refine ⟨by rw [h2]; split <;> omega, ?_⟩
  have a := h3 (putR R t).2
  have b := h3 ((putR R t).2 + 1)
  have c := (tab_row h (putR R t).2).2.1.1
  unfold row at a b c
  rw [if_pos rfl] at a
  rw [if_neg (by omega)] at b
  omega
theorem undone_put {R : List (List Int)} {n : Int} (hR : rackC R = 0) (hl : R.flatten.length < 12) (h1 : 1 ≤ n) (h2 : n ≤ 99) :
    putE R n = ((putR R n).1, ((putR R n).2 : Int), 0) ∧ rackC (putR R n).1 = 0 ∧ takeE (putR R n).1 ((putR R n).2 : Int) = (R, n, 0) ∧ (putR R n).2 < (putR R n).1.length ∧ Sml (putR R n).1 := by
  obtain ⟨a, b, c⟩ := rackC_zero hR
  have hp := put_flat R n
  have hX : rackC (putR R n).1 = 0 := by
    refine rackC_of (by rw [hp.length_eq, List.length_cons]; omega) (any_out fun x hx => ?_) (tab_put R n c)
    rcases List.mem_cons.1 (hp.mem_iff.1 hx) with rfl | hx
    · omega
    · exact out_any b x hx
  have hc := can_put n c
  have hcb : canB (putR R n).1 (putR R n).2 = true := (canB_iff (tab_put R n c) hc.1).2 hc
  have hpe : putE R n = ((putR R n).1, ((putR R n).2 : Int), 0) := by
    unfold putE
    rw [hR, if_neg (by simp), outB_no ⟨h1, h2⟩, if_neg (by simp), if_neg (by omega)]
  refine ⟨hpe, hX, ?_, hc.1, by have := putE_sml R n; rwa [hpe] at this⟩
  unfold takeE
  rw [hX, if_neg (by simp), outB_no ⟨by omega, by have := hc.1; omega⟩, if_neg (by simp), Int.toNat_natCast, hcb, if_pos rfl, take_put R n c]
theorem take_no {X : List (List Int)} {k : Nat} (hX : rackC X = 0) (hk : k < X.length) (hc : canB X k = false) : takeE X (k : Int) = ([], 0, 22) := by
  unfold takeE
  rw [hX, if_neg (by simp), outB_no ⟨by omega, by omega⟩, if_neg (by simp), Int.toNat_natCast, hc, if_neg (by simp)]
theorem undone_take {X : List (List Int)} {k : Nat} (hX : rackC X = 0) (hs : Sml X) (hk : k < X.length) (hc : canB X k = true) :
    takeE X (k : Int) = ((takeR X k).1, (takeR X k).2, 0) ∧ rackC (takeR X k).1 = 0 ∧ 1 ≤ (takeR X k).2 ∧ (takeR X k).2 ≤ 99 ∧ putE (takeR X k).1 (takeR X k).2 = (X, (k : Int), 0) ∧ Sml (takeR X k).1 := by
  obtain ⟨a, b, c⟩ := rackC_zero hX
  have hcan := (canB_iff c hk).1 hc
  have hpt := put_take X k c hcan
  have hp := put_flat (takeR X k).1 (takeR X k).2
  rw [hpt] at hp
  have hte : takeE X (k : Int) = ((takeR X k).1, (takeR X k).2, 0) := by
    unfold takeE
    rw [hX, if_neg (by simp), outB_no ⟨by omega, by omega⟩, if_neg (by simp), Int.toNat_natCast, hc, if_pos rfl]
  have hm := out_any b (takeR X k).2 (hp.mem_iff.2 (by simp))
  have hlen := hp.length_eq
  simp only [List.length_cons] at hlen
  have hZ : rackC (takeR X k).1 = 0 := rackC_of (by omega) (any_out fun x hx => out_any b x (hp.mem_iff.2 (by simp [hx]))) (tab_take X k c hcan)
  refine ⟨hte, hZ, hm.1, hm.2, ?_, by have := takeE_sml X (k : Int) hs; rwa [hte] at this⟩
  unfold putE
  rw [hZ, if_neg (by simp), outB_no hm, if_neg (by simp), if_neg (by omega), hpt]
end Go.Proofs.Ytnnfahdhmodejaa
