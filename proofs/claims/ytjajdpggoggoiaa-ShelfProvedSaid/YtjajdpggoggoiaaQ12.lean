/- Any right plan of the lazy kind, step by step. -/
import Derived.Test.YtjajdpggoggoiaaH5
namespace Go.Proofs.Ytjajdpggoggoiaa
open Go.RowKit Go.Shelf
/-- The state behind k wants of some right plan that puts away only when it must. -/
def PlanAt (R : Int) (W : List Int) (k : Nat) (l p : List Int) (m : Int) : Prop :=
  ∃ (L : Nat → List Int) (P : Nat → Int), (L 0 = [] ∧
    (∀ i, i < k → want W i ∈ L i → (L (i + 1)).Perm (L i) ∧ P i = 0) ∧
    (∀ i, i < k → want W i ∉ L i → ((L i).length : Int) = R → P i ∈ L i ∧ (L (i + 1)).Perm ((L i).erase (P i) ++ [want W i])) ∧
    (∀ i, i < k → want W i ∉ L i → ((L i).length : Int) ≠ R → P i = 0 ∧ (L (i + 1)).Perm (L i ++ [want W i]))) ∧
    L k = l ∧ p = (List.range k).map P ∧ m = fetN W L k ∧ LOk R l
theorem PlanAt.zero {R : Int} {W : List Int} (h : 0 ≤ R) : PlanAt R W 0 [] [] 0 :=
  ⟨fun _ => [], fun _ => 0, ⟨rfl, fun i hi => by omega, fun i hi => by omega, fun i hi => by omega⟩, rfl, rfl, rfl, ⟨by simp, by simpa using h, fun x hx => by cases hx⟩⟩
theorem fetN_congr2 {W : List Int} {L M : Nat → List Int} (k : Nat) (h : ∀ i, i < k → L i = M i) : fetN W L k = fetN W M k := by
  refine Int.le_antisymm (fetN_anti k fun i hi hm => ?_) (fetN_anti k fun i hi hm => ?_)
  · rw [h i hi]; exact hm
  · rw [← h i hi]; exact hm
theorem PlanAt.step {R : Int} {W : List Int} {k : Nat} {l p : List Int} {m : Int} (h : PlanAt R W k l p m) (l' : List Int) (q : Int) (hk : want W k ∈ l → l'.Perm l ∧ q = 0)
    (hf : want W k ∉ l → (l.length : Int) = R → q ∈ l ∧ l'.Perm (l.erase q ++ [want W k])) (hr : want W k ∉ l → (l.length : Int) ≠ R → q = 0 ∧ l'.Perm (l ++ [want W k])) (hok : LOk R l') :
    PlanAt R W (k + 1) l' (p ++ [q]) (m + if want W k ∈ l then 0 else 1) := by
  obtain ⟨L, P, ⟨z, a1, a2, a3⟩, rfl, rfl, rfl, _⟩ := h
  have e1 : ∀ i, i ≤ k → (fun i => if i ≤ k then L i else l') i = L i := fun i hi => by simp [hi]
  have e2 : (fun i => if i ≤ k then L i else l') (k + 1) = l' := if_neg (by omega)
  have e3 : ∀ i, i < k → (fun i => if i < k then P i else q) i = P i := fun i hi => by simp [hi]
  have e4 : (fun i => if i < k then P i else q) k = q := by simp
  refine ⟨fun i => if i ≤ k then L i else l', fun i => if i < k then P i else q, ⟨?_, fun i hi => ?_, fun i hi => ?_, fun i hi => ?_⟩, e2, ?_, ?_, hok⟩
  · rw [e1 0 (by omega)]; exact z
  · rw [e1 i (by omega)]
    by_cases g : i = k
    · subst g; rw [e2, e4]; exact hk
    · rw [e1 (i + 1) (by omega), e3 i (by omega)]; exact a1 i (by omega)
  · rw [e1 i (by omega)]
    by_cases g : i = k
    · subst g; rw [e2, e4]; exact hf
    · rw [e1 (i + 1) (by omega), e3 i (by omega)]; exact a2 i (by omega)
  · rw [e1 i (by omega)]
    by_cases g : i = k
    · subst g; rw [e2, e4]; exact hr
    · rw [e1 (i + 1) (by omega), e3 i (by omega)]; exact a3 i (by omega)
  · rw [List.range_succ, List.map_append]
    congr 1
    · refine List.map_congr_left fun i hi => ?_
      exact (e3 i (List.mem_range.1 hi)).symm
    · simp
  · rw [fetN_succ, fetN_congr2 k fun i hi => e1 i (by omega), if_pos (Nat.le_refl k)]
theorem PlanAt.ok {R : Int} {W : List Int} {k : Nat} {l p : List Int} {m : Int} (h : PlanAt R W k l p m) : LOk R l ∧ p.length = k ∧ 0 ≤ m ∧ m ≤ k := by
  obtain ⟨L, P, _, rfl, rfl, rfl, h⟩ := h
  exact ⟨h, by simp, fetN_bd W L k⟩
theorem PlanAt.keep {R : Int} {W : List Int} {k : Nat} {l p : List Int} {m : Int} (h : PlanAt R W k l p m) (hm : want W k ∈ l) : PlanAt R W (k + 1) l (p ++ [0]) m := by
  have := h.step l 0 (fun _ => ⟨.refl _, rfl⟩) (fun hn => absurd hm hn) (fun hn => absurd hm hn) h.ok.1
  rwa [if_pos hm, Int.add_zero] at this
theorem PlanAt.put {R : Int} {W : List Int} (hd : OkD R W) {k : Nat} {l p : List Int} {m : Int} (h : PlanAt R W k l p m) (hk : k < W.length) (hm : want W k ∉ l) (hf : (l.length : Int) ≠ R) : PlanAt R W (k + 1) (l ++ [want W k]) (p ++ [0]) (m + 1) := by
  have hw := hd.at hk
  have hok := h.ok.1
  have := h.step (l ++ [want W k]) 0 (fun h => absurd h hm) (fun _ h => absurd h hf) (fun _ _ => ⟨rfl, .refl _⟩) ⟨by
    rw [List.nodup_append]
    refine ⟨hok.nodup, by simp, fun a ha b hb => ?_⟩
    simp at hb; subst hb
    intro e; subst e; exact hm ha, by have := hok.le; simp; omega, fun x hx => by
    rcases List.mem_append.1 hx with g | g
    · exact hok.bd x g
    · simp at g; subst g; exact hw⟩
  rwa [if_neg hm] at this
theorem erase_at : ∀ {l : List Int}, l.Nodup → ∀ {j : Nat}, j < l.length → l.erase (l[j]?.getD 0) = l.take j ++ l.drop (j + 1)
  | [], _, j, hj => by simp at hj
  | x :: l, hn, 0, hj => by simp
  | x :: l, hn, j + 1, hj => by
    have hn := List.nodup_cons.1 hn
    have hj : j < l.length := by simpa using hj
    have ih := erase_at hn.2 hj
    have e : (x :: l)[j + 1]?.getD 0 = l[j]?.getD 0 := by simp
    have hm : l[j]?.getD 0 ∈ l := by rw [List.getElem?_eq_getElem hj]; exact List.getElem_mem hj
    rw [e, List.erase_cons_tail (by simp; intro e2; exact hn.1 (e2 ▸ hm)), ih]
    simp
theorem PlanAt.swap {R : Int} {W : List Int} (hd : OkD R W) {k : Nat} {l p : List Int} {m : Int} (h : PlanAt R W k l p m) (hk : k < W.length) (hm : want W k ∉ l) (hf : (l.length : Int) = R) {j : Nat} (hj : j < l.length) :
    PlanAt R W (k + 1) (l.take j ++ l.drop (j + 1) ++ [want W k]) (p ++ [l[j]?.getD 0]) (m + 1) := by
  have hw := hd.at hk
  have hok := h.ok.1
  have hq : l[j]?.getD 0 ∈ l := by rw [List.getElem?_eq_getElem hj]; exact List.getElem_mem hj
  have e := erase_at hok.nodup hj
  have := h.step (l.take j ++ l.drop (j + 1) ++ [want W k]) (l[j]?.getD 0) (fun h => absurd h hm) (fun _ _ => ⟨hq, by rw [e]⟩) (fun _ h => absurd hf h) (by rw [← e]; exact hok.swap hq hm hw.1 hw.2)
  rwa [if_neg hm] at this
theorem PlanAt.done {R : Int} {W : List Int} (hc : checkD R W = 0) {l p : List Int} {m : Int} (h : PlanAt R W W.length l p m) : planR R W p = (m, 0) ∧ aheadD R W W.length 0 ≤ m := by
  obtain ⟨L, P, ⟨z, a1, a2, a3⟩, rfl, rfl, rfl, _⟩ := h
  have hz : Lazy R W L P := ⟨z, a1, a2, a3⟩
  exact ⟨hz.planR hc, few_le (okD_of hc) (hz.trace (okD_of hc))⟩
end Go.Proofs.Ytjajdpggoggoiaa
