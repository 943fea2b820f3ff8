/- Merged texts: runs and ways; Sort, Delete, best, run, Plan, Fetches, Fewest. -/
import Derived.Test.YtjajdpggoggoiaaGC
import Derived.Test.YtjajdpggoggoiaaGB
import Derived.Lib.SliceRun
import Derived.BigFrame
import Derived.Laws.CopyOwn
import Derived.Laws.IdiomCopy
namespace Go.Proofs.Ytjajdpggoggoiaa

/-- Lists on the bench that follow the wants, and what is put away. -/
structure Lazy (R : Int) (W : List Int) (L : Nat → List Int) (P : Nat → Int) : Prop where
  zero : L 0 = []
  kept : ∀ i, i < W.length → want W i ∈ L i → (L (i + 1)).Perm (L i) ∧ P i = 0
  full : ∀ i, i < W.length → want W i ∉ L i → ((L i).length : Int) = R → P i ∈ L i ∧ (L (i + 1)).Perm ((L i).erase (P i) ++ [want W i])
  room : ∀ i, i < W.length → want W i ∉ L i → ((L i).length : Int) ≠ R → P i = 0 ∧ (L (i + 1)).Perm (L i ++ [want W i])
structure LOk (R : Int) (l : List Int) : Prop where
  nodup : l.Nodup
  le : (l.length : Int) ≤ R
  bd : ∀ x ∈ l, 1 ≤ x ∧ x ≤ 8
theorem LOk.perm {R : Int} {l m : List Int} (h : LOk R l) (p : m.Perm l) : LOk R m :=
  ⟨p.nodup_iff.2 h.nodup, by rw [p.length_eq]; exact h.le, fun x hx => h.bd x (p.mem_iff.1 hx)⟩
theorem LOk.swap {R : Int} {l : List Int} {p w : Int} (h : LOk R l) (hp : p ∈ l) (hw : w ∉ l) (w1 : 1 ≤ w) (w8 : w ≤ 8) : LOk R (l.erase p ++ [w]) := by
  refine ⟨?_, ?_, fun x hx => ?_⟩
  · rw [List.nodup_append]
    refine ⟨h.nodup.erase _, by simp, fun a ha b hb => ?_⟩
    simp at hb; subst hb
    intro e; subst e
    exact hw (List.mem_of_mem_erase ha)
  · have := h.le
    have := List.length_pos_of_mem hp
    rw [List.length_append, List.length_erase_of_mem hp]
    simp; omega
  · rcases List.mem_append.1 hx with h1 | h1
    · exact h.bd x (List.mem_of_mem_erase h1)
    · simp at h1; subst h1; exact ⟨w1, w8⟩
theorem LOk.more {R : Int} {l : List Int} {w : Int} (h : LOk R l) (hl : (l.length : Int) ≠ R) (hw : w ∉ l) (w1 : 1 ≤ w) (w8 : w ≤ 8) : LOk R (l ++ [w]) := by
  refine ⟨?_, ?_, fun x hx => ?_⟩
  · rw [List.nodup_append]
    refine ⟨h.nodup, by simp, fun a ha b hb => ?_⟩
    simp at hb; subst hb
    intro e; subst e
    exact hw ha
  · have := h.le
    rw [List.length_append]
    simp; omega
  · rcases List.mem_append.1 hx with h1 | h1
    · exact h.bd x h1
    · simp at h1; subst h1; exact ⟨w1, w8⟩
variable {R : Int} {W : List Int} {L : Nat → List Int} {P : Nat → Int}
theorem Lazy.ok (h : Lazy R W L P) (hd : OkD R W) : ∀ i, i ≤ W.length → LOk R (L i)
  | 0, _ => by rw [h.zero]; exact ⟨List.nodup_nil, by have := hd.r1; simp; omega, by simp⟩
  | i + 1, hi => by
    have ih := h.ok hd i (by omega)
    have hw := hd.at (show i < W.length by omega)
    by_cases hm : want W i ∈ L i
    · exact ih.perm (h.kept i hi hm).1
    · by_cases hf : ((L i).length : Int) = R
      · obtain ⟨h1, h2⟩ := h.full i hi hm hf
        exact (ih.swap h1 hm hw.1 hw.2).perm h2
      · obtain ⟨_, h2⟩ := h.room i hi hm hf
        exact (ih.more hf hm hw.1 hw.2).perm h2
theorem Lazy.trace (h : Lazy R W L P) (hd : OkD R W) : Dual.Trace R.toNat W L := by
  refine ⟨h.zero, fun i hi => ⟨(h.ok hd i hi).nodup, ?_⟩, fun i hi => ?_, fun i hi x hx => ?_⟩
  · have := (h.ok hd i hi).le; omega
  · show want W i ∈ _
    by_cases hm : want W i ∈ L i
    · exact (h.kept i hi hm).1.mem_iff.2 hm
    · by_cases hf : ((L i).length : Int) = R
      · exact (h.full i hi hm hf).2.mem_iff.2 (by simp)
      · exact (h.room i hi hm hf).2.mem_iff.2 (by simp)
  · show x = want W i ∨ _
    by_cases hm : want W i ∈ L i
    · exact .inr ((h.kept i hi hm).1.mem_iff.1 hx)
    · by_cases hf : ((L i).length : Int) = R
      · have := (h.full i hi hm hf).2.mem_iff.1 hx
        rcases List.mem_append.1 this with h1 | h1
        · exact .inr (List.mem_of_mem_erase h1)
        · exact .inl (by simpa using h1)
      · have := (h.room i hi hm hf).2.mem_iff.1 hx
        rcases List.mem_append.1 this with h1 | h1
        · exact .inr h1
        · exact .inl (by simpa using h1)
/-- How many of the first k wants are fetched. -/
def fetN (W : List Int) (L : Nat → List Int) : Nat → Int
  | 0 => 0
  | k + 1 => fetN W L k + if want W k ∈ L k then 0 else 1
theorem fetN_cnt (W : List Int) (L : Nat → List Int) : ∀ k, fetN W L k = (Dual.cnt k (fun i => !Dual.keptB W L i) : Int)
  | 0 => by simp [fetN, Dual.cnt]
  | k + 1 => by
    unfold fetN
    rw [Dual.cnt_succ, fetN_cnt W L k]
    have : Dual.keptB W L k = decide (want W k ∈ L k) := rfl
    rw [this]
    by_cases hm : want W k ∈ L k <;> simp [hm]
theorem fetN_bd (W : List Int) (L : Nat → List Int) : ∀ k, 0 ≤ fetN W L k ∧ fetN W L k ≤ k
  | 0 => by simp [fetN]
  | k + 1 => by
    have := fetN_bd W L k
    unfold fetN; split <;> omega

/-- What is on the bench, as 9 numbers. -/
def onL (l : List Int) : List Int := (List.range 9).map fun (i : Nat) => if (i : Int) ∈ l then 1 else 0
theorem onL_len (l : List Int) : (onL l).length = 9 := by simp [onL]
theorem onL_at (l : List Int) (i : Nat) (h : i < 9) : (onL l)[i]?.getD 0 = if (i : Int) ∈ l then 1 else 0 := by simp [onL, h]
theorem onL_perm {l m : List Int} (p : l.Perm m) : onL l = onL m := by
  unfold onL
  apply List.map_congr_left
  intro i _
  simp [p.mem_iff]
theorem onL_nil : onL [] = zeros := by decide
theorem onL_ok {R : Int} {l : List Int} (h : LOk R l) : OnOk (onL l) := by
  refine ⟨onL_len l, fun y hy => ?_, ?_⟩
  · obtain ⟨i, _, rfl⟩ := List.mem_map.1 hy
    split <;> omega
  · rw [onL_at l 0 (by omega), if_neg]
    intro hc
    have := h.bd _ hc
    omega
theorem hasB_onL {l : List Int} {r : Int} (r0 : 0 ≤ r) (r8 : r ≤ 8) : hasB (onL l) r = decide (r ∈ l) := by
  obtain ⟨n, rfl⟩ := Int.eq_ofNat_of_zero_le r0
  unfold hasB bitV
  rw [Int.toNat_natCast, onL_at l n (by omega)]
  by_cases hm : (n : Int) ∈ l <;> simp [hm]
theorem foldl_add : ∀ (l : List Int) (b : Int), l.foldl (· + ·) b = b + l.foldl (· + ·) 0
  | [], b => by simp
  | x :: l, b => by
    simp only [List.foldl_cons]
    rw [foldl_add l (b + x), foldl_add l (0 + x)]; omega
theorem sum_ite (p : Nat → Prop) [DecidablePred p] : ∀ l : List Nat, sumL (l.map fun i => if p i then (1 : Int) else 0) = ((l.filter fun i => decide (p i)).length : Int)
  | [] => rfl
  | x :: l => by
    have ih := sum_ite p l
    unfold sumL at ih ⊢
    simp only [List.map_cons, List.foldl_cons]
    rw [foldl_add, ih]
    by_cases h : p x
    · simp [h]; omega
    · simp [h]
theorem sum_onL {R : Int} {l : List Int} (h : LOk R l) : sumL (onL l) = (l.length : Int) := by
  unfold onL
  rw [sum_ite]
  congr 1
  have := nodup_len (((List.range 9).filter fun i : Nat => decide ((i : Int) ∈ l)).map fun (i : Nat) => (i : Int)) l (by
    rw [List.Nodup, List.pairwise_map]
    refine List.Pairwise.imp_of_mem ?_ ((List.nodup_range (n := 9)).filter _)
    intro a b _ _ hab e
    exact hab (by omega)) h.nodup (fun x => by
    constructor
    · intro hx
      obtain ⟨i, hi, rfl⟩ := List.mem_map.1 hx
      simp at hi; exact hi.2
    · intro hx
      have := h.bd x hx
      refine List.mem_map.2 ⟨x.toNat, ?_, by omega⟩
      simp
      refine ⟨by omega, ?_⟩
      rw [show max x 0 = x by omega]; exact hx)
  simpa using this
theorem onL_step {l m : List Int} {p w : Int} (p0 : 0 ≤ p) (p8 : p ≤ 8) (w0 : 1 ≤ w) (w8 : w ≤ 8) (_hz : (0 : Int) ∉ l) (hm : ∀ x : Int, x ∈ m ↔ x = w ∨ x ∈ l ∧ x ≠ p) : stepOn (onL l) p w = onL m := by
  apply List.ext_getElem
  · simp [stepOn, onL]
  · intro i h1 h2
    have hi : i < 9 := by rw [onL_len] at h2; exact h2
    have e1 : ∀ (l : List Int) (h : i < l.length), l[i] = l[i]?.getD 0 := fun l h => by simp [h]
    rw [e1 _ h1, e1 _ h2, onL_at m i hi]
    unfold stepOn
    rw [set_get _ _ _ _ (by simp [onL]; omega), set_get _ _ _ _ (by simp [onL]; omega), onL_at l i hi]
    by_cases hw : w.toNat = i
    · rw [if_pos hw, if_pos ((hm _).2 (.inl (by omega)))]
    · rw [if_neg hw]
      by_cases hp : p.toNat = i
      · rw [if_pos hp, if_neg]
        intro hc
        rcases (hm _).1 hc with h | h
        · omega
        · exact h.2 (by omega)
      · rw [if_neg hp]
        by_cases hl : (i : Int) ∈ l
        · rw [if_pos hl, if_pos ((hm _).2 (.inr ⟨hl, by omega⟩))]
        · rw [if_neg hl, if_neg]
          intro hc
          rcases (hm _).1 hc with h | h
          · omega
          · exact hl h.1
theorem Lazy.stepOn (h : Lazy R W L P) (hd : OkD R W) {i : Nat} (hi : i < W.length) : stepOn (onL (L i)) (P i) (want W i) = onL (L (i + 1)) ∧ 0 ≤ P i ∧ P i ≤ 8 := by
  have ih := h.ok hd i (by omega)
  have hw := hd.at hi
  have hz : (0 : Int) ∉ L i := fun hc => by have := ih.bd _ hc; omega
  by_cases hm : want W i ∈ L i
  · obtain ⟨h1, h2⟩ := h.kept i hi hm
    rw [h2, onL_perm h1]
    exact ⟨onL_step (by omega) (by omega) hw.1 hw.2 hz fun x => ⟨fun hx => .inr ⟨hx, fun e => hz (e ▸ hx)⟩, fun hx => by rcases hx with rfl | hx; exact hm; exact hx.1⟩, by omega, by omega⟩
  · by_cases hf : ((L i).length : Int) = R
    · obtain ⟨h1, h2⟩ := h.full i hi hm hf
      have hp := ih.bd _ h1
      rw [onL_perm h2]
      refine ⟨onL_step (by omega) (by omega) hw.1 hw.2 hz fun x => ?_, by omega, by omega⟩
      rw [List.mem_append, List.mem_singleton, ih.nodup.mem_erase_iff]
      constructor
      · rintro (⟨h3, h4⟩ | h3)
        · exact .inr ⟨h4, h3⟩
        · exact .inl h3
      · rintro (h3 | ⟨h3, h4⟩)
        · exact .inr h3
        · exact .inl ⟨h4, h3⟩
    · obtain ⟨h1, h2⟩ := h.room i hi hm hf
      rw [h1, onL_perm h2]
      refine ⟨onL_step (by omega) (by omega) hw.1 hw.2 hz fun x => ?_, by omega, by omega⟩
      rw [List.mem_append, List.mem_singleton]
      constructor
      · rintro (h3 | h3)
        · exact .inr ⟨h3, fun e => hz (e ▸ h3)⟩
        · exact .inl h3
      · rintro (h3 | h3)
        · exact .inr h3
        · exact .inl h3.1
/-- The plan of such a run is right, and has as many fetches. -/
theorem Lazy.cpGo (h : Lazy R W L P) (hd : OkD R W) : ∀ k, k ≤ W.length → ∀ n : Int, cpGo R (W.drop (W.length - k)) (((List.range W.length).map P).drop (W.length - k)) (onL (L (W.length - k))) n = (n + (fetN W L W.length - fetN W L (W.length - k)), 0)
  | 0, _, n => by simp [Ytjajdpggoggoiaa.cpGo]
  | k + 1, hk, n => by
    obtain ⟨i, hi⟩ : ∃ i, W.length - (k + 1) = i := ⟨_, rfl⟩
    rw [hi]
    have hi2 : W.length - k = i + 1 := by omega
    have hlt : i < W.length := by omega
    have ih := h.cpGo hd k (by omega)
    rw [hi2] at ih
    rw [List.drop_eq_getElem_cons hlt, List.drop_eq_getElem_cons (i := i) (by simp; exact hlt)]
    have e1 : W[i] = want W i := by simp [want, hlt]
    have e2 : ((List.range W.length).map P)[i]'(by simp; exact hlt) = P i := by simp
    rw [e1, e2]
    obtain ⟨s1, s2, s3⟩ := h.stepOn hd hlt
    have ok := h.ok hd i (by omega)
    have hw := hd.at hlt
    have hb : hasB (onL (L i)) (want W i) = decide (want W i ∈ L i) := hasB_onL (by omega) hw.2
    have hf : fullB R (onL (L i)) (want W i) = (!decide (want W i ∈ L i) && (((L i).length : Int) == R)) := by unfold fullB; rw [hb, sum_onL ok]
    unfold Ytjajdpggoggoiaa.cpGo
    rw [s1, ih, hf, hb, hasB_onL s2 s3]
    have e3 : fetN W L (i + 1) = fetN W L i + if want W i ∈ L i then 0 else 1 := rfl
    rw [e3]
    by_cases hm : want W i ∈ L i
    · have hp := (h.kept i hlt hm).2
      simp [hm, hp]
    · by_cases hfl : ((L i).length : Int) = R
      · have hp := (h.full i hlt hm hfl).1
        have hp0 := ok.bd _ hp
        have : P i ≠ 0 := by omega
        simp [hm, hfl, hp, this]; omega
      · have hp := (h.room i hlt hm hfl).1
        simp [hm, hfl, hp]; omega
theorem Lazy.planR (h : Lazy R W L P) (hc : checkD R W = 0) : planR R W ((List.range W.length).map P) = (fetN W L W.length, 0) := by
  have hd := okD_of hc
  have h1 := h.cpGo hd W.length (Nat.le_refl _) 0
  rw [Nat.sub_self, List.drop_zero, List.drop_zero, h.zero, onL_nil] at h1
  unfold Ytjajdpggoggoiaa.planR
  rw [if_neg (by simp [hc]), if_neg (by simp), if_neg, h1]
  · simp [fetN]
  · simp only [Bool.not_eq_true, List.any_eq_false]
    intro x hx
    obtain ⟨i, hi, rfl⟩ := List.mem_map.1 hx
    have := h.stepOn hd (List.mem_range.1 hi)
    simp [outB]; omega
end Go.Proofs.Ytjajdpggoggoiaa

namespace Go.Proofs.Ytjajdpggoggoiaa

theorem nextD_spec (W : List Int) (_hl : W.length ≤ 1000) (i : Nat) (r : Int) :
    (nextD W i r = 1000 ∧ ∀ k, i < k → k < W.length → want W k ≠ r) ∨ ∃ q : Nat, nextD W i r = q ∧ i < q ∧ q < W.length ∧ want W q = r ∧ ∀ k, i < k → k < q → want W k ≠ r := by
  unfold nextD
  cases h : (W.drop (i + 1)).findIdx? (eqB r) with
  | none =>
    left
    refine ⟨rfl, fun k h1 h2 e => ?_⟩
    rw [List.findIdx?_eq_none_iff] at h
    have := h W[k] (by rw [List.mem_iff_getElem]; exact ⟨k - (i + 1), by simp; omega, by simp; congr 1; omega⟩)
    simp [eqB, want, h2] at this e
    exact this e.symm
  | some j =>
    right
    rw [List.findIdx?_eq_some_iff_getElem] at h
    obtain ⟨hj, h1, h2⟩ := h
    have hj2 := hj
    rw [List.length_drop] at hj2
    refine ⟨i + 1 + j, rfl, by omega, by omega, ?_, fun k k1 k2 e => ?_⟩
    · simp [eqB] at h1
      simp [want, show i + 1 + j < W.length by omega, h1]
    · have := h2 (k - (i + 1)) (by omega)
      simp [eqB, show i + 1 + (k - (i + 1)) = k by omega] at this
      simp [want, show k < W.length by omega] at e
      exact this e.symm
theorem awayK_inv (W : List Int) (hl : W.length ≤ 1000) (i : Nat) (l : List Int) : ∀ k, k ≤ l.length → 0 < k →
    (awayK W i (l.take k)).1 ∈ l.take k ∧ (awayK W i (l.take k)).2 = nextD W i (awayK W i (l.take k)).1 ∧ ∀ x ∈ l.take k, nextD W i x < (awayK W i (l.take k)).2 ∨ (nextD W i x = (awayK W i (l.take k)).2 ∧ (awayK W i (l.take k)).1 ≤ x)
  | 0, _, h => by omega
  | k + 1, hk, _ => by
    have hlt : k < l.length := by omega
    rw [awayK_succ W i l k hlt, List.take_succ_eq_append_getElem hlt]
    have e : l[k]?.getD 0 = l[k] := by simp [hlt]
    rw [e]
    have hb := nextD_bd W hl i l[k]
    rcases Nat.eq_zero_or_pos k with hz | hz
    · subst hz
      have h0 : awayK W i (l.take 0) = (0, -1) := rfl
      rw [h0]
      unfold farS
      rw [if_pos (.inl (by simp; omega))]
      simp
    · obtain ⟨h1, h2, h3⟩ := awayK_inv W hl i l k (by omega) hz
      generalize awayK W i (l.take k) = q at *
      unfold farS
      split
      · rename_i hc
        refine ⟨List.mem_append_right _ (List.mem_singleton.2 rfl), rfl, fun x hx => ?_⟩
        rcases List.mem_append.1 hx with hx | hx
        · have := h3 x hx
          simp only
          omega
        · simp at hx; subst hx; right; simp
      · rename_i hc
        refine ⟨List.mem_append_left _ h1, h2, fun x hx => ?_⟩
        rcases List.mem_append.1 hx with hx | hx
        · exact h3 x hx
        · simp at hx; subst hx; omega
theorem awayD_mem (W : List Int) (hl : W.length ≤ 1000) (rule : Int) (i : Nat) (l : List Int) (h : 1 ≤ l.length) : awayD W rule l i ∈ l := by
  unfold awayD
  split
  · have := (awayK_inv W hl i l l.length (Nat.le_refl _) h).1
    rwa [List.take_length] at this
  · have : 0 < l.length := h
    simp [this]
theorem awayD_far (W : List Int) (hl : W.length ≤ 1000) (i : Nat) (l : List Int) (h : 1 ≤ l.length) : ∀ x ∈ l, nextD W i x < nextD W i (awayD W 3 l i) ∨ (nextD W i x = nextD W i (awayD W 3 l i) ∧ awayD W 3 l i ≤ x) := by
  have := awayK_inv W hl i l l.length (Nat.le_refl _) h
  rw [List.take_length] at this
  obtain ⟨_, h2, h3⟩ := this
  unfold awayD
  rw [if_pos rfl, ← h2]; exact h3
theorem any_eqB (l : List Int) (r : Int) : l.any (eqB r) = decide (r ∈ l) := by
  rw [Bool.eq_iff_iff, List.any_eq_true, decide_eq_true_eq]
  constructor
  · rintro ⟨x, h1, h2⟩; simp [eqB] at h2; subst h2; exact h1
  · intro h; exact ⟨r, h, by simp [eqB]⟩
theorem without_erase {l : List Int} (h : l.Nodup) (r : Int) : withoutL l r = l.erase r := by
  unfold withoutL
  rw [h.erase_eq_filter]
/-- What the rule puts away. -/
def runL (R rule : Int) (W : List Int) (i : Nat) : List Int := (runK R rule W i).list
def putK (R rule : Int) (W : List Int) (i : Nat) : Int := if want W i ∈ runL R rule W i then 0 else if ((runL R rule W i).length : Int) = R then awayD W rule (runL R rule W i) i else 0
theorem runK_succ (R rule : Int) (W : List Int) (i : Nat) : runK R rule W (i + 1) =
    if want W i ∈ runL R rule W i then ⟨if rule = 2 then withoutL (runL R rule W i) (want W i) ++ [want W i] else runL R rule W i, (runK R rule W i).plan ++ [0], (runK R rule W i).fet⟩
    else if ((runL R rule W i).length : Int) = R then ⟨withoutL (runL R rule W i) (awayD W rule (runL R rule W i) i) ++ [want W i], (runK R rule W i).plan ++ [awayD W rule (runL R rule W i) i], (runK R rule W i).fet ++ [(i : Int)]⟩
    else ⟨runL R rule W i ++ [want W i], (runK R rule W i).plan ++ [0], (runK R rule W i).fet ++ [(i : Int)]⟩ := by
  show runStep R rule W i (runK R rule W i) = _
  unfold runStep runL
  rw [any_eqB]
  simp only [decide_eq_true_eq]
theorem runK_plan (R rule : Int) (W : List Int) : ∀ k, (runK R rule W k).plan = (List.range k).map (putK R rule W)
  | 0 => rfl
  | k + 1 => by
    rw [List.range_succ, List.map_append, ← runK_plan R rule W k, runK_succ]
    unfold putK
    by_cases h1 : want W k ∈ runL R rule W k
    · simp [h1]
    · by_cases h2 : ((runL R rule W k).length : Int) = R
      · simp [h1, h2]
      · simp [h1, h2]
theorem runK_fet (R rule : Int) (W : List Int) : ∀ k, (runK R rule W k).fet = ((List.range k).filter fun i => decide (want W i ∉ runL R rule W i)).map fun (i : Nat) => (i : Int)
  | 0 => rfl
  | k + 1 => by
    rw [List.range_succ, List.filter_append, List.map_append, ← runK_fet R rule W k, runK_succ]
    by_cases h1 : want W k ∈ runL R rule W k
    · simp [h1]
    · by_cases h2 : ((runL R rule W k).length : Int) = R
      · simp [h1, h2]
      · simp [h1, h2]
theorem fetN_len (R rule : Int) (W : List Int) : ∀ k, ((runK R rule W k).fet.length : Int) = fetN W (runL R rule W) k
  | 0 => rfl
  | k + 1 => by
    have ih := fetN_len R rule W k
    unfold fetN
    rw [runK_succ]
    by_cases h1 : want W k ∈ runL R rule W k
    · simp [h1, ih]
    · by_cases h2 : ((runL R rule W k).length : Int) = R
      · simp [h1, h2, ih]
      · simp [h1, h2, ih]
theorem run_ok {R rule : Int} {W : List Int} (hd : OkD R W) : ∀ i, i ≤ W.length → LOk R (runL R rule W i)
  | 0, _ => ⟨List.nodup_nil, by have := hd.r1; show ((0 : Nat) : Int) ≤ R; omega, by intro x hx; cases hx⟩
  | i + 1, hi => by
    have ih := run_ok (rule := rule) hd i (by omega)
    have hw := hd.at (show i < W.length by omega)
    have hl : W.length ≤ 1000 := by have := hd.l16; omega
    show LOk R (runK R rule W (i + 1)).list
    rw [runK_succ]
    by_cases h1 : want W i ∈ runL R rule W i
    · rw [if_pos h1]
      by_cases h2 : rule = 2
      · simp only [h2, if_true]
        rw [h2] at ih h1
        refine ih.perm ?_
        rw [without_erase ih.nodup]
        exact (List.perm_append_comm).trans (List.perm_cons_erase h1).symm
      · simp only [h2, if_false]; exact ih
    · rw [if_neg h1]
      by_cases h2 : ((runL R rule W i).length : Int) = R
      · rw [if_pos h2]
        have hr := hd.r1
        have hm := awayD_mem W hl rule i (runL R rule W i) (by omega)
        simp only
        rw [without_erase ih.nodup]
        exact ih.swap hm h1 hw.1 hw.2
      · rw [if_neg h2]
        exact ih.more h2 h1 hw.1 hw.2
theorem run_lazy {R rule : Int} {W : List Int} (hd : OkD R W) : Lazy R W (runL R rule W) (putK R rule W) := by
  have hl : W.length ≤ 1000 := by have := hd.l16; omega
  refine ⟨rfl, fun i hi h1 => ?_, fun i hi h1 h2 => ?_, fun i hi h1 h2 => ?_⟩
  · refine ⟨?_, by unfold putK; rw [if_pos h1]⟩
    have ih := run_ok (rule := rule) hd i (by omega)
    show (runK R rule W (i + 1)).list.Perm _
    rw [runK_succ, if_pos h1]
    by_cases h2 : rule = 2
    · simp only [h2, if_true]
      rw [h2] at ih h1
      rw [without_erase ih.nodup]
      exact (List.perm_append_comm).trans (List.perm_cons_erase h1).symm
    · simp only [h2, if_false]; exact List.Perm.refl _
  · have ih := run_ok (rule := rule) hd i (by omega)
    have hr := hd.r1
    have hm := awayD_mem W hl rule i (runL R rule W i) (by omega)
    have e : putK R rule W i = awayD W rule (runL R rule W i) i := by unfold putK; rw [if_neg h1, if_pos h2]
    rw [e]
    refine ⟨hm, ?_⟩
    show (runK R rule W (i + 1)).list.Perm _
    rw [runK_succ, if_neg h1, if_pos h2]
    simp only
    rw [without_erase ih.nodup]
  · refine ⟨by unfold putK; rw [if_neg h1, if_neg h2], ?_⟩
    show (runK R rule W (i + 1)).list.Perm _
    rw [runK_succ, if_neg h1, if_neg h2]
theorem run_latest {R : Int} {W : List Int} (hd : OkD R W) : Dual.Latest R.toNat W (runL R 3 W) := by
  have hl : W.length ≤ 1000 := by have := hd.l16; omega
  have hz := run_lazy (rule := 3) hd
  refine ⟨hz.trace hd, fun i hi h x hx => ?_, fun i hi hw hf => ?_⟩
  · by_cases hm : want W i ∈ runL R 3 W i
    · exact (hz.kept i hi hm).1.mem_iff.2 hx
    · have hf : ((runL R 3 W i).length : Int) ≠ R := by
        rcases h with h | h
        · exact absurd h hm
        · have := hd.r1; omega
      exact (hz.room i hi hm hf).2.mem_iff.2 (by simp [hx])
  · have hf' : ((runL R 3 W i).length : Int) = R := by have := hd.r1; omega
    replace hw : want W i ∉ runL R 3 W i := hw
    obtain ⟨h1, h2⟩ := hz.full i hi hw hf'
    have ok := run_ok (rule := 3) hd i (by omega)
    have e : putK R 3 W i = awayD W 3 (runL R 3 W i) i := by
      unfold putK
      rw [if_neg hw, if_pos hf']
    have hne : putK R 3 W i ≠ want W i := fun e => hw (by show want W i ∈ _; rw [← e]; exact h1)
    refine ⟨putK R 3 W i, h1, fun hc => ?_, fun x hx hxr => ?_, fun q q1 q2 q3 q4 x hx => ?_⟩
    · have := h2.mem_iff.1 hc
      rw [List.mem_append, ok.nodup.mem_erase_iff, List.mem_singleton] at this
      rcases this with h | h
      · exact h.1 rfl
      · exact hne h
    · refine h2.mem_iff.2 ?_
      rw [List.mem_append, ok.nodup.mem_erase_iff]
      exact .inl ⟨hxr, hx⟩
    · have hr := hd.r1
      have hfar := awayD_far W hl i (runL R 3 W i) (by omega) x hx
      rw [← e] at hfar
      have hq : nextD W i (putK R 3 W i) = q := by
        rcases nextD_spec W hl i (putK R 3 W i) with ⟨_, h⟩ | ⟨q', a, b, c, d, f⟩
        · exact absurd q3 (h q q1 q2)
        · rw [a]
          rcases Nat.lt_trichotomy q' q with g | g | g
          · exact absurd d (q4 q' b g)
          · rw [g]
          · exact absurd q3 (f q q1 g)
      rw [hq] at hfar
      rcases nextD_spec W hl i x with ⟨a, _⟩ | ⟨q', a, b, c, d, _⟩
      · omega
      · exact ⟨q', b, by omega, d⟩
end Go.Proofs.Ytjajdpggoggoiaa

namespace Go.Proofs.Ytjajdpggoggoiaa

/-- A way of benches: one behind each want. -/
structure Way (R : Int) (W : List Int) (S : Nat → Nat) : Prop where
  zero : S 0 = 0
  next : ∀ i, i < W.length → S (i + 1) ∈ afterN R (S i) (want W i).toNat
def costS (W : List Int) (S : Nat → Nat) : Nat → Int
  | 0 => 0
  | k + 1 => costS W S k + (1 - (bitN (S k) (want W k).toNat : Int))
theorem costS_mono (W : List Int) (S : Nat → Nat) (i : Nat) : ∀ k, costS W S i ≤ costS W S (i + k)
  | 0 => by simp
  | k + 1 => by
    have := costS_mono W S i k
    have := bitN_le (S (i + k)) (want W (i + k)).toNat
    show costS W S i ≤ costS W S (i + k) + (1 - (bitN (S (i + k)) (want W (i + k)).toNat : Int))
    omega
theorem minS_mem : ∀ (l : List Int) (b : Int), l.foldl minS b ≤ b ∧ (∀ x ∈ l, l.foldl minS b ≤ x) ∧ (l.foldl minS b = b ∨ l.foldl minS b ∈ l)
  | [], b => by simp
  | x :: l, b => by
    obtain ⟨h1, h2, h3⟩ := minS_mem l (minS b x)
    have hm : minS b x ≤ b ∧ minS b x ≤ x ∧ (minS b x = b ∨ minS b x = x) := by unfold minS; split <;> omega
    simp only [List.foldl_cons]
    refine ⟨by omega, fun y hy => ?_, ?_⟩
    · rcases List.mem_cons.1 hy with rfl | hy
      · omega
      · exact h2 y hy
    · rcases h3 with h3 | h3
      · rcases hm.2.2 with h4 | h4
        · exact .inl (by rw [h3, h4])
        · exact .inr (by rw [h3, h4]; simp)
      · exact .inr (by simp [h3])
theorem aheadD_succ (R : Int) (W : List Int) {d i : Nat} (hi : i + d + 1 = W.length) (S : Nat) :
    aheadD R W (d + 1) S = if R < sumL (onOf S) then 0 else ((afterN R S (want W i).toNat).map (aheadD R W d)).foldl minS 1000 + 1 - (bitN S (want W i).toNat : Int) := by
  have : W.length - (d + 1) = i := by omega
  unfold aheadD
  rw [this]
theorem Way.ahead_le {R : Int} {W : List Int} {S : Nat → Nat} (h : Way R W S) : ∀ d i, i + d = W.length → aheadD R W d (S i) ≤ costS W S W.length - costS W S i
  | 0, i, hi => by
    have : i = W.length := by omega
    subst this
    simp [aheadD]
  | d + 1, i, hi => by
    have ih := h.ahead_le d (i + 1) (by omega)
    rw [aheadD_succ R W hi]
    have hm := (minS_mem ((afterN R (S i) (want W i).toNat).map (aheadD R W d)) 1000).2.1 _ (List.mem_map_of_mem (h.next i (by omega)))
    have hc : costS W S (i + 1) = costS W S i + (1 - (bitN (S i) (want W i).toNat : Int)) := rfl
    have hmo := costS_mono W S i (d + 1)
    rw [show i + (d + 1) = W.length by omega] at hmo
    split
    · omega
    · omega
/-- A bench that there can be. -/
structure SetR (R : Int) (S : Nat) : Prop where
  lt : S < 512
  none : bitN S 0 = 0
  le : sumL (onOf S) ≤ R
theorem bits_more0 : ∀ S, S < 512 → ∀ q, q < 9 → bitN S q = 0 ∧ 1 ≤ q ∧ bitN S 0 = 0 → (S ||| 2 ^ q) < 512 ∧ bitN (S ||| 2 ^ q) 0 = 0 ∧ sumL (onOf (S ||| 2 ^ q)) = sumL (onOf S) + 1 ∧ bitN (S ||| 2 ^ q) q = 1 := by decide +kernel
theorem bits_more (S : Nat) (hS : S < 512) (q : Nat) (hq : q < 9) (h1 : bitN S q = 0) (h2 : 1 ≤ q) (h3 : bitN S 0 = 0) : (S ||| 2 ^ q) < 512 ∧ bitN (S ||| 2 ^ q) 0 = 0 ∧ sumL (onOf (S ||| 2 ^ q)) = sumL (onOf S) + 1 ∧ bitN (S ||| 2 ^ q) q = 1 := bits_more0 S hS q hq ⟨h1, h2, h3⟩
theorem bits_less0 : ∀ S, S < 512 → ∀ p, p < 9 → bitN S p = 1 ∧ 1 ≤ p ∧ bitN S 0 = 0 → (S - 2 ^ p) < 512 ∧ bitN (S - 2 ^ p) 0 = 0 ∧ sumL (onOf (S - 2 ^ p)) = sumL (onOf S) - 1 ∧ bitN (S - 2 ^ p) p = 0 := by decide +kernel
theorem bits_less (S : Nat) (hS : S < 512) (p : Nat) (hp : p < 9) (h1 : bitN S p = 1) (h2 : 1 ≤ p) (h3 : bitN S 0 = 0) : (S - 2 ^ p) < 512 ∧ bitN (S - 2 ^ p) 0 = 0 ∧ sumL (onOf (S - 2 ^ p)) = sumL (onOf S) - 1 ∧ bitN (S - 2 ^ p) p = 0 := bits_less0 S hS p hp ⟨h1, h2, h3⟩
theorem bits_or : ∀ S, S < 512 → ∀ q, q < 9 → ∀ r, r < 9 → bitN (S ||| 2 ^ q) r = if r = q then 1 else bitN S r := by decide +kernel
theorem bits_sub : ∀ S, S < 512 → ∀ p, p < 9 → bitN S p = 1 → ∀ r, r < 9 → bitN (S - 2 ^ p) r = if r = p then 0 else bitN S r := by decide +kernel
theorem bits_some : ∀ S, S < 512 → bitN S 0 = 0 → 1 ≤ sumL (onOf S) → ∃ p, p < 9 ∧ 1 ≤ p ∧ bitN S p = 1 := by decide +kernel
theorem bits_inj : ∀ S, S < 512 → ((List.range 9).map fun i => bitN S i * 2 ^ i).foldl (· + ·) 0 = S := by decide +kernel
theorem onOf_inj {S T : Nat} (hS : S < 512) (hT : T < 512) (h : onOf S = onOf T) : S = T := by
  rw [← bits_inj S hS, ← bits_inj T hT]
  congr 1
  apply List.map_congr_left
  intro i hi
  have hi := List.mem_range.1 hi
  have h1 := onOf_at S i hi
  have h2 := onOf_at T i hi
  rw [h] at h1
  have : (bitN S i : Int) = (bitN T i : Int) := by rw [← h1, h2]
  rw [show bitN S i = bitN T i by omega]
theorem mem_swapK {S w l : Nat} : l ∈ swapK S w 8 ↔ ∃ p, 1 ≤ p ∧ p < 9 ∧ bitN S p = 1 ∧ l = (S - 2 ^ p) ||| 2 ^ w := by
  unfold swapK
  rw [List.mem_map]
  constructor
  · rintro ⟨p, hp, rfl⟩
    simp at hp
    exact ⟨p, by omega, by omega, hp.2, rfl⟩
  · rintro ⟨p, h1, h2, h3, rfl⟩
    exact ⟨p, by simp [h3]; omega, rfl⟩
/-- What may follow a bench. -/
theorem SetR.after {R : Int} {S q l : Nat} (h : SetR R S) (q1 : 1 ≤ q) (q9 : q < 9) (hl : l ∈ afterN R S q) :
    SetR R l ∧ bitN l q = 1 ∧ ∀ r, r < 9 → bitN l r = 1 → r = q ∨ bitN S r = 1 := by
  unfold afterN at hl
  by_cases hb : bitN S q = 1
  · rw [if_pos hb] at hl
    simp at hl; subst hl
    exact ⟨h, hb, fun r _ hr => .inr hr⟩
  · rw [if_neg hb] at hl
    have hb0 : bitN S q = 0 := by have := bitN_le S q; omega
    by_cases hs : sumL (onOf S) < R
    · rw [if_pos hs] at hl
      simp at hl; subst hl
      obtain ⟨a, b, c, d⟩ := bits_more S h.lt q q9 hb0 q1 h.none
      refine ⟨⟨a, b, by omega⟩, d, fun r hr hh => ?_⟩
      rw [bits_or S h.lt q q9 r hr] at hh
      by_cases e : r = q
      · exact .inl e
      · rw [if_neg e] at hh; exact .inr hh
    · rw [if_neg hs] at hl
      obtain ⟨p, p1, p9, hp, rfl⟩ := mem_swapK.1 hl
      obtain ⟨a, b, c, d⟩ := bits_less S h.lt p p9 hp p1 h.none
      have hpq : q ≠ p := by intro e; subst e; omega
      have hb1 : bitN (S - 2 ^ p) q = 0 := by rw [bits_sub S h.lt p p9 hp q q9, if_neg hpq]; exact hb0
      obtain ⟨a', b', c', d'⟩ := bits_more (S - 2 ^ p) a q q9 hb1 q1 b
      have := h.le
      refine ⟨⟨a', b', by omega⟩, d', fun r hr hh => ?_⟩
      rw [bits_or _ a q q9 r hr] at hh
      by_cases e : r = q
      · exact .inl e
      · rw [if_neg e, bits_sub S h.lt p p9 hp r hr] at hh
        by_cases e2 : r = p
        · rw [if_pos e2] at hh; omega
        · rw [if_neg e2] at hh; exact .inr hh
theorem SetR.some {R : Int} {S q : Nat} (h : SetR R S) (hR : 1 ≤ R) : ∃ l, l ∈ afterN R S q := by
  unfold afterN
  by_cases hb : bitN S q = 1
  · rw [if_pos hb]; exact ⟨S, by simp⟩
  · rw [if_neg hb]
    by_cases hs : sumL (onOf S) < R
    · rw [if_pos hs]; exact ⟨_, by simp; rfl⟩
    · rw [if_neg hs]
      obtain ⟨p, p9, p1, hp⟩ := bits_some S h.lt h.none (by omega)
      exact ⟨_, mem_swapK.2 ⟨p, p1, p9, hp, rfl⟩⟩
theorem set_zero {R : Int} (hR : 1 ≤ R) : SetR R 0 := by
  have h : sumL (onOf 0) = 0 := by decide
  exact ⟨by omega, by decide, by omega⟩
theorem want_nat {R : Int} {W : List Int} (hd : OkD R W) {i : Nat} (hi : i < W.length) : 1 ≤ (want W i).toNat ∧ (want W i).toNat < 9 := by
  have := hd.at hi; omega
theorem Way.set {R : Int} {W : List Int} {S : Nat → Nat} (h : Way R W S) (hd : OkD R W) : ∀ i, i ≤ W.length → SetR R (S i)
  | 0, _ => by rw [h.zero]; exact set_zero hd.r1
  | i + 1, hi => by
    have hw := want_nat hd (show i < W.length by omega)
    exact ((h.set hd i (by omega)).after hw.1 hw.2 (h.next i (by omega))).1
/-- From a bench on there is a way with as few fetches as the document says. -/
theorem ahead_path {R : Int} {W : List Int} (hd : OkD R W) : ∀ d i S, i + d = W.length → SetR R S → aheadD R W d S ≤ d ∧ ∃ T : Nat → Nat, T i = S ∧ (∀ k, i ≤ k → k < W.length → T (k + 1) ∈ afterN R (T k) (want W k).toNat) ∧ costS W T W.length - costS W T i = aheadD R W d S
  | 0, i, S, hi, _ => by
    have : i = W.length := by omega
    subst this
    exact ⟨by simp [aheadD], fun _ => S, rfl, fun k h1 h2 => by omega, by simp [aheadD]⟩
  | d + 1, i, S, hi, hS => by
    have hw := want_nat hd (show i < W.length by omega)
    obtain ⟨l0, hl0⟩ := hS.some (q := (want W i).toNat) hd.r1
    have h16 := hd.l16
    obtain ⟨m1, m2, m3⟩ := minS_mem ((afterN R S (want W i).toNat).map (aheadD R W d)) 1000
    have hl0b := (ahead_path hd d (i + 1) l0 (by omega) (hS.after hw.1 hw.2 hl0).1).1
    have h4 := m2 _ (List.mem_map_of_mem hl0)
    have hbit := bitN_le S (want W i).toNat
    rw [aheadD_succ R W hi, if_neg (by have := hS.le; omega)]
    rcases m3 with m3 | m3
    · omega
    · obtain ⟨l, hl, he⟩ := List.mem_map.1 m3
      obtain ⟨_, T, t1, t2, t3⟩ := ahead_path hd d (i + 1) l (by omega) (hS.after hw.1 hw.2 hl).1
      refine ⟨by omega, fun k => if k ≤ i then S else T k, by simp, fun k k1 k2 => ?_, ?_⟩
      · by_cases e : k = i
        · subst e
          simp only [Nat.le_refl, if_true, show ¬ (k + 1 ≤ k) by omega, if_false]
          rw [t1]; exact hl
        · simp only [show ¬ (k ≤ i) by omega, show ¬ (k + 1 ≤ i) by omega, if_false]
          exact t2 k (by omega) k2
      · have key : ∀ m, i < m → m ≤ W.length → costS W (fun k => if k ≤ i then S else T k) m - costS W (fun k => if k ≤ i then S else T k) i = costS W T m - costS W T (i + 1) + (1 - (bitN S (want W i).toNat : Int)) := by
          intro m
          induction m with
          | zero => intro h; omega
          | succ m ih =>
            intro h1 h2
            by_cases e : m = i
            · subst e
              have : costS W (fun k => if k ≤ m then S else T k) (m + 1) = costS W (fun k => if k ≤ m then S else T k) m + (1 - (bitN S (want W m).toNat : Int)) := by
                show _ + _ = _
                simp
              omega
            · have := ih (by omega) (by omega)
              have e1 : costS W (fun k => if k ≤ i then S else T k) (m + 1) = costS W (fun k => if k ≤ i then S else T k) m + (1 - (bitN (T m) (want W m).toNat : Int)) := by
                show _ + _ = _
                simp [show ¬ (m ≤ i) by omega]
              have e2 : costS W T (m + 1) = costS W T m + (1 - (bitN (T m) (want W m).toNat : Int)) := rfl
              omega
        rw [key W.length (by omega) (Nat.le_refl _), t3, he]; omega
theorem costS_congr (W : List Int) {S T : Nat → Nat} : ∀ k, (∀ i, i < k → S i = T i) → costS W S k = costS W T k
  | 0, _ => rfl
  | k + 1, h => by
    show costS W S k + _ = costS W T k + _
    rw [costS_congr W k fun i hi => h i (by omega), h k (by omega)]
/-- What is on a bench, as a list. -/
def setL (S : Nat) : List Int := ((List.range 9).filter fun r => bitN S r == 1).map fun (r : Nat) => (r : Int)
theorem mem_setL {S : Nat} {x : Int} : x ∈ setL S ↔ ∃ r : Nat, r < 9 ∧ bitN S r = 1 ∧ x = r := by
  unfold setL
  simp only [List.mem_map, List.mem_filter, List.mem_range, beq_iff_eq]
  constructor
  · rintro ⟨r, ⟨h1, h2⟩, rfl⟩; exact ⟨r, h1, h2, rfl⟩
  · rintro ⟨r, h1, h2, rfl⟩; exact ⟨r, ⟨h1, h2⟩, rfl⟩
theorem setL_len : ∀ S, S < 512 → ((setL S).length : Int) = sumL (onOf S) := by decide +kernel
theorem setL_nodup (S : Nat) : (setL S).Nodup := by
  unfold setL
  rw [List.Nodup, List.pairwise_map]
  refine List.Pairwise.imp_of_mem ?_ ((List.nodup_range (n := 9)).filter _)
  intro a b _ _ hab e
  exact hab (by omega)
theorem want_setL {R : Int} {W : List Int} (hd : OkD R W) {i : Nat} (hi : i < W.length) (S : Nat) : want W i ∈ setL S ↔ bitN S (want W i).toNat = 1 := by
  have hw := hd.at hi
  rw [mem_setL]
  constructor
  · rintro ⟨r, h1, h2, h3⟩
    rw [h3, Int.toNat_natCast]; exact h2
  · intro h
    exact ⟨(want W i).toNat, by omega, h, by omega⟩
theorem Way.trace {R : Int} {W : List Int} {S : Nat → Nat} (h : Way R W S) (hd : OkD R W) : Dual.Trace R.toNat W (fun i => setL (S i)) := by
  refine ⟨by show setL (S 0) = []; rw [h.zero]; decide, fun i hi => ⟨setL_nodup _, ?_⟩, fun i hi => ?_, fun i hi x hx => ?_⟩
  · have h1 := h.set hd i hi
    have := setL_len _ h1.lt
    have := h1.le
    show (setL (S i)).length ≤ _
    omega
  · have hw := want_nat hd hi
    exact (want_setL hd hi _).2 ((h.set hd i (by omega)).after hw.1 hw.2 (h.next i hi)).2.1
  · have hw := want_nat hd hi
    obtain ⟨r, r9, hr, rfl⟩ := mem_setL.1 hx
    have hwa := hd.at hi
    rcases ((h.set hd i (by omega)).after hw.1 hw.2 (h.next i hi)).2.2 r r9 hr with e | e
    · left; show (r : Int) = want W i; omega
    · exact .inr (mem_setL.2 ⟨r, r9, e, rfl⟩)
theorem Way.cost {R : Int} {W : List Int} {S : Nat → Nat} (hd : OkD R W) : ∀ k, k ≤ W.length → costS W S k = fetN W (fun i => setL (S i)) k
  | 0, _ => rfl
  | k + 1, hk => by
    have ih := Way.cost (S := S) hd k (by omega)
    have hb := bitN_le (S k) (want W k).toNat
    have hm := want_setL hd (show k < W.length by omega) (S k)
    unfold costS fetN
    rw [ih]
    by_cases hc : want W k ∈ setL (S k)
    · rw [if_pos hc, hm.1 hc]; omega
    · rw [if_neg hc]
      have : bitN (S k) (want W k).toNat ≠ 1 := fun e => hc (hm.2 e)
      omega
/-- A run that fetches only what is wanted is a way. -/
theorem Lazy.way {R : Int} {W : List Int} {L : Nat → List Int} {P : Nat → Int} (h : Lazy R W L P) (hd : OkD R W) : ∃ S, Way R W S ∧ ∀ i, i ≤ W.length → S i < 512 ∧ onOf (S i) = onL (L i) := by
  have hstep : ∀ i, i < W.length → ∀ S, S < 512 → onOf S = onL (L i) → ∃ S', S' ∈ afterN R S (want W i).toNat ∧ S' < 512 ∧ onOf S' = onL (L (i + 1)) := by
    intro i hi S hS he
    obtain ⟨s1, s2, s3⟩ := h.stepOn hd hi
    have ok := h.ok hd i (by omega)
    have hw := hd.at hi
    have hO : OnOk (onOf S) := by rw [he]; exact onL_ok ok
    have hbit : ∀ r : Nat, r < 9 → (bitN S r = 1 ↔ (r : Int) ∈ L i) := by
      intro r hr
      have h1 := onOf_at S r hr
      rw [he, onL_at _ _ hr] at h1
      have := bitN_le S r
      by_cases hm : (r : Int) ∈ L i
      · rw [if_pos hm] at h1; simp [hm]; omega
      · rw [if_neg hm] at h1; simp [hm]; omega
    have hq : ((want W i).toNat : Int) = want W i := by omega
    have hwb := hbit (want W i).toNat (by omega)
    rw [hq] at hwb
    by_cases hm : want W i ∈ L i
    · refine ⟨S, by unfold afterN; rw [if_pos (hwb.2 hm)]; simp, hS, ?_⟩
      rw [he, onL_perm (h.kept i hi hm).1]
    · have hb0 : bitN S (want W i).toNat = 0 := by
        have := bitN_le S (want W i).toNat
        have : bitN S (want W i).toNat ≠ 1 := fun e => hm (hwb.1 e)
        omega
      have hsum : sumL (onOf S) = ((L i).length : Int) := by rw [he, sum_onL ok]
      by_cases hf : ((L i).length : Int) = R
      · obtain ⟨hp, _⟩ := h.full i hi hm hf
        have hpb := ok.bd _ hp
        have hpn : ((P i).toNat : Int) = P i := by omega
        have hp1 : bitN S (P i).toNat = 1 := (hbit _ (by omega)).2 (by rw [hpn]; exact hp)
        obtain ⟨_, S2, e2, l2, o2⟩ := set_swap hS hp1 hb0 (by omega) (by omega)
        refine ⟨S2, ?_, l2, ?_⟩
        · unfold afterN
          rw [if_neg (by omega), if_neg (by omega)]
          exact mem_swapK.2 ⟨(P i).toNat, by omega, by omega, hp1, e2.symm⟩
        · rw [o2, hpn, hq, he, s1]
      · obtain ⟨hp, _⟩ := h.room i hi hm hf
        obtain ⟨S2, e2, l2, o2⟩ := set_take hS hO hb0 (by omega)
        have := ok.le
        refine ⟨S2, ?_, l2, ?_⟩
        · unfold afterN
          rw [if_neg (by omega), if_pos (by omega)]
          simp [e2]
        · rw [o2, hq, he, ← s1, hp]
  let nx : Nat → Nat → Nat := fun i S => if hh : i < W.length ∧ S < 512 ∧ onOf S = onL (L i) then Classical.choose (hstep i hh.1 S hh.2.1 hh.2.2) else 0
  let S : Nat → Nat := fun i => Nat.rec 0 (fun i S => nx i S) i
  have hS : ∀ i, i ≤ W.length → S i < 512 ∧ onOf (S i) = onL (L i) := by
    intro i
    induction i with
    | zero => intro _; exact ⟨by show 0 < 512; omega, by rw [h.zero, onL_nil]; show onOf 0 = zeros; decide⟩
    | succ i ih =>
      intro hi
      obtain ⟨a, b⟩ := ih (by omega)
      have hh : i < W.length ∧ S i < 512 ∧ onOf (S i) = onL (L i) := ⟨by omega, a, b⟩
      have e : S (i + 1) = Classical.choose (hstep i hh.1 (S i) hh.2.1 hh.2.2) := by
        show nx i (S i) = _
        simp only [nx, dif_pos hh]
      rw [e]
      exact (Classical.choose_spec (hstep i hh.1 (S i) hh.2.1 hh.2.2)).2
  refine ⟨S, ⟨rfl, fun i hi => ?_⟩, hS⟩
  obtain ⟨a, b⟩ := hS i (by omega)
  have hh : i < W.length ∧ S i < 512 ∧ onOf (S i) = onL (L i) := ⟨hi, a, b⟩
  have e : S (i + 1) = Classical.choose (hstep i hh.1 (S i) hh.2.1 hh.2.2) := by
    show nx i (S i) = _
    simp only [nx, dif_pos hh]
  rw [e]
  exact (Classical.choose_spec (hstep i hh.1 (S i) hh.2.1 hh.2.2)).1
theorem Lazy.cost {R : Int} {W : List Int} {L : Nat → List Int} {P : Nat → Int} (h : Lazy R W L P) (hd : OkD R W) {S : Nat → Nat} (hS : ∀ i, i ≤ W.length → S i < 512 ∧ onOf (S i) = onL (L i)) : ∀ k, k ≤ W.length → costS W S k = fetN W L k
  | 0, _ => rfl
  | k + 1, hk => by
    have ih := h.cost hd hS k (by omega)
    have hw := hd.at (show k < W.length by omega)
    have h1 := onOf_at (S k) (want W k).toNat (by omega)
    rw [(hS k (by omega)).2, onL_at _ _ (by omega), show ((want W k).toNat : Int) = want W k by omega] at h1
    unfold costS fetN
    rw [ih, ← h1]
    by_cases hc : want W k ∈ L k <;> simp [hc]
/-- The fewest fetches: those of the third rule; some times prove them; no right plan has fewer. -/
theorem few_run {R : Int} {W : List Int} (hd : OkD R W) : aheadD R W W.length 0 = fetN W (runL R 3 W) W.length := by
  have hz := run_lazy (rule := 3) hd
  obtain ⟨S, hS, hS2⟩ := hz.way hd
  have h1 := hS.ahead_le W.length 0 (by omega)
  rw [hS.zero, hz.cost hd hS2 _ (Nat.le_refl _)] at h1
  obtain ⟨_, T, t1, t2, t3⟩ := ahead_path hd W.length 0 0 (by omega) (set_zero hd.r1)
  have hT : Way R W T := ⟨t1, fun i hi => t2 i (by omega) hi⟩
  obtain ⟨X, x1, x2, x3⟩ := (run_latest hd).strong (by have := hd.r1; omega)
  have h2 := (hT.trace hd).weak X x2
  have h3 : (Dual.fetches W (runL R 3 W) : Int) = fetN W (runL R 3 W) W.length := (fetN_cnt W _ _).symm
  have h4 : (Dual.fetches W (fun i => setL (T i)) : Int) = costS W T W.length := by
    rw [Way.cost (R := R) hd _ (Nat.le_refl _)]; exact (fetN_cnt W _ _).symm
  have h5 : costS W S 0 = 0 := rfl
  have h6 : costS W T 0 = 0 := rfl
  omega
theorem few_le {R : Int} {W : List Int} (hd : OkD R W) {L : Nat → List Int} (ht : Dual.Trace R.toNat W L) : aheadD R W W.length 0 ≤ fetN W L W.length := by
  obtain ⟨X, x1, x2, x3⟩ := (run_latest hd).strong (by have := hd.r1; omega)
  have h2 := ht.weak X x2
  have h3 : (Dual.fetches W (runL R 3 W) : Int) = fetN W (runL R 3 W) W.length := (fetN_cnt W _ _).symm
  have h4 : (Dual.fetches W L : Int) = fetN W L W.length := (fetN_cnt W _ _).symm
  rw [few_run hd]; omega
theorem few_times {R : Int} {W : List Int} (hd : OkD R W) : ∃ X : List Nat, X.Pairwise (· < ·) ∧ (∀ t ∈ X, t < W.length) ∧ Dual.proved R.toNat W X = aheadD R W W.length 0 := by
  obtain ⟨X, x1, x2, x3⟩ := (run_latest hd).strong (by have := hd.r1; omega)
  have h2 := ((run_lazy (rule := 3) hd).trace hd).weak X x2
  have h3 : (Dual.fetches W (runL R 3 W) : Int) = fetN W (runL R 3 W) W.length := (fetN_cnt W _ _).symm
  exact ⟨X, x1, x2, by rw [few_run hd]; omega⟩
theorem times_le {R : Int} {W : List Int} (hd : OkD R W) (X : List Nat) (hX : ∀ t ∈ X, t < W.length) : Dual.proved R.toNat W X ≤ aheadD R W W.length 0 := by
  have h2 := ((run_lazy (rule := 3) hd).trace hd).weak X hX
  have h3 : (Dual.fetches W (runL R 3 W) : Int) = fetN W (runL R 3 W) W.length := (fetN_cnt W _ _).symm
  rw [few_run hd]; omega
end Go.Proofs.Ytjajdpggoggoiaa

namespace Go.Proofs.Ytjajdpggoggoiaa
open Go.RowKit Go.Shelf

set_option maxRecDepth 100000 in
theorem isnan_any (x : Int) (w : World) : Calls Try.prog 101 #[.int .i64 x] w fun e w' => e = .returned (.bool false) ∧ w' = w := by
  have t : (x != x) = false := by simp
  go_enter Try.func101, Try.ntmps101
  go_wp2_with fail
  go_ret
  exact ⟨rfl, rfl⟩
set_option maxRecDepth 100000 in
theorem less_any (x y : Int) (w : World) : Calls Try.prog 91 #[.int .i64 x, .int .i64 y] w fun e w' => e = .returned (.bool (decide (x < y))) ∧ w' = w := by
  go_enter Try.func91, Try.ntmps91
  go_wp2_with fail
  refine (isnan_any x w).mono ?_
  rintro e w' ⟨rfl, rfl⟩
  go_wp2_with fail
  go_ret
  exact ⟨rfl, rfl⟩
/-- The numbers up to i are in order, but for the one at j. -/
def SortA (i j : Nat) (cur : List Int) : Prop := ∀ a b, a < b → b ≤ i → b ≠ j → cur[a]?.getD 0 ≤ cur[b]?.getD 0
def swapL (cur : List Int) (j : Nat) : List Int := (cur.set j (cur[j - 1]?.getD 0)).set (j - 1) (cur[j]?.getD 0)
theorem swapL_perm (cur : List Int) (j : Nat) (hj : j < cur.length) : (swapL cur j).Perm cur := by
  have h1 : cur[j]?.getD 0 = cur[j] := by simp [hj]
  have h2 : cur[j - 1]?.getD 0 = cur[j - 1] := by simp [show j - 1 < cur.length by omega]
  unfold swapL
  rw [h1, h2]
  exact List.set_set_perm hj (by omega)
theorem swapL_len (cur : List Int) (j : Nat) : (swapL cur j).length = cur.length := by simp [swapL]
theorem swapL_at (cur : List Int) (j k : Nat) (hj : j < cur.length) (h1 : 1 ≤ j) : (swapL cur j)[k]?.getD 0 = if k = j - 1 then cur[j]?.getD 0 else if k = j then cur[j - 1]?.getD 0 else cur[k]?.getD 0 := by
  unfold swapL
  rw [List.getElem?_set, List.getElem?_set]
  by_cases e : j - 1 = k
  · subst e; simp [show j - 1 < cur.length by omega]
  · rw [if_neg e, if_neg (Ne.symm e)]
    by_cases e2 : j = k
    · subst e2; simp [hj]
    · rw [if_neg e2, if_neg (Ne.symm e2)]
theorem SortA.swap {i j : Nat} {cur : List Int} (h : SortA i j cur) (hj : j < cur.length) (h1 : 1 ≤ j) (hlt : cur[j]?.getD 0 < cur[j - 1]?.getD 0) : SortA i (j - 1) (swapL cur j) := by
  intro a b hab hb hbj
  rw [swapL_at cur j a hj h1, swapL_at cur j b hj h1]
  have g := fun a b h1 h2 h3 => h a b h1 h2 h3
  by_cases b1 : b = j
  · rw [if_neg hbj, if_pos b1]
    by_cases a1 : a = j - 1
    · rw [if_pos a1]; omega
    · rw [if_neg a1, if_neg (by omega)]
      exact g a (j - 1) (by omega) (by omega) (by omega)
  · rw [if_neg hbj, if_neg b1]
    by_cases a1 : a = j - 1
    · rw [if_pos a1]
      exact g j b (by omega) hb b1
    · rw [if_neg a1]
      by_cases a2 : a = j
      · rw [if_pos a2]; exact g (j - 1) b (by omega) hb b1
      · rw [if_neg a2]; exact g a b hab hb b1
theorem SortA.done {i j : Nat} {cur : List Int} (h : SortA i j cur) (hji : j ≤ i) (hd : j = 0 ∨ ¬ cur[j]?.getD 0 < cur[j - 1]?.getD 0) : SortA i (i + 1) cur := by
  intro a b hab hb hbi
  by_cases e : b = j
  · subst e
    rcases hd with hd | hd
    · omega
    · by_cases a1 : a = b - 1
      · subst a1; omega
      · have := h a (b - 1) (by omega) (by omega) (by omega)
        omega
  · exact h a b hab (by omega) e
def ownI (w : World) (base g n cap : Nat) (zs : List Int) : Prop := w.ownsRow base 3 1 (.slice (some ⟨g, 0, none⟩) n cap) n (zs.map (Value.int .i64))
theorem ownI.len {w : World} {base g n cap : Nat} {zs : List Int} (h : ownI w base g n cap zs) : zs.length = n := by
  have := h.1; simpa using this
theorem ownI.cell {w : World} {base g n cap : Nat} {zs : List Int} (h : ownI w base g n cap zs) {j : Nat} (hj : j < n) : w.cell? ⟨g, j, none⟩ = some (.int .i64 (zs[j]?.getD 0)) := by
  have hl := h.len
  rw [World.ownsRow.cellAt h j (by omega)]
  simp [show j < zs.length by omega]
theorem ownI.set {w : World} {base g n cap : Nat} {zs : List Int} (h : ownI w base g n cap zs) (j : Nat) (x : Int) : ownI (w.setCell ⟨g, j, none⟩ (.int .i64 x)) base g n cap (zs.set j x) := by
  have := (World.ownsRow.stored h j (.int .i64 x)).1
  unfold ownI
  rw [List.map_set]; exact this
theorem ownI.drewN {w : World} {base g n cap : Nat} {zs : List Int} (h : ownI w base g n cap zs) (k : Nat) : ownI (w.drewN k) base g n cap zs := h
theorem ownI.lt {w : World} {base g n cap : Nat} {zs : List Int} (h : ownI w base g n cap zs) : g < w.heap.size := by
  rcases h.2 with ⟨h', _⟩ | ⟨g', cap', cur, h', _, hg, _⟩
  · simp at h'
  · simp only [Value.slice.injEq, Option.some.injEq, Addr.mk.injEq, and_true, true_and] at h'
    obtain ⟨rfl, rfl⟩ := h'
    exact (Array.getElem?_eq_some_iff.1 hg).1
theorem grown_set {w w' : World} {g j : Nat} {u : Value} (h : w.grownBy w' (some g)) : w.grownBy (w'.setCell ⟨g, j, none⟩ u) (some g) :=
  ⟨h.os, h.tape, h.output, by have := h.size; simp; omega, fun k hk hne => by
    rw [heap_setCell_other w' ⟨g, j, none⟩ k u (fun e => hne (by simp [e]))]; exact h.block k hk hne⟩
theorem grown_drewN {w w' : World} {r : Option Nat} (k : Nat) (h : w.grownBy w' r) : w.grownBy (w'.drewN k) r := ⟨h.os, h.tape, h.output, h.size, h.block⟩
theorem grown_rfl (w : World) (r : Option Nat) : w.grownBy w r := ⟨rfl, rfl, rfl, Nat.le_refl _, fun _ _ _ => rfl⟩
/-- What the sort leaves. -/
def SortedOk (w : World) (base g n cap : Nat) (zs : List Int) (w' : World) : Prop := ∃ zs', zs'.Perm zs ∧ SortA (n - 1) n zs' ∧ ownI w' base g n cap zs' ∧ w.grownBy w' (some g)
set_option maxRecDepth 100000 in
set_option maxHeartbeats 4000000 in
theorem insort_any (base g n cap : Nat) (zs : List Int) (w : World) (h : ownI w base g n cap zs) (hn : n ≤ 100) (h1 : 1 ≤ n) :
    Calls Try.prog 85 #[.slice (some ⟨g, 0, none⟩) n cap, .int .i64 0, .int .i64 n] w fun e w' => (∃ v, e = .returned v) ∧ SortedOk w base g n cap zs w' := by
  have HO := Lib.hid h; clear h
  go_enter Try.func85, Try.ntmps85
  go_wp2_with fail
  go_loopw [6, 7] (fun i _ wr => ∃ (k : Nat) (cur : List Int), 1 ≤ k ∧ k ≤ n ∧ i = .int .i64 k ∧ cur.Perm zs ∧ SortA (k - 1) k cur ∧ ownI wr base g n cap cur ∧ w.grownBy wr (some g)) (fun i _ _ => n - (intOf i).toNat)
  case atStart => exact ⟨1, zs, Nat.le_refl _, h1, by go_num, List.Perm.refl _, fun a b h1 h2 _ => by omega, HO.out, grown_rfl _ _⟩
  case round =>
    rename World => wO
    obtain ⟨k, cur, hk1, hk, rfl, hp, hs, ho, hg⟩ := hrel
    have HP := Lib.hid hp; have HS := Lib.hid hs; have HW := Lib.hid ho; have HG := Lib.hid hg
    clear hp hs ho hg
    by_cases hlt : k < n
    · go_wp2_with fail
      go_loopw [7] (fun jv wx => ∃ (j : Nat) (cur : List Int), j ≤ k ∧ jv = .int .i64 j ∧ cur.Perm zs ∧ SortA k j cur ∧ ownI wx base g n cap cur ∧ w.grownBy wx (some g)) (fun jv _ => (intOf jv).toNat)
      case atStart => exact ⟨k, cur, Nat.le_refl _, rfl, HP.out, fun a b h1 h2 h3 => HS.out a b h1 (by omega) h3, HW.out, HG.out⟩
      case round =>
        clear HP HS HW HG
        obtain ⟨j, cur, hj, rfl, hp, hs, ho, hg⟩ := hrel
        have HP := Lib.hid hp; have HS := Lib.hid hs; have HW := Lib.hid ho; have HG := Lib.hid hg
        clear hp hs ho hg
        have hl := HW.out.len
        have zg := HW.out.lt
        by_cases hj0 : 0 < j
        · obtain ⟨m, rfl⟩ : ∃ m, j = m + 1 := ⟨j - 1, by omega⟩
          have c1 := HW.out.cell (j := m + 1) (by omega)
          have c2 := HW.out.cell (j := m) (by omega)
          have f1 := World.ownsRow.frozenAt HW.out (m + 1)
          have f2 := World.ownsRow.frozenAt HW.out m
          have t0 : decide ((0 : Int) < (m : Int) + 1) = true := decide_eq_true (by omega)
          by_cases hlt2 : cur[m + 1]?.getD 0 < cur[m]?.getD 0
          · have HP2 := Lib.hid ((swapL_perm cur (m + 1) (by omega)).trans HP.out)
            have HS2 := Lib.hid (HS.out.swap (by omega) (by omega) hlt2)
            have HW2 := Lib.hid (fun wz => (fun (h : ownI wz base g n cap cur) => show ownI _ base g n cap (swapL cur (m + 1)) from (h.set (m + 1) (cur[m]?.getD 0)).set m (cur[m + 1]?.getD 0)))
            obtain ⟨x, hx⟩ : ∃ x, cur[m + 1]?.getD 0 = x := ⟨_, rfl⟩
            obtain ⟨y, hy⟩ : ∃ y, cur[m]?.getD 0 = y := ⟨_, rfl⟩
            rw [hx] at c1 hlt2 HW2; rw [hy] at c2 hlt2 HW2
            have t1 : decide (x < y) = true := decide_eq_true hlt2
            have HL := Lib.hid (fun q => less_any x y (wr.drewN q))
            rw [t1] at HL
            clear t1 hl hlt2
            have j1 : (m : Int) < n := by omega
            have j3 : (m : Int) + 1 < n := by omega
            have j4 : (0 : Int) ≤ (m : Int) + 1 := by omega
            have j5 : (0 : Int) ≤ (m : Int) := by omega
            have j6 : m + 1 < n := by omega
            have j7 : m < n := by omega
            have j8 : IntKind.i64.wrap (m : Int) = (m : Int) := IntWalk.i64_in _ (by omega)
            go_upto_region 4 with fail
            go_quiet ((go_at_call 91; exact Calls.quiet_of_same (HL.out _)))
            have HWq := Lib.hid (HW.out.drewN nq); have HGq := Lib.hid (grown_drewN nq HG.out)
            clear c1 c2 f1 f2 zg
            generalize wr.drewN nq = wq at *
            go_upto_region 6 with fail
            refine wp_region_flow [2, 3, 4] [([0, 1, 5, 6, 7, 8, 9, 10, 11, 12, 13, 14], 15, false), ([], 16, false), ([], 17, false)] [] (by kernel_rfl) (by kernel_rfl) ?_
            intro wc hB hh
            have HC := Lib.hid (show ownI wc base g n cap cur by unfold ownI World.ownsRow; rw [hh]; exact HWq.out)
            have HGC := Lib.hid (show w.grownBy wc (some g) from ⟨hB.os.trans HGq.out.os, hB.tape.trans HGq.out.tape, hB.output.trans HGq.out.output, by rw [hh]; exact HGq.out.size, fun r h1 h2 => by rw [hh]; exact HGq.out.block r h1 h2⟩)
            clear hh
            have c1 := HC.out.cell (j := m + 1) (by omega)
            have c2 := HC.out.cell (j := m) (by omega)
            have f1 := World.ownsRow.frozenAt HC.out (m + 1)
            have f2 := World.ownsRow.frozenAt HC.out m
            have zg := HC.out.lt
            rw [hx] at c1; rw [hy] at c2
            have hL := @Later.cell wc
            clear hB
            simp only [flowP, flow, pickL, List.getElem?_cons_succ, List.getElem?_cons_zero]
            repeat (go_big_quiet_step (fail))
            refine wpQuiet_nil ?_
            repeat (go_big_quiet_step (fail))
            refine wpQuiet_nil ?_
            go_wp2
            refine seg_write ?_
            refine wpQuiet_nil ?_
            go_wp2
            refine seg_write ?_
            refine wpQuiet_nil ?_
            go_wp2
            refine seg_write ?_
            refine wpQuiet_nil ?_
            refine only_done ?_
            go_wp2_with fail
            go_roundw
            case rel => exact ⟨m, swapL cur (m + 1), by omega, rfl, HP2.out, HS2.out, HW2.out wc HC.out, grown_set (grown_set HGC.out)⟩
            case measure => simp [intOf]
          · have HD := Lib.hid (HS.out.done hj (.inr hlt2))
            obtain ⟨x, hx⟩ : ∃ x, cur[m + 1]?.getD 0 = x := ⟨_, rfl⟩
            obtain ⟨y, hy⟩ : ∃ y, cur[m]?.getD 0 = y := ⟨_, rfl⟩
            rw [hx] at c1 hlt2; rw [hy] at c2 hlt2
            have t1 : decide (x < y) = false := decide_eq_false hlt2
            have HL := Lib.hid (fun q => less_any x y (wr.drewN q))
            rw [t1] at HL
            clear t1 hl hlt2 hx hy
            have j1 : (m : Int) < n := by omega
            have j3 : (m : Int) + 1 < n := by omega
            have j4 : (0 : Int) ≤ (m : Int) + 1 := by omega
            have j5 : (0 : Int) ≤ (m : Int) := by omega
            have j6 : m + 1 < n := by omega
            have j7 : m < n := by omega
            have j8 : IntKind.i64.wrap (m : Int) = (m : Int) := IntWalk.i64_in _ (by omega)
            go_upto_region 4 with fail
            go_quiet ((go_at_call 91; exact Calls.quiet_of_same (HL.out _)))
            have HWq := Lib.hid (HW.out.drewN nq); have HGq := Lib.hid (grown_drewN nq HG.out)
            clear c1 c2 f1 f2 zg
            generalize wr.drewN nq = wq at *
            go_wp2_with fail
            go_roundw
            case rel => exact ⟨k + 1, cur, by omega, by omega, by go_num, HP.out, HD.out, HWq.out, HGq.out⟩
            case measure => simp [intOf]; omega
        · have hj1 : j = 0 := by omega
          have HD := Lib.hid (HS.out.done hj (.inl hj1))
          subst hj1
          go_upto_region 4 with fail
          go_quiet (fail)
          have HWq := Lib.hid (HW.out.drewN nq); have HGq := Lib.hid (grown_drewN nq HG.out)
          clear zg
          generalize wr.drewN nq = wq at *
          go_wp2_with fail
          go_roundw
          case rel => exact ⟨k + 1, cur, by omega, by omega, by go_num, HP.out, HD.out, HWq.out, HGq.out⟩
          case measure => simp [intOf]; omega
    · have hke : k = n := by omega
      subst hke
      go_wp2_with fail
      exact bodyPost_end (results_none rfl _ _ _) rfl ⟨⟨_, rfl⟩, cur, HP.out, fun a b h1 h2 h3 => HS.out a b h1 (by omega) h3, HW.out, HG.out⟩
set_option maxRecDepth 100000 in
theorem len64_any (n : Nat) (w : World) (hn : n ≤ 6) : Calls Try.prog 95 #[.int .u64 n] w fun e w' => (∃ v : Int, e = .returned (.int .i64 v)) ∧ w' = w := by
  have : n = 0 ∨ n = 1 ∨ n = 2 ∨ n = 3 ∨ n = 4 ∨ n = 5 ∨ n = 6 := by omega
  rcases this with rfl | rfl | rfl | rfl | rfl | rfl | rfl <;>
  · go_enter Try.func95, Try.ntmps95
    go_wp2_with fail
    go_ret
    exact ⟨⟨_, rfl⟩, rfl⟩
set_option maxRecDepth 100000 in
theorem len_any (n : Nat) (w : World) (hn : n ≤ 6) : Calls Try.prog 82 #[.int .u64 n] w fun e w' => (∃ v : Int, e = .returned (.int .i64 v)) ∧ w' = w := by
  have HL := Lib.hid (len64_any n w hn)
  go_enter Try.func82, Try.ntmps82
  go_wp2_with fail
  refine HL.out.mono ?_
  rintro e w' ⟨⟨v, rfl⟩, rfl⟩
  go_wp2_with fail
  go_ret
  exact ⟨⟨_, rfl⟩, rfl⟩
set_option maxRecDepth 100000 in
set_option maxHeartbeats 4000000 in
theorem pdq_any (base g n cap : Nat) (zs : List Int) (q : Int) (w : World) (h : ownI w base g n cap zs) (hn : n ≤ 6) (h1 : 1 ≤ n) :
    Calls Try.prog 81 #[.slice (some ⟨g, 0, none⟩) n cap, .int .i64 0, .int .i64 n, .int .i64 q] w fun e w' => (∃ v, e = .returned v) ∧ SortedOk w base g n cap zs w' := by
  have HI := Lib.hid (insort_any base g n cap zs w h (by omega) h1)
  clear h
  go_enter Try.func81, Try.ntmps81
  go_wp2_with fail
  go_loopw [1, 2, 3, 8, 9, 10, 11, 12, 13, 14, 15, 16, 17, 18] (fun a b _ _ _ _ _ _ _ _ _ _ _ _ wr => a = .int .i64 0 ∧ b = .int .i64 n ∧ wr = w) (fun _ _ _ _ _ _ _ _ _ _ _ _ _ _ _ => 0)
  case atStart => exact ⟨rfl, rfl, rfl⟩
  case round =>
    obtain ⟨rfl, rfl, rfl⟩ := hrel
    go_wp2_with fail
    refine HI.out.mono ?_
    rintro e w' ⟨⟨v, rfl⟩, hS⟩
    have HS := Lib.hid hS; clear hS
    go_wp2_with fail
    exact bodyPost_ret (results_none rfl _ _ _) rfl ⟨⟨_, rfl⟩, HS.out⟩
set_option maxRecDepth 100000 in
set_option maxHeartbeats 4000000 in
theorem sort_any (base g n cap : Nat) (zs : List Int) (w : World) (h : ownI w base g n cap zs) (hn : n ≤ 6) (h1 : 1 ≤ n) :
    Calls Try.prog 68 #[.slice (some ⟨g, 0, none⟩) n cap] w fun e w' => (∃ v, e = .returned v) ∧ SortedOk w base g n cap zs w' := by
  have HI := Lib.hid (fun q => pdq_any base g n cap zs q w h hn h1)
  have HL := Lib.hid (len_any n w hn)
  clear h
  go_enter Try.func68, Try.ntmps68
  go_wp2_with fail
  refine HL.out.mono ?_
  rintro e w' ⟨⟨v, rfl⟩, rfl⟩
  go_wp2_with fail
  refine (HI.out v).mono ?_
  rintro e w' ⟨⟨u, rfl⟩, hS⟩
  have HS := Lib.hid hS; clear hS
  go_wp2_with fail
  exact bodyPost_end (results_none rfl _ _ _) rfl ⟨⟨_, rfl⟩, HS.out⟩
end Go.Proofs.Ytjajdpggoggoiaa

namespace Go.Proofs.Ytjajdpggoggoiaa
open Go.RowKit Go.Shelf

set_option maxRecDepth 100000 in
theorem isaway_any (x ad : Int) (bp : Nat) (w : World) (h1 : w.cell? ⟨bp, 0, none⟩ = some (.int .i64 ad)) :
    Calls Try.prog 72 #[.int .i64 x, .pointer (some ⟨bp, 0, none⟩)] w fun e w' => e = .returned (.bool (eqB ad x)) ∧ w' = w := by
  have he : eqB ad x = (x == ad) := by unfold eqB; exact Bool.beq_comm
  rw [he]
  go_enter Try.func72, Try.ntmps72
  go_wp2_with fail
  go_ret
  exact ⟨rfl, rfl⟩
set_option maxRecDepth 100000 in
set_option maxHeartbeats 1000000 in
theorem indexg_any (x : Value) (xs : List Int) (ad : Int) (bp : Nat) (w : World) (hx0 : RdI w .i64 x xs) (hl : xs.length ≤ 1000) (h1 : w.cell? ⟨bp, 0, none⟩ = some (.int .i64 ad)) :
    Calls Try.prog 80 #[x, .func (.func 72) #[] #[.pointer (some ⟨bp, 0, none⟩)]] w fun e w' => e = .returned (.int .i64 (idxOf (eqB ad) xs)) ∧ w' = w := by
  obtain ⟨a, ca, rfl, _, _, hx⟩ := hx0.form
  clear hx0
  go_enter Try.func80, Try.ntmps80
  go_wp2
  go_loopw [5, 8] (fun j i wr => ∃ k : Nat, k ≤ xs.length ∧ i = .int .i64 k ∧ (∀ i, i < k → eqB ad (xs[i]?.getD 0) = false) ∧ wr = w) (fun _ i _ => xs.length - (intOf i).toNat)
  case atStart => exact ⟨0, Nat.zero_le _, rfl, by intro i h1; omega, rfl⟩
  case round =>
    obtain ⟨k, hk, rfl, ht, rfl⟩ := hrel
    have HT := Lib.hid ht; clear ht
    by_cases hlt : k < xs.length
    · obtain ⟨bx, ox, rfl, hbx, hcx⟩ := hx (by omega)
      have gx := hcx k hlt
      clear hx hcx
      generalize hp : xs[k]?.getD 0 = p at *
      have HP := Lib.hid hp; clear hp
      go_wp2_with (go_at_call 72; refine (isaway_any _ _ _ _ h1).mono ?_)
      rintro e w2 ⟨rfl, rfl⟩
      cases hb : eqB ad p
      · go_wp2
        go_roundw
        case rel =>
          refine ⟨k + 1, by omega, by go_num, fun i h1 => ?_, trivial⟩
          by_cases e : i = k
          · subst e; rw [HP.out]; exact hb
          · exact HT.out i (by omega)
        case measure => simp [intOf]; omega
      · go_wp2
        go_ret
        exact ⟨ret_int (find_none_step HT.out hlt (by rw [HP.out]; exact hb)).symm, rfl⟩
    · go_wp2
      go_ret
      exact ⟨ret_int (find_none fun i hi => HT.out i (by omega)).symm, rfl⟩
theorem ownI.rd {w : World} {base g n cap : Nat} {zs : List Int} (h : ownI w base g n cap zs) : RdI w .i64 (.slice (some ⟨g, 0, none⟩) n cap) zs := RdI.of_owns h
theorem ownI.bounds {w : World} {base g n cap : Nat} {zs : List Int} (h : ownI w base g n cap zs) : base ≤ g ∧ n ≤ cap ∧ cap ≤ maxLen ∧ ∃ cur : Array Value, w.heap[g]? = some (.cells cur 3 (0, 0)) ∧ cur.size = cap ∧ cur.toList.take n = zs.map (Value.int .i64) := by
  rcases h.2 with ⟨h', _⟩ | ⟨g', cap', cur, h', h1, h2, h3, h4, h5, h6⟩
  · simp at h'
  · simp only [Value.slice.injEq, Option.some.injEq, Addr.mk.injEq, and_true, true_and] at h'
    obtain ⟨rfl, rfl⟩ := h'
    rw [Nat.mul_one] at h5 h6
    exact ⟨h1, h3, h4, cur, h2, h5, h6⟩
theorem ownI.take {w : World} {base g n cap : Nat} {zs : List Int} (h : ownI w base g n cap zs) {k : Nat} (hk : k ≤ n) : ownI w base g k cap (zs.take k) := by
  obtain ⟨h1, h2, h3, cur, h4, h5, h6⟩ := h.bounds
  have hl := h.len
  refine ⟨by simp; omega, .inr ⟨g, cap, cur, rfl, h1, h4, by omega, h3, by rw [Nat.mul_one]; exact h5, ?_⟩⟩
  rw [Nat.mul_one, List.map_take, ← h6, List.take_take, Nat.min_eq_left hk]
theorem setCells_own {g : Nat} {base n cap : Nat} {zs : List Int} : ∀ (vs : List Value) (o : Nat) (w : World), n ≤ o → ownI w base g n cap zs → ownI (w.setCells g o vs) base g n cap zs ∧ w.grownBy (w.setCells g o vs) (some g)
  | [], _, w, _, h => ⟨h, grown_rfl w _⟩
  | v :: vs, o, w, ho, h => by
    have h2 := (World.ownsRow.stored h o v)
    have h3 : ownI (w.setCell ⟨g, o, none⟩ v) base g n cap zs := by
      have := h2.1
      rw [List.set_eq_of_length_le (by rw [List.length_map, h.len]; exact ho)] at this
      exact this
    obtain ⟨a, b⟩ := setCells_own vs (o + 1) (w.setCell ⟨g, o, none⟩ v) (by omega) h3
    exact ⟨a, ⟨b.os.trans h2.2.os, b.tape.trans h2.2.tape, b.output.trans h2.2.output, Nat.le_trans h2.2.size b.size, fun k hk hne => (b.block k (Nat.lt_of_lt_of_le hk h2.2.size) hne).trans (h2.2.block k hk hne)⟩⟩
theorem grown_trans {a b c : World} {r : Option Nat} (h : a.grownBy b r) (k : b.grownBy c r) : a.grownBy c r :=
  ⟨k.os.trans h.os, k.tape.trans h.tape, k.output.trans h.output, Nat.le_trans h.size k.size, fun j hj hne => (k.block j (Nat.lt_of_lt_of_le hj h.size) hne).trans (h.block j hj hne)⟩
theorem run_cutFromC (g n c lo : Nat) (h1 : lo ≤ n) (h2 : n ≤ c) (h3 : lo < c) (w : World) : (Instr.slice 22 (.slice (some ⟨g, 0, none⟩) n c) (some (.int .i64 (lo : Int))) none none).run Try.prog w = .ok (.slice (some ⟨g, lo, none⟩) (n - lo) (c - lo)) w := by
  obtain ⟨i0, hi0, hz0, hz1, hz2⟩ := info_parts num3
  have k1 : ¬ ((lo : Int) < 0) := by omega
  have k2 : ¬ ((n : Int) < (lo : Int)) := by omega
  have k3 : ¬ ((c : Int) < (n : Int)) := by omega
  have k4 : ¬ (c = lo) := by omega
  simp [Instr.slice, run_underlying Try.underlying22, Sem.run_bind, Instr.sliceBounds, Instr.sliceBound, asIntOf, sizeOf, typeInfo, hi0, hz1, Addr.add, k4, h1]
  try omega
/-- 'clear' of what lies behind. -/
theorem run_clear_tail {w : World} {base g n m cap : Nat} {zs : List Int} (h : ownI w base g m cap zs) (hn : n < m) : ∃ w', (∀ ty, (Builtin.clear_ #[22] ty #[.slice (some ⟨g, n, none⟩) (m - n) (cap - n)]).run Try.prog w = .ok (.tuple #[]) w') ∧ ownI w' base g n cap (zs.take n) ∧ w.grownBy w' (some g) := by
  obtain ⟨h1, h2⟩ := setCells_own (List.replicate (m - n) (.int .i64 0)) n w (Nat.le_refl _) (h.take (k := n) (by omega))
  refine ⟨_, fun ty => Lib.run_clear_slice w 22 3 ty (.int .i64 0) Try.underlying22 (fun w => by kernel_rfl) rfl rfl g n (m - n) (cap - n) (by omega) (fun j hj => ?_) (fun j hj => World.ownsRow.frozenAt h (n + j)), h1, h2⟩
  rw [h.cell (by omega)]; rfl
set_option maxRecDepth 100000 in
set_option maxHeartbeats 4000000 in
theorem deletef_any (base g n cap : Nat) (zs : List Int) (ad : Int) (bp : Nat) (w : World) (h : ownI w base g n cap zs) (hn : n ≤ 100) (hm : ad ∈ zs) (h1 : w.cell? ⟨bp, 0, none⟩ = some (.int .i64 ad)) (hbp : bp ≠ g) :
    Calls Try.prog 71 #[.slice (some ⟨g, 0, none⟩) n cap, .func (.func 72) #[] #[.pointer (some ⟨bp, 0, none⟩)]] w fun e w' => ∃ n', e = .returned (.slice (some ⟨g, 0, none⟩) n' cap) ∧ ownI w' base g n' cap (withoutL zs ad) ∧ w.grownBy w' (some g) := by
  have hl := h.len
  have HI := Lib.hid (indexg_any _ zs ad bp w h.rd (by omega) h1)
  obtain ⟨i0, hi0, hi1, hi2⟩ : ∃ i0 : Nat, idxOf (eqB ad) zs = i0 ∧ i0 < n ∧ withoutL (zs.take (i0 + 1)) ad = zs.take i0 := by
    unfold idxOf
    cases hq : zs.findIdx? (eqB ad) with
    | none =>
      rw [List.findIdx?_eq_none_iff] at hq
      have := hq ad hm
      simp [eqB] at this
    | some j =>
      rw [List.findIdx?_eq_some_iff_getElem] at hq
      obtain ⟨a, b, c⟩ := hq
      refine ⟨j, rfl, by omega, ?_⟩
      unfold withoutL
      rw [List.take_succ_eq_append_getElem a, List.filter_append]
      have e1 : [zs[j]].filter (fun y => y != ad) = [] := by
        simp [eqB] at b; simp [b]
      have e2 : (zs.take j).filter (fun y => y != ad) = zs.take j := by
        rw [List.filter_eq_self]
        intro x hx
        obtain ⟨k, hk, rfl⟩ := List.getElem_of_mem hx
        have hk2 : k < j := by simp at hk; omega
        have := c k hk2
        simp [eqB] at this
        simp; exact fun e => this e.symm
      rw [e1, e2, List.append_nil]
  rw [hi0] at HI
  have HO := Lib.hid h
  have HI2 := Lib.hid hi2
  have HZ := Lib.hid hl
  obtain ⟨hbg, hnc, hcm, _⟩ := h.bounds
  clear hi2 h hi0 hcm hl
  go_enter Try.func71, Try.ntmps71
  go_wp2_with fail
  refine HI.out.mono ?_
  rintro e w' ⟨rfl, rfl⟩
  have tq : ((i0 : Int) == -1) = false := by simp
  go_wp2_with fail
  clear tq
  go_loopw [5, 6, 7] (fun iv jv _ wr => ∃ (i j : Nat) (cur : List Int), iv = .int .i64 i ∧ jv = .int .i64 j ∧ i < j ∧ j ≤ n ∧ cur.take i = withoutL (zs.take j) ad ∧ cur.drop j = zs.drop j ∧ ownI wr base g n cap cur ∧ w'.grownBy wr (some g)) (fun _ jv _ _ => n - (intOf jv).toNat)
  case atStart => exact ⟨i0, i0 + 1, zs, rfl, by go_num, by omega, by omega, HI2.out.symm, rfl, HO.out, grown_rfl _ _⟩
  case round =>
    obtain ⟨i, j, cur, rfl, rfl, hij, hj, ht, hd, ho, hg⟩ := hrel
    have HT := Lib.hid ht; have HD := Lib.hid hd; have HW := Lib.hid ho; have HG := Lib.hid hg
    clear ht hd ho hg
    have zg := HW.out.lt
    have g1 := (World.cell?_of_block (HG.out.block bp (World.block_lt_of_cell? _ _ h1) (by simp; exact hbp))).trans h1
    by_cases hlt : j < n
    · have hzl : zs.length = n := HZ.out
      have hcl : cur.length = n := HW.out.len
      have hcz : cur[j]?.getD 0 = zs[j]?.getD 0 := by
        have : (cur.drop j)[0]? = (zs.drop j)[0]? := by rw [HD.out]
        simpa using congrArg (fun o => o.getD 0) this
      have c1 := HW.out.cell (j := j) hlt
      have c2 := HW.out.cell (j := i) (by omega)
      have f2 := World.ownsRow.frozenAt HW.out i
      have HST := Lib.hid (without_succ zs ad j (by omega))
      have HD2 := Lib.hid (show cur.drop (j + 1) = zs.drop (j + 1) by rw [← List.drop_drop, ← List.drop_drop, HD.out])
      have HS2 := Lib.hid (show ∀ p, (cur.set i p).take (i + 1) = cur.take i ++ [p] ∧ (cur.set i p).drop (j + 1) = cur.drop (j + 1) from fun p => by
        refine ⟨?_, ?_⟩
        · rw [List.take_succ_eq_append_getElem (by simp; omega)]
          rw [List.take_set, List.set_eq_of_length_le (by simp; omega)]; simp
        · rw [List.drop_set]; simp [show i < j + 1 by omega])
      rw [hcz] at c1
      clear hcz hzl hcl
      obtain ⟨p, hp⟩ : ∃ p, zs[j]?.getD 0 = p := ⟨_, rfl⟩
      rw [hp] at c1 HST
      clear hp
      generalize cur[i]?.getD 0 = old at *
      have HA := Lib.hid (isaway_any p ad bp wr g1)
      by_cases hpa : p = ad
      · have hb : eqB ad p = true := by simp [eqB, hpa]
        have hst := HST.out
        rw [if_neg (by simp [hpa])] at hst
        have HST2 := Lib.hid hst
        rw [hb] at HA
        clear hst hb hpa HST
        go_wp2_with fail
        refine HA.out.mono ?_
        rintro e w3 ⟨rfl, rfl⟩
        go_wp2_with fail
        go_roundw
        case rel => exact ⟨i, j + 1, cur, rfl, by go_num, by omega, by omega, by rw [HST2.out]; exact HT.out, HD2.out, HW.out, HG.out⟩
        case measure => simp [intOf]; omega
      · have hb : eqB ad p = false := by simp [eqB]; exact fun e => hpa e.symm
        have hst := HST.out
        rw [if_pos (by simpa using hpa)] at hst
        have HST2 := Lib.hid hst
        rw [hb] at HA
        clear hst hb hpa HST
        go_wp2_with fail
        refine HA.out.mono ?_
        rintro e w3 ⟨rfl, rfl⟩
        go_wp2_with fail
        go_roundw
        case rel => exact ⟨i + 1, j + 1, cur.set i p, by go_num, by go_num, by omega, by omega, by rw [(HS2.out p).1, HST2.out, HT.out], by rw [(HS2.out p).2]; exact HD2.out, HW.out.set i p, grown_set HG.out⟩
        case measure => simp [intOf]; omega
    · have hjn : j = n := by omega
      subst hjn
      have hzl : zs.length = j := HZ.out
      have HT2 := Lib.hid (show cur.take i = withoutL zs ad by rw [HT.out, List.take_of_length_le (by omega)])
      have hcut := run_cutFromC g j cap i (by omega) hnc (by omega)
      obtain ⟨wk, hcl, hok, hgk⟩ := run_clear_tail HW.out hij
      have hto := run_cutToI g 0 j cap i (by omega)
      have HOK := Lib.hid hok; have HGK := Lib.hid (grown_trans HG.out hgk)
      clear hok hgk hzl
      go_wp2_with (simp only [hcl])
      go_ret
      exact ⟨i, rfl, by rw [← HT2.out]; exact HOK.out, HGK.out⟩
/-- 'append' of what is read to a row of the call's own, where there is room. -/
theorem append_room {w : World} {base g n cap m c : Nat} {a : Addr} {zs ys : List Int} (h : ownI w base g n cap zs) (hr : n + ys.length ≤ cap) (hm : m = ys.length) (hy : ∀ j u, (ys.map (Value.int .i64))[j]? = some u → w.cell? (a.add j) = some u) :
    ∃ w', (∀ ty, (Builtin.append_ #[22, 22] ty #[.slice (some ⟨g, 0, none⟩) n cap, .slice (some a) m c]).run Try.prog w = .ok (.slice (some ⟨g, 0, none⟩) (n + m) cap) w') ∧ ownI w' base g (n + m) cap (zs ++ ys) ∧ w.grownBy w' (some g) := by
  subst hm
  obtain ⟨i0, hi0, hz0, hz1, hz2⟩ := info_parts num3
  obtain ⟨h1, h2, h3, cur, h4, h5, h6⟩ := h.bounds
  have hl := h.len
  refine ⟨_, fun ty => run_append_room (P := Try.prog) w 22 ty 3 i0 Try.underlying22 hi0 g n cap cur h4 a ys.length c (ys.map (Value.int .i64)) (by rw [hz1]; simp) hy (fun u hu => by obtain ⟨z, _, rfl⟩ := List.mem_map.1 hu; rfl) hr (by rw [hz1, Nat.mul_one, List.length_map]; omega), ⟨?_, .inr ⟨g, cap, _, rfl, h1, setRow_heap w g cur _ 3 _ h4, by omega, h3, ?_, ?_⟩⟩, ⟨rfl, rfl, rfl, by simp, fun k _ hk => setRow_other w g k _ (fun e => hk (by simp [e]))⟩⟩
  · simp [hl]
  · simp [hz1, h5]; omega
  · simp only [hz1, Nat.mul_one, h6, List.map_append, List.append_assoc]
    rw [← List.append_assoc]
    exact List.take_left' (by simp [hl])
theorem idx_le {zs : List Int} {k : Nat} : zs.take k ++ zs.drop (k + 1) = zs.eraseIdx k := (List.eraseIdx_eq_take_drop_succ zs k).symm
/-- 'clear' of spare cells. -/
theorem run_clear_spare {w : World} {base g m r cap c : Nat} {zs : List Int} (h : ownI w base g m cap zs) (hr : m + r ≤ cap) (h0 : 0 < r) : ∃ w', (∀ ty, (Builtin.clear_ #[22] ty #[.slice (some ⟨g, m, none⟩) r c]).run Try.prog w = .ok (.tuple #[]) w') ∧ ownI w' base g m cap zs ∧ w.grownBy w' (some g) := by
  obtain ⟨h1, h2⟩ := setCells_own (List.replicate r (.int .i64 0)) m w (Nat.le_refl _) h
  obtain ⟨_, _, _, cur, h4, h5, _⟩ := h.bounds
  refine ⟨_, fun ty => Lib.run_clear_slice w 22 3 ty (.int .i64 0) Try.underlying22 (fun w => by kernel_rfl) rfl rfl g m r c h0 (fun j hj => ?_) (fun j hj => World.ownsRow.frozenAt h (m + j)), h1, h2⟩
  rw [cell_of_row w g (m + j) _ _ _ h4]
  simp; omega
set_option maxRecDepth 100000 in
set_option maxHeartbeats 4000000 in
theorem delete_any (base g n cap : Nat) (zs : List Int) (k : Nat) (w : World) (h : ownI w base g n cap zs) (hn : n ≤ 100) (hk : k < n) :
    Calls Try.prog 67 #[.slice (some ⟨g, 0, none⟩) n cap, .int .i64 k, .int .i64 ((k : Int) + 1)] w fun e w' => ∃ n', e = .returned (.slice (some ⟨g, 0, none⟩) n' cap) ∧ ownI w' base g n' cap (zs.eraseIdx k) ∧ w.grownBy w' (some g) := by
  have hl := h.len
  obtain ⟨hbg, hnc, hcm, _⟩ := h.bounds
  have t1 : ((k : Int) == (k : Int) + 1) = false := by simp; omega
  obtain ⟨ad, hfrom, had⟩ := run_cutFromI g 0 n cap (k + 1) (by omega) hnc
  have hto := run_cutToI g 0 n cap k (by omega)
  have HD := Lib.hid (show zs.take k ++ zs.drop (k + 1) = zs.eraseIdx k from idx_le)
  have HO := Lib.hid h
  have zg := h.lt
  have hlen : (zs.drop (k + 1)).length = n - (k + 1) := by simp [hl]
  have HAP := Lib.hid (fun (wz : World) (hz : ownI wz base g n cap zs) => append_room (a := ad) (c := cap - (k + 1)) (hz.take (k := k) (by omega)) (ys := zs.drop (k + 1)) (by omega) hlen.symm (fun j u hu => by
    have hj : j < n - (k + 1) := by
      have := (List.getElem?_eq_some_iff.1 hu).1
      rw [List.length_map, hlen] at this; exact this
    rw [had (by omega), Go.WideShapes.add_plain, show 0 + (k + 1) + j = k + 1 + j by omega, hz.cell (by omega)]
    rw [← hu]
    simp [show k + 1 + j < zs.length by omega]))
  have hfrom2 : ∀ w : World, (Instr.slice 22 (.slice (some ⟨g, 0, none⟩) n cap) (some (.int .i64 ((k : Int) + 1))) none none).run Try.prog w = .ok (.slice (some ad) (n - (k + 1)) (cap - (k + 1))) w := by
    intro w
    have := hfrom w
    rwa [show ((k + 1 : Nat) : Int) = (k : Int) + 1 by omega] at this
  clear hfrom had hcm h hl hlen
  go_enter Try.func67, Try.ntmps67
  go_wp2_with fail
  refine wp_region_flow [] [([0, 1, 2, 3, 4, 5], 6, false), ([], 7, false)] [] (by kernel_rfl) (by kernel_rfl) ?_
  intro wc hB hh
  have HC := Lib.hid (show ownI wc base g n cap zs by unfold ownI World.ownsRow; rw [hh]; exact HO.out)
  have HGC := Lib.hid (show w.grownBy wc (some g) from ⟨hB.os, hB.tape, hB.output, by rw [hh]; exact Nat.le_refl _, fun r h1 h2 => by rw [hh]⟩)
  clear hh hB
  obtain ⟨w1, hap, ho1, hg1⟩ := HAP.out wc HC.out
  have HO1 := Lib.hid ho1; have HG1 := Lib.hid (grown_trans HGC.out hg1)
  clear ho1 hg1
  have hL := @Later.cell wc
  simp only [flowP, flow, pickL, List.getElem?_cons_succ, List.getElem?_cons_zero]
  refine wpQuiet_nil ?_
  repeat (go_big_quiet_step (fail))
  refine wpQuiet_nil ?_
  refine wpList_append_eq wc rfl (.tmp 22) (.tmp 25) 22 rfl _ _ rfl rfl (hap _) ?_
  go_wp2
  refine seg_write ?_
  refine wpQuiet_nil ?_
  go_wp2
  refine seg_write ?_
  refine wpQuiet_nil ?_
  refine only_done ?_
  clear hap
  rw [show k + (n - (k + 1)) = n - 1 by omega] at HO1
  have HO1 := Lib.hid HO1.out
  have hcut : k + (n - (k + 1)) = n - 1 := by omega
  rw [hcut]
  obtain ⟨wk, hcl, hok, hgk⟩ := run_clear_spare (c := cap - (n - 1)) HO1.out (r := n - (n - 1)) (by omega) (by omega)
  obtain ⟨ad2, hmid, had2⟩ := run_cutMid g 0 (n - 1) cap (n - 1) n (by omega) hnc
  have e2 := had2 (by omega)
  subst e2
  rw [Nat.zero_add] at hmid
  have HOK := Lib.hid hok; have HGK := Lib.hid (grown_trans HG1.out hgk)
  clear hok hgk had2 hcut
  go_wp2_with (simp only [hcl])
  go_ret
  exact ⟨n - 1, rfl, by rw [← HD.out]; exact HOK.out, HGK.out⟩
end Go.Proofs.Ytjajdpggoggoiaa

namespace Go.Proofs.Ytjajdpggoggoiaa
open Go.RowKit Go.Shelf

set_option maxRecDepth 100000 in
set_option maxHeartbeats 4000000 in
theorem later_any (b bn bi : Nat) (R : Int) (W on : List Int) (i : Nat) (x y : Int) (w : World) (hI : IsBench w b R W on) (hl : W.length ≤ 1000) (hi : i < W.length)
    (h1 : w.cell? ⟨bn, 0, none⟩ = some (.func (.func 65) #[.pointer (some ⟨b, 0, none⟩)] #[])) (h2 : w.cell? ⟨bi, 0, none⟩ = some (.int .i64 i)) :
    Calls Try.prog 70 #[.int .i64 x, .int .i64 y, .pointer (some ⟨bn, 0, none⟩), .pointer (some ⟨bi, 0, none⟩)] w fun e w' => e = .returned (.bool (decide (nextP W i y < nextP W i x))) ∧ Below w.heap.size w w' := by
  have HX := Lib.hid (fun wz hB => next_any b R W on i x wz (hI.mono hB) hl hi)
  have HY := Lib.hid (fun wz hB => next_any b R W on i y wz (hI.mono hB) hl hi)
  generalize nextP W i x = nx at *
  generalize nextP W i y = ny at *
  have z1 := World.block_lt_of_cell? w _ h1
  have z2 := World.block_lt_of_cell? w _ h2
  simp only at z1 z2
  clear hI
  go_enter Try.func70, Try.ntmps70
  go_upto_region 1 with fail
  refine wp_region_flow [] [([0, 1, 2, 4, 5, 6], 3, true), ([], 7, true)] [8, 9] (by kernel_rfl) (by kernel_rfl) ?_
  intro wc hB hh
  clear hh
  have c1 := (hB.cell (p := ⟨bn, 0, none⟩) z1).trans h1
  have c2 := (hB.cell (p := ⟨bi, 0, none⟩) z2).trans h2
  have HBc := Lib.hid hB
  have v1 := Nat.lt_of_lt_of_le z1 hB.size
  have v2 := Nat.lt_of_lt_of_le z2 hB.size
  have hL := @Later.cell wc
  clear hB h1 h2 z1 z2
  simp only [flowP, flow, pickL, List.getElem?_cons_succ, List.getElem?_cons_zero]
  refine wpQuiet_nil ?_
  repeat (go_big_quiet_step (fail))
  refine wpQuiet_nil ?_
  go_wp2_with fail
  refine (HX.out _ HBc.out).mono ?_
  rintro e w2 ⟨rfl, rfl⟩
  go_wp2
  refine seg_grow ⟨⟨_, bz _⟩, rfl⟩ ?_
  refine wpQuiet_nil ?_
  go_wp2_with fail
  refine (HY.out _ HBc.out).mono ?_
  rintro e w2 ⟨rfl, rfl⟩
  go_wp2
  refine seg_grow ⟨⟨_, bz _⟩, rfl⟩ ?_
  repeat (go_big_quiet_step (fail))
  refine wpQuiet_nil ?_
  refine only_done ?_
  go_wp2_with fail
  go_ret
  exact ⟨rfl, HBc.out⟩
def bestS (W : List Int) (i : Nat) (out x : Int) : Int := if nextP W i out < nextP W i x then x else out
/-- The first of the list that is wanted later than all before it. -/
def bestP (W : List Int) (i : Nat) (l : List Int) : Int := (l.drop 1).foldl (bestS W i) (l[0]?.getD 0)
theorem bestP_succ (W : List Int) (i : Nat) (l : List Int) (k : Nat) (hk : k + 1 < l.length) : ((l.drop 1).take (k + 1)).foldl (bestS W i) (l[0]?.getD 0) = bestS W i (((l.drop 1).take k).foldl (bestS W i) (l[0]?.getD 0)) (l[k + 1]?.getD 0) := by
  have h : k < (l.drop 1).length := by simp; omega
  rw [List.take_succ_eq_append_getElem h, List.foldl_append]
  simp only [List.foldl_cons, List.foldl_nil]
  congr 1
  simp [show k + 1 < l.length by omega]
set_option maxRecDepth 100000 in
set_option maxHeartbeats 4000000 in
theorem best_any (b bn bi g n cap : Nat) (base : Nat) (R : Int) (W on : List Int) (i : Nat) (zs : List Int) (w : World) (hI : IsBench w b R W on) (hl : W.length ≤ 1000) (hi : i < W.length)
    (h1 : w.cell? ⟨bn, 0, none⟩ = some (.func (.func 65) #[.pointer (some ⟨b, 0, none⟩)] #[])) (h2 : w.cell? ⟨bi, 0, none⟩ = some (.int .i64 i)) (ho : ownI w base g n cap zs) (hn : n ≤ 100) (hn1 : 1 ≤ n) :
    Calls Try.prog 69 #[.slice (some ⟨g, 0, none⟩) n cap, .func (.func 70) #[] #[.pointer (some ⟨bn, 0, none⟩), .pointer (some ⟨bi, 0, none⟩)]] w fun e w' => e = .returned (.int .i64 (bestP W i zs)) ∧ Below w.heap.size w w' := by
  have hlz := ho.len
  have HL := Lib.hid (fun (wz : World) (hB : Below w.heap.size w wz) x y => later_any b bn bi R W on i x y wz (hI.mono hB) hl hi ((hB.cell (World.block_lt_of_cell? w _ h1)).trans h1) ((hB.cell (World.block_lt_of_cell? w _ h2)).trans h2))
  obtain ⟨_, hnc, _, _⟩ := ho.bounds
  have HG := Lib.hid (fun (wz : World) (hB : Below w.heap.size w wz) (j : Nat) (hj : j < n) => (show wz.cell? ⟨g, j, none⟩ = some (.int .i64 (zs[j]?.getD 0)) from (hB.cell (p := ⟨g, j, none⟩) ho.lt).trans (ho.cell hj)))
  have zg := ho.lt
  have c0 := HG.out w (bz w) 0 (by omega)
  have HB1 := Lib.hid (show bestP W i zs = ((zs.drop 1).take (n - 1)).foldl (bestS W i) (zs[0]?.getD 0) by
    unfold bestP; rw [List.take_of_length_le (by simp; omega)])
  have HB0 := Lib.hid (show ((zs.drop 1).take 0).foldl (bestS W i) (zs[0]?.getD 0) = zs[0]?.getD 0 by simp)
  have HBS := Lib.hid (fun k (hk : k + 1 < n) => bestP_succ W i zs k (by omega))
  have HZ := Lib.hid hlz
  clear hI h1 h2 ho hlz
  obtain ⟨ad, hcut0, had⟩ := run_cutFromI g 0 n cap 1 (by omega) hnc
  have hcut : ∀ w : World, (Instr.slice 22 (.slice (some ⟨g, 0, none⟩) n cap) (some (.int .i64 1)) none none).run Try.prog w = .ok (.slice (some ad) (n - 1) (cap - 1)) w := fun w => hcut0 w
  clear hcut0
  obtain ⟨z, hz⟩ : ∃ z, zs[0]?.getD 0 = z := ⟨_, rfl⟩
  rw [hz] at c0 HB0
  have HZ0 := Lib.hid hz; clear hz
  rw [HB1.out]
  have HR := Lib.hid (show ∀ k, k = n - 1 → ((zs.drop 1).take k).foldl (bestS W i) (zs[0]?.getD 0) = ((zs.drop 1).take (n - 1)).foldl (bestS W i) (zs[0]?.getD 0) from fun k e => by rw [e])
  generalize ((zs.drop 1).take (n - 1)).foldl (bestS W i) (zs[0]?.getD 0) = res at *
  go_enter Try.func69, Try.ntmps69
  go_wp2_with fail
  clear hcut
  go_loopw [5, 7, 14] (fun o _ iv wr => ∃ k : Nat, k ≤ n - 1 ∧ iv = .int .i64 k ∧ o = .int .i64 (((zs.drop 1).take k).foldl (bestS W i) (zs[0]?.getD 0)) ∧ Below w.heap.size w wr) (fun _ _ iv _ => n - (intOf iv).toNat)
  case atStart => exact ⟨0, by omega, rfl, by rw [HZ0.out, HB0.out], bz _⟩
  case round =>
    obtain ⟨k, hk, rfl, rfl, hB⟩ := hrel
    have HB := Lib.hid hB; clear hB
    by_cases hlt : k < n - 1
    · have ea : ad = ⟨g, 1, none⟩ := had (by omega)
      subst ea
      have ck := HG.out wr HB.out (k + 1) (by omega)
      rw [show k + 1 = 1 + k by omega] at ck
      have zk := Nat.lt_of_lt_of_le zg HB.out.size
      have hst := HBS.out k (by omega)
      unfold bestS at hst
      have HST := Lib.hid hst; clear hst had
      rw [show (fun out x => if nextP W i out < nextP W i x then x else out) = bestS W i from rfl] at HST
      rw [show k + 1 = 1 + k by omega] at HST
      generalize ((zs.drop 1).take k).foldl (bestS W i) (zs[0]?.getD 0) = o at *
      generalize zs[1 + k]?.getD 0 = x at *
      have HC := Lib.hid (HL.out wr HB.out x o)
      by_cases hc : nextP W i o < nextP W i x
      · rw [decide_eq_true hc] at HC
        rw [if_pos hc] at HST
        clear hc c0
        go_wp2_with (go_at_call 70; refine HC.out.mono ?_)
        rintro e w2 ⟨rfl, hB2⟩
        have HB2 := Lib.hid (btr HB.out hB2); clear hB2
        go_wp2_with fail
        go_roundw
        case rel => exact ⟨k + 1, by omega, by go_num, by rw [show k + 1 = 1 + k by omega, HST.out], HB2.out⟩
        case measure => simp [intOf]; omega
      · rw [decide_eq_false hc] at HC
        rw [if_neg hc] at HST
        clear hc c0
        go_wp2_with (go_at_call 70; refine HC.out.mono ?_)
        rintro e w2 ⟨rfl, hB2⟩
        have HB2 := Lib.hid (btr HB.out hB2); clear hB2
        go_wp2_with fail
        go_roundw
        case rel => exact ⟨k + 1, by omega, by go_num, by rw [show k + 1 = 1 + k by omega, HST.out], HB2.out⟩
        case measure => simp [intOf]; omega
    · have hke : k = n - 1 := by omega
      have HRK := Lib.hid (HR.out k hke)
      clear hke had
      generalize ((zs.drop 1).take k).foldl (bestS W i) (zs[0]?.getD 0) = o at *
      go_wp2_with fail
      go_ret
      exact ⟨by rw [← HRK.out]; rfl, HB.out⟩
end Go.Proofs.Ytjajdpggoggoiaa

namespace Go.Proofs.Ytjajdpggoggoiaa

theorem nextP_D (W : List Int) (hl : W.length ≤ 1000) (i : Nat) (r : Int) : nextP W i r = if nextD W i r = 1000 then (W.length : Int) else nextD W i r := by
  unfold nextP nextD idxOf
  cases h : (W.drop (i + 1)).findIdx? (eqB r) with
  | none => simp
  | some j =>
    rw [List.findIdx?_eq_some_iff_getElem] at h
    obtain ⟨hj, _, _⟩ := h
    rw [List.length_drop] at hj
    simp only
    rw [if_pos (by omega), if_neg (by omega)]
    omega
theorem nextP_lt (W : List Int) (hl : W.length ≤ 1000) (i : Nat) (x y : Int) : nextP W i x < nextP W i y ↔ nextD W i x < nextD W i y := by
  rw [nextP_D W hl, nextP_D W hl]
  rcases nextD_spec W hl i x with ⟨a, _⟩ | ⟨q, a, b, c, _⟩ <;> rcases nextD_spec W hl i y with ⟨a', _⟩ | ⟨q', a', b', c', _⟩
  · simp [a, a']
  · rw [a, a', if_pos rfl, if_neg (by omega)]; omega
  · rw [a, a', if_neg (by omega), if_pos rfl]; omega
  · rw [a, a', if_neg (by omega), if_neg (by omega)]
theorem bestP_inv (W : List Int) (i : Nat) (l : List Int) (hs : SortA (l.length - 1) l.length l) : ∀ k, k < l.length →
    ∃ j, j ≤ k ∧ ((l.drop 1).take k).foldl (bestS W i) (l[0]?.getD 0) = l[j]?.getD 0 ∧ ∀ a, a ≤ k → nextP W i (l[a]?.getD 0) ≤ nextP W i (l[j]?.getD 0) ∧ (nextP W i (l[a]?.getD 0) = nextP W i (l[j]?.getD 0) → l[j]?.getD 0 ≤ l[a]?.getD 0)
  | 0, h => ⟨0, Nat.le_refl _, by simp, fun a ha => by
      have : a = 0 := by omega
      subst this; exact ⟨Int.le_refl _, fun _ => Int.le_refl _⟩⟩
  | k + 1, h => by
    obtain ⟨j, hj, he, hall⟩ := bestP_inv W i l hs k (by omega)
    rw [bestP_succ W i l k h, he]
    unfold bestS
    split
    · rename_i hc
      refine ⟨k + 1, Nat.le_refl _, rfl, fun a ha => ?_⟩
      by_cases e : a = k + 1
      · subst e; exact ⟨Int.le_refl _, fun _ => Int.le_refl _⟩
      · have := (hall a (by omega)).1
        exact ⟨by omega, fun h => by omega⟩
    · rename_i hc
      refine ⟨j, by omega, rfl, fun a ha => ?_⟩
      by_cases e : a = k + 1
      · subst e
        exact ⟨by omega, fun _ => hs j (k + 1) (by omega) (by omega) (by omega)⟩
      · exact hall a (by omega)
theorem bestP_away {W : List Int} (hl : W.length ≤ 1000) {i : Nat} {l zs : List Int} (hp : l.Perm zs) (hs : SortA (l.length - 1) l.length l) (h1 : 1 ≤ l.length) : bestP W i l = awayD W 3 zs i := by
  obtain ⟨j, hj, he, hall⟩ := bestP_inv W i l hs (l.length - 1) (by omega)
  have hb : bestP W i l = l[j]?.getD 0 := by
    rw [← he]; unfold bestP
    rw [List.take_of_length_le (by simp)]
  have hr : bestP W i l ∈ l := by rw [hb]; simp [show j < l.length by omega]
  have hz1 : 1 ≤ zs.length := by rw [← hp.length_eq]; exact h1
  have ha := awayD_mem W hl 3 i zs hz1
  have hfar := awayD_far W hl i zs hz1
  generalize awayD W 3 zs i = a at *
  have f1 := hfar _ (hp.mem_iff.1 hr)
  obtain ⟨m, hm, hma⟩ := List.getElem_of_mem (hp.mem_iff.2 ha)
  have f2 := hall m (by omega)
  have e2 : l[m]?.getD 0 = a := by simp [hm, hma]
  rw [e2, ← hb] at f2
  have g1 := nextP_lt W hl i (bestP W i l) a
  have g2 := nextP_lt W hl i a (bestP W i l)
  have n1 := nextP_D W hl i a
  have n2 := nextP_D W hl i (bestP W i l)
  generalize bestP W i l = r at *
  have k1 : ¬ nextD W i r < nextD W i a := fun h => by have := g1.2 h; omega
  have k2 : nextD W i r = nextD W i a := by omega
  rw [k2] at n2
  have k3 : nextP W i a = nextP W i r := by rw [n1, n2]
  have := f2.2 k3
  omega
/-- The program's list beside that of the document. -/
structure Alike (rule : Int) (l zs : List Int) : Prop where
  perm : l.Perm zs
  same : rule ≠ 3 → l = zs
theorem erase_idx {l : List Int} (hn : l.Nodup) {q : Int} (hm : q ∈ l) : ∃ k : Nat, idxOf (eqB q) l = k ∧ k < l.length ∧ l.eraseIdx k = withoutL l q := by
  unfold idxOf
  cases h : l.findIdx? (eqB q) with
  | none =>
    rw [List.findIdx?_eq_none_iff] at h
    have := h q hm
    simp [eqB] at this
  | some k =>
    rw [List.findIdx?_eq_some_iff_getElem] at h
    obtain ⟨hk, h1, _⟩ := h
    simp [eqB] at h1
    refine ⟨k, rfl, hk, ?_⟩
    have e0 : l = l.take k ++ l[k] :: l.drop (k + 1) := by rw [List.getElem_cons_drop, List.take_append_drop]
    have hn2 := hn
    rw [e0, List.nodup_append, List.nodup_cons] at hn2
    obtain ⟨_, ⟨h3, _⟩, h4⟩ := hn2
    have f1 : (l.take k).filter (fun y => y != q) = l.take k := by
      rw [List.filter_eq_self]
      intro x hx
      have := h4 x hx l[k] List.mem_cons_self
      simp; rw [h1]; exact this
    have f2 : (l.drop (k + 1)).filter (fun y => y != q) = l.drop (k + 1) := by
      rw [List.filter_eq_self]
      intro x hx
      simp; rw [h1]; intro e; subst e; exact h3 hx
    unfold withoutL
    rw [List.eraseIdx_eq_take_drop_succ]
    have f3 : l.filter (fun y => y != q) = (l.take k ++ l[k] :: l.drop (k + 1)).filter (fun y => y != q) := congrArg _ e0
    rw [f3, List.filter_append, List.filter_cons, f1, f2, if_neg (by simp [h1])]
theorem idx_none {l : List Int} {q : Int} (hm : q ∉ l) : idxOf (eqB q) l = -1 := by
  unfold idxOf
  cases h : l.findIdx? (eqB q) with
  | none => rfl
  | some k =>
    rw [List.findIdx?_eq_some_iff_getElem] at h
    obtain ⟨hk, h1, _⟩ := h
    simp [eqB] at h1
    exact absurd (h1 ▸ List.getElem_mem hk) hm
theorem Alike.without {rule : Int} {l zs : List Int} (h : Alike rule l zs) (a q : Int) : Alike rule (withoutL l a ++ [q]) (withoutL zs a ++ [q]) :=
  ⟨(h.perm.filter _).append_right _, fun hr => by rw [h.same hr]⟩
theorem Alike.snoc {rule : Int} {l zs : List Int} (h : Alike rule l zs) (q : Int) : Alike rule (l ++ [q]) (zs ++ [q]) :=
  ⟨h.perm.append_right _, fun hr => by rw [h.same hr]⟩
theorem Alike.nil (rule : Int) : Alike rule [] [] := ⟨List.Perm.refl _, fun _ => rfl⟩
end Go.Proofs.Ytjajdpggoggoiaa

namespace Go.Proofs.Ytjajdpggoggoiaa
open Go.RowKit Go.Shelf

structure OwnN (w : World) (base : Nat) (rs : List (Value × List Int)) : Prop where
  own : ∀ r ∈ rs, rowI w base r.1 r.2
  apart : rs.Pairwise fun a b => apartV a.1 b.1
theorem OwnN.later {w w' : World} {base : Nat} {rs : List (Value × List Int)} (h : OwnN w base rs) (hb : Below w.heap.size w w') : OwnN w' base rs :=
  ⟨fun r hr => owns_kept (h.own r hr) hb, h.apart⟩
theorem OwnN.nils (w : World) (base : Nat) : OwnN w base [(.slice none 0 0, []), (.slice none 0 0, []), (.slice none 0 0, [])] :=
  ⟨fun r hr => by simp at hr; subst hr; exact World.ownsRow_nil _ _ _ _, by simp [apartV, Value.ownBlock]⟩
theorem OwnN.part {w : World} {base : Nat} {A B : List (Value × List Int)} (h : OwnN w base (A ++ B)) : OwnN w base A :=
  ⟨fun r hr => h.own r (List.mem_append_left _ hr), (List.pairwise_append.1 h.apart).1⟩
theorem OwnN.at {w : World} {base : Nat} {A B : List (Value × List Int)} {v : Value} {xs : List Int} (h : OwnN w base (A ++ (v, xs) :: B)) : rowI w base v xs :=
  h.own (v, xs) (by simp)
/-- One row turns, in place or at a new block. -/
theorem OwnN.upd {w w' : World} {base : Nat} {A B : List (Value × List Int)} {v v' : Value} {xs xs' : List Int} (h : OwnN w base (A ++ (v, xs) :: B)) (hg : w.grownBy w' v.ownBlock) (hr : rowI w' base v' xs')
    (hv : v'.ownBlock = v.ownBlock ∨ ∃ nb, w.heap.size ≤ nb ∧ v'.ownBlock = some nb) : OwnN w' base (A ++ (v', xs') :: B) := by
  obtain ⟨p1, p2, p3⟩ := List.pairwise_append.1 h.apart
  obtain ⟨p4, p5⟩ := List.pairwise_cons.1 p2
  have hA : ∀ r ∈ A, apartV r.1 v := fun r hr => p3 r hr (v, xs) (by simp)
  have far : ∀ r : Value × List Int, rowI w base r.1 r.2 → apartV r.1 v → apartV r.1 v' := by
    intro r hro ha
    rcases hv with e | ⟨nb, h1, h2⟩
    · rcases ha with h3 | h3
      · exact .inl h3
      · exact .inr (by rw [e]; exact h3)
    · cases hb : r.1.ownBlock with
      | none => exact .inl hb
      | some k =>
        refine .inr ?_
        rw [hb, h2]
        intro e'
        have := (hro.lt hb).2
        have := Option.some.inj e'
        omega
  have keep : ∀ r : Value × List Int, rowI w base r.1 r.2 → apartV r.1 v → rowI w' base r.1 r.2 := fun r hro ha => World.ownsRow.kept hro hg ha
  refine ⟨fun r hm => ?_, ?_⟩
  · rcases List.mem_append.1 hm with hm | hm
    · exact keep r (h.own r (List.mem_append_left _ hm)) (hA r hm)
    · rcases List.mem_cons.1 hm with rfl | hm
      · exact hr
      · exact keep r (h.own r (by simp [hm])) (p4 r hm).symm
  · rw [List.pairwise_append, List.pairwise_cons]
    refine ⟨p1, ⟨fun r hm => (far r (h.own r (by simp [hm])) (p4 r hm).symm).symm, p5⟩, fun r hm s hs => ?_⟩
    rcases List.mem_cons.1 hs with rfl | hs
    · exact far r (h.own r (List.mem_append_left _ hm)) (hA r hm)
    · exact p3 r hm s (List.mem_cons_of_mem _ hs)
/-- One row more, at a new block. -/
theorem OwnN.more {w w' : World} {base : Nat} {A : List (Value × List Int)} {v : Value} {xs : List Int} (h : OwnN w base A) (hb : Below w.heap.size w w') (hr : rowI w' base v xs) (hv : ∃ nb, w.heap.size ≤ nb ∧ v.ownBlock = some nb) : OwnN w' base (A ++ [(v, xs)]) := by
  obtain ⟨nb, h1, h2⟩ := hv
  refine ⟨fun r hm => ?_, ?_⟩
  · rcases List.mem_append.1 hm with hm | hm
    · exact owns_kept (h.own r hm) hb
    · simp at hm; subst hm; exact hr
  · rw [List.pairwise_append]
    refine ⟨h.apart, by simp, fun r hm s hs => ?_⟩
    simp at hs; subst hs
    cases hb : r.1.ownBlock with
    | none => exact .inl hb
    | some k =>
      refine .inr ?_
      rw [hb, h2]
      intro e'
      have := ((h.own r hm).lt hb).2
      have := Option.some.inj e'
      omega
theorem below_own {z w w' : World} {base : Nat} {v : Value} {xs : List Int} (hz : Below z.heap.size z w) (h : rowI w base v xs) (hb : z.heap.size ≤ base) (hg : w.grownBy w' v.ownBlock) : Below z.heap.size z w' :=
  bgr hz hg fun _ e => Nat.le_trans hb (h.lt e).1
/-- 'append' of a number to one of them. -/
theorem OwnN.push {w : World} {base : Nat} {A B : List (Value × List Int)} {v : Value} {xs : List Int} {ops : Array Oper} {rest : List Oper} {o : Oper} {a : Act} {Q : Exit → Act → World → Prop} (hgd : o.guard = none) (s x : Operand)
    (ho : o.op = .call { callee := .builtin .append, args := #[s, x], argTypes := #[22, 22] })
    (h : OwnN w base (A ++ (v, xs) :: B)) (q : Int) (hs : a.eval s = v) (hx : a.eval x = .slice (some ⟨w.heap.size, 0, none⟩) 1 1) (hl : xs.length ≤ 1000) (hb : base ≤ w.heap.size)
    (H : ∀ v' w', OwnN w' base (A ++ (v', xs ++ [q]) :: B) → (∀ z : World, Below z.heap.size z w → z.heap.size ≤ base → Below z.heap.size z w') → wpList Try.prog ops Q rest (a.put o.dst v') w') :
    wpList Try.prog ops Q (o :: rest) a (w.alloc (.cells #[.int .i64 q] 3)) := by
  obtain ⟨i0, hi, hz0, hz1, hz2⟩ := info_parts num3
  have hv := h.at
  have ha := World.ownsRow.alloc hv (.cells #[.int .i64 q] 3)
  refine wpList_append_own_at _ hgd s x 22 ho base 3 i0 (.int .i64 0) 1 8 Try.underlying22 hi hz0 hz1 hz2 rfl (by decide) _ _ _ hs ha ⟨w.heap.size, 0, none⟩ 1 1 [.int .i64 q] hx rfl (fun j u hj => ?_) (fun u hu => by simp at hu; subst hu; rfl)
    (by simp only [maxLen]; omega) (by omega) (by simp; omega) ?_
  · match j, hj with
    | 0, hj => simp at hj; subst hj; rw [Go.WideShapes.add_plain]; simp
  · intro v' w' h1 h2 _ h4
    refine H v' w' ((h.later (bal (bz w) _)).upd h2 ?_ ?_) fun z hz hzb => below_own (bal hz _) (xs := xs) ha hzb h2
    · unfold rowI
      rw [List.map_append, List.length_append]; exact h1
    · rcases h4 with h4 | h4
      · exact .inl h4
      · exact .inr ⟨_, Nat.le_refl _, h4⟩
/-- A row of one number: a cell. -/
def cellV (b : Nat) : Value := .slice (some ⟨b, 0, none⟩) 1 1
theorem OwnN.cell {w : World} {base : Nat} {A B : List (Value × List Int)} {b : Nat} {x : Int} (h : OwnN w base (A ++ (cellV b, [x]) :: B)) : w.cell? ⟨b, 0, none⟩ = some (.int .i64 x) ∧ w.frozen? ⟨b, 0, none⟩ = false ∧ b < w.heap.size := by
  have h1 : ownI w base b 1 1 [x] := h.at
  exact ⟨h1.cell (j := 0) (by omega), World.ownsRow.frozenAt h1 0, h1.lt⟩
theorem OwnN.put {w : World} {base : Nat} {A B : List (Value × List Int)} {b : Nat} {x : Int} (h : OwnN w base (A ++ (cellV b, [x]) :: B)) (y : Int) : OwnN (w.setCell ⟨b, 0, none⟩ (.int .i64 y)) base (A ++ (cellV b, [y]) :: B) := by
  have h1 : ownI w base b 1 1 [x] := h.at
  exact h.upd (World.ownsRow.stored h1 0 (.int .i64 y)).2 (h1.set 0 y) (.inl rfl)
theorem OwnN.box {w : World} {base : Nat} {A : List (Value × List Int)} (h : OwnN w base A) (hb : base ≤ w.heap.size) (x : Int) : OwnN (w.alloc (.cells #[.int .i64 x] 3)) base (A ++ [(cellV w.heap.size, [x])]) :=
  h.more (bal (bz w) _) (World.ownsRow_lit w #[.int .i64 x] 1 hb (by unfold maxLen; omega) rfl) ⟨_, Nat.le_refl _, rfl⟩
theorem rowI.ofI {w : World} {base g n cap : Nat} {zs : List Int} (h : ownI w base g n cap zs) : rowI w base (.slice (some ⟨g, 0, none⟩) n cap) zs := by
  have := h.len
  unfold rowI; rw [this]; exact h
theorem rowI.toI {w : World} {base : Nat} {v : Value} {zs : List Int} (h : rowI w base v zs) (h0 : 0 < zs.length) : ∃ g cap, v = .slice (some ⟨g, 0, none⟩) zs.length cap ∧ ownI w base g zs.length cap zs := by
  have h' := h
  rcases h.2 with ⟨_, h2⟩ | ⟨g, cap, cur, rfl, _⟩
  · omega
  · exact ⟨g, cap, rfl, h'⟩
end Go.Proofs.Ytjajdpggoggoiaa

namespace Go.Proofs.Ytjajdpggoggoiaa
open Go.RowKit Go.Shelf
theorem run_store_fn (P : Program) (w : World) (a : Addr) (m : Mode) (f : Fn) (x y : Array Value) : (store a (.func f x y) m).run P w = stored P w a (.func f x y) m := run_store P w a _ m rfl
attribute [local go_sem] run_store_fn
theorem OwnN.ne5 {w : World} {base g n c bp : Nat} {u v c1 : Value} {xs ys zs x1 x2 : List Int} (h : OwnN w base [(u, xs), (v, ys), (.slice (some ⟨g, 0, none⟩) n c, zs), (c1, x1), (cellV bp, x2)]) : bp ≠ g := by
  have h1 := (List.pairwise_cons.1 (List.pairwise_cons.1 (List.pairwise_cons.1 h.apart).2).2).1 (cellV bp, x2) (by simp)
  rcases h1 with h1 | h1
  · simp [Value.ownBlock] at h1
  · intro e; subst e; exact h1 rfl
set_option maxRecDepth 100000 in
set_option maxHeartbeats 4000000 in
theorem prun_any (b : Nat) (R : Int) (W on : List Int) (rule : Int) (w : World) (hI : IsBench w b R W on) (hd : OkD R W) :
    Calls Try.prog 50 #[.pointer (some ⟨b, 0, none⟩), .int .i64 rule] w fun e w' => ∃ u v, e = .returned (.tuple #[u, v]) ∧ RdI w' .i64 u (runK R rule W W.length).plan ∧ RdI w' .i64 v (runK R rule W W.length).fet ∧ Below w.heap.size w w' := by
  have h16 := hd.l16
  have hr6 := hd.r6
  have hr1 := hd.r1
  have HI := Lib.hid hI
  obtain ⟨x, M, L, cl, hD, _, _, _, hx0⟩ := hI
  obtain ⟨a, ca, rfl, _, hcm, hx⟩ := hx0.form
  have c0 := hD.cells.1
  have c1 := hD.cells.2.1
  have hz := hD.lt
  have HX := Lib.hid hx
  clear hD hcm hx
  go_enter Try.func50, Try.ntmps50
  go_wp2_with fail
  refine wp_scope_straight ?_
  go_wp2_with fail
  refine wp_label ?_
  go_wp2_with fail
  obtain ⟨wA, hwA⟩ : ∃ wA, (w.alloc (Obj.cells #[Value.func (Fn.func 65) #[Value.pointer (some { block := b, off := 0 })] #[]] 83)) = wA := ⟨_, rfl⟩
  have hBA : Below w.heap.size w wA := by rw [← hwA]; exact bal (bz w) _
  have hcn : wA.cell? ⟨w.heap.size, 0, none⟩ = some (.func (.func 65) #[.pointer (some ⟨b, 0, none⟩)] #[]) := by rw [← hwA]; exact cnew rfl rfl
  have hsz : wA.heap.size = w.heap.size + 1 := by rw [← hwA]; simp
  have HBA := Lib.hid hBA; have HCN := Lib.hid hcn
  have hwn : w.heap.size < wA.heap.size := by omega
  rw [hwA]
  clear hBA hcn hsz hwA c1
  have HC0 := Lib.hid (fun wz (hB : Below wA.heap.size wA wz) => ((btr HBA.out hB).cell (p := ⟨b, 0, none⟩) hz).trans c0)
  have HW := Lib.hid (fun wz (hB : Below wA.heap.size wA wz) k (hk : k < W.length) => (show ∃ bx ox, a = some ⟨bx, ox, none⟩ ∧ bx < wz.heap.size ∧ wz.cell? ⟨bx, ox + k, none⟩ = some (Value.int .i64 (want W k)) from by
    obtain ⟨bx, ox, e, h1, h2⟩ := HX.out (by omega)
    have hB2 := btr HBA.out hB
    exact ⟨bx, ox, e, Nat.lt_of_lt_of_le h1 hB2.size, (hB2.cell (p := ⟨bx, ox + k, none⟩) h1).trans (h2 k hk)⟩))
  clear c0
  go_loopw [6, 7, 8, 10, 11, 12, 13, 22] (fun s6 s7 s8 _ _ _ _ iv wr => ∃ (k : Nat) (u v l : Value) (zs : List Int), k ≤ W.length ∧ u = s6 ∧ v = s7 ∧ l = s8 ∧ iv = .int .i64 k ∧
      OwnN wr wA.heap.size [(u, (runK R rule W k).plan), (v, (runK R rule W k).fet), (l, zs)] ∧ Alike rule zs (runL R rule W k) ∧ Below wA.heap.size wA wr) (fun _ _ _ _ _ _ _ iv _ => W.length - (intOf iv).toNat)
  case atStart => exact ⟨0, _, _, _, [], Nat.zero_le _, rfl, rfl, rfl, rfl, OwnN.nils _ _, Alike.nil rule, bz _⟩
  case round =>
    obtain ⟨k, u, v, l, zs, hk, rfl, rfl, rfl, rfl, hO, hA, hB⟩ := hrel
    have HO := Lib.hid hO; have HA := Lib.hid hA; have HB := Lib.hid hB
    clear hO hA hB
    by_cases hlt : k < W.length
    · obtain ⟨bx, ox, rfl, zw, gw⟩ := HW.out wr HB.out k hlt
      obtain ⟨n1, n2, n3⟩ := runK_len R rule W k
      have HST := Lib.hid (runK_succ R rule W k)
      have HOK := Lib.hid (run_ok (R := R) (rule := rule) hd k (by omega))
      have HAW := Lib.hid (awayD_mem W (by omega) rule k (runL R rule W k))
      have HBP := Lib.hid (fun (l : List Int) hp hs h1 => bestP_away (W := W) (by omega) (i := k) (l := l) (zs := runL R rule W k) hp hs h1)
      have HAD := Lib.hid (show rule ≠ 3 → awayD W rule (runL R rule W k) k = (runL R rule W k)[0]?.getD 0 from fun h => by unfold awayD; rw [if_neg h])
      have n4 : (runL R rule W k).length = (runK R rule W k).list.length := rfl
      generalize hq : want W k = q at *
      generalize runL R rule W k = ds at *
      generalize (runK R rule W k).plan = xs at *
      generalize (runK R rule W k).fet = ys at *
      have HZL := Lib.hid HA.out.perm.length_eq
      have hz100 : zs.length ≤ 100 := by have := HZL.out; omega
      clear n1 n4
      obtain ⟨al, cl', rfl⟩ := owns_form (OwnN.at (A := [(u, xs), (v, ys)]) (B := []) HO.out)
      go_upto_region 6 with fail
      have HO1 := Lib.hid (OwnN.box HO.out HB.out.size (k : Int))
      have HB1 := Lib.hid (bal HB.out (Obj.cells #[Value.int .i64 (k : Int)] 3))
      obtain ⟨bi, hbi⟩ : ∃ bi, wr.heap.size = bi := ⟨_, rfl⟩
      rw [hbi] at HO1
      rw [hbi]
      generalize wr.alloc (Obj.cells #[Value.int .i64 (k : Int)] 3) = w1 at *
      clear HO HB hbi gw zw
      change Hid (OwnN w1 wA.heap.size [(u, xs), (v, ys), (.slice al zs.length cl', zs), (cellV bi, [(k : Int)])]) at HO1
      have HRD := Lib.hid (RdI.of_owns (OwnN.at (A := [(u, xs), (v, ys)]) HO1.out))
      have HIX := Lib.hid (index_any _ zs q w1 HRD.out (by omega))
      by_cases hm : q ∈ zs
      · have hmd : q ∈ ds := HA.out.perm.mem_iff.1 hm
        obtain ⟨k0, hk0, hk1, hk2⟩ := erase_idx (HA.out.perm.nodup_iff.2 HOK.out.nodup) hm
        rw [hk0] at HIX
        rw [if_pos hmd] at HST
        have HK2 := Lib.hid hk2
        have t1 : decide ((0 : Int) ≤ (k0 : Int)) = true := decide_eq_true (by omega)
        clear hmd hk0 hk2
        by_cases hr2 : rule = 2
        · have t2 : (rule == 2) = true := by simp [hr2]
          have HZ := Lib.hid (HA.out.same (by omega))
          rw [if_pos hr2] at HST
          clear hr2
          go_wp2_with fail
          refine HIX.out.mono ?_
          rintro e w' ⟨rfl, rfl⟩
          obtain ⟨g, cap, hsl, hoi⟩ := rowI.toI (OwnN.at (A := [(u, xs), (v, ys)]) HO1.out) (by omega)
          cases hsl
          have HDL := Lib.hid (delete_any _ g _ cl' zs k0 w1 hoi (by omega) hk1)
          clear hoi
          go_wp2_with fail
          refine HDL.out.mono ?_
          rintro e w2 ⟨n', rfl, ho2, hg2⟩
          have HB2 := Lib.hid (below_own HB1.out (OwnN.at (A := [(u, xs), (v, ys)]) HO1.out) (Nat.le_refl _) hg2)
          have HO2 := Lib.hid (OwnN.upd (A := [(u, xs), (v, ys)]) HO1.out hg2 (rowI.ofI ho2) (.inl rfl))
          have hl2 : (zs.eraseIdx k0).length ≤ 100 := by rw [List.length_eraseIdx]; split <;> omega
          clear ho2 hg2 HO1 HB1
          go_wp2_with (at_builtin; refine OwnN.push (A := [(u, xs), (v, ys)]) (B := [(cellV bi, [(k : Int)])]) rfl _ _ rfl HO2.out q rfl rfl (by omega) HB2.out.size ?_)
          intro l3 w3 hO3 hB3
          have HO3 := Lib.hid hO3; have HB3 := Lib.hid (hB3 wA HB2.out (Nat.le_refl _))
          clear hO3 hB3 HO2 HB2
          go_wp2_with (at_builtin; refine OwnN.push (A := []) (B := [(v, ys), (l3, zs.eraseIdx k0 ++ [q]), (cellV bi, [(k : Int)])]) rfl _ _ rfl HO3.out 0 rfl rfl (by omega) HB3.out.size ?_)
          intro u4 w4 hO4 hB4
          have HO4 := Lib.hid hO4; have HB4 := Lib.hid (hB4 wA HB3.out (Nat.le_refl _))
          clear hO4 hB4 HO3 HB3
          go_wp2_with fail
          go_roundw
          case rel => exact ⟨k + 1, _, _, _, zs.eraseIdx k0 ++ [q], by omega, rfl, rfl, rfl, by go_num, by rw [HST.out]; exact OwnN.part (A := [_, _, _]) HO4.out, by unfold runL; rw [HST.out, HK2.out, HZ.out]; exact ⟨List.Perm.refl _, fun _ => rfl⟩, HB4.out⟩
          case measure => simp [intOf]; omega
        · have t2 : (rule == 2) = false := by simp [hr2]
          rw [if_neg hr2] at HST
          clear hr2
          go_wp2_with fail
          refine HIX.out.mono ?_
          rintro e w' ⟨rfl, rfl⟩
          go_wp2_with (at_builtin; refine OwnN.push (A := []) (B := [(v, ys), (.slice al zs.length cl', zs), (cellV bi, [(k : Int)])]) rfl _ _ rfl HO1.out 0 rfl rfl (by omega) HB1.out.size ?_)
          intro u4 w4 hO4 hB4
          have HO4 := Lib.hid hO4; have HB4 := Lib.hid (hB4 wA HB1.out (Nat.le_refl _))
          clear hO4 hB4 HO1 HB1
          go_wp2_with fail
          go_roundw
          case rel => exact ⟨k + 1, _, _, _, zs, by omega, rfl, rfl, rfl, by go_num, by rw [HST.out]; exact OwnN.part (A := [_, _, _]) HO4.out, by unfold runL; rw [HST.out]; exact HA.out, HB4.out⟩
          case measure => simp [intOf]; omega
      · have hmd : q ∉ ds := fun h => hm (HA.out.perm.mem_iff.2 h)
        rw [idx_none hm] at HIX
        rw [if_neg hmd] at HST
        clear hmd
        go_wp2_with fail
        refine HIX.out.mono ?_
        rintro e w' ⟨rfl, rfl⟩
        obtain ⟨ci, fi, zi⟩ := OwnN.cell (A := [(u, xs), (v, ys), (.slice al zs.length cl', zs)]) (B := []) HO1.out
        go_wp2_with (at_builtin; refine OwnN.push (A := [(u, xs)]) (B := [(.slice al zs.length cl', zs), (cellV bi, [(k : Int)])]) rfl _ _ rfl HO1.out (k : Int) rfl rfl (by omega) HB1.out.size ?_)
        intro v2 w2 hO2 hB2
        have HB2 := Lib.hid (hB2 wA HB1.out (Nat.le_refl _))
        have HO2 := Lib.hid hO2
        clear hO2 hB2 HO1 HB1 ci fi zi
        go_upto_region 13 with fail
        have HO3 := Lib.hid (OwnN.box HO2.out HB2.out.size (0 : Int))
        have HB3 := Lib.hid (bal HB2.out (Obj.cells #[Value.int .i64 (0 : Int)] 3))
        obtain ⟨bp, hbp⟩ : ∃ bp, w2.heap.size = bp := ⟨_, rfl⟩
        rw [hbp] at HO3
        rw [hbp]
        generalize w2.alloc (Obj.cells #[Value.int .i64 (0 : Int)] 3) = w3 at *
        clear HO2 HB2 hbp
        change Hid (OwnN w3 wA.heap.size [(u, xs), (v2, ys ++ [(k : Int)]), (.slice al zs.length cl', zs), (cellV bi, [(k : Int)]), (cellV bp, [(0 : Int)])]) at HO3
        have c0 := HC0.out _ HB3.out
        have z0 : b < w3.heap.size := by have := HB3.out.size; omega
        by_cases hfu : (ds.length : Int) = R
        · have t3 : ((zs.length : Int) == R) = true := by rw [HZL.out]; simp [hfu]
          rw [if_pos hfu] at HST
          obtain ⟨g, cap, hsl, hoi⟩ := rowI.toI (OwnN.at (A := [(u, xs), (v2, ys ++ [(k : Int)])]) HO3.out) (by have := HZL.out; omega)
          cases hsl
          have hn1 : 1 ≤ zs.length := by have := HZL.out; omega
          have hn6 : zs.length ≤ 6 := by have := HZL.out; omega
          clear hfu
          have cz := hoi.cell (j := 0) (by omega)
          have zg := hoi.lt
          obtain ⟨cp, fp, zp⟩ := OwnN.cell (A := [(u, xs), (v2, ys ++ [(k : Int)]), (.slice (some ⟨g, 0, none⟩) zs.length cl', zs), (cellV bi, [(k : Int)])]) (B := []) HO3.out
          have hbg := OwnN.ne5 HO3.out
          have hz0m : zs[0]?.getD 0 ∈ zs := by simp [show 0 < zs.length by omega]
          have hz0 : rule ≠ 3 → zs[0]?.getD 0 = awayD W rule ds k := fun h => by rw [HAD.out h, HA.out.same h]
          have HO4 := Lib.hid (OwnN.put (A := [(u, xs), (v2, ys ++ [(k : Int)]), (.slice (some ⟨g, 0, none⟩) zs.length cl', zs), (cellV bi, [(k : Int)])]) (B := []) HO3.out (zs[0]?.getD 0))
          have HB4 := Lib.hid (bset HB3.out (p := ⟨bp, 0, none⟩) (by have := (OwnN.at (A := [(u, xs), (v2, ys ++ [(k : Int)]), (.slice (some ⟨g, 0, none⟩) zs.length cl', zs), (cellV bi, [(k : Int)])]) (B := []) HO3.out).lt (k := bp) rfl; exact this.1) (.int .i64 (zs[0]?.getD 0)))
          generalize zs[0]?.getD 0 = z0v at *
          clear hoi
          go_upto_region 15 with fail
          generalize w3.setCell ⟨bp, 0, none⟩ (.int .i64 z0v) = w4 at *
          clear HO3 HB3 cz zg cp fp zp hbg c0 z0
          by_cases hr3 : rule = 3
          · have t5 : (rule == 3) = true := by simp [hr3]
            have HSO := Lib.hid (sort_any _ g _ cl' zs w4 (OwnN.at (A := [(u, xs), (v2, ys ++ [(k : Int)])]) HO4.out) hn6 hn1)
            clear hz0m hz0
            go_wp2_with fail
            refine HSO.out.mono ?_
            rintro e w5 ⟨⟨vv, rfl⟩, zt, hzp, hzs, ho5, hg5⟩
            have HB5 := Lib.hid (below_own HB4.out (OwnN.at (A := [(u, xs), (v2, ys ++ [(k : Int)])]) HO4.out) (Nat.le_refl _) hg5)
            have hlt5 := hzp.length_eq
            have HO5 := Lib.hid (OwnN.upd (A := [(u, xs), (v2, ys ++ [(k : Int)])]) HO4.out hg5 (rowI.ofI ho5) (.inl rfl))
            have HSS := Lib.hid (show SortA (zt.length - 1) zt.length zt by rw [hlt5]; exact hzs)
            have HE1 := Lib.hid (HBP.out zt (hzp.trans HA.out.perm) HSS.out (by omega))
            have HA5 := Lib.hid (show Alike rule zt ds from ⟨hzp.trans HA.out.perm, fun h => absurd hr3 h⟩)
            rw [← hlt5] at hn1 hn6 hz100
            rw [← hlt5]
            rw [← hlt5] at HO5
            clear ho5 hg5 HO4 HB4 HZL hlt5
            have HME := Lib.hid (show awayD W 3 ds k ∈ zt from (HA5.out.perm.mem_iff.2 (by rw [← hr3]; exact HAW.out (by have := HA5.out.perm.length_eq; omega))))
            rw [show awayD W rule ds k = awayD W 3 ds k by rw [hr3]] at HST
            clear hr3 hzs hzp
            obtain ⟨ci, fi, zi⟩ := OwnN.cell (A := [(u, xs), (v2, ys ++ [(k : Int)]), (.slice (some ⟨g, 0, none⟩) zt.length cl', zt)]) (B := [(cellV bp, [z0v])]) HO5.out
            have cn := (HB5.out.cell (p := ⟨w.heap.size, 0, none⟩) hwn).trans HCN.out
            have HBE := Lib.hid (best_any b w.heap.size bi g _ cl' _ R W on k zt w5 (HI.out.mono (btr HBA.out HB5.out)) (by omega) hlt cn ci (OwnN.at (A := [(u, xs), (v2, ys ++ [(k : Int)])]) HO5.out) (by omega) hn1)
            rw [HE1.out] at HBE
            generalize awayD W 3 ds k = ad at *
            clear ci fi zi cn
            go_wp2_with fail
            refine HBE.out.mono ?_
            rintro e w6 ⟨rfl, hb6⟩
            have HB6 := Lib.hid (btr HB5.out hb6)
            have HO6 := Lib.hid (HO5.out.later hb6)
            clear hb6 HO5 HB5
            obtain ⟨cp, fp, zp⟩ := OwnN.cell (A := [(u, xs), (v2, ys ++ [(k : Int)]), (.slice (some ⟨g, 0, none⟩) zt.length cl', zt), (cellV bi, [(k : Int)])]) (B := []) HO6.out
            have HO4 := Lib.hid (OwnN.put (A := [(u, xs), (v2, ys ++ [(k : Int)]), (.slice (some ⟨g, 0, none⟩) zt.length cl', zt), (cellV bi, [(k : Int)])]) (B := []) HO6.out ad)
            have HB4 := Lib.hid (bset HB6.out (p := ⟨bp, 0, none⟩) (by have := (OwnN.at (A := [(u, xs), (v2, ys ++ [(k : Int)]), (.slice (some ⟨g, 0, none⟩) zt.length cl', zt), (cellV bi, [(k : Int)])]) (B := []) HO6.out).lt (k := bp) rfl; exact this.1) (.int .i64 ad))
            go_upto_region 18 with fail
            generalize w6.setCell ⟨bp, 0, none⟩ (.int .i64 ad) = w4 at *
            clear HO6 HB6 cp fp zp
            obtain ⟨ca1, _, _⟩ := OwnN.cell (A := [(u, xs), (v2, ys ++ [(k : Int)]), (.slice (some ⟨g, 0, none⟩) zt.length cl', zt), (cellV bi, [(k : Int)])]) (B := []) HO4.out
            have HDF := Lib.hid (deletef_any _ g _ cl' zt ad bp w4 (OwnN.at (A := [(u, xs), (v2, ys ++ [(k : Int)])]) HO4.out) (by omega) HME.out ca1 (OwnN.ne5 HO4.out))
            have hwl := without_le zt ad
            clear ca1
            go_wp2_with fail
            refine HDF.out.mono ?_
            rintro e w7 ⟨n', rfl, ho7, hg7⟩
            have HB7 := Lib.hid (below_own HB4.out (OwnN.at (A := [(u, xs), (v2, ys ++ [(k : Int)])]) HO4.out) (Nat.le_refl _) hg7)
            have HO7 := Lib.hid (OwnN.upd (A := [(u, xs), (v2, ys ++ [(k : Int)])]) HO4.out hg7 (rowI.ofI ho7) (.inl rfl))
            clear ho7 hg7 HO4 HB4
            go_wp2_with (at_builtin; refine OwnN.push (A := [(u, xs), (v2, ys ++ [(k : Int)])]) (B := [(cellV bi, [(k : Int)]), (cellV bp, [ad])]) rfl _ _ rfl HO7.out q rfl rfl (by omega) HB7.out.size ?_)
            intro l8 w8 hO8 hB8
            have HO8 := Lib.hid hO8; have HB8 := Lib.hid (hB8 wA HB7.out (Nat.le_refl _))
            clear hO8 hB8 HO7 HB7
            obtain ⟨cp, fp, zp⟩ := OwnN.cell (A := [(u, xs), (v2, ys ++ [(k : Int)]), (l8, withoutL zt ad ++ [q]), (cellV bi, [(k : Int)])]) (B := []) HO8.out
            go_wp2_with (at_builtin; refine OwnN.push (A := []) (B := [(v2, ys ++ [(k : Int)]), (l8, withoutL zt ad ++ [q]), (cellV bi, [(k : Int)]), (cellV bp, [ad])]) rfl _ _ rfl HO8.out ad rfl rfl (by omega) HB8.out.size ?_)
            intro u9 w9 hO9 hB9
            have HO9 := Lib.hid hO9; have HB9 := Lib.hid (hB9 wA HB8.out (Nat.le_refl _))
            clear hO9 hB9 HO8 HB8 cp fp zp
            go_wp2_with fail
            go_roundw
            case rel => exact ⟨k + 1, _, _, _, withoutL zt ad ++ [q], by omega, rfl, rfl, rfl, by go_num, by rw [HST.out]; exact OwnN.part (A := [_, _, _]) HO9.out, by unfold runL; rw [HST.out]; exact (HA5.out).without ad q, HB9.out⟩
            case measure => simp [intOf]; omega
          · have t5 : (rule == 3) = false := by simp [hr3]
            have HE := Lib.hid (hz0 hr3)
            clear hr3 hz0
            obtain ⟨ca1, _, _⟩ := OwnN.cell (A := [(u, xs), (v2, ys ++ [(k : Int)]), (.slice (some ⟨g, 0, none⟩) zs.length cl', zs), (cellV bi, [(k : Int)])]) (B := []) HO4.out
            have HDF := Lib.hid (deletef_any _ g _ cl' zs z0v bp w4 (OwnN.at (A := [(u, xs), (v2, ys ++ [(k : Int)])]) HO4.out) (by omega) hz0m ca1 (OwnN.ne5 HO4.out))
            have hwl := without_le zs z0v
            clear ca1
            go_wp2_with fail
            refine HDF.out.mono ?_
            rintro e w7 ⟨n', rfl, ho7, hg7⟩
            have HB7 := Lib.hid (below_own HB4.out (OwnN.at (A := [(u, xs), (v2, ys ++ [(k : Int)])]) HO4.out) (Nat.le_refl _) hg7)
            have HO7 := Lib.hid (OwnN.upd (A := [(u, xs), (v2, ys ++ [(k : Int)])]) HO4.out hg7 (rowI.ofI ho7) (.inl rfl))
            clear ho7 hg7 HO4 HB4
            go_wp2_with (at_builtin; refine OwnN.push (A := [(u, xs), (v2, ys ++ [(k : Int)])]) (B := [(cellV bi, [(k : Int)]), (cellV bp, [z0v])]) rfl _ _ rfl HO7.out q rfl rfl (by omega) HB7.out.size ?_)
            intro l8 w8 hO8 hB8
            have HO8 := Lib.hid hO8; have HB8 := Lib.hid (hB8 wA HB7.out (Nat.le_refl _))
            clear hO8 hB8 HO7 HB7
            obtain ⟨cp, fp, zp⟩ := OwnN.cell (A := [(u, xs), (v2, ys ++ [(k : Int)]), (l8, withoutL zs z0v ++ [q]), (cellV bi, [(k : Int)])]) (B := []) HO8.out
            go_wp2_with (at_builtin; refine OwnN.push (A := []) (B := [(v2, ys ++ [(k : Int)]), (l8, withoutL zs z0v ++ [q]), (cellV bi, [(k : Int)]), (cellV bp, [z0v])]) rfl _ _ rfl HO8.out z0v rfl rfl (by omega) HB8.out.size ?_)
            intro u9 w9 hO9 hB9
            have HO9 := Lib.hid hO9; have HB9 := Lib.hid (hB9 wA HB8.out (Nat.le_refl _))
            clear hO9 hB9 HO8 HB8 cp fp zp
            go_wp2_with fail
            go_roundw
            case rel => exact ⟨k + 1, _, _, _, withoutL zs z0v ++ [q], by omega, rfl, rfl, rfl, by go_num, by rw [HST.out, ← HE.out]; exact OwnN.part (A := [_, _, _]) HO9.out, by unfold runL; rw [HST.out, ← HE.out]; exact (HA.out).without z0v q, HB9.out⟩
            case measure => simp [intOf]; omega
        · have t3 : ((zs.length : Int) == R) = false := by rw [HZL.out]; simp [hfu]
          rw [if_neg hfu] at HST
          clear hfu
          go_wp2_with (at_builtin; refine OwnN.push (A := [(u, xs), (v2, ys ++ [(k : Int)])]) (B := [(cellV bi, [(k : Int)]), (cellV bp, [(0 : Int)])]) rfl _ _ rfl HO3.out q rfl rfl (by omega) HB3.out.size ?_)
          intro l4 w4 hO4 hB4
          have HO4 := Lib.hid hO4; have HB4 := Lib.hid (hB4 wA HB3.out (Nat.le_refl _))
          clear hO4 hB4 HO3 HB3 c0 z0
          obtain ⟨cp, fp, zp⟩ := OwnN.cell (A := [(u, xs), (v2, ys ++ [(k : Int)]), (l4, zs ++ [q]), (cellV bi, [(k : Int)])]) (B := []) HO4.out
          go_wp2_with (at_builtin; refine OwnN.push (A := []) (B := [(v2, ys ++ [(k : Int)]), (l4, zs ++ [q]), (cellV bi, [(k : Int)]), (cellV bp, [(0 : Int)])]) rfl _ _ rfl HO4.out 0 rfl rfl (by omega) HB4.out.size ?_)
          intro u5 w5 hO5 hB5
          have HO5 := Lib.hid hO5; have HB5 := Lib.hid (hB5 wA HB4.out (Nat.le_refl _))
          clear hO5 hB5 HO4 HB4 cp fp zp
          go_wp2_with fail
          go_roundw
          case rel => exact ⟨k + 1, _, _, _, zs ++ [q], by omega, rfl, rfl, rfl, by go_num, by rw [HST.out]; exact OwnN.part (A := [_, _, _]) HO5.out, by unfold runL; rw [HST.out]; exact HA.out.snoc q, HB5.out⟩
          case measure => simp [intOf]; omega
    · have hke : k = W.length := by omega
      subst hke
      have HP := Lib.hid (RdI.of_owns (OwnN.at (A := []) HO.out)); have HF := Lib.hid (RdI.of_owns (OwnN.at (A := [_]) HO.out))
      go_wp2_with fail
      rw [Exit.noGoto_ret]
      go_ret2
      exact ⟨_, _, rfl, HP.out, HF.out, btr HBA.out HB.out⟩
end Go.Proofs.Ytjajdpggoggoiaa

namespace Go.Proofs.Ytjajdpggoggoiaa
open Go.RowKit Go.Shelf
set_option maxRecDepth 100000 in
set_option maxHeartbeats 4000000 in
theorem plan_any (R : Int) (x : Value) (W : List Int) (r : Int) (w : World) (hx0 : RdI w .i64 x W) (hl : W.length ≤ 1000) :
    Calls Try.prog 21 #[.agg #[.int .i64 R, x], .int .i64 r] w fun e w' => ∃ u, e = .returned (.tuple #[u, .int .i64 (ruleE R W r)]) ∧ RdI w' .i64 u (planL R W r) ∧ Below w.heap.size w w' := by
  obtain ⟨a, c, rfl⟩ := hx0.ex _ rfl
  have HX := Lib.hid hx0
  unfold planL
  by_cases hc : ruleE R W r = 0
  · have HO := Lib.hid (fun wz hx => ruled_ok R (.slice a W.length c) W r wz hx hc)
    have hd := okD_of (ruleE_ok hc).1
    rw [if_pos hc, hc]
    unfold OpenOk at HO
    have HR := Lib.hid (fun b wz (hI : IsBench wz b R W zeros) => prun_any b R W zeros r wz hI hd)
    generalize (runK R r W W.length).plan = pl at *
    generalize (runK R r W W.length).fet = fe at *
    clear hc hx0 hd
    go_enter Try.func21, Try.ntmps21
    go_wp2_with fail
    refine (HO.out _ (HX.out.mono (bal (bz _) _))).mono ?_
    rintro e w2 ⟨b, rfl, hb, hD, hB2⟩
    have HB2 := Lib.hid (btr (bal (bz w) _) hB2); have HD := Lib.hid hD
    clear hB2 hD
    go_wp2_with fail
    refine (HR.out b w2 HD.out).mono ?_
    rintro e w3 ⟨u, v, rfl, hu, _, hB3⟩
    have HU := Lib.hid hu; have HB3 := Lib.hid (btr HB2.out hB3)
    clear hu hB3
    go_wp2_with fail
    go_ret2
    exact ⟨u, rfl, HU.out, HB3.out⟩
  · have HO := Lib.hid (fun wz hx => ruled_no R (.slice a W.length c) W r wz hx hl hc)
    rw [if_neg hc]
    have t1 : (ruleE R W r != 0) = true := by simpa using hc
    generalize ruleE R W r = q at *
    clear hc hx0
    go_enter Try.func21, Try.ntmps21
    go_wp2_with fail
    refine (HO.out _ (HX.out.mono (bal (bz _) _))).mono ?_
    rintro e w2 ⟨rfl, hB2⟩
    have HB2 := Lib.hid (btr (bal (bz w) _) hB2)
    clear hB2
    go_wp2_with fail
    go_ret2
    exact ⟨_, rfl, rdI_nil _ _, HB2.out⟩
/-- 'copy' of numbers that are read to a row just made. -/
theorem run_copy_new (w : World) (y : Value) (ys : List Int) (hy : RdI w .i64 y ys) (hl : ys.length ≤ 1000) :
    ∃ w', (∀ ty, (Builtin.copy_ #[22, 22] ty #[.slice (some ⟨w.heap.size, 0, none⟩) ys.length ys.length, y]).run Try.prog (w.alloc (.cells (arrI (List.replicate ys.length 0)) 3)) = .ok (goInt ys.length) w') ∧ RdI w' .i64 (.slice (some ⟨w.heap.size, 0, none⟩) ys.length ys.length) ys ∧ Below w.heap.size w w' := by
  have h63 : (1000 : Nat) ≤ maxLen := by unfold maxLen; omega
  obtain ⟨a, c, rfl, h1, h2, h3⟩ := hy.form
  by_cases h0 : ys.length = 0
  · refine ⟨w.alloc (.cells (arrI (List.replicate ys.length 0)) 3), fun ty => ?_, ?_, bal (bz w) _⟩
    · have := run_copy_none (P := Try.prog) (w.alloc (.cells (arrI (List.replicate ys.length 0)) 3)) 22 22 ty 3 (some ⟨w.heap.size, 0, none⟩) a ys.length ys.length ys.length c Try.underlying22 (by kernel_rfl) (by simp [h0])
      rw [this, h0]; rfl
    · have : ys = [] := List.eq_nil_of_length_eq_zero h0
      subst this
      exact ⟨some ⟨w.heap.size, 0, none⟩, 0, rfl, Nat.le_refl _, Nat.zero_le _, fun h => absurd rfl h⟩
  · obtain ⟨bx, ox, rfl, hb, hc⟩ := h3 (by omega)
    have hg := heap_alloc_new w (.cells (arrI (List.replicate ys.length 0)) 3)
    have hsz : (arrI (List.replicate ys.length 0)).size = ys.length := by rw [arrI_size]; simp
    have hr := fun ty => run_copy_row (P := Try.prog) (w.alloc (.cells (arrI (List.replicate ys.length 0)) 3)) 22 22 ty 3 w.heap.size 0 ys.length ys.length ⟨bx, ox, none⟩ ys.length c _ 3 (ys.map (Value.int .i64)) Try.underlying22 (by kernel_rfl) hg (by simp) (fun j v hv => by
      have hj : j < ys.length := by have := (List.getElem?_eq_some_iff.1 hv).1; rwa [List.length_map] at this
      rw [Go.WideShapes.add_plain]
      refine (World.cell?_of_block (Below.heap_alloc _ _ _ hb)).trans ((hc j hj).trans ?_)
      rw [← hv]; simp [hj]) (by rw [hsz, List.length_map]; omega) (fun v hv => by obtain ⟨z, _, rfl⟩ := List.mem_map.1 hv; rfl)
    rw [List.length_map] at hr
    refine ⟨_, hr, ?_, below_setRow (bal (bz w) _) (Nat.le_refl _) _⟩
    refine RdI.of_owns (base := w.heap.size) (e := 3) (n := ys.length) ⟨by simp, .inr ⟨w.heap.size, ys.length, _, rfl, Nat.le_refl _, setRow_heap _ _ _ _ 3 _ hg, Nat.le_refl _, by omega, ?_, ?_⟩⟩
    · simp [hsz]
    · simp
set_option maxRecDepth 100000 in
set_option maxHeartbeats 4000000 in
theorem fetches_any (R : Int) (x : Value) (W : List Int) (r : Int) (w : World) (hx0 : RdI w .i64 x W) (hl : W.length ≤ 1000) :
    Calls Try.prog 23 #[.agg #[.int .i64 R, x], .int .i64 r] w fun e w' => ∃ u, e = .returned (.tuple #[u, .int .i64 (ruleE R W r)]) ∧ RdI w' .i64 u (fetL R W r) ∧ Below w.heap.size w w' := by
  obtain ⟨a, c, rfl⟩ := hx0.ex _ rfl
  have HX := Lib.hid hx0
  unfold fetL
  by_cases hc : ruleE R W r = 0
  · have HO := Lib.hid (fun wz hx => ruled_ok R (.slice a W.length c) W r wz hx hc)
    have hd := okD_of (ruleE_ok hc).1
    have hlf : (runK R r W W.length).fet.length ≤ 16 := by have := (runK_len R r W W.length).2.2; have := hd.l16; omega
    rw [if_pos hc, hc]
    unfold OpenOk at HO
    have HR := Lib.hid (fun b wz (hI : IsBench wz b R W zeros) => prun_any b R W zeros r wz hI hd)
    generalize (runK R r W W.length).plan = pl at *
    generalize (runK R r W W.length).fet = fe at *
    clear hc hx0 hd
    go_enter Try.func23, Try.ntmps23
    go_wp2_with fail
    refine (HO.out _ (HX.out.mono (bal (bz _) _))).mono ?_
    rintro e w2 ⟨b, rfl, hb, hD, hB2⟩
    have HB2 := Lib.hid (btr (bal (bz w) _) hB2); have HD := Lib.hid hD
    clear hB2 hD
    go_wp2_with fail
    refine (HR.out b w2 HD.out).mono ?_
    rintro e w3 ⟨u, v, rfl, hu, hv, hB3⟩
    have HB3 := Lib.hid (btr HB2.out hB3)
    obtain ⟨wc, hcp, hrc, hBc⟩ := run_copy_new w3 v fe hv (by omega)
    obtain ⟨av, cv, rfl⟩ := hv.ex _ rfl
    have hmk := make_row fe.length (by omega) w3
    have HRC := Lib.hid hrc; have HBC := Lib.hid (btr HB3.out hBc)
    clear hu hB3 hv hrc hBc
    go_wp2_with fail
    go_ret2
    exact ⟨_, rfl, HRC.out, HBC.out⟩
  · have HO := Lib.hid (fun wz hx => ruled_no R (.slice a W.length c) W r wz hx hl hc)
    rw [if_neg hc]
    have t1 : (ruleE R W r != 0) = true := by simpa using hc
    generalize ruleE R W r = q at *
    clear hc hx0
    go_enter Try.func23, Try.ntmps23
    go_wp2_with fail
    refine (HO.out _ (HX.out.mono (bal (bz _) _))).mono ?_
    rintro e w2 ⟨rfl, hB2⟩
    have HB2 := Lib.hid (btr (bal (bz w) _) hB2)
    clear hB2
    go_wp2_with fail
    go_ret2
    exact ⟨_, rfl, rdI_nil _ _, HB2.out⟩
theorem few_fet (R : Int) (W : List Int) : ((fetL R W 3).length : Int) = if checkD R W = 0 then aheadD R W W.length 0 else 0 := by
  unfold fetL
  by_cases hc : checkD R W = 0
  · have : ruleE R W 3 = 0 := by unfold ruleE; rw [if_neg (by simpa using hc)]; rfl
    rw [if_pos this, if_pos hc, few_run (okD_of hc), fetN_len]
  · have : ruleE R W 3 ≠ 0 := by unfold ruleE; rw [if_pos hc]; exact hc
    rw [if_neg this, if_neg hc]; rfl
theorem rule3 (R : Int) (W : List Int) : ruleE R W 3 = checkD R W := by
  unfold ruleE
  by_cases hc : checkD R W = 0
  · rw [if_neg (by simpa using hc), hc]; rfl
  · rw [if_pos hc]
set_option maxRecDepth 100000 in
set_option maxHeartbeats 4000000 in
theorem fewest_any (R : Int) (x : Value) (W : List Int) (w : World) (hx0 : RdI w .i64 x W) (hl : W.length ≤ 1000) :
    Calls Try.prog 26 #[.agg #[.int .i64 R, x]] w fun e w' => e = .returned (.tuple #[.int .i64 (if checkD R W = 0 then aheadD R W W.length 0 else 0), .int .i64 (checkD R W)]) ∧ Below w.heap.size w w' := by
  obtain ⟨a, c, rfl⟩ := hx0.ex _ rfl
  have HX := Lib.hid hx0
  have HF := Lib.hid (fun wz hx => fetches_any R (.slice a W.length c) W 3 wz hx hl)
  rw [rule3] at HF
  rw [← few_fet]
  generalize fetL R W 3 = fl at *
  generalize checkD R W = q at *
  clear hx0
  go_enter Try.func26, Try.ntmps26
  go_wp2_with fail
  refine (HF.out _ (HX.out.mono (bal (bz _) _))).mono ?_
  rintro e w2 ⟨u, rfl, hu, hB2⟩
  obtain ⟨au, cu, rfl⟩ := hu.ex _ rfl
  have HB2 := Lib.hid (btr (bal (bz w) _) hB2)
  clear hu hB2
  go_wp2_with fail
  go_ret2
  exact ⟨rfl, HB2.out⟩
end Go.Proofs.Ytjajdpggoggoiaa
