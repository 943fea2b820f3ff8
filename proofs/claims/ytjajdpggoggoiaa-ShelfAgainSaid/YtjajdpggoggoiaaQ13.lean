/- Plain: a reamer wanted once more right behind one of its wants. -/
import Derived.Test.YtjajdpggoggoiaaH5
namespace Go.Proofs.Ytjajdpggoggoiaa
open Go.RowKit Go.Shelf
/-- The wants with the want w twice. -/
def dupW (W : List Int) (w : Nat) : List Int := W.take (w + 1) ++ [want W w] ++ W.drop (w + 1)
theorem dupW_len {W : List Int} {w : Nat} (hw : w < W.length) : (dupW W w).length = W.length + 1 := by
  unfold dupW; simp; omega
theorem want_dup {W : List Int} {w : Nat} (hw : w < W.length) (i : Nat) : want (dupW W w) i = if i ≤ w then want W i else want W (i - 1) := by
  unfold dupW
  by_cases h : i ≤ w
  · rw [if_pos h]
    unfold want
    rw [List.append_assoc, List.getElem?_append_left (by rw [List.length_take]; omega), List.getElem?_take_of_lt (by omega)]
  · rw [if_neg h]
    by_cases h2 : i = w + 1
    · subst h2
      unfold want
      rw [List.append_assoc, List.getElem?_append_right (by rw [List.length_take]; omega)]
      simp [show min (w + 1) W.length = w + 1 by omega]
    · unfold want
      rw [List.getElem?_append_right (by simp; omega), List.getElem?_drop]
      congr 2
      simp; omega
def sigW (w : Nat) (n : Int) : Int := if n ≤ w then n else if n < 1000 then n + 1 else n
def okV (n : Int) : Prop := n ≤ 100 ∨ n = 1000
theorem sig_lt {w : Nat} {a b : Int} (ha : okV a) (hb : okV b) : (sigW w a > sigW w b ↔ a > b) ∧ (sigW w a = sigW w b ↔ a = b) := by
  unfold okV at ha hb
  unfold sigW
  constructor <;> (split <;> split <;> (try split) <;> (try split) <;> omega)
theorem nextD_v {W : List Int} (hl : W.length ≤ 50) (i : Nat) (x : Int) : okV (nextD W i x) := by
  rcases nextD_spec W (by omega) i x with ⟨h, _⟩ | ⟨q, h, _, h2, _⟩
  · exact .inr h
  · exact .inl (by omega)
theorem nextD_is {W : List Int} (hl : W.length ≤ 1000) {i q : Nat} {x : Int} (h1 : i < q) (h2 : q < W.length) (h3 : want W q = x) (h4 : ∀ k, i < k → k < q → want W k ≠ x) : nextD W i x = q := by
  rcases nextD_spec W hl i x with ⟨_, h⟩ | ⟨p, e, g1, g2, g3, g4⟩
  · exact absurd h3 (h q h1 h2)
  · rw [e]
    rcases Nat.lt_trichotomy p q with g | g | g
    · exact absurd g3 (h4 p g1 g)
    · omega
    · exact absurd h3 (g4 q h1 g)
theorem nextD_none {W : List Int} (hl : W.length ≤ 1000) {i : Nat} {x : Int} (h : ∀ k, i < k → k < W.length → want W k ≠ x) : nextD W i x = 1000 := by
  rcases nextD_spec W hl i x with ⟨e, _⟩ | ⟨p, _, g1, g2, g3, _⟩
  · exact e
  · exact absurd g3 (h p g1 g2)
theorem next_low {W : List Int} {w : Nat} (hw : w < W.length) (hl : W.length ≤ 50) {i : Nat} (hi : i ≤ w) {x : Int} (hx : i = w → x ≠ want W w) : nextD (dupW W w) i x = sigW w (nextD W i x) := by
  have hlen := dupW_len hw
  rcases nextD_spec W (by omega) i x with ⟨e, h⟩ | ⟨q, e, g1, g2, g3, g4⟩
  · rw [e]
    have : sigW w 1000 = 1000 := by unfold sigW; rw [if_neg (by omega), if_neg (by omega)]
    rw [this]
    refine nextD_none (by omega) fun k k1 k2 => ?_
    rw [want_dup hw]
    split
    · exact h k k1 (by omega)
    · by_cases g : k = w + 1
      · subst g
        by_cases g2 : i = w
        · exact fun e => hx g2 e.symm
        · exact h w (by omega) hw
      · exact h (k - 1) (by omega) (by omega)
  · rw [e]
    by_cases g : q ≤ w
    · have : sigW w (q : Int) = q := by unfold sigW; rw [if_pos (by omega)]
      rw [this]
      refine nextD_is (by omega) g1 (by omega) (by rw [want_dup hw, if_pos g]; exact g3) fun k k1 k2 => ?_
      rw [want_dup hw, if_pos (by omega)]; exact g4 k k1 k2
    · have : sigW w (q : Int) = ((q + 1 : Nat) : Int) := by unfold sigW; rw [if_neg (by omega), if_pos (by omega)]; omega
      rw [this]
      refine nextD_is (by omega) (by omega) (by omega) (by rw [want_dup hw, if_neg (by omega)]; exact g3) fun k k1 k2 => ?_
      rw [want_dup hw]
      split
      · exact g4 k k1 (by omega)
      · by_cases g5 : k = w + 1
        · subst g5
          by_cases g6 : i = w
          · exact fun e => hx g6 e.symm
          · exact g4 w (by omega) (by omega)
        · exact g4 (k - 1) (by omega) (by omega)
theorem next_high {W : List Int} {w : Nat} (hw : w < W.length) (hl : W.length ≤ 50) {i : Nat} (hi : w < i) (x : Int) : nextD (dupW W w) (i + 1) x = sigW w (nextD W i x) := by
  have hlen := dupW_len hw
  rcases nextD_spec W (by omega) i x with ⟨e, h⟩ | ⟨q, e, g1, g2, g3, g4⟩
  · rw [e]
    have : sigW w 1000 = 1000 := by unfold sigW; rw [if_neg (by omega), if_neg (by omega)]
    rw [this]
    refine nextD_none (by omega) fun k k1 k2 => ?_
    rw [want_dup hw, if_neg (by omega)]
    exact h (k - 1) (by omega) (by omega)
  · rw [e]
    have : sigW w (q : Int) = ((q + 1 : Nat) : Int) := by unfold sigW; rw [if_neg (by omega), if_pos (by omega)]; omega
    rw [this]
    refine nextD_is (by omega) (by omega) (by omega) (by rw [want_dup hw, if_neg (by omega)]; exact g3) fun k k1 k2 => ?_
    rw [want_dup hw, if_neg (by omega)]
    exact g4 (k - 1) (by omega) (by omega)
theorem far_shift {W X : List Int} {w i j : Nat} (hv : ∀ x, okV (nextD W i x)) : ∀ (l : List Int) (q : Int × Int), okV q.2 → (∀ x ∈ l, nextD X j x = sigW w (nextD W i x)) →
    l.foldl (farS X j) (q.1, sigW w q.2) = ((l.foldl (farS W i) q).1, sigW w (l.foldl (farS W i) q).2)
  | [], q, _, _ => rfl
  | x :: l, q, hq, h => by
    have hx := h x (by simp)
    obtain ⟨s1, s2⟩ := sig_lt (w := w) (hv x) hq
    rw [List.foldl_cons, List.foldl_cons]
    have e : farS X j (q.1, sigW w q.2) x = ((farS W i q x).1, sigW w (farS W i q x).2) := by
      unfold farS
      rw [hx]
      simp only [s1, s2]
      split <;> rfl
    rw [e]
    refine far_shift hv l _ ?_ fun y hy => h y (by simp [hy])
    unfold farS
    split
    · exact hv x
    · exact hq
theorem away_shift {W X : List Int} {w i j : Nat} (hl : W.length ≤ 50) {rule : Int} {l : List Int} (h : ∀ x ∈ l, nextD X j x = sigW w (nextD W i x)) : awayD X rule l j = awayD W rule l i := by
  unfold awayD
  split
  · unfold awayK
    have := far_shift (nextD_v hl i) l (0, -1) (.inl (by decide)) h
    have e : sigW w (-1) = -1 := by unfold sigW; rw [if_pos (by omega)]
    rw [e] at this
    rw [this]
  · rfl
theorem run_low {R rule : Int} {W : List Int} {w : Nat} (hw : w < W.length) (hl : W.length ≤ 50) : ∀ k, k ≤ w + 1 → runK R rule (dupW W w) k = runK R rule W k
  | 0, _ => rfl
  | k + 1, hk => by
    have ih := run_low (R := R) (rule := rule) hw hl k (by omega)
    have eL : runL R rule (dupW W w) k = runL R rule W k := by unfold runL; rw [ih]
    have eW : want (dupW W w) k = want W k := by rw [want_dup hw, if_pos (by omega)]
    rw [runK_succ, runK_succ, eL, eW, ih]
    by_cases h1 : want W k ∈ runL R rule W k
    · rw [if_pos h1, if_pos h1]
    · rw [if_neg h1, if_neg h1, away_shift (w := w) hl fun x hx => next_low hw hl (by omega) fun e => by subst e; intro e2; subst e2; exact h1 hx]
theorem run_same {R rule : Int} {W : List Int} (hd : OkD R W) {w : Nat} (hw : w < W.length) : (runK R rule (dupW W w) (w + 2)).list = (runK R rule W (w + 1)).list ∧ (runK R rule (dupW W w) (w + 2)).fet = (runK R rule W (w + 1)).fet := by
  have h16 := hd.l16
  have e := run_low (R := R) (rule := rule) hw (by omega) (w + 1) (Nat.le_refl _)
  have hin : want W w ∈ runL R rule W (w + 1) := ((run_lazy (rule := rule) hd).trace hd).has w hw
  have eW : want (dupW W w) (w + 1) = want W w := by rw [want_dup hw, if_neg (by omega)]; rfl
  have eL : runL R rule (dupW W w) (w + 1) = runL R rule W (w + 1) := by unfold runL; rw [e]
  rw [runK_succ, eL, eW, if_pos hin, e]
  refine ⟨?_, rfl⟩
  by_cases hr : rule = 2
  · simp only [hr, if_true]
    have key : ∃ M, runL R 2 W (w + 1) = M ++ [want W w] ∧ want W w ∉ M := by
      unfold runL
      rw [runK_succ]
      by_cases h1 : want W w ∈ runL R 2 W w
      · rw [if_pos h1]
        exact ⟨_, rfl, by unfold withoutL; simp⟩
      · rw [if_neg h1]
        split
        · exact ⟨_, rfl, fun h => h1 (List.mem_filter.1 h).1⟩
        · exact ⟨_, rfl, h1⟩
    obtain ⟨M, m1, m2⟩ := key
    change withoutL (runL R 2 W (w + 1)) (want W w) ++ [want W w] = runL R 2 W (w + 1)
    rw [m1]
    unfold withoutL
    rw [List.filter_append, List.filter_eq_self.2 (fun x hx => by simp; intro e; subst e; exact m2 hx)]
    simp
  · simp only [hr, if_false]; rfl
def shW (w : Nat) (i : Int) : Int := if (w : Int) < i then i + 1 else i
theorem run_high {R rule : Int} {W : List Int} (hd : OkD R W) {w : Nat} (hw : w < W.length) : ∀ d, w + 1 + d ≤ W.length →
    (runK R rule (dupW W w) (w + 1 + d + 1)).list = (runK R rule W (w + 1 + d)).list ∧ (runK R rule (dupW W w) (w + 1 + d + 1)).fet = (runK R rule W (w + 1 + d)).fet.map (shW w)
  | 0, _ => by
    obtain ⟨h1, h2⟩ := run_same (rule := rule) hd hw
    refine ⟨h1, ?_⟩
    show (runK R rule (dupW W w) (w + 2)).fet = _
    rw [h2, Nat.add_zero]
    refine (List.map_id _).symm.trans (List.map_congr_left fun x hx => ?_)
    rw [runK_fet] at hx
    obtain ⟨i, hi, rfl⟩ := List.mem_map.1 hx
    have := List.mem_range.1 (List.mem_filter.1 hi).1
    unfold shW
    rw [if_neg (by omega)]
    rfl
  | d + 1, hd' => by
    have h16 := hd.l16
    obtain ⟨i1, i2⟩ := run_high (rule := rule) hd hw d (by omega)
    have eL : runL R rule (dupW W w) (w + 1 + d + 1) = runL R rule W (w + 1 + d) := i1
    have eW : want (dupW W w) (w + 1 + d + 1) = want W (w + 1 + d) := by rw [want_dup hw, if_neg (by omega)]; rfl
    have eA : awayD (dupW W w) rule (runL R rule W (w + 1 + d)) (w + 1 + d + 1) = awayD W rule (runL R rule W (w + 1 + d)) (w + 1 + d) := away_shift (w := w) (by omega) fun x _ => next_high hw (by omega) (by omega) x
    have es : shW w ((w + 1 + d : Nat) : Int) = ((w + 1 + d + 1 : Nat) : Int) := by unfold shW; rw [if_pos (by omega)]; omega
    show (runK R rule (dupW W w) ((w + 1 + d + 1) + 1)).list = (runK R rule W ((w + 1 + d) + 1)).list ∧ (runK R rule (dupW W w) ((w + 1 + d + 1) + 1)).fet = (runK R rule W ((w + 1 + d) + 1)).fet.map (shW w)
    rw [runK_succ R rule (dupW W w), runK_succ R rule W (w + 1 + d), eL, eW, eA]
    by_cases h1 : want W (w + 1 + d) ∈ runL R rule W (w + 1 + d)
    · rw [if_pos h1, if_pos h1]
      exact ⟨rfl, i2⟩
    · rw [if_neg h1, if_neg h1]
      by_cases h2 : ((runL R rule W (w + 1 + d)).length : Int) = R
      · rw [if_pos h2, if_pos h2]
        refine ⟨rfl, ?_⟩
        simp only [List.map_append, List.map_cons, List.map_nil, es, i2]
      · rw [if_neg h2, if_neg h2]
        refine ⟨rfl, ?_⟩
        simp only [List.map_append, List.map_cons, List.map_nil, es, i2]
theorem fet_dup {R rule : Int} {W : List Int} (hd : OkD R W) {w : Nat} (hw : w < W.length) : fetR R rule (dupW W w) = (fetR R rule W).map (shW w) := by
  have := (run_high (rule := rule) hd hw (W.length - (w + 1)) (by omega)).2
  unfold fetR
  rw [dupW_len hw]
  rwa [show w + 1 + (W.length - (w + 1)) = W.length by omega] at this
theorem checkD_dup {R : Int} {W : List Int} (hc : checkD R W = 0) {w : Nat} (hw : w < W.length) (hl : W.length < 16) : checkD R (dupW W w) = 0 := by
  have a := okD_of hc
  have e2 : outB 1 6 R = false := by unfold outB; rw [decide_eq_false_iff_not]; have := a.r1; have := a.r6; omega
  unfold checkD
  rw [e2, if_neg (by simp), if_neg (by rw [dupW_len hw]; omega), if_neg]
  intro hq
  obtain ⟨x, hx, ho⟩ := List.any_eq_true.1 hq
  have hb : 1 ≤ x ∧ x ≤ 8 := by
    unfold dupW at hx
    rcases List.mem_append.1 hx with g | g
    · rcases List.mem_append.1 g with g | g
      · exact a.ok x (List.mem_of_mem_take g)
      · simp at g; subst g; exact a.at hw
    · exact a.ok x (List.mem_of_mem_drop g)
  unfold outB at ho
  rw [decide_eq_true_eq] at ho
  omega
theorem few_dup {R : Int} {W : List Int} (hc : checkD R W = 0) {w : Nat} (hw : w < W.length) (hl : W.length < 16) : fewN R (dupW W w) = fewN R W := by
  have h1 := okD_of hc; have h2 := okD_of (checkD_dup hc hw hl)
  unfold fewN
  rw [few_run h1, few_run h2, ← fetR_fetN, ← fetR_fetN, fet_dup h1 hw, List.length_map]
end Go.Proofs.Ytjajdpggoggoiaa
