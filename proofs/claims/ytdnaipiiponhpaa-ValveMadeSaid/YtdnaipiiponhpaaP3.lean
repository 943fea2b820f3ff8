/- Plain facts: the program's needless valves, rounds and ends are the document's. -/
import Derived.Test.YtdnaipiiponhpaaP2
import Derived.Test.YtdnaipiiponhpaaZ8
import Derived.Test.YtdnaipiiponhpaaZ7
import Derived.Test.YtdnaipiiponhpaaX2
namespace Go.Proofs.Ytdnaipiiponhpaa

theorem stepV_same (l : List Int) (v : Int × Int) (h1 : 0 ≤ v.1) (h2 : v.1 < v.2) (h3 : v.2 < (l.length : Int)) : stepV l v = l ↔ ¬ l[v.2.toNat]?.getD 0 < l[v.1.toNat]?.getD 0 := by
  constructor
  · intro e h
    have := stepV_get l v h1 h2 h3 v.1.toNat
    rw [e, if_pos rfl] at this
    omega
  · intro h
    unfold stepV; rw [if_neg h]
theorem needless_iff {p : Nat} {V : List (Int × Int)} (hp : p ≤ 8) (h : OkV p V) (k : Nat) (hk : k < V.length) : needlessB p V k = rneedB p V k := by
  unfold needlessB rneedB lanes
  rw [List.all_map]
  congr 1
  funext t
  simp only [Function.comp_apply]
  have hm : V[k] ∈ V := List.getElem_mem hk
  obtain ⟨h1, h2, h3⟩ := h _ hm
  have hg : V[k]?.getD (0, 0) = V[k] := by simp [hk]
  rw [runV_snoc V k hk, run_lane hp (h.take k)]
  unfold meetsB
  rw [hg]
  have hl : (runV (V.take k) (bitsOf p t)).length = p := by rw [runV_length, bitsOf_len]
  rw [stepV_pad _ _ _ h1 h2 (by rw [hl]; exact h3)]
  have := stepV_same (runV (V.take k) (bitsOf p t)) V[k] h1 h2 (by rw [hl]; exact h3)
  rw [Bool.eq_iff_iff]
  simp only [decide_eq_true_eq, Bool.not_eq_true', decide_eq_false_iff_not]
  constructor
  · intro e
    exact this.1 (List.append_cancel_right e)
  · intro e
    rw [this.2 e]
theorem needL_eq (p : Int) (V : List (Int × Int)) : needL p V = rneedR p V := by
  unfold needL rneedR
  split
  · rename_i h
    unfold needlessL rneedL
    congr 1
    apply List.filter_congr
    intro k hk
    exact needless_iff (row_ok h).1 (row_ok h).2 k (List.mem_range.1 hk)
  · rfl
theorem cutL_eq (p : Int) (V : List (Int × Int)) : cutL p V = rcutL p V := by
  unfold cutL rcutL
  split
  · rename_i h
    unfold cutK rcutK
    congr 1
    apply List.filter_congr
    intro k hk
    rw [needless_iff (row_ok h).1 (row_ok h).2 k (List.mem_range.1 hk)]
  · rfl

/-! Rounds. -/
def hasP (v : Int × Int) (q : Int) : Bool := decide (v.1 = q ∨ v.2 = q)
/-- The last round of a place, of the first k valves. -/
def lastP (V : List (Int × Int)) (out : List Int) (q : Int) : Nat → Int
  | 0 => 0
  | k + 1 => if hasP (V[k]?.getD (0, 0)) q then max (lastP V out q k) (out[k]?.getD 0) else lastP V out q k
theorem rstep_last (V : List (Int × Int)) (out : List Int) (i : Nat) : ∀ k, rstep V out i k = 1 + max (lastP V out (V[i]?.getD (0, 0)).1 k) (lastP V out (V[i]?.getD (0, 0)).2 k)
  | 0 => by simp [rstep, lastP]
  | k + 1 => by
    rw [rstep_succ, rstep_last V out i k]
    simp only [lastP]
    generalize V[i]?.getD (0, 0) = u
    generalize V[k]?.getD (0, 0) = v
    generalize out[k]?.getD 0 = o
    generalize lastP V out u.1 k = x
    generalize lastP V out u.2 k = y
    have hm : meetB v u = (hasP v u.1 || hasP v u.2) := by
      unfold meetB hasP; rw [Bool.eq_iff_iff]; simp only [Bool.or_eq_true, decide_eq_true_eq]
      constructor
      · rintro (h | h | h | h)
        · exact .inl (.inl h)
        · exact .inr (.inl h)
        · exact .inl (.inr h)
        · exact .inr (.inr h)
      · rintro ((h | h) | (h | h))
        · exact .inl h
        · exact .inr (.inr (.inl h))
        · exact .inr (.inl h)
        · exact .inr (.inr (.inr h))
    rw [hm]
    cases hasP v u.1 <;> cases hasP v u.2 <;> simp <;> omega
theorem lastP_congr (V : List (Int × Int)) (a b : List Int) (q : Int) : ∀ k, (∀ j, j < k → a[j]?.getD 0 = b[j]?.getD 0) → lastP V a q k = lastP V b q k
  | 0, _ => rfl
  | k + 1, h => by
    simp only [lastP]
    rw [lastP_congr V a b q k (fun j hj => h j (by omega)), h k (by omega)]
theorem lastP_nonneg (V : List (Int × Int)) (out : List Int) (q : Int) : ∀ k, 0 ≤ lastP V out q k
  | 0 => by simp [lastP]
  | k + 1 => by
    have := lastP_nonneg V out q k
    simp only [lastP]; split <;> omega
theorem rounds_state {p : Nat} {V : List (Int × Int)} (hp : p ≤ 8) (h : OkV p V) : ∀ k, k ≤ V.length → (roundsS (V.take k)).2 = rrL V k ∧ (roundsS (V.take k)).1.length = 8 ∧ ∀ q : Nat, q < 8 → (roundsS (V.take k)).1[q]?.getD 0 = lastP V (rrL V k) q k := by
  intro k
  induction k with
  | zero =>
    intro _
    refine ⟨rfl, rfl, fun q hq => ?_⟩
    show (List.replicate 8 (0 : Int))[q]?.getD 0 = _
    rw [List.getElem?_replicate]; simp [hq, lastP]
  | succ k ih =>
    intro hk
    obtain ⟨h1, h2, h3⟩ := ih (by omega)
    have hkl : k < V.length := by omega
    have hm : V[k] ∈ V := List.getElem_mem hkl
    obtain ⟨g1, g2, g3⟩ := h _ hm
    have hg : V[k]?.getD (0, 0) = V[k] := by simp [hkl]
    have hn := rstep_last V (rrL V k) k k
    have hgetk : (rrL V (k + 1))[k]?.getD 0 = rstep V (rrL V k) k k := by
      rw [rrL, List.getElem?_append_right (by rw [rrL_len]; exact Nat.le_refl _), rrL_len]; simp
    have hcong : ∀ q, lastP V (rrL V (k + 1)) q k = lastP V (rrL V k) q k := fun q => lastP_congr V _ _ q k fun j hj => by
      rw [rrL, List.getElem?_append_left (by rw [rrL_len]; exact hj)]
    rw [roundsS_snoc V k hkl, hg]
    rw [hg] at hn
    rcases hv : V[k] with ⟨v1, v2⟩
    simp only [hv] at g1 g2 g3 hn hg
    obtain ⟨a, rfl⟩ : ∃ a : Nat, v1 = a := ⟨v1.toNat, by omega⟩
    obtain ⟨b, rfl⟩ : ∃ b : Nat, v2 = b := ⟨v2.toNat, by omega⟩
    have ha := h3 a (by omega)
    have hb := h3 b (by omega)
    have hstep : 1 + (if (roundsS (V.take k)).1[a]?.getD 0 < (roundsS (V.take k)).1[b]?.getD 0 then (roundsS (V.take k)).1[b]?.getD 0 else (roundsS (V.take k)).1[a]?.getD 0) = rstep V (rrL V k) k k := by
      rw [hn, ha, hb]; split <;> omega
    simp only [stepR, Int.toNat_natCast]
    rw [hstep]
    refine ⟨by rw [h1]; rfl, by simp [h2], fun q hq => ?_⟩
    rw [getD_set _ _ _ _ (by simp [h2]; omega), getD_set _ _ _ _ (by rw [h2]; omega), h3 q hq]
    show _ = (if hasP (V[k]?.getD (0, 0)) q then max (lastP V (rrL V (k + 1)) q k) ((rrL V (k + 1))[k]?.getD 0) else lastP V (rrL V (k + 1)) q k)
    rw [hcong, hgetk, hg]
    have hmax1 : lastP V (rrL V k) a k ≤ rstep V (rrL V k) k k := by rw [hn]; omega
    have hmax2 : lastP V (rrL V k) b k ≤ rstep V (rrL V k) k k := by rw [hn]; omega
    by_cases e1 : b = q
    · subst e1
      have : hasP ((a : Int), (b : Int)) b = true := by simp [hasP]
      rw [if_pos rfl, this]; simp only [if_true]; omega
    · rw [if_neg e1]
      by_cases e2 : a = q
      · subst e2
        have : hasP ((a : Int), (b : Int)) a = true := by simp [hasP]
        rw [if_pos rfl, this]; simp only [if_true]; omega
      · rw [if_neg e2]
        have : hasP ((a : Int), (b : Int)) q = false := by simp [hasP]; omega
        rw [this]; simp
theorem roundsL_eq (p : Int) (V : List (Int × Int)) : roundsL p V = rrR p V := by
  unfold roundsL rrR
  split
  · rename_i h
    have := (rounds_state (row_ok h).1 (row_ok h).2 V.length (Nat.le_refl _)).1
    rwa [List.take_length] at this
  · rfl
end Go.Proofs.Ytdnaipiiponhpaa
