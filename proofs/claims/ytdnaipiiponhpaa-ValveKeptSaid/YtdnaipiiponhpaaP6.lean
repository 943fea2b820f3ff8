/- Plain facts: the mirror of a row. -/
import Derived.Test.YtdnaipiiponhpaaGF
import Derived.Test.YtdnaipiiponhpaaH1
namespace Go.Proofs.Ytdnaipiiponhpaa

theorem oppL_len (l : List Int) : (oppL l).length = l.length := by simp [oppL]
theorem oppL_get (l : List Int) (j : Nat) (h : j < l.length) : (oppL l)[j]?.getD 0 = -(l[l.length - 1 - j]?.getD 0) := by
  unfold oppL
  rw [List.getElem?_reverse (by simpa using h), List.length_map, getD_map _ _ _ (by omega)]
theorem oppL_opp (l : List Int) : oppL (oppL l) = l := by
  refine ext_getD (by rw [oppL_len, oppL_len]) fun i hi => ?_
  rw [oppL_len, oppL_len] at hi
  rw [oppL_get _ _ (by rw [oppL_len]; exact hi), oppL_len, oppL_get _ _ (by omega), show l.length - 1 - (l.length - 1 - i) = i by omega]
  omega
theorem step_mirror (l : List Int) (v : Int × Int) (h1 : 0 ≤ v.1) (h2 : v.1 < v.2) (h3 : v.2 < (l.length : Int)) : stepV (oppL l) (mirrorOne l.length v) = oppL (stepV l v) := by
  refine ext_getD (by rw [stepV_length, oppL_len, oppL_len, stepV_length]) fun j hj => ?_
  rw [stepV_length, oppL_len] at hj
  have e1 : (mirrorOne l.length v).1.toNat = l.length - 1 - v.2.toNat := by simp only [mirrorOne]; omega
  have e2 : (mirrorOne l.length v).2.toNat = l.length - 1 - v.1.toNat := by simp only [mirrorOne]; omega
  rw [stepV_get _ _ (by simp only [mirrorOne]; omega) (by simp only [mirrorOne]; omega) (by rw [oppL_len]; simp only [mirrorOne]; omega), e1, e2,
    oppL_get l _ (by omega), oppL_get l _ (by omega), oppL_get l j hj, oppL_get _ j (by rw [stepV_length]; exact hj), stepV_length, stepV_get l v h1 h2 h3,
    show l.length - 1 - (l.length - 1 - v.2.toNat) = v.2.toNat by omega, show l.length - 1 - (l.length - 1 - v.1.toNat) = v.1.toNat by omega]
  by_cases c1 : j = l.length - 1 - v.2.toNat
  · rw [if_pos c1, if_neg (by omega), if_pos (by omega)]; omega
  · rw [if_neg c1]
    by_cases c2 : j = l.length - 1 - v.1.toNat
    · rw [if_pos c2, if_pos (by omega)]; omega
    · rw [if_neg c2, if_neg (by omega), if_neg (by omega)]
theorem run_mirror (V : List (Int × Int)) : ∀ l : List Int, OkV l.length V → runV (V.map (mirrorOne l.length)) (oppL l) = oppL (runV V l) := by
  induction V with
  | nil => intro l _; rfl
  | cons v V ih =>
    intro l h
    obtain ⟨h1, h2, h3⟩ := h v (by simp)
    rw [List.map_cons, runV_cons, runV_cons, step_mirror l v h1 h2 h3]
    have := ih (stepV l v) fun u hu => by rw [stepV_length]; exact h u (by simp [hu])
    rwa [stepV_length] at this
end Go.Proofs.Ytdnaipiiponhpaa
