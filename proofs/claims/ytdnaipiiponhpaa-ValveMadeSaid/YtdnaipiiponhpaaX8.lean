/- The document's Run; every row of at most 1000 valves. -/
import Derived.Test.YtdnaipiiponhpaaX7
namespace Go.Proofs.Ytdnaipiiponhpaa
open Go.RowKit Go.Shelf

def rrunR (p : Int) (V : List (Int × Int)) (l : List Int) : List Int := if checkR p V ≠ 0 then [] else if (l.length : Int) ≠ p then [] else runV V l

set_option maxRecDepth 100000 in
set_option maxHeartbeats 1000000 in
theorem rrun_any (p : Int) (x y : Value) (V : List (Int × Int)) (q : List Int) (w : World) (hx0 : RdP w x V) (hy0 : RdI w .i64 y q) (hl : V.length ≤ 1000) (hq : q.length ≤ 1000) :
    Calls Try.prog 19 #[.agg #[.int .i64 p, x], y] w fun e w' => ∃ v, e = .returned (.tuple #[v, .int .i64 (runE p V q)]) ∧ RdI w' .i64 v (rrunR p V q) ∧ Below w.heap.size w w' := by
  obtain ⟨a, ca, rfl, _, _, _⟩ := hx0.form
  obtain ⟨b, cb, rfl, _, _, hyf⟩ := hy0.form
  unfold runE rrunR
  have H0 := Lib.hid fun w1 (hB : Below w.heap.size w w1) => rcheck_any p _ V w1 (hx0.mono hB) hl
  by_cases h : checkR p V = 0
  · have hc0 : ¬ (checkR p V ≠ 0) := by simpa using h
    simp only [if_neg hc0]
    rw [h] at H0
    have hV := okRow_of h
    clear hc0 h
    have hp1 := hV.p1; have hp8 := hV.p8; have h40 := hV.len
    by_cases hlen : (q.length : Int) = p
    · subst hlen
      simp only [ne_eq, not_true_eq_false, if_false]
      go_enter Try.func19, Try.ntmps19
      go_wp2_with fail
      refine (H0.out _ (bal (bz _) _)).mono ?_
      rintro e w2 ⟨rfl, hB2⟩
      have hB3 : Below w.heap.size w w2 := btr (bal (bz _) _) hB2
      have c0 : w2.cell? ⟨w.heap.size, 0, none⟩ = some (.int .i64 q.length) := (hB2.cell (by simp)).trans (cnew rfl rfl)
      have c1 : w2.cell? ⟨w.heap.size, 1, none⟩ = some (.slice a V.length ca) := (hB2.cell (by simp)).trans (cnew rfl rfl)
      go_wp2_with fail
      refine (runof_any _ _ V q w2 (hx0.mono hB3) (hy0.mono hB3) (by omega) hq hl (fun v hv => by obtain ⟨h1, h2, h3⟩ := hV.ok v hv; omega)).mono ?_
      rintro e w3 ⟨v, rfl, hown, hB4⟩
      have hlv : (runV V q).length = q.length := runV_length _ _
      have HOW := Lib.hid hown; clear hown
      go_wp2
      go_ret2
      exact ⟨v, rfl, RdI.of_owns HOW.out, btr hB3 hB4⟩
    · have hc0 : (q.length : Int) ≠ p := by simpa using hlen
      simp only [if_pos hc0]
      have hne : ((q.length : Int) != p) = true := by simpa using hlen
      clear hc0
      go_enter Try.func19, Try.ntmps19
      go_wp2_with fail
      refine (H0.out _ (bal (bz _) _)).mono ?_
      rintro e w2 ⟨rfl, hB2⟩
      have hB3 : Below w.heap.size w w2 := btr (bal (bz _) _) hB2
      have c0 : w2.cell? ⟨w.heap.size, 0, none⟩ = some (.int .i64 p) := (hB2.cell (by simp)).trans (cnew rfl rfl)
      go_wp2
      go_ret2
      exact ⟨_, rfl, rdI_nil _ _, hB3⟩
  · simp only [if_pos (show checkR p V ≠ 0 from h)]
    generalize checkR p V = c at *
    have e0 : (c != 0) = true := by simpa using h
    clear h
    go_enter Try.func19, Try.ntmps19
    go_wp2_with fail
    refine (H0.out _ (bal (bz _) _)).mono ?_
    rintro e w2 ⟨rfl, hB2⟩
    have hB3 : Below w.heap.size w w2 := btr (bal (bz _) _) hB2
    have c0 : w2.cell? ⟨w.heap.size, 0, none⟩ = some (.int .i64 p) := (hB2.cell (by simp)).trans (cnew rfl rfl)
    have c1 : w2.cell? ⟨w.heap.size, 1, none⟩ = some (.slice a V.length ca) := (hB2.cell (by simp)).trans (cnew rfl rfl)
    go_wp2_with fail
    refine (H0.out _ hB3).mono ?_
    rintro e w3 ⟨rfl, hB4⟩
    go_wp2
    go_ret2
    exact ⟨_, rfl, rdI_nil _ _, btr hB3 hB4⟩

/-- What lies behind the last place does not matter. -/
theorem stepV_pad (l z : List Int) (v : Int × Int) (h1 : 0 ≤ v.1) (h2 : v.1 < v.2) (h3 : v.2 < l.length) : stepV (l ++ z) v = stepV l v ++ z := by
  unfold stepV
  have a1 : v.1.toNat < l.length := by omega
  have a2 : v.2.toNat < l.length := by omega
  rw [List.getElem?_append_left a1, List.getElem?_append_left a2]
  split
  · rw [List.set_append_left _ _ a1, List.set_append_left _ _ (by simpa using a2)]
  · rfl
theorem runV_pad (V : List (Int × Int)) : ∀ (l z : List Int), (∀ v ∈ V, 0 ≤ v.1 ∧ v.1 < v.2 ∧ v.2 < l.length) → runV V (l ++ z) = runV V l ++ z := by
  induction V with
  | nil => intro l z _; rfl
  | cons v V ih =>
    intro l z h
    obtain ⟨h1, h2, h3⟩ := h v (by simp)
    show runV V (stepV (l ++ z) v) = runV V (stepV l v) ++ z
    rw [stepV_pad l z v h1 h2 h3]
    exact ih _ _ fun u hu => by rw [stepV_length]; exact h u (by simp [hu])
theorem fill8 (l : List Int) (h : l.length ≤ 8) : fillK 8 l.length l = l ++ List.replicate (8 - l.length) 0 := by
  apply List.ext_getElem
  · simp [fillK]; omega
  · intro i h1 h2
    have h3 : i < 8 := by simpa [fillK] using h1
    simp only [fillK, List.getElem_map, List.getElem_range]
    by_cases e : i < l.length
    · rw [if_pos e, List.getElem_append_left e]; simp [e]
    · rw [if_neg e, List.getElem_append_right (by omega)]; simp
theorem runR_eq (p : Int) (V : List (Int × Int)) (l : List Int) : runR p V l = rrunR p V l := by
  unfold runR rrunR
  split
  · rfl
  · rename_i h
    have hV := okRow_of (by simpa using h)
    have hp8 := hV.p8
    split
    · rfl
    · rename_i h2
      have hlen : (l.length : Int) = p := by simpa using h2
      rw [fill8 l (by omega), runV_pad V l _ (fun v hv => by obtain ⟨h1, h2, h3⟩ := hV.ok v hv; omega)]
      rw [List.take_append_of_le_length (by rw [runV_length]; omega), List.take_of_length_le (by rw [runV_length]; omega)]
end Go.Proofs.Ytdnaipiiponhpaa
