/- Valid work by its definition; the work of a truth; plain, no condition. -/
import Derived.Test.YteknehlkdgamjaaGreatMGS
namespace Go.Proofs.YteknehlkdgamjaaGreat

theorem work_fine {J : List Job} (h : FineJ J) : workC J = 0 := by
  unfold workC
  have h1 : outB 1 12 J.length = false := by unfold outB; rw [decide_eq_false_iff_not]; have := h.n1; have := h.n12; omega
  have h2 : J.any oddJ = false := by
    rw [List.any_eq_false]
    intro j hj
    obtain ⟨i, hi, rfl⟩ := List.getElem_of_mem hj
    have := h.days i hi
    rw [show job J i = J[i] from by simp [job, hi]] at this
    unfold oddJ
    simp only [Bool.or_eq_true, decide_eq_true_eq]
    omega
  have h3 : badTo J J.length = false := by
    unfold badTo
    rw [List.any_eq_false]
    intro i hi
    have hi := List.mem_range.1 hi
    unfold badJ
    rw [(lisB_iff _ _).2 (h.lst i hi), h.self i hi]
    simp
  rw [h1, h2, h3]
  simp
theorem err_fine {J : List Job} (h : FineJ J) (hc : cir J = false) : errC J = 0 := by unfold errC; rw [if_pos (work_fine h), hc]; rfl
theorem ex_err {J : List Job} (h0 : errC J = 0) {D : Nat → Int} (hD : ∀ i, i < J.length → 0 ≤ D i ∧ D i ≤ 1000) : errC (exJ J D) = 0 :=
  err_fine (ex_fine (fine_err h0).1 hD) (ex_cir (fine_err h0).2 D)
theorem ex_sm {J : List Job} (hs : SmJ J) (D : Nat → Int) : SmJ (exJ J D) := by
  refine ⟨by rw [ex_len]; exact hs.1, fun i => ?_⟩
  by_cases hi : i < J.length
  · rw [ex_at hi]; exact hs.2 i
  · have : job (exJ J D) i = job [] i := by unfold job; rw [List.getElem?_eq_none (by rw [ex_len]; omega)]; rfl
    rw [this]; simp [job]
theorem ex_lo {J : List Job} (D : Nat → Int) {i : Nat} (hi : i < J.length) : D i = loD (exJ J D) i ∧ D i = hiD (exJ J D) i := by
  unfold loD hiD; rw [ex_at hi]; exact ⟨rfl, rfl⟩
theorem ex_beg {J : List Job} (h0 : errC J = 0) {D : Nat → Int} (hD : ∀ i, i < J.length → 0 ≤ D i ∧ D i ≤ 1000) {i : Nat} (hi : i < J.length) :
    beg (exJ J D) (loD (exJ J D)) i = beg J D i ∧ beg (exJ J D) (hiD (exJ J D)) i = beg J D i := by
  obtain ⟨hJ, hc⟩ := fine_err h0
  exact ⟨((ex_same J D).begM hJ (ex_fine hJ hD) hc (D := D) (fun i hi => (ex_lo D hi).1) hi).symm, ((ex_same J D).begM hJ (ex_fine hJ hD) hc (D := D) (fun i hi => (ex_lo D hi).2) hi).symm⟩
theorem ex_takes {J : List Job} (h0 : errC J = 0) {D : Nat → Int} (hD : ∀ i, i < J.length → 0 ≤ D i ∧ D i ≤ 1000) :
    takes (exJ J D) (loD (exJ J D)) = takes J D ∧ takes (exJ J D) (hiD (exJ J D)) = takes J D := by
  obtain ⟨hJ, hc⟩ := fine_err h0
  exact ⟨((ex_same J D).takM hJ (ex_fine hJ hD) hc (D := D) (fun i hi => (ex_lo D hi).1)).symm, ((ex_same J D).takM hJ (ex_fine hJ hD) hc (D := D) (fun i hi => (ex_lo D hi).2)).symm⟩
theorem ex_sta {J : List Job} (h0 : errC J = 0) {D : Nat → Int} (hD : ∀ i, i < J.length → 0 ≤ D i ∧ D i ≤ 1000) :
    staL (exJ J D) = (List.range J.length).map fun i => (beg J D i, beg J D i) := by
  unfold staL staP
  rw [if_pos (ex_err h0 hD), ex_len]
  refine List.map_congr_left fun i hi => ?_
  obtain ⟨h1, h2⟩ := ex_beg h0 hD (List.mem_range.1 hi)
  rw [h1, h2]
theorem tru_beg {J : List Job} (h0 : errC J = 0) (B : List Int) {i : Nat} (hi : i < J.length) : beg J (loD J) i ≤ beg J (truD J B) i ∧ beg J (truD J B) i ≤ beg J (hiD J) i := by
  obtain ⟨hJ, hc⟩ := fine_err h0
  have hs : SubE J J := ⟨rfl, fun _ _ h => h⟩
  exact ⟨hs.begM hJ hJ hc (fun i hi => (truD_bd hJ B hi).1) hi, hs.begM hJ hJ hc (fun i hi => (truD_bd hJ B hi).2) hi⟩
theorem tru_takes {J : List Job} (h0 : errC J = 0) (B : List Int) : takes J (loD J) ≤ takes J (truD J B) ∧ takes J (truD J B) ≤ takes J (hiD J) := by
  obtain ⟨hJ, hc⟩ := fine_err h0
  have hs : SubE J J := ⟨rfl, fun _ _ h => h⟩
  exact ⟨hs.takM hJ hJ hc (fun i hi => (truD_bd hJ B hi).1), hs.takM hJ hJ hc (fun i hi => (truD_bd hJ B hi).2)⟩
theorem ex_chain {J : List Job} (h0 : errC J = 0) {D : Nat → Int} (hD : ∀ i, i < J.length → 0 ≤ D i ∧ D i ≤ 1000) {m : List Int} (h : chainC (exJ J D) m = 0) :
    (chainV (exJ J D) m).1 ≤ takes J D := by
  have he := ex_err h0 hD
  obtain ⟨_, l, rfl, _, _, hch⟩ := chainC_isCh h
  unfold chainV
  rw [if_pos h, sumTo_ints, ← (ex_takes h0 hD).1]
  exact ch_takes (fine_err he).1 (fine_err he).2 hch
end Go.Proofs.YteknehlkdgamjaaGreat
