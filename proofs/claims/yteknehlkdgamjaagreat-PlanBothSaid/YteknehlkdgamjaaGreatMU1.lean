/- One more wait: the work that comes of it; plain, no condition. -/
import Derived.Test.YteknehlkdgamjaaGreatMS9
import Derived.Test.YteknehlkdgamjaaGreatMGG
namespace Go.Proofs.YteknehlkdgamjaaGreat
open Go.RowKit Go.Shelf

/-- What job i waits for, and job k. -/
def moreP (J : List Job) (i k m : Nat) : Bool := m == k || (job J i).ws.contains (m : Int)
def moreA (J : List Job) (i k : Nat) : Job := ⟨(job J i).lo, (job J i).hi, ints (fltN (moreP J i k) J.length)⟩
def moreJ (J : List Job) (i k : Nat) : List Job := J.set i (moreA J i k)
section
variable {J : List Job} {i k : Nat}
theorem more_len : (moreJ J i k).length = J.length := by simp [moreJ]
theorem more_job (hi : i < J.length) (c : Nat) : job (moreJ J i k) c = if c = i then moreA J i k else job J c := by
  unfold job moreJ
  rw [List.getElem?_set]
  by_cases h : i = c
  · subst h; simp [hi]
  · rw [if_neg h, if_neg (Ne.symm h)]
theorem more_sub (hJ : FineJ J) (hi : i < J.length) : SubE J (moreJ J i k) := by
  refine ⟨more_len.symm, fun b c he => ?_⟩
  have hb := hJ.edge_lt he
  unfold edg at he ⊢
  rw [more_len, more_job hi]
  rw [Bool.and_eq_true] at he ⊢
  refine ⟨he.1, ?_⟩
  by_cases hc : c = i
  · rw [if_pos hc]
    subst hc
    rw [List.contains_iff_mem]
    refine ints_mem.2 (List.mem_filter.2 ⟨List.mem_range.2 hb, ?_⟩)
    unfold moreP
    rw [he.2, Bool.or_true]
  · rw [if_neg hc]; exact he.2
theorem more_fine (hJ : FineJ J) (hi : i < J.length) (hik : i ≠ k) : FineJ (moreJ J i k) := by
  refine ⟨by rw [more_len]; exact hJ.n1, by rw [more_len]; exact hJ.n12, fun c hc => ?_, fun c hc => ?_, fun c hc => ?_⟩
  · rw [more_len] at hc
    rw [more_job hi]
    by_cases h : c = i
    · rw [if_pos h]; exact hJ.days i hi
    · rw [if_neg h]; exact hJ.days c hc
  · rw [more_len] at hc ⊢
    rw [more_job hi]
    by_cases h : c = i
    · rw [if_pos h]; exact fltN_lis _ _
    · rw [if_neg h]; exact hJ.lst c hc
  · rw [more_len] at hc
    rw [more_job hi]
    by_cases h : c = i
    · rw [if_pos h]
      subst h
      cases hcc : (moreA J c k).ws.contains (c : Int) with
      | false => rfl
      | true =>
        rw [List.contains_iff_mem] at hcc
        have := (List.mem_filter.1 (ints_mem.1 hcc)).2
        unfold moreP at this
        rw [hJ.self c hc] at this
        simp at this
        exact absurd this hik
    · rw [if_neg h]; exact hJ.self c hc
theorem work_fineU (h : FineJ J) : workC J = 0 := by
  unfold workC
  have h1 : outB 1 12 J.length = false := by unfold outB; rw [decide_eq_false_iff_not]; have := h.n1; have := h.n12; omega
  have h2 : J.any oddJ = false := by
    rw [List.any_eq_false]
    intro j hj
    obtain ⟨i, hi, rfl⟩ := List.getElem_of_mem hj
    have := h.days i hi
    rw [show job J i = J[i] from by simp [job, hi]] at this
    unfold oddJ
    simp only [Bool.or_eq_true, decide_eq_true_eq]
    omega
  have h3 : badTo J J.length = false := by
    unfold badTo
    rw [List.any_eq_false]
    intro i hi
    have hi := List.mem_range.1 hi
    unfold badJ
    rw [(lisB_iff _ _).2 (h.lst i hi), h.self i hi]
    simp
  rw [h1, h2, h3]
  simp
theorem fine_smU (hJ : FineJ J) : SmJ J := by
  refine ⟨by have := hJ.n12; omega, fun i => ?_⟩
  by_cases hi : i < J.length
  · have := hJ.ws_le hi; omega
  · unfold job; rw [List.getElem?_eq_none (by omega)]; simp
theorem more_err (hJ : FineJ J) (hi : i < J.length) (hik : i ≠ k) : errC (moreJ J i k) = if cir (moreJ J i k) then 13 else 0 := by
  unfold errC
  rw [if_pos (work_fineU (more_fine hJ hi hik))]
theorem more_lo (hi : i < J.length) (c : Nat) : loD (moreJ J i k) c = loD J c ∧ hiD (moreJ J i k) c = hiD J c := by
  unfold loD hiD
  rw [more_job hi]
  by_cases h : c = i
  · rw [if_pos h, h]; exact ⟨rfl, rfl⟩
  · rw [if_neg h]; exact ⟨rfl, rfl⟩
theorem more_beg (hJ : FineJ J) (hi : i < J.length) (hik : i ≠ k) (hc : cir (moreJ J i k) = false) {c : Nat} (h : c < J.length) :
    beg J (loD J) c ≤ beg (moreJ J i k) (loD (moreJ J i k)) c ∧ beg J (hiD J) c ≤ beg (moreJ J i k) (hiD (moreJ J i k)) c :=
  ⟨(more_sub hJ hi).begM hJ (more_fine hJ hi hik) hc (fun c _ => Int.le_of_eq (more_lo hi c).1.symm) h, (more_sub hJ hi).begM hJ (more_fine hJ hi hik) hc (fun c _ => Int.le_of_eq (more_lo hi c).2.symm) h⟩
theorem more_takes (hJ : FineJ J) (hi : i < J.length) (hik : i ≠ k) (hc : cir (moreJ J i k) = false) :
    takes J (loD J) ≤ takes (moreJ J i k) (loD (moreJ J i k)) ∧ takes J (hiD J) ≤ takes (moreJ J i k) (hiD (moreJ J i k)) :=
  ⟨(more_sub hJ hi).takM hJ (more_fine hJ hi hik) hc (fun c _ => Int.le_of_eq (more_lo hi c).1.symm), (more_sub hJ hi).takM hJ (more_fine hJ hi hik) hc (fun c _ => Int.le_of_eq (more_lo hi c).2.symm)⟩
/-- What Free returns. -/
def FreQ (J : List Job) (l : List Nat) : Prop := ∃ nx bf F G, MatI J nx bf J.length ∧ FrI J nx bf F G [] J.length 0 ∧ l = frTo F G J.length
theorem free_outQ (h0 : errC J = 0) {w w' : World} {e : Ending} (h : FreeOut J w e w') :
    ∃ u l, e = .returned (.tuple #[u, .int .i64 0]) ∧ RdI w' .i64 u (ints l) ∧ FreQ J l ∧ Below w.heap.size w w' := by
  obtain ⟨h | h, hB⟩ := h
  · exact absurd h0 h.1
  · obtain ⟨_, v, nx, bf, F, G, rfl, h1, h2, h3⟩ := h
    exact ⟨v, _, rfl, h3, ⟨nx, bf, F, G, h1, h2, rfl⟩, hB⟩
theorem more_free (h0 : errC J = 0) (hi : i < J.length) {l m : List Nat} (h : FreQ J l) (h' : FreQ (moreJ J i k) m) : m.length ≤ l.length := by
  obtain ⟨hJ, hc⟩ := fine_err h0
  obtain ⟨nx, bf, F, G, h1, h2, rfl⟩ := h
  obtain ⟨nx', bf', F', G', h1', h2', rfl⟩ := h'
  exact free_most hJ hc h1 h2 ((more_sub hJ hi).free h2'.free)
/-- Another job, by two numbers. -/
theorem other_ne {n i t : Nat} (hi : i < n) (hn : 2 ≤ n) (ht : t < n - 1) : (i + 1 + t) % n ≠ i ∧ (i + 1 + t) % n < n := by
  refine ⟨fun h => ?_, Nat.mod_lt _ (by omega)⟩
  rcases Nat.lt_or_ge (i + 1 + t) n with h1 | h1
  · rw [Nat.mod_eq_of_lt h1] at h; omega
  · rw [Nat.mod_eq_sub_mod h1, Nat.mod_eq_of_lt (by omega)] at h; omega
end
end Go.Proofs.YteknehlkdgamjaaGreat
