/- Plain facts: the rounds of the valves; valves in the order of their rounds do the same. -/
import Derived.Test.YtdnaipiiponhpaaGF
namespace Go.Proofs.Ytdnaipiiponhpaa

/-! The rounds. -/
theorem rstep_ge1 (V : List (Int × Int)) (out : List Int) (i : Nat) : ∀ k, 1 ≤ rstep V out i k
  | 0 => by simp [rstep]
  | k + 1 => by
    have := rstep_ge1 V out i k
    rw [rstep_succ]; split <;> omega
theorem rstep_meet (V : List (Int × Int)) (out : List Int) (i : Nat) : ∀ k j, j < k → meetB (V[j]?.getD (0, 0)) (V[i]?.getD (0, 0)) = true → out[j]?.getD 0 + 1 ≤ rstep V out i k
  | 0, j, h, _ => by omega
  | k + 1, j, h, hm => by
    rw [rstep_succ]
    by_cases e : j = k
    · subst e; rw [if_pos hm]; omega
    · have := rstep_meet V out i k j (by omega) hm
      split <;> omega
theorem rstep_from (V : List (Int × Int)) (out : List Int) (i : Nat) : ∀ k, rstep V out i k = 1 ∨ ∃ j, j < k ∧ rstep V out i k = out[j]?.getD 0 + 1
  | 0 => .inl (by simp [rstep])
  | k + 1 => by
    rw [rstep_succ]
    rcases rstep_from V out i k with h | ⟨j, hj, h⟩
    · split
      · rcases Int.le_total (rstep V out i k) (out[k]?.getD 0 + 1) with h2 | h2
        · exact .inr ⟨k, by omega, by omega⟩
        · exact .inl (by omega)
      · exact .inl h
    · split
      · rcases Int.le_total (rstep V out i k) (out[k]?.getD 0 + 1) with h2 | h2
        · exact .inr ⟨k, by omega, by omega⟩
        · exact .inr ⟨j, by omega, by omega⟩
      · exact .inr ⟨j, by omega, h⟩
theorem rrL_take (V : List (Int × Int)) (m : Nat) : ∀ d i, i < m → (rrL V (m + d))[i]?.getD 0 = (rrL V m)[i]?.getD 0
  | 0, _, _ => rfl
  | d + 1, i, hi => by
    rw [show m + (d + 1) = m + d + 1 by omega, rrL, List.getElem?_append_left (by rw [rrL_len]; omega)]
    exact rrL_take V m d i hi
theorem rrL_at (V : List (Int × Int)) (n i : Nat) (hi : i < n) : (rrL V n)[i]?.getD 0 = rstep V (rrL V i) i i := by
  have := rrL_take V (i + 1) (n - (i + 1)) i (by omega)
  rw [show i + 1 + (n - (i + 1)) = n by omega] at this
  rw [this, rrL, List.getElem?_append_right (by rw [rrL_len]; exact Nat.le_refl _), rrL_len]
  simp
theorem rr_ge1 (V : List (Int × Int)) (n i : Nat) (hi : i < n) : 1 ≤ (rrL V n)[i]?.getD 0 := by rw [rrL_at V n i hi]; exact rstep_ge1 ..
theorem rr_meet (V : List (Int × Int)) (n i j : Nat) (hi : i < n) (hj : j < i) (hm : meetB (V[j]?.getD (0, 0)) (V[i]?.getD (0, 0)) = true) : (rrL V n)[j]?.getD 0 < (rrL V n)[i]?.getD 0 := by
  rw [rrL_at V n i hi]
  have h := rstep_meet V (rrL V i) i i j hj hm
  have := rrL_take V i (n - i) j hj
  rw [show i + (n - i) = n by omega] at this
  omega
theorem rr_from (V : List (Int × Int)) (n i : Nat) (hi : i < n) : (rrL V n)[i]?.getD 0 = 1 ∨ ∃ j, j < i ∧ (rrL V n)[j]?.getD 0 = (rrL V n)[i]?.getD 0 - 1 := by
  rw [rrL_at V n i hi]
  rcases rstep_from V (rrL V i) i i with h | ⟨j, hj, h⟩
  · exact .inl h
  · have := rrL_take V i (n - i) j hj
    rw [show i + (n - i) = n by omega] at this
    exact .inr ⟨j, hj, by omega⟩
theorem rr_le (V : List (Int × Int)) (n : Nat) : ∀ m i, i < m → i < n → (rrL V n)[i]?.getD 0 ≤ (i : Int) + 1
  | 0, i, h, _ => by omega
  | m + 1, i, h, hi => by
    rcases rr_from V n i hi with e | ⟨j, hj, e⟩
    · omega
    · have := rr_le V n m j (by omega) (by omega); omega

/-! Valves with their rounds; what changes if two that are free of one another are exchanged. -/
abbrev LV := (Int × Int) × Int
def rdV (s : List Int) (v : Int × Int) : Int := 1 + (if s[v.1.toNat]?.getD 0 < s[v.2.toNat]?.getD 0 then s[v.2.toNat]?.getD 0 else s[v.1.toNat]?.getD 0)
def nxV (s : List Int) (v : Int × Int) : List Int := (s.set v.1.toNat (rdV s v)).set v.2.toNat (rdV s v)
def labV : List Int → List (Int × Int) → List LV
  | _, [] => []
  | s, v :: V => (v, rdV s v) :: labV (nxV s v) V
theorem labV_fst : ∀ (V : List (Int × Int)) (s : List Int), (labV s V).map (·.1) = V
  | [], _ => rfl
  | v :: V, s => by simp [labV, labV_fst V]
theorem labV_append : ∀ (U V : List (Int × Int)) (s : List Int), labV s (U ++ V) = labV s U ++ labV (U.foldl nxV s) V
  | [], _, _ => rfl
  | u :: U, V, s => by simp [labV, labV_append U V]
theorem foldl_stepR : ∀ (V : List (Int × Int)) (s : List Int × List Int), V.foldl stepR s = (V.foldl nxV s.1, s.2 ++ (labV s.1 V).map (·.2))
  | [], s => by simp [labV]
  | v :: V, s => by
    rw [List.foldl_cons, foldl_stepR V]
    simp [stepR, nxV, rdV, labV]
theorem labV_rounds {n : Nat} (hn : n ≤ 8) {V : List (Int × Int)} (h : OkV n V) : (labV (List.replicate 8 0) V).map (·.2) = rrL V V.length := by
  have h1 := (rounds_state hn h V.length (Nat.le_refl _)).1
  rw [List.take_length] at h1
  rw [← h1, roundsS, foldl_stepR]; simp
def Free (u v : Int × Int) : Prop := meetB u v = false
def Fine1 (v : Int × Int) : Prop := 0 ≤ v.1 ∧ v.1 < v.2
theorem free_ne {u v : Int × Int} (hu : Fine1 u) (hv : Fine1 v) (h : Free u v) : u.1.toNat ≠ v.1.toNat ∧ u.1.toNat ≠ v.2.toNat ∧ u.2.toNat ≠ v.1.toNat ∧ u.2.toNat ≠ v.2.toNat := by
  unfold Free meetB at h
  simp only [decide_eq_false_iff_not] at h
  obtain ⟨h1, h2⟩ := hu
  obtain ⟨h3, h4⟩ := hv
  omega
theorem nx_get (s : List Int) (v : Int × Int) (j : Nat) (h1 : v.1.toNat ≠ j) (h2 : v.2.toNat ≠ j) : (nxV s v)[j]? = s[j]? := by
  unfold nxV
  rw [List.getElem?_set_ne h2, List.getElem?_set_ne h1]
theorem rd_free (s : List Int) {u v : Int × Int} (hu : Fine1 u) (hv : Fine1 v) (h : Free u v) : rdV (nxV s u) v = rdV s v := by
  obtain ⟨h1, h2, h3, h4⟩ := free_ne hu hv h
  unfold rdV
  rw [nx_get s u _ h1 h3, nx_get s u _ h2 h4]
theorem free_comm {u v : Int × Int} (h : Free u v) : Free v u := by
  unfold Free meetB at *
  simp only [decide_eq_false_iff_not] at *
  omega
theorem nx_free (s : List Int) {u v : Int × Int} (hu : Fine1 u) (hv : Fine1 v) (h : Free u v) : nxV (nxV s u) v = nxV (nxV s v) u := by
  obtain ⟨h1, h2, h3, h4⟩ := free_ne hu hv h
  have e1 := rd_free s hu hv h
  have e2 := rd_free s hv hu (free_comm h)
  apply List.ext_getElem?
  intro j
  by_cases c1 : u.1.toNat = j ∨ u.2.toNat = j
  · rw [nx_get _ v j (by omega) (by omega)]
    unfold nxV
    rw [show rdV ((s.set v.1.toNat (rdV s v)).set v.2.toNat (rdV s v)) u = rdV s u from e2]
    rw [List.getElem?_set, List.getElem?_set, List.getElem?_set (l := ((s.set v.1.toNat (rdV s v)).set v.2.toNat (rdV s v)).set u.1.toNat (rdV s u)), List.getElem?_set (l := (s.set v.1.toNat (rdV s v)).set v.2.toNat (rdV s v))]
    simp only [List.length_set]
    rw [List.getElem?_set_ne (by omega), List.getElem?_set_ne (by omega)]
  · rw [nx_get _ u j (by omega) (by omega)]
    unfold nxV
    rw [show rdV ((s.set u.1.toNat (rdV s u)).set u.2.toNat (rdV s u)) v = rdV s v from e1]
    rw [List.getElem?_set, List.getElem?_set, List.getElem?_set (l := s.set v.1.toNat (rdV s v)), List.getElem?_set (l := s)]
    simp only [List.length_set]
    rw [List.getElem?_set_ne (by omega), List.getElem?_set_ne (by omega)]
/-- From one order to another one by exchanges of neighbours that are free of one another. -/
inductive Sw : List LV → List LV → Prop
  | refl (P : List LV) : Sw P P
  | swap (A : List LV) (u v : LV) (B Q : List LV) : Free u.1 v.1 → Sw (A ++ v :: u :: B) Q → Sw (A ++ u :: v :: B) Q
theorem Sw.trans {P Q R : List LV} (h : Sw P Q) (k : Sw Q R) : Sw P R := by
  induction h with
  | refl => exact k
  | swap A u v B Q hf _ ih => exact .swap A u v B _ hf (ih k)
theorem Sw.left {P Q : List LV} (h : Sw P Q) (A : List LV) : Sw (A ++ P) (A ++ Q) := by
  induction h with
  | refl => exact .refl _
  | swap A' u v B Q hf _ ih =>
    rw [← List.append_assoc]
    exact .swap (A ++ A') u v B _ hf (by rw [List.append_assoc]; exact ih)
theorem Sw.right {P Q : List LV} (h : Sw P Q) (C : List LV) : Sw (P ++ C) (Q ++ C) := by
  induction h with
  | refl => exact .refl _
  | swap A' u v B Q hf _ ih =>
    rw [List.append_assoc]
    exact .swap A' u v (B ++ C) _ hf (by rw [List.append_assoc] at ih; exact ih)
theorem Sw.mem {P Q : List LV} (h : Sw P Q) (x : LV) : x ∈ Q ↔ x ∈ P := by
  induction h with
  | refl => exact Iff.rfl
  | swap A u v B Q hf _ ih => rw [ih]; simp only [List.mem_append, List.mem_cons]; constructor <;> (rintro (h | h | h | h) <;> simp [h])
theorem Sw.good {P Q : List LV} (h : Sw P Q) (s : List Int) (hf : ∀ x ∈ P, Fine1 x.1) (hp : P = labV s (P.map (·.1))) : Q = labV s (Q.map (·.1)) := by
  induction h with
  | refl => exact hp
  | swap A u v B Q hfr hs ih =>
    refine ih (fun x hx => hf x (by simp only [List.mem_append, List.mem_cons] at hx ⊢; rcases hx with h | h | h | h <;> simp [h])) ?_
    have hu := hf u (by simp)
    have hv := hf v (by simp)
    simp only [List.map_append, List.map_cons, labV_append, labV] at hp ⊢
    have hl : A.length = (labV s (A.map (·.1))).length := by have := congrArg List.length (labV_fst (A.map (·.1)) s); simpa using this.symm
    obtain ⟨h1, h2⟩ := List.append_inj hp hl
    rw [rd_free _ hu hv hfr, nx_free _ hu hv hfr] at h2
    simp only [List.cons.injEq] at h2
    rw [rd_free _ hv hu (free_comm hfr)]
    exact congr (congrArg _ h1) (by rw [List.cons.injEq, List.cons.injEq]; exact ⟨h2.2.1, h2.1, h2.2.2⟩)
theorem step_free (l : List Int) {u v : Int × Int} (hu : Fine1 u) (hv : Fine1 v) (hu2 : u.2 < (l.length : Int)) (hv2 : v.2 < (l.length : Int)) (h : Free u v) : stepV (stepV l u) v = stepV (stepV l v) u := by
  obtain ⟨h1, h2, h3, h4⟩ := free_ne hu hv h
  obtain ⟨u1, u2⟩ := hu
  obtain ⟨v1, v2⟩ := hv
  refine ext_getD (by simp [stepV_length]) fun j hj => ?_
  have gu := fun k => stepV_get l u u1 u2 hu2 k
  have gv := fun k => stepV_get l v v1 v2 hv2 k
  rw [stepV_get (stepV l u) v v1 v2 (by rw [stepV_length]; exact hv2) j, stepV_get (stepV l v) u u1 u2 (by rw [stepV_length]; exact hu2) j, gu, gu, gu, gv, gv, gv]
  rw [if_neg (Ne.symm h1), if_neg (Ne.symm h3), if_neg (Ne.symm h2), if_neg (Ne.symm h4), if_neg h1, if_neg h2, if_neg h3, if_neg h4]
  by_cases c1 : j = v.1.toNat
  · rw [if_pos c1, if_neg (by omega), if_neg (by omega), if_pos c1]
  · rw [if_neg c1]
    by_cases c2 : j = v.2.toNat
    · rw [if_pos c2, if_neg (by omega), if_neg (by omega), if_neg c1, if_pos c2]
    · rw [if_neg c2, if_neg c1, if_neg c2]
theorem Sw.run {P Q : List LV} (h : Sw P Q) (l : List Int) (hf : OkV l.length (P.map (·.1))) : runV (Q.map (·.1)) l = runV (P.map (·.1)) l := by
  induction h with
  | refl => rfl
  | swap A u v B Q hfr hs ih =>
    rw [ih (fun x hx => hf x (by simp only [List.map_append, List.map_cons, List.mem_append, List.mem_cons] at hx ⊢; rcases hx with h | h | h | h <;> simp [h]))]
    simp only [List.map_append, List.map_cons, runV_append, runV_cons]
    obtain ⟨u1, u2, u3⟩ := hf u.1 (by simp)
    obtain ⟨v1, v2, v3⟩ := hf v.1 (by simp)
    rw [step_free _ ⟨u1, u2⟩ ⟨v1, v2⟩ (by rw [runV_length]; exact u3) (by rw [runV_length]; exact v3) hfr]
theorem sw_past (a : LV) : ∀ F : List LV, (∀ x ∈ F, Free a.1 x.1) → ∀ T, Sw (a :: F ++ T) (F ++ a :: T)
  | [], _, T => .refl _
  | x :: F, h, T => by
    have h1 := sw_past a F (fun y hy => h y (by simp [hy])) T
    exact .swap [] a x (F ++ T) _ (h x (by simp)) (by simpa using h1.left [x])
theorem sw_parts (q : LV → Bool) : ∀ P : List LV, P.Pairwise (fun x y => q x = true → q y = false → Free x.1 y.1) → Sw P (P.filter (fun x => !q x) ++ P.filter q)
  | [], _ => .refl _
  | a :: P, h => by
    rw [List.pairwise_cons] at h
    have ih := sw_parts q P h.2
    have ih' : Sw (a :: P) (a :: (P.filter (fun x => !q x) ++ P.filter q)) := by simpa using ih.left [a]
    cases ha : q a with
    | false => simpa [List.filter_cons, ha] using ih'
    | true =>
      have := sw_past a (P.filter fun x => !q x) (fun x hx => by
        rw [List.mem_filter] at hx
        exact h.1 x hx.1 ha (by simpa using hx.2)) (P.filter q)
      simpa [List.filter_cons, ha] using ih'.trans (by simpa using this)
/-- In the order of the rounds, up to a round. -/
def upTo (P : List LV) : Nat → List LV
  | 0 => []
  | n + 1 => upTo P n ++ P.filter fun x => decide (x.2 = ((n + 1 : Nat) : Int))
theorem upTo_filter (P : List LV) (m : Nat) : ∀ n, n ≤ m → upTo (P.filter fun x => decide (x.2 ≤ (m : Int))) n = upTo P n
  | 0, _ => rfl
  | n + 1, h => by
    rw [upTo, upTo, upTo_filter P m n (by omega), List.filter_filter]
    congr 1
    refine List.filter_congr fun x _ => ?_
    by_cases c : x.2 = ((n + 1 : Nat) : Int)
    · simp only [c, decide_true, Bool.true_and, decide_eq_true_eq]; omega
    · rw [decide_eq_false c]; simp
theorem sw_upTo : ∀ (n : Nat) (P : List LV), (∀ x ∈ P, 1 ≤ x.2 ∧ x.2 ≤ (n : Int)) → P.Pairwise (fun x y => y.2 < x.2 → Free x.1 y.1) → Sw P (upTo P n)
  | 0, P, h, _ => by
    cases P with
    | nil => exact .refl _
    | cons a P => have := h a (by simp); omega
  | n + 1, P, h, hp => by
    have h1 := sw_parts (fun x => decide (x.2 = ((n + 1 : Nat) : Int))) P (hp.imp_of_mem fun {x y} hx hy hxy e1 e2 => hxy (by
      have := h y hy
      simp only [decide_eq_true_eq, decide_eq_false_iff_not] at e1 e2
      omega))
    refine h1.trans ?_
    rw [upTo]
    refine Sw.right ?_ _
    have e : (P.filter fun x => !decide (x.2 = ((n + 1 : Nat) : Int))) = P.filter fun x => decide (x.2 ≤ (n : Int)) := by
      refine List.filter_congr fun x hx => ?_
      have := h x hx
      by_cases c : x.2 ≤ (n : Int)
      · simp only [c, decide_true, Bool.not_eq_true', decide_eq_false_iff_not]; omega
      · simp only [c, decide_false, Bool.not_eq_false', decide_eq_true_eq]; omega
    rw [e, ← upTo_filter P n n (Nat.le_refl _)]
    exact sw_upTo n _ (fun x hx => by
      rw [List.mem_filter] at hx
      have := h x hx.1
      simp only [decide_eq_true_eq] at hx
      omega) (hp.sublist List.filter_sublist)
end Go.Proofs.Ytdnaipiiponhpaa
