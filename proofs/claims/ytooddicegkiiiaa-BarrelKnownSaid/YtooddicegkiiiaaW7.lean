/- Clash of the program. -/
import Derived.Test.YtooddicegkiiiaaW6
namespace Go.Proofs.Ytooddicegkiiiaa
open Go.RowKit Go.Shelf

/-- The first pins that clash. -/
structure FirstCl (V : List (Int × Int)) (i k : Nat) : Prop where
  lt : i < k
  len : k < V.length
  cl : clB (pin V i) (pin V k) = true
  min : ∀ a b : Nat, a < b → b < V.length → clB (pin V a) (pin V b) = true → i < a ∨ (i = a ∧ k ≤ b)
theorem FirstCl.unique {V : List (Int × Int)} {i k i' k' : Nat} (h : FirstCl V i k) (h' : FirstCl V i' k') : i = i' ∧ k = k' := by
  have h1 := h.min i' k' h'.lt h'.len h'.cl
  have h2 := h'.min i k h.lt h.len h.cl
  omega
open Classical in
noncomputable def clP (V : List (Int × Int)) : Nat × Nat := if h : ∃ p : Nat × Nat, FirstCl V p.1 p.2 then Classical.choose h else (0, 0)
theorem clP_of {V : List (Int × Int)} {i k : Nat} (h : FirstCl V i k) : clP V = (i, k) := by
  have hx : ∃ p : Nat × Nat, FirstCl V p.1 p.2 := ⟨(i, k), h⟩
  unfold clP
  rw [dif_pos hx]
  have := (Classical.choose_spec hx).unique h
  exact Prod.ext this.1 this.2
theorem clP_free {V : List (Int × Int)} (h : Free V) : clP V = (0, 0) := by
  unfold clP
  rw [dif_neg]
  rintro ⟨p, hp⟩
  have := h p.1 p.2 hp.lt hp.len
  rw [hp.cl] at this; cases this
/-- What Clash returns. -/
noncomputable def clA (V : List (Int × Int)) : Int := if checkP V = 0 then ((clP V).1 : Int) else 0
noncomputable def clK (V : List (Int × Int)) : Int := if checkP V = 0 then ((clP V).2 : Int) else 0
open Classical in
noncomputable def clE' (V : List (Int × Int)) : Int := if checkP V = 0 then (if Free V then 5 else 0) else checkP V

theorem bestK_spec (U : List (Int × Int)) : ∀ k, (∃ j, j ≤ k ∧ bestK U k = pin U j) ∧ ∀ j, j ≤ k → lexB (pin U j) (bestK U k) = false := by
  have irr : ∀ a, lexB a a = false := fun a => by simp [lexB]
  intro k
  induction k with
  | zero =>
    refine ⟨⟨0, Nat.le_refl _, rfl⟩, fun j hj => ?_⟩
    have : j = 0 := by omega
    subst this
    exact irr _
  | succ k ih =>
    obtain ⟨⟨j0, h1, h2⟩, h3⟩ := ih
    have hst : bestK U (k + 1) = if lexB (pin U (k + 1)) (bestK U k) then pin U (k + 1) else bestK U k := rfl
    cases hb : lexB (pin U (k + 1)) (bestK U k)
    · rw [hb] at hst
      simp only [Bool.false_eq_true, if_false] at hst
      rw [hst]
      refine ⟨⟨j0, by omega, h2⟩, fun j hj => ?_⟩
      by_cases e : j = k + 1
      · subst e; exact hb
      · exact h3 j (by omega)
    · rw [hb] at hst
      simp only [if_true] at hst
      rw [hst]
      refine ⟨⟨k + 1, Nat.le_refl _, rfl⟩, fun j hj => ?_⟩
      by_cases e : j = k + 1
      · subst e; exact irr _
      · have := h3 j (by omega)
        simp only [lexB, decide_eq_false_iff_not, decide_eq_true_eq] at this hb ⊢
        omega
/-- The best of the keys is the first clash. -/
theorem first_of_keys {V : List (Int × Int)} {L : Ents} (h : ClM V L) (U : List (Int × Int)) (hU : ∀ x, x ∈ U ↔ ∃ e ∈ L, e.1 = x) (hl : 1 ≤ U.length) :
    ∃ i k : Nat, FirstCl V i k ∧ bestK U (U.length - 1) = ((i : Int), (k : Int)) := by
  obtain ⟨⟨j, h1, h2⟩, h3⟩ := bestK_spec U (U.length - 1)
  have hm : bestK U (U.length - 1) ∈ U := by rw [h2]; exact pin_mem (by omega)
  obtain ⟨e, he, hee⟩ := (hU _).1 hm
  obtain ⟨a, b, k1, k2, k3, _, k5⟩ := (h e.1 e.2.1).1 ⟨e.2.2, he⟩
  rw [hee] at k3
  refine ⟨a, b, ⟨k1, k2, k5, fun a' b' l1 l2 l3 => ?_⟩, k3⟩
  obtain ⟨t, ht⟩ := (h _ _).2 ⟨a', b', l1, l2, rfl, rfl, l3⟩
  have hmu : ((a' : Int), (b' : Int)) ∈ U := (hU _).2 ⟨_, ht, rfl⟩
  obtain ⟨m, hm', hme⟩ := List.getElem_of_mem hmu
  have := h3 m (by omega)
  rw [k3, show pin U m = ((a' : Int), (b' : Int)) by simp [pin, hm', hme]] at this
  simp only [lexB, decide_eq_false_iff_not] at this
  omega
theorem cl_small {V : List (Int × Int)} {L : Ents} (h : ClM V L) (hk : (L.map (·.1)).Nodup) (hl : V.length ≤ 5) : L.length ≤ 100 := by
  have := nodup_le (L.map (·.1)) ((List.range 5).flatMap fun (i : Nat) => (List.range 5).map fun (k : Nat) => ((i : Int), (k : Int))) hk (fun x hx => by
    obtain ⟨e, he, rfl⟩ := List.mem_map.1 hx
    obtain ⟨a, b, k1, k2, k3, _⟩ := (h e.1 e.2.1).1 ⟨e.2.2, he⟩
    rw [k3]
    simp only [List.mem_flatMap, List.mem_map, List.mem_range]
    exact ⟨a, by omega, b, by omega, rfl⟩)
  rw [List.length_map] at this
  refine Nat.le_trans this ?_
  decide +kernel

set_option maxRecDepth 100000 in
set_option maxHeartbeats 2000000 in
theorem clash_any (x : Value) (V : List (Int × Int)) (w : World) (hx0 : RdP w x V) (hl : V.length ≤ 1000) :
    Calls Try.prog 33 #[x] w fun e w' => e = .returned (.tuple #[.int .i64 (clA V), .int .i64 (clK V), .int .i64 (clE' V)]) ∧ Below w.heap.size w w' := by
  obtain ⟨a, ca, rfl, hca, hca2, _⟩ := hx0.form
  clear hca2
  by_cases hc : checkP V = 0
  · have hV := okPins_of hc
    have h5 := hV.l5
    have HO := Lib.hid (open_ok _ _ V [] w hx0 (rdI_nil _ _) (by simp) (by rw [openE_nil]; exact hc))
    have HF : Hid (Free V → clA V = 0 ∧ clK V = 0 ∧ clE' V = 5) := Lib.hid (fun h => by unfold clA clK clE'; rw [if_pos hc, if_pos hc, if_pos hc, if_pos h, clP_free h]; exact ⟨rfl, rfl, rfl⟩)
    have HC : Hid (∀ i k, FirstCl V i k → ¬ Free V → clA V = i ∧ clK V = k ∧ clE' V = 0) := Lib.hid (fun i k h hn => by unfold clA clK clE'; rw [if_pos hc, if_pos hc, if_pos hc, if_neg hn, clP_of h]; exact ⟨rfl, rfl, rfl⟩)
    clear hc
    go_enter Try.func33, Try.ntmps33
    go_wp2_with fail
    refine HO.out.mono ?_
    rintro e w2 ⟨b, rfl, hb, hD, hB2⟩
    obtain ⟨x', M, L, c, hb', hM, hok, hcl, hx1⟩ := id hD
    have d0 : w2.cell? ⟨b, 0, none⟩ = some x' := by rw [cell_of_row w2 _ 0 _ _ _ hb']; rfl
    have d1 : w2.cell? ⟨b, 1, none⟩ = some (.map (some M)) := by rw [cell_of_row w2 _ 1 _ _ _ hb']; rfl
    have dz := (Array.getElem?_eq_some_iff.1 hb').1
    have hln := run_lenL (W := w2) hM
    have HM := Lib.hid hM; have HOK := Lib.hid hok; have HCL := Lib.hid hcl; have HB2 := Lib.hid hB2
    clear hb' hM hok hcl hx1 hD hB2
    by_cases hL : L = []
    · subst hL
      obtain ⟨f1, f2, f3⟩ := HF.out (free_of_nil HCL.out)
      have F1 := Lib.hid f1; have F2 := Lib.hid f2; have F3 := Lib.hid f3
      clear f1 f2 f3
      simp only [List.length_nil] at hln
      go_wp2_with fail
      go_ret3
      exact ⟨by rw [F1.out, F2.out, F3.out]; rfl, HB2.out⟩
    · have hn : 0 < L.length := List.length_pos_iff.2 hL
      have HNF := Lib.hid (not_free HCL.out hL)
      have hsm := cl_small HCL.out HOK.out.keys h5
      have hrg : (Instr.range 82 (.map (some M))).run Try.prog w2 = .ok (.pointer (some ⟨w2.heap.size, 0, none⟩)) (w2.alloc (.mapIter (some M) c #[] c)) := by
        simp [Instr.range, Sem.run_bind, run_underlying Try.underlying82, Result.andThen_ok, run_getMap HM.out]
      have hni : ((L.length : Int) == 0) = false := by rw [beq_eq_false_iff_ne]; omega
      clear hL
      go_wp2_with fail
      clear hrg hln
      go_loopw [7, 8] (fun s7 _ wr => ∃ v U seen, v = s7 ∧ Below w2.heap.size w2 wr ∧ wr.heap[w2.heap.size]? = some (.mapIter (some M) c seen c) ∧ wr.ownsRow (w2.heap.size + 1) 98 2 v U.length (prs U) ∧
          (∀ x, x ∈ U ↔ ∃ e ∈ L, e.2.2 ∈ seen ∧ e.1 = x) ∧ U.length + (L.filter fun e => !seen.contains e.2.2).length ≤ L.length) (fun _ _ wr => unmet (wr.heap[M]?) (wr.heap[w2.heap.size]?))
      case atStart =>
        refine ⟨_, [], #[], rfl, bal (bz _) _, heap_alloc_new _ _, World.ownsRow_nil _ _ _ _, by simp, by simp; exact List.length_filter_le _ _⟩
      case round =>
        obtain ⟨v, U, seen, rfl, hB, hit, hor, hU, hUl⟩ := hrel
        obtain ⟨av, cv, rfl⟩ := owns_form hor
        have hmz := (Array.getElem?_eq_some_iff.1 HM.out).1
        have hMr := (hB.block _ hmz).trans HM.out
        rcases run_nextL hMr HOK.out hit with ⟨hall, hnx⟩ | ⟨e, he, hes, n, hnx⟩
        · have hU' : ∀ x, x ∈ U ↔ ∃ e ∈ L, e.1 = x := fun x => (hU x).trans ⟨fun ⟨e, h1, _, h3⟩ => ⟨e, h1, h3⟩, fun ⟨e, h1, h3⟩ => ⟨e, h1, hall e h1, h3⟩⟩
          have hu1 : 1 ≤ U.length := by
            have hm : (L[0]).1 ∈ U := (hU' _).2 ⟨_, List.getElem_mem hn, rfl⟩
            exact List.length_pos_of_mem hm
          obtain ⟨i, k, hfc, hbk⟩ := first_of_keys HCL.out U hU' hu1
          obtain ⟨f1, f2, f3⟩ := HC.out i k hfc HNF.out
          have F1 := Lib.hid f1; have F2 := Lib.hid f2; have F3 := Lib.hid f3
          have HBP := Lib.hid (bestp_any _ U wr (RdP.of_owns hor) (by omega) hu1)
          rw [hbk] at HBP
          have HB := Lib.hid hB
          clear f1 f2 f3 hfc hbk hU hU' hall hit hor hB hMr
          unfold kv at HBP
          simp only at HBP
          go_wp2_with fail
          refine HBP.out.mono ?_
          rintro e w3 ⟨rfl, hB3⟩
          have HB3 := Lib.hid hB3; clear hB3
          go_wp2_with fail
          go_quiet (fail)
          go_wp2_with fail
          go_ret3
          exact ⟨by rw [F1.out, F2.out, F3.out]; rfl, Below.drewN' _ (bal (btr HB2.out (btr HB.out HB3.out)) _)⟩
        · have HSN := Lib.hid hes; have HE := Lib.hid he; have HU := Lib.hid hU; have HOR := Lib.hid hor; have HIT := Lib.hid hit; have HB := Lib.hid hB; have HMR := Lib.hid hMr
          clear hes he hU hor hit hB hMr
          go_wp2_with fail
          clear hnx
          obtain ⟨⟨k1, k2⟩, m, t⟩ := e
          have hrI := (Array.getElem?_eq_some_iff.1 HIT.out).1
          have hbr := HB.out.size
          have hMn : ((wr.drewN n).putObj w2.heap.size (.mapIter (some M) c (seen.push t) c)).heap[M]? = some (.map (entsOf L) c) := (World.putObj_heap_other (by omega)).trans HMR.out
          have hnI : ((wr.drewN n).putObj w2.heap.size (.mapIter (some M) c (seen.push t) c)).heap[w2.heap.size]? = some (.mapIter (some M) c (seen.push t) c) := World.putObj_heap_same hrI
          have hen := run_entryL hMn HOK.out HE.out hnI
          have hzn : ((wr.drewN n).putObj w2.heap.size (.mapIter (some M) c (seen.push t) c)).heap.size = wr.heap.size := by simp [World.drewN]
          have hBn : Below w2.heap.size w2 ((wr.drewN n).putObj w2.heap.size (.mapIter (some M) c (seen.push t) c)) := below_put (Below.drewN' n HB.out) _ (Nat.le_refl _)
          have hOn : ((wr.drewN n).putObj w2.heap.size (.mapIter (some M) c (seen.push t) c)).ownsRow (w2.heap.size + 1) 98 2 (.slice av U.length cv) U.length (prs U) := by
            refine World.ownsRow.kept (owns_kept HOR.out (Below.drewN' n (bz _))) (grownBy_putObj' _ _ _) ?_
            cases hv : (Value.slice av U.length cv).ownBlock with
            | none => exact .inl rfl
            | some q => exact .inr (by intro e; cases e; have := (HOR.out.lt _ hv).1; omega)
          have HMN := Lib.hid hMn; have HNI := Lib.hid hnI; have HBN := Lib.hid hBn; have HON := Lib.hid hOn
          clear hMn hnI hBn hOn
          simp only at hen HMN HNI HBN HON hzn
          generalize (wr.drewN n).putObj w2.heap.size (.mapIter (some M) c (seen.push t) c) = wn at *
          have hbn : w2.heap.size < wn.heap.size := by omega
          clear hzn
          unfold kv at hen
          simp only at hen
          go_wp2_with (at_builtin; refine wpList_append_pair rfl _ _ rfl (show Try.prog.underlying 99 = some (.slice 98) by kernel_rfl) info98 (HON.out.alloc _) (by simp; omega) k1 k2 rfl rfl (by simp) (by omega) ?_)
          intro v' w' hown hgrow
          have HOWN := Lib.hid hown; have HGROW := Lib.hid hgrow
          clear hown hgrow hen
          go_wp2_with fail
          go_roundw
          case rel =>
            have hO2 := (HON.out.alloc (.cells #[.int .i64 k1, .int .i64 k2] 98)).alloc (.cells #[.int .i64 k1, .int .i64 k2] 98)
            have hk := append_keep (j := w2.heap.size) hO2 HGROW.out (by omega) (by simp; omega)
            refine ⟨v', U ++ [(k1, k2)], seen.push t, rfl, append_below (bal (bal HBN.out _) _) hO2 HGROW.out (by omega), hk.trans ((Below.heap_alloc _ _ _ (by simp; omega)).trans ((Below.heap_alloc _ _ _ hbn).trans HNI.out)), by rw [List.length_append]; exact HOWN.out, fun x => ?_, ?_⟩
            · rw [List.mem_append, List.mem_singleton, HU.out x]
              constructor
              · rintro (⟨e, h1, h2, h3⟩ | rfl)
                · exact ⟨e, h1, Array.mem_push.2 (.inl h2), h3⟩
                · exact ⟨_, HE.out, Array.mem_push.2 (.inr rfl), rfl⟩
              · rintro ⟨e, h1, h2, h3⟩
                rcases Array.mem_push.1 h2 with h | h
                · exact .inl ⟨e, h1, h, h3⟩
                · right
                  have := born_inj HOK.out h1 HE.out h
                  rw [← h3, this]
            · have := unmet_lt HOK.out (fun x h => h) HE.out HSN.out
              rw [List.length_append]
              simp only [List.length_cons, List.length_nil] at this ⊢
              omega
          case measure =>
            have hO2 := (HON.out.alloc (.cells #[.int .i64 k1, .int .i64 k2] 98)).alloc (.cells #[.int .i64 k1, .int .i64 k2] 98)
            have hk := append_keep (j := w2.heap.size) hO2 HGROW.out (by omega) (by simp; omega)
            have hk2 := append_keep (j := M) hO2 HGROW.out (by omega) (by simp; omega)
            have e1 := hk.trans ((Below.heap_alloc _ _ _ (by simp; omega)).trans ((Below.heap_alloc _ _ _ hbn).trans HNI.out))
            have e2 := hk2.trans ((Below.heap_alloc _ _ _ (by simp; omega)).trans ((Below.heap_alloc _ _ _ (by omega)).trans HMN.out))
            rw [HMR.out, HIT.out, e1, e2, unmet_eq, unmet_eq]
            exact unmet_lt HOK.out (fun x h => h) HE.out HSN.out
  · have HO := Lib.hid (open_no _ _ V [] w hx0 (rdI_nil _ _) hl (by simp) (by rw [openE_nil]; exact hc))
    have e1 : clA V = 0 := by unfold clA; rw [if_neg hc]
    have e2 : clK V = 0 := by unfold clK; rw [if_neg hc]
    have e3 : clE' V = checkP V := by unfold clE'; rw [if_neg hc]
    rw [e1, e2, e3]; clear e1 e2 e3
    rw [openE_nil] at HO
    have hcb : (checkP V != 0) = true := by simpa using hc
    have hce : (checkP V == 0) = false := by simpa using hc
    clear hc
    generalize checkP V = q at *
    go_enter Try.func33, Try.ntmps33
    go_wp2_with fail
    refine HO.out.mono ?_
    rintro e w2 ⟨rfl, hB2⟩
    go_wp2_with fail
    go_ret3
    exact ⟨rfl, hB2⟩
end Go.Proofs.Ytooddicegkiiiaa
