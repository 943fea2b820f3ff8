/- Jobs that are copied into a row of the call's own, and one whose waits are turned; no condition. -/
import Derived.Test.YteknehlkdgamjaaGreatMK7
import Derived.Test.YteknehlkdgamjaaGreatMU1
namespace Go.Proofs.YteknehlkdgamjaaGreat
open Go.RowKit Go.Shelf

theorem jobs_vals {w : World} {ad : Addr} {n c : Nat} {J : List Job} (h : RdJ w (.slice (some ad) n c) J) :
    ∃ es : List Value, es.length = J.length ∧ (∀ i e, es[i]? = some e → RdI w .i64 e (job J i).ws) ∧ ∀ k u, (jcs J es)[k]? = some u → w.cell? (ad.add k) = some u ∧ ad.block < w.heap.size := by
  have key : ∀ j, ∃ e, j < J.length → ad.block < w.heap.size ∧ w.cell? (ad.add (j * 3)) = some (.int .i64 (job J j).lo) ∧ w.cell? (ad.add (j * 3 + 1)) = some (.int .i64 (job J j).hi) ∧ w.cell? (ad.add (j * 3 + 2)) = some e ∧ RdI w .i64 e (job J j).ws := fun j => by
    by_cases hj : j < J.length
    · obtain ⟨b, off, a', c', e, g0, g1, g2, g3, g4⟩ := h.get j hj
      cases e
      refine ⟨_, fun _ => ⟨g0, ?_, ?_, ?_, g4⟩⟩
      · rw [Addr.add_mid]; exact g1
      · rw [Addr.add_mid]; exact g2
      · rw [Addr.add_mid]; exact g3
    · exact ⟨.int .i64 0, fun h => absurd h hj⟩
  obtain ⟨f, hf⟩ := Classical.axiomOfChoice key
  have hl : ((List.range J.length).map f).length = J.length := by simp
  refine ⟨(List.range J.length).map f, hl, fun i e he => ?_, fun k u hk => ?_⟩
  · have hi : i < J.length := by
      have := (List.getElem?_eq_some_iff.1 he).1
      simpa using this
    rw [List.getElem?_map, List.getElem?_range hi] at he
    cases he
    exact (hf i hi).2.2.2.2
  · have hk3 : k < J.length * 3 := by
      have := (List.getElem?_eq_some_iff.1 hk).1
      rwa [jcs_len hl] at this
    have hj : k / 3 < J.length := by omega
    obtain ⟨j1, j2, j3⟩ := jcs_at hl (k / 3) hj
    obtain ⟨g0, g1, g2, g3, _⟩ := hf (k / 3) hj
    refine ⟨?_, g0⟩
    have hcase : k = k / 3 * 3 ∨ k = k / 3 * 3 + 1 ∨ k = k / 3 * 3 + 2 := by omega
    rcases hcase with e | e | e
    · rw [e] at hk ⊢
      rw [j1] at hk; cases hk; exact g1
    · rw [e] at hk ⊢
      rw [j2] at hk; cases hk; exact g2
    · rw [e] at hk ⊢
      rw [j3, List.getElem?_map, List.getElem?_range hj] at hk; cases hk; exact g3
theorem jcs_one : ∀ {J : List Job} {es : List Value}, (∀ e ∈ es, e.oneCell' = true) → ∀ u ∈ jcs J es, u.oneCell' = true
  | [], _, _, u, hu => by simp [jcs] at hu
  | _ :: _, [], _, u, hu => by simp [jcs] at hu
  | j :: J, e :: es, h, u, hu => by
    simp only [jcs, List.mem_cons] at hu
    rcases hu with rfl | rfl | rfl | hu
    · rfl
    · rfl
    · exact h _ (by simp)
    · exact jcs_one (fun e he => h e (by simp [he])) u hu
/-- 'append' of all jobs that a slice reads to an empty row of the call's own. -/
theorem wpList_append_jobs {ops : Array Oper} {rest : List Oper} {o : Oper} {a : Act} {w : World} {Q : Exit → Act → World → Prop} {wO : World} {base c : Nat} {v0 : Value} {ad : Addr} {J : List Job}
    (h0 : w.ownsRow base 62 3 v0 0 []) (hr : RdJ wO (.slice (some ad) J.length c) J) (hB : Below wO.heap.size wO w) (hl : J.length ≤ 1000) (hgd : o.guard = none) (s x : Operand)
    (ho : o.op = .call { callee := .builtin .append, args := #[s, x], argTypes := #[22, 22] }) (hs : a.eval s = v0) (hx : a.eval x = .slice (some ad) J.length c) (hb : base ≤ w.heap.size)
    (H : ∀ v' w' es, es.length = J.length → (∀ i e, es[i]? = some e → RdI wO .i64 e (job J i).ws) → w'.ownsRow base 62 3 v' J.length (jcs J es) → w.grownBy w' v0.ownBlock → wpList Tryz.prog ops Q rest (a.put o.dst v') w') :
    wpList Tryz.prog ops Q (o :: rest) a w := by
  obtain ⟨i0, hi, hz0, hz1, hz2⟩ := info_parts infoJ
  obtain ⟨es, e1, e2, e3⟩ := jobs_vals hr
  have e4 : ∀ e ∈ es, e.oneCell' = true := fun e he => by
    obtain ⟨i, hi, rfl⟩ := List.getElem_of_mem he
    obtain ⟨_, _, hh, _⟩ := e2 i _ (List.getElem?_eq_getElem hi)
    rw [hh]; rfl
  refine wpList_append_own_at _ hgd s x 22 ho base 62 i0 (.agg #[.int .i64 0, .int .i64 0, .slice none 0 0]) 3 40 Tryz.underlying22 hi hz0 hz1 hz2 rfl (by decide) v0 0 [] hs h0 ad J.length c (jcs J es) hx (jcs_len e1) (fun k u hk => by obtain ⟨h3, h4⟩ := e3 k u hk; exact (hB.cell (p := ad.add k) (by unfold Addr.add; split <;> exact h4)).trans h3) (jcs_one e4)
    (by simp only [maxLen]; omega) (by omega) hb ?_
  intro v' w' h1 h2 _ _
  refine H v' w' es e1 e2 ?_ h2
  rw [Nat.zero_add, List.nil_append] at h1
  exact h1
/-- The waits of one job of a copied row are turned. -/
theorem more_stored {w w' : World} {J : List Job} {es : List Value} {g cap i k : Nat} {e : Value} {n : Nat} (hn : n = J.length) (hi : i < J.length) (hl : es.length = J.length)
    (ho : w.ownsRow 0 62 3 (.slice (some ⟨g, 0, none⟩) n cap) n (jcs J es)) (he : ∀ j f, es[j]? = some f → RdI w' .i64 f (job J j).ws) (hw : RdI w' .i64 e (ints (fltN (moreP J i k) J.length)))
    (hF : ∀ q, w'.cell? ⟨g, q, none⟩ = if q = i * 3 + 2 then some e else w.cell? ⟨g, q, none⟩) (hg : g < w'.heap.size) (hcap : n ≤ cap) (hmx : cap ≤ maxLen) :
    RdJ w' (.slice (some ⟨g, 0, none⟩) n cap) (moreJ J i k) := by
  subst hn
  refine ⟨_, cap, by rw [more_len], by rw [more_len]; exact hcap, hmx, fun _ => ⟨g, 0, rfl, hg, fun j hj => ?_⟩⟩
  rw [more_len] at hj
  have c := fun q (hq : q < J.length * 3) => ho.cellAt q hq
  obtain ⟨j1, j2, j3⟩ := jcs_at hl j hj
  have hv : es[j]? = some (es[j]'(by rw [hl]; exact hj)) := List.getElem?_eq_getElem (by rw [hl]; exact hj)
  rw [Nat.zero_add, hF, hF, hF, if_neg (by omega), if_neg (by omega), c _ (by omega), c _ (by omega), j1, j2, more_job hi]
  by_cases h : j = i
  · rw [if_pos h, if_pos (by omega)]
    subst h
    exact ⟨rfl, rfl, e, rfl, hw⟩
  · rw [if_neg h, if_neg (by omega), c _ (by omega), j3, hv]
    exact ⟨rfl, rfl, _, rfl, he j _ hv⟩
end Go.Proofs.YteknehlkdgamjaaGreat
