/- Merged texts: the evaluator: memory, stores, appends; no condition. -/
import Derived.Test.YtpeminhnjdakiaaGreatMEa
import Derived.Deep.AppendSrc
import Derived.OrdersIn
import Derived.RangeFuncIn
import Derived.RangeFuncLeaves
import Derived.RangeFuncRecord
import Derived.RangeFuncNested
import Derived.RangeFuncCalls
import Derived.LoopIn
import Derived.LoopNIn
import Derived.Scope
section
namespace Go.Ev
section
variable {P : Program} {ρ : Rn} {base mark : Nat} {h h' : Hp} {w : World}

theorem allL_all {α : Type} {f : α → Bool} : ∀ {l : List α}, allL f l = true → ∀ a ∈ l, f a = true
  | [], _, a, ha => by cases ha
  | b :: l, h, a, ha => by
    have h : (Bool.rec false (allL f l) (f b) : Bool) = true := h
    cases hb : f b
    · rw [hb] at h; cases h
    · rw [hb] at h
      cases ha with
      | head => exact hb
      | tail _ ha => exact allL_all (l := l) h a ha
theorem one_rel {a : AV} {v : Value} (h : VR ρ a v) (ho : a.one = true) : v.oneCell' = true := by
  cases h <;> first | rfl | cases ho
theorem ones_rel {l : List AV} {us : List Value} (h : VRs ρ l us) (ho : allL AV.one l = true) : ∀ u ∈ us, u.oneCell' = true := by
  intro u hu
  obtain ⟨i, hi⟩ := List.getElem?_of_mem hu
  obtain ⟨a, ha, hv⟩ := h.getV hi
  exact one_rel hv (allL_all ho a (List.mem_of_getElem? ha))
theorem frozen_row {b o : Nat} {cs : Array Value} {t : TypeId} (h : w.heap[b]? = some (.cells cs t (0, 0))) : w.frozen? ⟨b, o, none⟩ = false := by
  simp [World.frozen?, h]
/-- A row turns; what shares memory with it is gone, or not reached. -/
theorem RelH.store (hr : RelH P ρ base h w) {r i : Nat} {t : TypeId} {cells cells' : List AV} {f : Bool} {g : Option Nat} (hrow : h.rows.get r = some (.row t cells f g)) {p : Pl} (hp : ρ r = some p)
    {us : List Value} (hlen : cells'.length = cells.length) (hfit : i + us.length ≤ cells.length)
    (hnew : ∀ j a, cells'[j]? = some a → (i ≤ j ∧ j < i + us.length ∧ ∃ u, us[j - i]? = some u ∧ VR ρ a u) ∨ (¬ (i ≤ j ∧ j < i + us.length) ∧ cells[j]? = some a)) (hne : us ≠ []) :
    RelH P ρ base (((h.kill mark r g (i + 1)).put r (.row t cells' f g)).touch mark r) (w.setCells p.b (p.o + i) us) ∧ Post ρ h w mark ρ (((h.kill mark r g (i + 1)).put r (.row t cells' f g)).touch mark r) (w.setCells p.b (p.o + i) us) := by
  obtain ⟨hl, hk, hsep⟩ := kill_spec (mark := mark) (i := i + 1) hr hrow
  obtain ⟨p0, hp0, cs, hb, hcs, hfull⟩ := hr.obj r _ hrow (by simp)
  rw [hp] at hp0; cases hp0
  have hpos : 0 < us.length := by cases us with
    | nil => exact absurd rfl hne
    | cons _ _ => simp
  have hsz : p.o + i + us.length ≤ cs.size := by
    have hlt : i + us.length - 1 < cells.length := by omega
    obtain ⟨v, hv, _⟩ := hcs (i + us.length - 1) cells[i + us.length - 1] (by simp [hlt])
    have := (Array.getElem?_eq_some_iff.1 hv).1
    omega
  obtain ⟨cs', e1, e2, e3⟩ := setCells_heap p.b us (p.o + i) w cs t (0, 0) hb hsz
  obtain ⟨q1, q2, q3, q4⟩ := setCells_rest p.b us (p.o + i) w
  obtain ⟨t1, t2, t3⟩ := touch_rows mark ((h.kill mark r g (i + 1)).put r (.row t cells' f g)) r
  obtain ⟨t4, t5⟩ := touch_mods mark ((h.kill mark r g (i + 1)).put r (.row t cells' f g)) r
  have rows : ∀ s, (((h.kill mark r g (i + 1)).put r (.row t cells' f g)).touch mark r).rows.get s = if s = r then some (.row t cells' f g) else (h.kill mark r g (i + 1)).rows.get s := by
    intro s; rw [t1]; exact Tr.get_set _ _ _ _
  have hrr : (h.kill mark r g (i + 1)).rows.get r = some (.row t cells f g) := by rw [hl.same]; exact hrow
  have newRow : ObjR P ρ p (w.setCells p.b (p.o + i) us) (.row t cells' f g) := by
    refine ⟨cs', e1, fun j a ha => ?_, fun hf => ?_, fun hf => ?_⟩
    · rcases hnew j a ha with ⟨h1, h2, u, h3, h4⟩ | ⟨h1, h2⟩
      · refine ⟨u, ?_, h4⟩
        rw [e3, if_pos (by omega)]
        rw [show p.o + j - (p.o + i) = j - i by omega]; exact h3
      · obtain ⟨v, h3, h4⟩ := hcs j a h2
        refine ⟨v, ?_, h4⟩
        rw [e3, if_neg (by omega)]; exact h3
    · obtain ⟨h1, h2, h3⟩ := hfull.1 hf
      exact ⟨h1, by omega, by omega⟩
    · obtain ⟨h1, h2⟩ := hfull.2 hf
      exact ⟨h1, by omega⟩
  constructor
  · refine ⟨?_, ?_, ?_, ?_⟩
    · intro s q e
      rw [t3, q4]
      exact hk.dom s q e
    · intro s o e d
      rw [rows] at e
      by_cases hs : s = r
      · subst hs
        rw [if_pos rfl] at e
        cases e
        exact ⟨p, hp, newRow⟩
      · rw [if_neg hs] at e
        obtain ⟨q, h1, h2⟩ := hk.obj s o e d
        refine ⟨q, h1, ?_⟩
        by_cases hqb : q.b = p.b
        · obtain ⟨h3, t', c', f', rfl, h5⟩ := hsep s o q p hs e d h1 hp hqb
          obtain ⟨cs2, k1, k2, k3⟩ := h2
          rw [hqb, hb] at k1
          cases k1
          refine ⟨cs', by rw [hqb]; exact e1, fun j a ha => ?_, fun hf => ?_, fun hf => ?_⟩
          · obtain ⟨v, k4, k5⟩ := k2 j a ha
            refine ⟨v, ?_, k5⟩
            have := (List.getElem?_eq_some_iff.1 ha).1
            rw [e3, if_neg (by omega)]; exact k4
          · obtain ⟨k4, k5, k6⟩ := k3.1 hf
            exact ⟨k4, by omega, k6⟩
          · obtain ⟨k4, k5⟩ := k3.2 hf
            exact ⟨k4, by omega⟩
        · exact h2.keep (.refl _) (setCells_other p.b q.b hqb us _ w)
    · intro s q o o' ps pq h1 d1 h2 d2 hne' h3 h4
      rw [rows] at h1 h2
      by_cases hs : s = r
      · subst hs
        rw [if_pos rfl] at h1; cases h1
        have hq : q ≠ s := fun e => hne' e.symm
        rw [if_neg hq] at h2
        exact hk.sep s q (.row t cells f g) o' ps pq hrr (by simp) h2 d2 hne' h3 h4
      · rw [if_neg hs] at h1
        by_cases hq : q = r
        · subst hq
          rw [if_pos rfl] at h2; cases h2
          exact hk.sep s q o (.row t cells f g) ps pq h1 d1 hrr (by simp) hne' h3 h4
        · rw [if_neg hq] at h2
          exact hk.sep s q o o' ps pq h1 d1 h2 d2 hne' h3 h4
    · intro s o g' e d e'
      rw [rows] at e
      rw [t2]
      by_cases hs : s = r
      · subst hs
        rw [if_pos rfl] at e; cases e
        exact hk.grp s _ g' hrr (by simp) e'
      · rw [if_neg hs] at e
        exact hk.grp s o g' e d e'
  · refine ⟨.refl _, fun _ _ h => .inl h, by rw [t3]; exact Nat.le_of_eq hl.next.symm, q1, q2, q3, Nat.le_of_eq q4.symm, ?_, fun s hs => t4 s (hl.modsLe s hs), ?_, ?_⟩
    · intro b hlt hno
      exact setCells_other p.b b (fun e => hno r _ p hrow (by simp) hp e.symm) us _ w
    · intro s hlt hn
      have hs : s ≠ r := fun e => by subst e; exact hn (t5 hlt)
      rw [rows, if_neg hs]
      exact hl.mods s hlt (fun h => hn (t4 s h))
    · intro s o hlt e d
      rw [rows] at e
      by_cases hs : s = r
      · subst hs; exact ⟨_, hrow, by simp⟩
      · rw [if_neg hs] at e
        exact ⟨o, hl.live s o e d, d⟩
theorem storeCells_run (hr : RelH P ρ base h w) {r off : Nat} {vs : List AV} (hs : Ev.storeCells mark h r off vs = some h') {p : Pl} (hp : ρ r = some p) {us : List Value} (hv : VRs ρ vs us) :
    (∀ j, j < us.length → (w.cell? ⟨p.b, p.o + off + j, none⟩).isSome = true) ∧ (∀ j, j < us.length → w.frozen? ⟨p.b, p.o + off + j, none⟩ = false) ∧ (∀ u ∈ us, u.oneCell' = true) ∧
      RelH P ρ base h' (w.setCells p.b (p.o + off) us) ∧ Post ρ h w mark ρ h' (w.setCells p.b (p.o + off) us) := by
  cases hv with
  | nil =>
    injection hs with hs
    subst hs
    exact ⟨fun j hj => (by simp at hj), fun j hj => (by simp at hj), fun u hu => (by cases hu), hr, Post.refl _ _ _ _⟩
  | cons hv1 hv2 =>
    rename_i a v l cs
    have hv : VRs ρ (a :: l) (v :: cs) := .cons hv1 hv2
    have hlen := hv.length
    unfold Ev.storeCells at hs
    simp only at hs
    split at hs
    · rename_i t cells full grp hrow
      cases hc : (Nat.ble (Nat.add off (sizeL (a :: l))) (sizeL cells) && allL AV.one (a :: l))
      · rw [hc] at hs; cases hs
      · rw [hc] at hs
        simp only [cond_true] at hs
        injection hs with hs
        rw [Bool.and_eq_true, nat_ble, decide_eq_true_eq, sizeL_eq, sizeL_eq] at hc
        obtain ⟨hc1, hc2⟩ := hc
        have hc1 : off + (a :: l).length ≤ cells.length := hc1
        obtain ⟨p0, hp0, cs0, hb, hcs, hfull⟩ := hr.obj r _ hrow (by simp)
        rw [hp] at hp0; cases hp0
        refine ⟨fun j hj => ?_, fun j hj => frozen_row hb, ones_rel hv hc2, ?_⟩
        · have hlt : off + j < cells.length := by omega
          obtain ⟨u, hu, _⟩ := hcs (off + j) cells[off + j] (by simp [hlt])
          rw [Nat.add_assoc, cell_row hb hu]; rfl
        · rw [← hs]
          refine hr.store hrow hp (putAt_length _ _ _) (by omega) (fun j b hb' => ?_) (by simp)
          rw [putAt_get _ _ _ _ hc1] at hb'
          by_cases hj : off ≤ j ∧ j < off + (a :: l).length
          · rw [if_pos hj] at hb'
            obtain ⟨u, h1, h2⟩ := hv.get hb'
            exact .inl ⟨hj.1, by omega, u, h1, h2⟩
          · rw [if_neg hj] at hb'
            exact .inr ⟨by omega, hb'⟩
    · cases hs
theorem storeVar_run (hr : RelH P ρ base h w) {t : TypeId} {r off : Nat} {v : AV} (hs : Ev.storeVar P mark h t r off v = some h') {p : Pl} (hp : ρ r = some p) {u : Value} (hv : VR ρ v u) :
    ∃ w', (Go.storeVar t ⟨p.b, p.o + off, none⟩ u).run P w = .ok () w' ∧ RelH P ρ base h' w' ∧ Post ρ h w mark ρ h' w' := by
  unfold Ev.storeVar at hs
  split at hs
  · rename_i n hn
    cases hc : Nat.beq (sizeL v.cells) n
    · rw [hc] at hs; cases hs
    · rw [hc] at hs
      simp only [cond_true] at hs
      rw [nat_beq, decide_eq_true_eq, sizeL_eq] at hc
      obtain ⟨h1, h2, h3, h4, h5⟩ := storeCells_run hr hs hp hv.cells
      have hlen : u.cells.size = n := by rw [← hc, hv.cells.length]; simp
      refine ⟨_, ?_, h4, h5⟩
      unfold Go.storeVar
      simp only [Sem.run_bind, sizeOf_run hn, Result.andThen_ok, Sem.run_ite]
      rw [if_neg (by omega)]
      have := run_storeCells_cells (P := P) p.b (p.o + off) u.cells.toList 0 w (by simpa using h1) (by simpa using h2) h3
      simpa using this
  · cases hs
end
end Go.Ev
end

section
namespace Go.Ev
section
variable {P : Program} {ρ : Rn} {base mark : Nat} {h h' : Hp} {w w' : World}

/-- Only one block turns, and of it nothing before a place. -/
structure Turn (w w' : World) (b n : Nat) : Prop where
  os : w'.os = w.os
  tape : w'.tape = w.tape
  output : w'.output = w.output
  size : w.heap.size ≤ w'.heap.size
  other : ∀ k, k < w.heap.size → k ≠ b → w'.heap[k]? = w.heap[k]?
  row : ∀ cs t, w.heap[b]? = some (.cells cs t (0, 0)) → ∃ cs', w'.heap[b]? = some (.cells cs' t (0, 0)) ∧ cs'.size = cs.size ∧ ∀ j, j < n → cs'[j]? = cs[j]?
theorem Turn.same (w : World) (b n : Nat) : Turn w w b n := ⟨rfl, rfl, rfl, Nat.le_refl _, fun _ _ _ => rfl, fun cs _ h => ⟨cs, h, rfl, fun _ _ => rfl⟩⟩
theorem Turn.push {o : Obj} (hw : w'.heap = w.heap.push o) (h1 : w'.os = w.os) (h2 : w'.tape = w.tape) (h3 : w'.output = w.output) (b n : Nat) (hb : b < w.heap.size) : Turn w w' b n :=
  ⟨h1, h2, h3, by rw [hw]; simp, fun k hk _ => by rw [hw, Array.getElem?_push, if_neg (by omega)], fun cs t h => ⟨cs, by rw [hw, Array.getElem?_push, if_neg (by omega)]; exact h, rfl, fun _ _ => rfl⟩⟩
theorem Turn.cells {b o n : Nat} {us : List Value} {cs : Array Value} {t : TypeId} (hb : w.heap[b]? = some (.cells cs t (0, 0))) (hl : o + us.length ≤ cs.size) (hn : n ≤ o) : Turn w (w.setCells b o us) b n := by
  obtain ⟨q1, q2, q3, q4⟩ := setCells_rest b us o w
  refine ⟨q1, q2, q3, Nat.le_of_eq q4.symm, fun k _ hk => setCells_other b k hk us o w, fun cs' t' h => ?_⟩
  rw [hb] at h; cases h
  obtain ⟨c, e1, e2, e3⟩ := setCells_heap b us o w cs t (0, 0) hb hl
  exact ⟨c, e1, e2, fun j hj => by rw [e3, if_neg (by omega)]⟩

/-- More groups. -/
def GLe (a b : Tr (List Nat)) : Prop := ∀ g ms, a.get g = some ms → ∃ ms', b.get g = some ms' ∧ ∀ m ∈ ms, m ∈ ms'
theorem GLe.refl (a : Tr (List Nat)) : GLe a a := fun _ ms h => ⟨ms, h, fun _ h => h⟩
noncomputable def turned (mark : Nat) (h : Hp) (r i : Nat) (g : Option Nat) (o : AObj) : Hp := ((h.kill mark r g i).put r o).touch mark r
theorem turned_rows (mark : Nat) (h : Hp) (r i : Nat) (g : Option Nat) (o : AObj) (s : Nat) : (turned mark h r i g o).rows.get s = if s = r then some o else (h.kill mark r g i).rows.get s := by
  unfold turned
  rw [(touch_rows mark _ r).1]
  exact Tr.get_set _ _ _ _
/-- A row turns, or goes. -/
theorem RelH.turn (hr : RelH P ρ base h w) {r i : Nat} {t : TypeId} {cells : List AV} {f : Bool} {g : Option Nat} (hrow : h.rows.get r = some (.row t cells f g)) {p : Pl} (hp : ρ r = some p) {m : Nat} (hm : i ≤ m + 1) (hw : Turn w w' p.b (p.o + m))
    {o : AObj} (ho : o ≠ .dead → ObjR P ρ p w' o ∧ (∃ t' c f', o = .row t' c f' (grpOf o)) ∧ ∀ x, g = some x → grpOf o = some x) {G : Tr (List Nat)} (hG : GLe (h.kill mark r g i).grps G) (hin : ∀ x, o ≠ .dead → grpOf o = some x → ∃ ms, G.get x = some ms ∧ r ∈ ms) :
    RelH P ρ base { turned mark h r i g o with grps := G } w' ∧ Post ρ h w mark ρ { turned mark h r i g o with grps := G } w' := by
  obtain ⟨hl, hk, hsep⟩ := kill_spec (mark := mark) (i := i) hr hrow
  obtain ⟨t1, t2, t3⟩ := touch_rows mark ((h.kill mark r g i).put r o) r
  obtain ⟨t4, t5⟩ := touch_mods mark ((h.kill mark r g i).put r o) r
  have hrr : (h.kill mark r g i).rows.get r = some (.row t cells f g) := by rw [hl.same]; exact hrow
  have hnx : (turned mark h r i g o).next = h.next := t3.trans hl.next
  constructor
  · refine ⟨?_, ?_, ?_, ?_⟩
    · intro s q e
      have := hr.dom s q e
      have hsz := hw.size
      change s < (turned mark h r i g o).next ∧ _
      rw [hnx]
      exact ⟨this.1, this.2.1, by omega⟩
    · intro s o' e d
      rw [turned_rows] at e
      by_cases hs : s = r
      · subst hs
        rw [if_pos rfl] at e
        cases e
        exact ⟨p, hp, (ho d).1⟩
      · rw [if_neg hs] at e
        obtain ⟨q, h1, h2⟩ := hk.obj s o' e d
        refine ⟨q, h1, ?_⟩
        by_cases hqb : q.b = p.b
        · obtain ⟨h3, t', c', f', rfl, h5⟩ := hsep s o' q p hs e d h1 hp hqb
          obtain ⟨cs2, k1, k2, k3⟩ := h2
          rw [hqb] at k1
          obtain ⟨cs', e1, e2, e3⟩ := hw.row cs2 t' k1
          refine ⟨cs', by rw [hqb]; exact e1, fun j a ha => ?_, fun hf => ?_, fun hf => ?_⟩
          · obtain ⟨v, k4, k5⟩ := k2 j a ha
            refine ⟨v, ?_, k5⟩
            have := (List.getElem?_eq_some_iff.1 ha).1
            rw [e3 _ (by omega)]; exact k4
          · obtain ⟨k4, k5, k6⟩ := k3.1 hf
            exact ⟨k4, by omega, k6⟩
          · obtain ⟨k4, k5⟩ := k3.2 hf
            exact ⟨k4, by omega⟩
        · exact h2.keep (.refl _) (hw.other q.b (hr.dom s q h1).2.2 hqb)
    · intro s q o1 o2 ps pq h1 d1 h2 d2 hne h3 h4
      rw [turned_rows] at h1 h2
      by_cases hs : s = r
      · subst hs
        rw [if_pos rfl] at h1; cases h1
        have hq : q ≠ s := fun e => hne e.symm
        rw [if_neg hq] at h2
        rcases hk.sep s q (.row t cells f g) o2 ps pq hrr (by simp) h2 d2 hne h3 h4 with h5 | ⟨x, h5, h6, h7⟩
        · exact .inl h5
        · exact .inr ⟨x, (ho d1).2.2 x h5, h6, h7⟩
      · rw [if_neg hs] at h1
        by_cases hq : q = r
        · subst hq
          rw [if_pos rfl] at h2; cases h2
          rcases hk.sep s q o1 (.row t cells f g) ps pq h1 d1 hrr (by simp) hne h3 h4 with h5 | ⟨x, h5, h6, h7⟩
          · exact .inl h5
          · exact .inr ⟨x, h5, (ho d2).2.2 x h6, h7⟩
        · rw [if_neg hq] at h2
          exact hk.sep s q o1 o2 ps pq h1 d1 h2 d2 hne h3 h4
    · intro s o1 x e d e'
      rw [turned_rows] at e
      by_cases hs : s = r
      · subst hs
        rw [if_pos rfl] at e; cases e
        exact hin x d e'
      · rw [if_neg hs] at e
        obtain ⟨ms, h1, h2⟩ := hk.grp s o1 x e d e'
        obtain ⟨ms', h3, h4⟩ := hG x ms h1
        exact ⟨ms', h3, h4 s h2⟩
  · refine ⟨.refl _, fun _ _ h => .inl h, Nat.le_of_eq hnx.symm, hw.os, hw.tape, hw.output, hw.size, ?_, fun s hs => t4 s (hl.modsLe s hs), ?_, ?_⟩
    · intro b hlt hno
      exact hw.other b hlt (fun e => hno r _ p hrow (by simp) hp e.symm)
    · intro s hlt hn
      have hs : s ≠ r := fun e => by subst e; exact hn (t5 hlt)
      change (turned mark h r i g o).rows.get s = _
      rw [turned_rows, if_neg hs]
      exact hl.mods s hlt (fun h => hn (t4 s h))
    · intro s o1 hlt e d
      rw [turned_rows] at e
      by_cases hs : s = r
      · subst hs; exact ⟨_, hrow, by simp⟩
      · rw [if_neg hs] at e
        exact ⟨o1, hl.live s o1 e d, d⟩
/-- A name is given to a row that lies somewhere. -/
theorem RelH.add (hr : RelH P ρ base h w) {q : Pl} (hb : base ≤ q.b) (hq : q.b < w.heap.size) {ob : AObj} (hob : ObjR P (upd ρ h.next q) q w ob) (hsep : ∀ s o p, h.rows.get s = some o → o ≠ .dead → ρ s = some p → p.b ≠ q.b ∨ ∃ g, grpOf o = some g ∧ grpOf ob = some g ∧ p.o = q.o)
    {G : Tr (List Nat)} (hG : GLe h.grps G) (hin : ∀ g, grpOf ob = some g → ∃ ms, G.get g = some ms ∧ h.next ∈ ms) : RelH P (upd ρ h.next q) base { h.new ob with grps := G } w := by
  have hno := hr.noName (Nat.le_refl h.next)
  refine ⟨?_, ?_, ?_, ?_⟩
  · intro r p e
    unfold upd at e
    by_cases hrn : r = h.next
    · rw [if_pos hrn] at e
      cases e
      exact ⟨by rw [hrn]; exact Nat.lt_succ_self _, hb, hq⟩
    · rw [if_neg hrn] at e
      have := hr.dom r p e
      exact ⟨Nat.lt_succ_of_lt this.1, this.2⟩
  · intro r o e d
    have e : (h.rows.set h.next (some ob)).get r = some o := e
    rw [Tr.get_set] at e
    by_cases hrn : r = h.next
    · subst hrn
      rw [if_pos rfl] at e
      cases e
      exact ⟨q, upd_same _ _ _, hob⟩
    · rw [if_neg hrn] at e
      obtain ⟨p, e1, e2⟩ := hr.obj r o e d
      exact ⟨p, upd_le q hno r p e1, e2.keep (upd_le q hno) rfl⟩
  · intro r s a b pr ps e1 d1 e2 d2 hne e3 e4
    have e1 : (h.rows.set h.next (some ob)).get r = some a := e1
    have e2 : (h.rows.set h.next (some ob)).get s = some b := e2
    rw [Tr.get_set] at e1 e2
    unfold upd at e3 e4
    by_cases hrn : r = h.next
    · rw [if_pos hrn] at e1 e3
      cases e1; cases e3
      have hsn : s ≠ h.next := fun e => hne (hrn.trans e.symm)
      rw [if_neg hsn] at e2 e4
      rcases hsep s b ps e2 d2 e4 with h1 | ⟨g, h1, h2, h3⟩
      · exact .inl (Ne.symm h1)
      · exact .inr ⟨g, h2, h1, h3.symm⟩
    · rw [if_neg hrn] at e1 e3
      by_cases hsn : s = h.next
      · rw [if_pos hsn] at e2 e4
        cases e2; cases e4
        exact hsep r a pr e1 d1 e3
      · rw [if_neg hsn] at e2 e4
        exact hr.sep r s a b pr ps e1 d1 e2 d2 hne e3 e4
  · intro r a g e d e2
    have e : (h.rows.set h.next (some ob)).get r = some a := e
    rw [Tr.get_set] at e
    by_cases hrn : r = h.next
    · rw [if_pos hrn] at e
      cases e
      rw [hrn]; exact hin g e2
    · rw [if_neg hrn] at e
      obtain ⟨ms, h1, h2⟩ := hr.grp r a g e d e2
      obtain ⟨ms', h3, h4⟩ := hG g ms h1
      exact ⟨ms', h3, h4 r h2⟩
theorem Post.add (a : Post ρ h w mark ρ h' w') (hm : mark ≤ h'.next) (hno : ρ h'.next = none) {q : Pl} (hq : w.heap.size ≤ q.b ∨ ∃ s o p0, h.rows.get s = some o ∧ o ≠ .dead ∧ ρ s = some p0 ∧ p0.b = q.b) (ob : AObj) (G : Tr (List Nat)) :
    Post ρ h w mark (upd ρ h'.next q) { h'.new ob with grps := G } w' := by
  refine ⟨upd_le q hno, ?_, Nat.le_succ_of_le a.next, a.os, a.tape, a.output, a.size, a.keep, a.modsLe, ?_, ?_⟩
  · intro r p e
    unfold upd at e
    by_cases hrn : r = h'.next
    · rw [if_pos hrn] at e
      cases e
      exact .inr ⟨by rw [hrn]; exact a.next, hq⟩
    · rw [if_neg hrn] at e; exact .inl e
  · intro r hlt hn
    refine Eq.trans ?_ (a.mods r hlt hn)
    exact Tr.get_set_ne _ _ _ _ (by omega)
  · intro r o hlt e d
    have e : (h'.rows.set h'.next (some ob)).get r = some o := e
    have := a.next
    rw [Tr.get_set_ne _ _ _ _ (by omega)] at e
    exact a.alive r o hlt e d
end
end Go.Ev
end

section
namespace Go.Ev
section
variable {P : Program} {ρ : Rn} {base mark : Nat} {h h' : Hp} {w w' : World}

theorem grown_ge (w : World) (need old : Nat) (e : TypeId) : need ≤ grownCap w need old e := by
  unfold grownCap Question.cut
  exact Nat.le_add_right _ _
theorem zeroCells_size (z : Array Value) (n : Nat) : (Builtin.zeroCells z n).size = n * z.size := by simp [Builtin.zeroCells]
theorem fits_some {e : TypeId} {n : Nat} (h : fits P e n = true) {i : TypeInfo} (hi : P.info? e = some i) : n * i.bytes ≤ 1000000000 ∧ n ≤ 1000000000 := by
  unfold fits at h
  rw [hi] at h
  simp only [Bool.and_eq_true, nat_ble, decide_eq_true_eq] at h
  exact h
/-- What a new row behind an append is. -/
theorem apRow_rel {σ : Rn} {w0 w1 : World} {e : TypeId} {i : TypeInfo} {z : Value} {n c : Nat} {l : List AV} {us : List Value} (hi : P.info? e = some i) (hz : z.cells.size = i.size) (hl : VRs σ l us) (hlen : us.length = n * i.size) (hc : n ≤ c)
    (hw : w1.heap = w0.heap.push (.cells (us.toArray ++ Builtin.zeroCells z.cells (c - n)) e)) (g : Option Nat) : ObjR P σ ⟨w0.heap.size, 0, c, i.size⟩ w1 (.row e l false g) := by
  refine ⟨us.toArray ++ Builtin.zeroCells z.cells (c - n), by rw [hw]; simp, fun j a ha => ?_, fun _ => ⟨⟨i, hi, rfl⟩, ?_, ?_⟩, (fun h => by cases h)⟩
  · obtain ⟨v, h1, h2⟩ := hl.get ha
    refine ⟨v, ?_, h2⟩
    have := (List.getElem?_eq_some_iff.1 h1).1
    simp only [Nat.zero_add]
    rw [Array.getElem?_append_left (by simpa using this)]
    simpa using h1
  · simp only [Nat.zero_add, Array.size_append, zeroCells_size, List.size_toArray, hlen, hz]
    rw [← Nat.add_mul]
    exact Nat.mul_le_mul_right _ (by omega)
  · rw [hl.length, hlen]; exact Nat.mul_le_mul_right _ hc
/-- The cells of a source. -/
theorem srcCells_run {size n : Nat} {x : AV} {l : List AV} (hs : Ev.srcCells h size x n = some l) {u : Value} (hu : VR ρ x u) (hn : ∀ m, lenOf x = some m → n ≤ m) (hr : ∀ r, RowAt P ρ h r w) :
    ∃ cs, (Builtin.firstCells size n u).run P w = .ok cs.toArray w ∧ VRs ρ l cs ∧ cs.length = n * size ∧ ∀ w1 : World, w1.heap = w.heap → (Builtin.firstCells size n u).run P w1 = .ok cs.toArray w1 := by
  have main : ∀ {r off len cap : Nat} {b : Bool} {p : Pl} {c : Nat}, x = .slice r off len cap b → ρ r = some p → u = .slice (some ⟨p.b, p.o + off, none⟩) len c → ∃ cs, (Builtin.firstCells size n u).run P w = .ok cs.toArray w ∧ VRs ρ l cs ∧ cs.length = n * size ∧ ∀ w1 : World, w1.heap = w.heap → (Builtin.firstCells size n u).run P w1 = .ok cs.toArray w1 := by
    intro r off len cap b p c hx hp hu'
    subst hx
    obtain ⟨q, cs, h1, h2, h3, h4⟩ := loadCells_run (show Ev.loadCells h r off (n * size) = some l from hs) (hr r)
    rw [hp] at h1; cases h1
    have key : ∀ w1 : World, w1.heap = w.heap → (Builtin.firstCells size n u).run P w1 = .ok cs.toArray w1 := by
      intro w1 hw1
      subst hu'
      refine run_firstCells_some w1 size n ⟨p.b, p.o + off, none⟩ len c cs h3 (fun j v hv => ?_)
      rw [addr_add]
      have := h4 j v hv
      simpa [World.cell?, hw1] using this
    exact ⟨cs, key w rfl, h2, h3, key⟩
  have none0 : lenOf x = some 0 → Ev.srcCells h size x n = some [] → (∀ w1 : World, (Builtin.firstCells size 0 u).run P w1 = .ok #[] w1) → ∃ cs, (Builtin.firstCells size n u).run P w = .ok cs.toArray w ∧ VRs ρ l cs ∧ cs.length = n * size ∧ ∀ w1 : World, w1.heap = w.heap → (Builtin.firstCells size n u).run P w1 = .ok cs.toArray w1 := by
    intro h0 h1 h2
    have hn0 : n = 0 := by have := hn 0 h0; omega
    subst hn0
    rw [hs] at h1
    cases h1
    exact ⟨[], h2 w, .nil, by simp, fun w1 _ => h2 w1⟩
  cases hu <;> first | (exact absurd (show (none : Option (List AV)) = some l from hs) (by simp)) | skip
  · exact none0 rfl rfl (fun w1 => rfl)
  · exact main rfl ‹_› rfl
  · exact main rfl ‹_› rfl
  · rename_i a c
    refine none0 rfl rfl (fun w1 => ?_)
    cases a with
    | none => rfl
    | some a =>
      unfold Builtin.firstCells
      simp only [Nat.zero_mul]
      rfl
/-- A new row: the slice had no room. -/
theorem apNew_run (hr : RelH P ρ base h w) (hb : base ≤ w.heap.size) (hm : mark ≤ h.next) {e : TypeId} {i : TypeInfo} {z : Value} (hi : P.info? e = some i) (hz : i.zero = some z) (hzs : z.cells.size = i.size) {t tx ty : TypeId} (ht : P.underlying t = some (.slice e))
    {n : Nat} {cs : List AV} {v : AV} (ha : apNew P h e n cs = some (v, h')) {b : Option Addr} {sLen sCap : Nat} {x : Value} {m : Nat} {olds news : List Value} (hn : n = sLen + m) (hg : sCap < sLen + m)
    (hold : (Builtin.firstCells i.size sLen (.slice b sLen sCap)).run P w.drew = .ok olds.toArray w.drew) (hs : Src P i.size tx x m news w) (hrel : VRs ρ cs (olds ++ news)) (hlen : (olds ++ news).length = n * i.size) :
    ∃ u w' ρ', (Builtin.append_ #[t, tx] ty #[.slice b sLen sCap, x]).run P w = .ok u w' ∧ VR ρ' v u ∧ RelH P ρ' base h' w' ∧ Post ρ h w mark ρ' h' w' := by
  obtain ⟨hf, ha⟩ := sel_none ha
  injection ha with ha
  injection ha with ha1 ha2
  obtain ⟨f1, f2⟩ := fits_some hf hi
  have hfit : Builtin.nextslicecap (sLen + m) sCap * i.bytes ≤ 281474976710656 := growslice_fits hg (by rw [← hn]; omega)
  have hrun := run_append_grow_src (P := P) w t tx ty e i z ht hi hz b sLen sCap olds hold x m news hs hg (by omega) hfit
  have hge := grown_ge w (sLen + m) sCap e
  refine ⟨_, _, upd ρ h.next ⟨w.heap.size, 0, grownCap w (sLen + m) sCap e, i.size⟩, hrun, ?_, ?_⟩
  · rw [← ha1, hn]
    exact VR.rest (off := 0) (upd_same _ _ _) (by simpa using hge)
  · have hno := hr.noName (Nat.le_refl h.next)
    have := RelH.new (mark := mark) (w' := w.drew.alloc (.cells ((olds ++ news).toArray ++ Builtin.zeroCells z.cells (grownCap w (sLen + m) sCap e - (sLen + m))) e)) (ob := .row e cs false none)
      (p := ⟨w.heap.size, 0, grownCap w (sLen + m) sCap e, i.size⟩) hr hb hm rfl rfl rfl rfl rfl
      (apRow_rel hi hzs (hrel.mono (upd_le _ hno)) (by rw [hlen, hn]) hge rfl none) rfl
    rw [← ha2]
    exact this
end
end Go.Ev
end

section
namespace Go.Ev
section
variable {P : Program} {ρ : Rn} {base mark : Nat} {h h' : Hp} {w w' : World}

/-- In a slice's room. -/
theorem apRoom_run {t tx ty e : TypeId} {i : TypeInfo} (ht : P.underlying t = some (.slice e)) (hi : P.info? e = some i) (hr : RelH P ρ base h w) {r off len n cap : Nat} {new : List AV} {p : Pl} (hp : ρ r = some p) (hst : Ev.storeCells mark h r (Nat.add off (Nat.mul len i.size)) new = some h') {x : Value} {news : List Value}
    (hnew : VRs ρ new news) (hs : Src P i.size tx x n news w) (hroom : len + n ≤ cap) :
    ∃ w', (Builtin.append_ #[t, tx] ty #[.slice (some ⟨p.b, p.o + off, none⟩) len cap, x]).run P w = .ok (.slice (some ⟨p.b, p.o + off, none⟩) (len + n) cap) w' ∧ RelH P ρ base h' w' ∧ Post ρ h w mark ρ h' w' := by
  obtain ⟨h1, h2, h3, h4, h5⟩ := storeCells_run hr hst hp hnew
  have ea : p.o + Nat.add off (Nat.mul len i.size) = p.o + off + len * i.size := (Nat.add_assoc _ _ _).symm
  rw [ea] at h1 h2 h4 h5
  exact ⟨_, run_append_room_src w t tx ty e i ht hi p.b (p.o + off) len cap x n news hs hroom h1 h2, h4, h5⟩
/-- What the new row is, if it lies where the old one lies. -/
theorem openRow_rel {σ : Rn} {p : Pl} {cs' : Array Value} {old new : List AV} {olds news : List Value} {t e : TypeId} {i : TypeInfo} {k len n off : Nat} (hi : P.info? e = some i) (hoff : off = k * p.sz) (hsz : i.size = p.sz) (hk : k ≤ p.cap)
    (hold : VRs σ old olds) (hnew : VRs σ new news) (ho : olds.length = len * i.size) (hn : news.length = n * i.size) (hroom : len + n ≤ p.cap - k)
    (hcs : ∀ j v, olds[j]? = some v → cs'[p.o + off + j]? = some v) (hcn : ∀ j v, news[j]? = some v → cs'[p.o + off + len * i.size + j]? = some v) (hcap : p.o + p.cap * p.sz ≤ cs'.size) (hb : w'.heap[p.b]? = some (.cells cs' t (0, 0))) (hte : t = e) (g : Option Nat) :
    ObjR P σ ⟨p.b, p.o + off, p.cap - k, p.sz⟩ w' (.row e (old ++ new) false g) := by
  subst hte
  refine ⟨cs', hb, fun j a ha => ?_, fun _ => ⟨⟨i, hi, hsz⟩, ?_, ?_⟩, (fun h => by cases h)⟩
  · have hol := hold.length
    by_cases hj : j < old.length
    · rw [List.getElem?_append_left hj] at ha
      obtain ⟨v, h1, h2⟩ := hold.get ha
      exact ⟨v, hcs j v h1, h2⟩
    · rw [List.getElem?_append_right (by omega)] at ha
      obtain ⟨v, h1, h2⟩ := hnew.get ha
      refine ⟨v, ?_, h2⟩
      have := hcn _ v h1
      rwa [show p.o + off + len * i.size + (j - old.length) = p.o + off + j by omega] at this
  · have : k * p.sz + (p.cap - k) * p.sz = p.cap * p.sz := by rw [← Nat.add_mul]; congr 1; omega
    change p.o + off + (p.cap - k) * p.sz ≤ cs'.size
    omega
  · change (old ++ new).length ≤ (p.cap - k) * p.sz
    rw [List.length_append, hold.length, hnew.length, ho, hn, hsz, ← Nat.add_mul]
    exact Nat.mul_le_mul_right _ hroom

theorem turned_next (mark : Nat) (h : Hp) (r i : Nat) (g : Option Nat) (o : AObj) {P : Program} {ρ : Rn} {base : Nat} {w : World} (hr : RelH P ρ base h w) {t : TypeId} {cs : List AV} {f : Bool} (hrow : h.rows.get r = some (.row t cs f g)) : (turned mark h r i g o).next = h.next := by
  unfold turned
  rw [(touch_rows mark _ r).2.2]
  exact (kill_spec (mark := mark) (i := i) hr hrow).1.next
theorem turned_grps (mark : Nat) (h : Hp) (r i : Nat) (g : Option Nat) (o : AObj) : (turned mark h r i g o).grps = (h.kill mark r g i).grps := by
  unfold turned
  rw [(touch_rows mark _ r).2.1]; rfl
/-- An append to what an append made. -/
theorem apOpen_run (hr : RelH P ρ base h w) (hb : base ≤ w.heap.size) (hm : mark ≤ h.next) {e : TypeId} {i : TypeInfo} {z : Value} (hi : P.info? e = some i) (hz : i.zero = some z) (hzs : z.cells.size = i.size) (hpos : 1 ≤ i.size) {t tx ty : TypeId} (ht : P.underlying t = some (.slice e))
    {r off len k n : Nat} {new : List AV} {v : AV} (ha : apOpen P mark h e i.size r off len k n new = some (v, h')) {p : Pl} (hp : ρ r = some p) (hlen : len + k ≤ p.cap) {x : Value} {news : List Value} (hnew : VRs ρ new news) (hs : Src P i.size tx x n news w) :
    ∃ u w' ρ', (Builtin.append_ #[t, tx] ty #[.slice (some ⟨p.b, p.o + off, none⟩) len (p.cap - k), x]).run P w = .ok u w' ∧ VR ρ' v u ∧ RelH P ρ' base h' w' ∧ Post ρ h w mark ρ' h' w' := by
  unfold apOpen at ha
  split at ha
  · rename_i t' cs grp hrow
    obtain ⟨hc, ga⟩ := sel_none ha
    clear ha
    have ha := ga
    clear ga
    rw [Bool.and_eq_true, nat_beq, nat_beq, decide_eq_true_eq, decide_eq_true_eq] at hc
    obtain ⟨hoff, hte⟩ := hc
    have hoff : off = k * i.size := hoff
    subst hte
    obtain ⟨p0, hp0, blk, hblk, hcs, hfull⟩ := hr.obj r _ hrow (by simp)
    rw [hp] at hp0; cases hp0
    obtain ⟨⟨i', hi', hsz⟩, hcap, hclen⟩ := hfull.1 rfl
    rw [hi] at hi'; cases hi'
    have hno := hr.noName (Nat.le_refl h.next)
    have hlt : p.b < w.heap.size := (hr.dom r p hp).2.2
    have hbp : base ≤ p.b := (hr.dom r p hp).2.1
    have hnl : news.length = n * i.size := hs.newsLen
    rw [sel_eq] at ha
    split at ha
    · -- the cells are there
      rename_i hk
      rw [nat_ble, decide_eq_true_eq, sizeL_eq] at hk
      have hk : off + (len + n) * i.size ≤ cs.length := hk
      obtain ⟨h1, hst, ga⟩ := oB_some ha
      clear ha
      injection ga with ga
      injection ga with ha1 ha2
      subst ha2
      have hroom : len + n ≤ p.cap - k := by
        have : (k + (len + n)) * i.size ≤ p.cap * i.size := by
          rw [Nat.add_mul]
          rw [← hsz] at hclen
          rw [hoff] at hk
          omega
        have := Nat.le_of_mul_le_mul_right this hpos
        omega
      obtain ⟨w', e1, e2, e3⟩ := apRoom_run (ty := ty) ht hi hr hp hst hnew hs hroom
      exact ⟨_, w', ρ, e1, by rw [← ha1]; exact .rest hp (by change len + n + k ≤ p.cap; omega), e2, e3⟩
    · rename_i hknown
      -- what the slice reads
      have reads : ∀ old : List AV, Ev.takeAt cs off (len * i.size) = some old → ∃ olds : List Value, VRs ρ old olds ∧ olds.length = len * i.size ∧ (∀ j u, olds[j]? = some u → blk[p.o + off + j]? = some u) ∧
          (Builtin.firstCells i.size len (.slice (some ⟨p.b, p.o + off, none⟩) len (p.cap - k))).run P w.drew = .ok olds.toArray w.drew := by
        intro old hold
        have hl : Ev.loadCells h r off (len * i.size) = some old := by unfold Ev.loadCells; rw [hrow]; exact hold
        obtain ⟨q, olds, g1, g2, g3, g4⟩ := loadCells_run hl (hr.obj r)
        rw [hp] at g1; cases g1
        refine ⟨olds, g2, g3, fun j u hu => ?_, run_firstCells_some w.drew i.size len ⟨p.b, p.o + off, none⟩ len (p.cap - k) olds g3 (fun j u hu => ?_)⟩
        · have := g4 j u hu
          simpa [World.cell?, hblk] using this
        · rw [addr_add]; exact g4 j u hu
      rw [sel_eq] at ha
      split at ha
      · -- the row stays
        rename_i hk
        rw [Bool.and_eq_true, nat_beq, nat_beq, decide_eq_true_eq, decide_eq_true_eq, sizeL_eq] at hk
        obtain ⟨h0, hall⟩ := hk
        have hall : len * i.size = cs.length := hall
        subst h0
        have hk0 : k = 0 := by
          rcases Nat.eq_zero_or_pos k with h | h
          · exact h
          · have := Nat.mul_pos h hpos; omega
        subst hk0
        obtain ⟨olds, ho1, ho2, ho3, ho4⟩ := reads cs (by
          unfold Ev.takeAt
          rw [dropL_eq, List.drop_zero, hall]
          have : ∀ l : List AV, takeL l l.length = some l := by
            intro l
            induction l with
            | nil => rfl
            | cons a l ih => change oB (takeL l l.length) (fun l => some (a :: l)) = _; rw [ih]; rfl
          exact this cs)
        obtain ⟨hf, ga⟩ := sel_none ha
        injection ga with ga
        injection ga with ha1 ha2
        obtain ⟨f1, f2⟩ := fits_some hf hi
        have f1 : (len + n) * i.bytes ≤ 1000000000 := f1
        have f2 : len + n ≤ 1000000000 := f2
        -- groups
        let g := apGrp r grp
        let th := turned mark h r (Nat.succ (sizeL cs)) grp (.row t' cs false (some g))
        have hnx : th.next = h.next := turned_next mark h r _ grp _ hr hrow
        have hgr : th.grps = (h.kill mark r grp (Nat.succ (sizeL cs))).grps := turned_grps _ _ _ _ _ _
        let G := th.grps.set g (some (th.next :: apMembers th g r))
        have hG : GLe (h.kill mark r grp (Nat.succ (sizeL cs))).grps G := by
          intro x ms hx
          by_cases hxg : x = g
          · subst hxg
            refine ⟨_, Tr.get_set_same _ _ _, fun m hm => ?_⟩
            unfold apMembers
            rw [hgr, hx]
            exact List.mem_cons_of_mem _ (List.mem_cons_of_mem _ hm)
          · exact ⟨ms, by rw [Tr.get_set_ne _ _ _ _ hxg, hgr]; exact hx, fun _ h => h⟩
        have hinr : ∀ x, some g = some x → ∃ ms, G.get x = some ms ∧ r ∈ ms := by
          intro x hx
          cases hx
          refine ⟨_, Tr.get_set_same _ _ _, ?_⟩
          unfold apMembers
          split <;> simp
        have turnIt : ∀ {w' : World} (m : Nat), cs.length ≤ m → Turn w w' p.b (p.o + m) → RelH P ρ base { th with grps := G } w' ∧ Post ρ h w mark ρ { th with grps := G } w' := by
          intro w' m hm' hT
          refine RelH.turn hr hrow hp (m := m) (by rw [sizeL_eq]; omega) hT (fun _ => ⟨?_, ⟨t', cs, false, rfl⟩, ?_⟩) hG (fun x _ hx => hinr x hx)
          · obtain ⟨c2, k1, k2, k3⟩ := hT.row blk t' hblk
            refine ⟨c2, k1, fun j a ha => ?_, fun _ => ⟨⟨i, hi, hsz⟩, by omega, hclen⟩, (fun h => by cases h)⟩
            obtain ⟨v, k4, k5⟩ := hcs j a ha
            have := (List.getElem?_eq_some_iff.1 ha).1
            exact ⟨v, by rw [k3 _ (by omega)]; exact k4, k5⟩
          · intro x hx
            subst hx
            rfl
        have live_r : ({ th with grps := G } : Hp).rows.get r = some (.row t' cs false (some g)) := by
          change th.rows.get r = _
          rw [turned_rows, if_pos rfl]
        have hm2 : mark ≤ ({ th with grps := G } : Hp).next := by change mark ≤ th.next; rw [hnx]; exact hm
        have hno2 : ρ ({ th with grps := G } : Hp).next = none := by change ρ th.next = none; rw [hnx]; exact hno
        have hin2 : ∀ x, grpOf (.row t' (cs ++ new) false (some g)) = some x → ∃ ms, G.get x = some ms ∧ ({ th with grps := G } : Hp).next ∈ ms := by
          intro x hx
          cases hx
          exact ⟨_, Tr.get_set_same _ _ _, List.mem_cons_self ..⟩
        have hend : h' = { ({ th with grps := G } : Hp).new (.row t' (cs ++ new) false (some g)) with grps := G } := ha2.symm
        by_cases hroom : len + n ≤ p.cap
        · -- in the room
          have hfit : p.o + len * i.size + news.length ≤ blk.size := by
            have : (len + n) * i.size ≤ p.cap * p.sz := by rw [← hsz]; exact Nat.mul_le_mul_right _ hroom
            rw [Nat.add_mul] at this
            omega
          have hT := Turn.cells (n := p.o + len * i.size) hblk hfit (Nat.le_refl _)
          obtain ⟨r1, r2⟩ := turnIt (len * i.size) (by omega) hT
          obtain ⟨c2, q1, q2, q3⟩ := setCells_heap p.b news (p.o + len * i.size) w blk t' (0, 0) hblk hfit
          have hrun := run_append_room_src w t tx ty t' i ht hi p.b (p.o + 0) len p.cap x n news hs hroom
            (fun j hj => by
              have : p.o + 0 + len * i.size + j < blk.size := by omega
              rw [cell_row hblk (Array.getElem?_eq_getElem this)]; rfl) (fun j hj => frozen_row hblk)
          have hob : ObjR P (upd ρ th.next ⟨p.b, p.o + 0, p.cap - 0, p.sz⟩) ⟨p.b, p.o + 0, p.cap - 0, p.sz⟩ (w.setCells p.b (p.o + len * i.size) news) (.row t' (cs ++ new) false (some g)) := by
            refine openRow_rel (k := 0) (off := 0) hi (by simp) hsz (Nat.zero_le _) (ho1.mono (upd_le _ hno2)) (hnew.mono (upd_le _ hno2)) ho2 hnl (by omega) (fun j u hu => ?_) (fun j u hu => ?_) (by omega) q1 rfl (some g)
            · have := (List.getElem?_eq_some_iff.1 hu).1
              rw [q3, if_neg (by omega)]
              exact ho3 j u hu
            · have := (List.getElem?_eq_some_iff.1 hu).1
              rw [q3, if_pos (by omega)]
              rw [show p.o + 0 + len * i.size + j - (p.o + len * i.size) = j by omega]
              exact hu
          refine ⟨_, w.setCells p.b (p.o + len * i.size) news, upd ρ th.next ⟨p.b, p.o + 0, p.cap - 0, p.sz⟩, hrun, ?_, ?_, ?_⟩
          · rw [← ha1]
            exact VR.rest (off := 0) (k := 0) (upd_same _ _ _) (by simpa using hroom)
          · rw [hend]
            refine r1.add hbp (Nat.lt_of_lt_of_le hlt hT.size) hob (fun s o q e d hq => ?_) (GLe.refl _) hin2
            by_cases hqb : q.b = p.b
            · by_cases hsr : s = r
              · subst hsr
                rw [live_r] at e
                cases e
                rw [hp] at hq; cases hq
                exact .inr ⟨g, rfl, rfl, rfl⟩
              · rcases r1.sep s r o _ q p e d live_r (by simp) hsr hq hp with h5 | ⟨x, h5, h6, h7⟩
                · exact absurd hqb h5
                · exact .inr ⟨x, h5, h6, h7⟩
            · exact .inl hqb
          · rw [hend]
            exact r2.add hm2 hno2 (.inr ⟨r, _, p, hrow, by simp, hp, rfl⟩) _ _
        · -- a new row
          have hfit : Builtin.nextslicecap (len + n) p.cap * i.bytes ≤ 281474976710656 := growslice_fits (by omega) (by omega)
          have hrun := run_append_grow_src (P := P) w t tx ty t' i z ht hi hz (some ⟨p.b, p.o + 0, none⟩) len p.cap olds ho4 x n news hs (by omega) (by omega) hfit
          have hge := grown_ge w (len + n) p.cap t'
          have hT : Turn w (w.drew.alloc (.cells ((olds ++ news).toArray ++ Builtin.zeroCells z.cells (grownCap w (len + n) p.cap t' - (len + n))) t')) p.b (p.o + cs.length) := Turn.push (w := w) (w' := w.drew.alloc (.cells ((olds ++ news).toArray ++ Builtin.zeroCells z.cells (grownCap w (len + n) p.cap t' - (len + n))) t')) (o := .cells ((olds ++ news).toArray ++ Builtin.zeroCells z.cells (grownCap w (len + n) p.cap t' - (len + n))) t') rfl rfl rfl rfl _ _ hlt
          obtain ⟨r1, r2⟩ := turnIt cs.length (Nat.le_refl _) hT
          have hob := apRow_rel (P := P) (σ := upd ρ th.next ⟨w.heap.size, 0, grownCap w (len + n) p.cap t', i.size⟩) (w0 := w) (w1 := w.drew.alloc (.cells ((olds ++ news).toArray ++ Builtin.zeroCells z.cells (grownCap w (len + n) p.cap t' - (len + n))) t')) (n := len + n)
            hi hzs ((ho1.append hnew).mono (upd_le _ hno2)) (by rw [List.length_append, ho2, hnl, Nat.add_mul]) hge rfl (some g)
          refine ⟨_, _, upd ρ th.next ⟨w.heap.size, 0, grownCap w (len + n) p.cap t', i.size⟩, hrun, ?_, ?_, ?_⟩
          · rw [← ha1]
            exact VR.rest (off := 0) (k := 0) (upd_same _ _ _) (by simpa using hge)
          · rw [hend]
            refine r1.add (by exact hb) (by change w.heap.size < (w.heap.push _).size; simp) hob (fun s o q e d hq => .inl ?_) (GLe.refl _) hin2
            have := (hr.dom s q hq).2.2
            exact Nat.ne_of_lt this
          · rw [hend]
            exact r2.add hm2 hno2 (.inl (Nat.le_refl _)) _ _
      · -- all that may share is gone
        obtain ⟨old, hold, ga⟩ := oB_some ha
        clear ha
        have ha := ga
        clear ga
        obtain ⟨olds, ho1, ho2, ho3, ho4⟩ := reads old hold
        let th := turned mark h r 0 grp .dead
        have hnx : th.next = h.next := turned_next mark h r _ grp _ hr hrow
        have hgr : th.grps = (h.kill mark r grp 0).grps := turned_grps _ _ _ _ _ _
        have hths : ({ th with grps := th.grps } : Hp) = th := rfl
        have turnIt : ∀ {w' : World}, Turn w w' p.b (p.o + 0) → RelH P ρ base th w' ∧ Post ρ h w mark ρ th w' := by
          intro w' hT
          have := RelH.turn (mark := mark) (i := 0) (o := .dead) (G := th.grps) hr hrow hp (m := 0) (by omega) hT (fun h => absurd rfl h) (by rw [hgr]; exact GLe.refl _) (fun _ h => absurd rfl h)
          exact this
        have ha : apNew P th t' (len + n) (old ++ new) = some (v, h') := ha
        obtain ⟨hf, ha'⟩ := sel_none ha
        injection ha' with ha'
        injection ha' with ha1 ha2
        have hno2 : ρ th.next = none := by rw [hnx]; exact hno
        by_cases hroom : len + n ≤ p.cap - k
        · have hcut : k * p.sz + (p.cap - k) * p.sz = p.cap * p.sz := by rw [← Nat.add_mul]; congr 1; omega
          have hoff' : off = k * p.sz := by rw [hoff, hsz]
          have hfit : p.o + off + len * i.size + news.length ≤ blk.size := by
            have : (len + n) * i.size ≤ (p.cap - k) * p.sz := by rw [← hsz]; exact Nat.mul_le_mul_right _ hroom
            rw [Nat.add_mul] at this
            omega
          have hT := Turn.cells (n := p.o + 0) hblk hfit (by omega)
          obtain ⟨r1, r2⟩ := turnIt hT
          obtain ⟨c2, q1, q2, q3⟩ := setCells_heap p.b news (p.o + off + len * i.size) w blk t' (0, 0) hblk hfit
          have hrun := run_append_room_src w t tx ty t' i ht hi p.b (p.o + off) len (p.cap - k) x n news hs hroom
            (fun j hj => by
              have : p.o + off + len * i.size + j < blk.size := by omega
              rw [cell_row hblk (Array.getElem?_eq_getElem this)]; rfl) (fun j hj => frozen_row hblk)
          have hob : ObjR P (upd ρ th.next ⟨p.b, p.o + off, p.cap - k, p.sz⟩) ⟨p.b, p.o + off, p.cap - k, p.sz⟩ (w.setCells p.b (p.o + off + len * i.size) news) (.row t' (old ++ new) false none) := by
            refine openRow_rel (k := k) (off := off) hi hoff' hsz (by omega) (ho1.mono (upd_le _ hno2)) (hnew.mono (upd_le _ hno2)) ho2 hnl hroom (fun j u hu => ?_) (fun j u hu => ?_) (by omega) q1 rfl none
            · have := (List.getElem?_eq_some_iff.1 hu).1
              rw [q3, if_neg (by omega)]
              exact ho3 j u hu
            · have := (List.getElem?_eq_some_iff.1 hu).1
              rw [q3, if_pos (by omega)]
              rw [show p.o + off + len * i.size + j - (p.o + off + len * i.size) = j by omega]
              exact hu
          refine ⟨_, w.setCells p.b (p.o + off + len * i.size) news, upd ρ th.next ⟨p.b, p.o + off, p.cap - k, p.sz⟩, hrun, ?_, ?_, ?_⟩
          · rw [← ha1]
            exact VR.rest (off := 0) (k := 0) (upd_same _ _ _) (by simpa using hroom)
          · rw [← ha2]
            have := r1.add (q := ⟨p.b, p.o + off, p.cap - k, p.sz⟩) hbp (Nat.lt_of_lt_of_le hlt hT.size) hob (fun s o q e d hq => .inl (fun hqb => ?_)) (G := th.grps) (GLe.refl _) (fun g hg => by cases hg)
            · exact this
            · rw [turned_rows] at e
              by_cases hsr : s = r
              · rw [if_pos hsr] at e; cases e; exact d rfl
              · rw [if_neg hsr] at e
                obtain ⟨_, _, _, _, _, hlt0⟩ := (kill_spec (mark := mark) (i := 0) hr hrow).2.2 s o q p hsr e d hq hp hqb
                omega
          · rw [← ha2]
            have := r2.add (q := ⟨p.b, p.o + off, p.cap - k, p.sz⟩) (by rw [hnx]; exact hm) hno2 (.inr ⟨r, _, p, hrow, by simp, hp, rfl⟩) (.row t' (old ++ new) false none) th.grps
            exact this
        · obtain ⟨r1, r2⟩ := turnIt (Turn.same w p.b (p.o + 0))
          obtain ⟨u, w', ρ', e1, e2, e3, e4⟩ := apNew_run (mark := mark) (ty := ty) r1 hb (by rw [hnx]; exact hm) hi hz hzs ht ha (b := some ⟨p.b, p.o + off, none⟩) (sLen := len) (sCap := p.cap - k) rfl (by omega) ho4 hs (ho1.append hnew) (by rw [List.length_append, ho2, hnl, Nat.add_mul])
          exact ⟨u, w', ρ', e1, e2, e3, r2.trans hr e4⟩
  · cases ha
end
end Go.Ev
end

section
namespace Go.Ev
section
variable {P : Program} {ρ : Rn} {base mark : Nat} {h h' : Hp} {w w' : World}

theorem AV.sliceE_some {β : Type} {v : AV} {k : Nat → Nat → Nat → Nat → Bool → Option β} {z : β} (h : v.sliceE none k = some z) : ∃ r o n c b, v = .slice r o n c b ∧ k r o n c b = some z := by
  cases v <;> first | exact ⟨_, _, _, _, _, rfl, h⟩ | cases h
theorem run_storeNone (b : Option Addr) : (match b with | some a => Go.storeCells a [] | none => pure () : Sem Unit).run P w = .ok () w := by cases b <;> rfl
/-- Nothing is appended. -/
theorem apNothing_run {t tx ty e : TypeId} {i : TypeInfo} (ht : P.underlying t = some (.slice e)) (hi : P.info? e = some i) (hk : ∃ e', P.underlying tx = some (.slice e')) {b : Option Addr} {len cap : Nat} (hle : len ≤ cap) {x : Value} (hl : Builtin.lenOf x = pure 0) (hc : (Builtin.firstCells i.size 0 x).run P w = .ok #[] w) :
    (Builtin.append_ #[t, tx] ty #[.slice b len cap, x]).run P w = .ok (.slice b len cap) w := by
  obtain ⟨e', hk⟩ := hk
  cases b <;> simp [Builtin.append_, run_underlying ht, run_underlying hk, Go.sizeOf, typeInfo, hi, hl, hle, hc, Go.storeCells]
theorem appendOp_run (hr : RelH P ρ base h w) (hb : base ≤ w.heap.size) (hm : mark ≤ h.next) {t tx : TypeId} {s x v : AV} (ha : appendOp P mark h t tx s x = some (v, h')) {us ux : Value} (hs : VR ρ s us) (hx : VR ρ x ux) (ty : TypeId) :
    ∃ u w' ρ', (Builtin.append_ #[t, tx] ty #[us, ux]).run P w = .ok u w' ∧ VR ρ' v u ∧ RelH P ρ' base h' w' ∧ Post ρ h w mark ρ' h' w' := by
  unfold appendOp at ha
  split at ha
  · rename_i e e' ht hk
    obtain ⟨size, hsz, g1⟩ := oB_some ha
    obtain ⟨z, hz, g2⟩ := oB_some g1
    obtain ⟨n, hn, g3⟩ := oB_some g2
    obtain ⟨new, hnew, g4⟩ := oB_some g3
    clear ha g1 g2 g3
    obtain ⟨i, hi, rfl⟩ := sizeOf_some hsz
    obtain ⟨i', zv, hi', hzv, hzz⟩ := zeroOf_some hz
    rw [hi] at hi'; cases hi'
    obtain ⟨news, f1, f2, f3, f4⟩ := srcCells_run (w := w) hnew hx (fun m hm => by rw [hn] at hm; cases hm; exact Nat.le_refl _) hr.obj
    obtain ⟨ax, cx, hux, hlx⟩ := lenOf_run hn hx
    split at g4
    · -- nothing
      obtain ⟨m, hm', g5⟩ := oB_some g4
      injection g5 with g5
      injection g5 with g5 g6
      subst g5 g6
      obtain ⟨as1, cs, hus, hls⟩ := lenOf_run hm' hs
      have hle : m ≤ cs := by
        cases hs <;> first | (cases hm'; done) | skip
        · cases hm'; cases hus; exact Nat.le_refl _
        · cases hm'; cases hus; assumption
        · cases hm'; cases hus; omega
        · cases hm'; cases hus; exact Nat.zero_le _
      have e0 : news = [] := by
        have : news.length = 0 := by simpa using f3
        exact List.eq_nil_of_length_eq_zero this
      subst e0
      subst hus
      exact ⟨_, w, ρ, apNothing_run ht hi ⟨e', hk⟩ hle hlx f1, hs, hr, Post.refl _ _ _ _⟩
    · rename_i hn0
      obtain ⟨hc, g5⟩ := sel_none g4
      rw [Bool.and_eq_true, Bool.and_eq_true, nat_beq, nat_ble, decide_eq_true_eq, decide_eq_true_eq, sizeL_eq] at hc
      obtain ⟨⟨hone, hzl⟩, hpos⟩ := hc
      have hzr : VR ρ z zv := ofValue_some hzz
      have hzs : zv.cells.size = i.size := by rw [← hzl, hzr.cells.length]; simp
      have hn0 : 0 < n := by
        cases n with
        | zero => exact absurd rfl hn0
        | succ n => omega
      have src : Src P i.size tx ux n news w := ⟨.inl ⟨e', hk⟩, fun w' => by rw [hlx]; rfl, f1, f4 w.drew rfl, f3, ones_rel f2 hone⟩
      split at g5
      · -- nil
        cases hs
        exact apNew_run (mark := mark) (ty := ty) (olds := []) hr hb hm hi hzv hzs ht g5 (b := none) (sLen := 0) (sCap := 0) (by omega) (by omega) rfl src (by simpa using f2) (by simpa using f3)
      · -- known room
        rename_i r off len cap
        cases hs with
        | slice hp hle =>
          rename_i p
          unfold apKnown at g5
          rw [sel_eq] at g5
          split at g5
          · rename_i hroom
            rw [nat_ble, decide_eq_true_eq] at hroom
            have hroom : len + n ≤ cap := hroom
            obtain ⟨h1, hst, g6⟩ := oB_some g5
            injection g6 with g6
            injection g6 with g6 g7
            subst g7
            obtain ⟨w', e1, e2, e3⟩ := apRoom_run (ty := ty) ht hi hr hp hst f2 src hroom
            exact ⟨_, w', ρ, e1, by rw [← g6]; exact .slice hp hroom, e2, e3⟩
          · rename_i hroom
            rw [nat_ble, decide_eq_true_eq] at hroom
            have hroom : ¬ len + n ≤ cap := hroom
            obtain ⟨old, hold, g6⟩ := oB_some g5
            obtain ⟨q, olds, k1, k2, k3, k4⟩ := loadCells_run (show Ev.loadCells h r off (len * i.size) = some old from hold) (hr.obj r)
            rw [hp] at k1; cases k1
            exact apNew_run (mark := mark) (ty := ty) hr hb hm hi hzv hzs ht g6 (b := some ⟨p.b, p.o + off, none⟩) (sLen := len) (sCap := cap) rfl (by omega)
              (run_firstCells_some w.drew i.size len ⟨p.b, p.o + off, none⟩ len cap olds k3 (fun j u hu => by rw [addr_add]; exact k4 j u hu)) src (k2.append f2) (by rw [List.length_append, k3, f3]; exact (Nat.add_mul _ _ _).symm)
      · rename_i r off len k
        cases hs with
        | rest hp hle =>
          rename_i p
          exact apOpen_run (ty := ty) hr hb hm hi hzv hzs hpos ht g5 hp hle f2 src
      · cases g5
  · cases ha
theorem copyOp_run (hr : RelH P ρ base h w) {t : TypeId} {d s v : AV} (hc : copyOp P mark h t d s = some (v, h')) {ud us : Value} (hd : VR ρ d ud) (hs : VR ρ s us) (ts : Array TypeId) (ht : ts[0]? = some t) (ty : TypeId) :
    ∃ u w', (Builtin.copy_ ts ty #[ud, us]).run P w = .ok u w' ∧ VR ρ v u ∧ RelH P ρ base h' w' ∧ Post ρ h w mark ρ h' w' := by
  unfold copyOp at hc
  split at hc
  · rename_i e hun
    obtain ⟨size, hsz, g1⟩ := oB_some hc
    obtain ⟨a, ha, g2⟩ := oB_some g1
    obtain ⟨b, hb, g3⟩ := oB_some g2
    obtain ⟨cells, hcells, g4⟩ := oB_some g3
    clear hc g1 g2 g3
    obtain ⟨news, f1, f2, f3, _⟩ := srcCells_run (w := w) hcells hs (fun m hm => by rw [hb] at hm; cases hm; exact Nat.min_le_left _ _) hr.obj
    obtain ⟨as1, cs, hus, hls⟩ := lenOf_run hb hs
    obtain ⟨ad, cd, hud, hld⟩ := lenOf_run ha hd
    have pre : ∀ w' : World, (match ad with | some x => Go.storeCells x news | none => pure () : Sem Unit).run P w = .ok () w' → (Builtin.copy_ ts ty #[ud, us]).run P w = .ok (.int .i64 (Nat.min b a)) w' := by
      intro w' hst
      subst hud
      unfold Builtin.copy_
      cases ad with
      | none =>
        have hst : w = w' := by injection hst
        subst hst
        simp [ht, run_underlying hun, hls, sizeOf_run hsz, f1, goInt]
      | some x =>
        simp only at hst
        simp [ht, run_underlying hun, hls, sizeOf_run hsz, f1, goInt, hst]
    unfold copyTo at g4
    split at g4
    · cases hd
      cases hud
      injection g4 with g4
      injection g4 with g4 g5
      subst g4 g5
      exact ⟨_, w, pre w rfl, .int _ _, hr, Post.refl _ _ _ _⟩
    · rename_i r off n c fl
      obtain ⟨h1, hst, g5⟩ := oB_some g4
      injection g5 with g5
      injection g5 with g5 g6
      subst g5 g6
      have main : ∀ {p : Pl} {c' : Nat}, ρ r = some p → ud = .slice (some ⟨p.b, p.o + off, none⟩) n c' → ∃ u w', (Builtin.copy_ ts ty #[ud, us]).run P w = .ok u w' ∧ VR ρ (.int .i64 (Nat.min b a)) u ∧ RelH P ρ base h1 w' ∧ Post ρ h w mark ρ h1 w' := by
        intro p c' hp hu'
        rw [hu'] at hud
        injection hud with e1 e2 e3
        subst e1
        obtain ⟨k1, k2, k3, k4, k5⟩ := storeCells_run hr hst hp f2
        have := run_storeCells_cells (P := P) p.b (p.o + off) news 0 w (by simpa using k1) (by simpa using k2) k3
        exact ⟨_, _, pre _ (by simpa using this), .int _ _, k4, k5⟩
      cases hd with
      | slice hp _ => exact main hp rfl
      | rest hp _ => exact main hp rfl
    · cases g4
  · cases hc
theorem clearOp_run (hr : RelH P ρ base h w) {t : TypeId} {x : AV} (hc : clearOp P mark h t x = some h') {ux : Value} (hx : VR ρ x ux) (ts : Array TypeId) (ht : ts[0]? = some t) (ty : TypeId) :
    ∃ w', (Builtin.clear_ ts ty #[ux]).run P w = .ok (.tuple #[]) w' ∧ RelH P ρ base h' w' ∧ Post ρ h w mark ρ h' w' := by
  unfold clearOp at hc
  split at hc
  · rename_i e hun
    obtain ⟨z, hz, g1⟩ := oB_some hc
    obtain ⟨r, off, n, c, fl, rfl, g2⟩ := AV.sliceE_some g1
    clear hc g1
    obtain ⟨zv, hz1, hz2⟩ := zeroOf_run (P := P) (ρ := ρ) hz w
    have main : ∀ {p : Pl} {c' : Nat}, ρ r = some p → ux = .slice (some ⟨p.b, p.o + off, none⟩) n c' → ∃ w', (Builtin.clear_ ts ty #[ux]).run P w = .ok (.tuple #[]) w' ∧ RelH P ρ base h' w' ∧ Post ρ h w mark ρ h' w' := by
      intro p c' hp hu
      subst hu
      rw [sel_eq] at g2
      split at g2
      · rename_i h0
        rw [nat_beq, decide_eq_true_eq] at h0
        subst h0
        injection g2 with g2
        subst g2
        refine ⟨w, ?_, hr, Post.refl _ _ _ _⟩
        unfold Builtin.clear_
        simp [ht, run_underlying hun]
      · rename_i h0
        rw [nat_beq, decide_eq_true_eq] at h0
        have hrep : VRs ρ (rep z.cells n) (Builtin.zeroCells zv.cells n).toList := by
          have := rep_rel hz2.cells n
          rw [← cycle_eq] at this
          exact this
        obtain ⟨k1, k2, k3, k4, k5⟩ := storeCells_run hr g2 hp hrep
        have hst := run_storeCells_cells (P := P) p.b (p.o + off) (Builtin.zeroCells zv.cells n).toList 0 w (by simpa using k1) (by simpa using k2) k3
        refine ⟨_, ?_, k4, k5⟩
        simp only [Nat.add_zero] at hst
        obtain ⟨m, rfl⟩ : ∃ m, n = m + 1 := ⟨n - 1, by omega⟩
        unfold Builtin.clear_
        simp [ht, run_underlying hun, hz1, hst]
    cases hx with
    | slice hp _ => exact main hp rfl
    | rest hp _ => exact main hp rfl
  · cases hc

/-! Maps. -/
theorem run_setObj {w : World} {b : Nat} {o o' : Obj} (h : w.heap[b]? = some o) (hc : ∀ c e f, o ≠ .cells c e f) : (setObj b o').run P w = .ok () { w with heap := w.heap.setIfInBounds b o' } := by
  cases o <;> first | (simp [setObj, Sem.run, h]; done) | exact absurd rfl (hc _ _ _)
/-- What is no row turns. -/
theorem RelH.put (hr : RelH P ρ base h w) {r : Nat} {o o' : AObj} (hrow : h.rows.get r = some o) (hd : o ≠ .dead) (hg : grpOf o = none) (hg' : grpOf o' = none) {p : Pl} (hp : ρ r = some p) {ob : Obj} (ho : o' ≠ .dead → ObjR P ρ p { w with heap := w.heap.setIfInBounds p.b ob } o') :
    RelH P ρ base ((h.put r o').touch mark r) { w with heap := w.heap.setIfInBounds p.b ob } ∧ Post ρ h w mark ρ ((h.put r o').touch mark r) { w with heap := w.heap.setIfInBounds p.b ob } := by
  obtain ⟨t1, t2, t3⟩ := touch_rows mark (h.put r o') r
  obtain ⟨t4, t5⟩ := touch_mods mark (h.put r o') r
  have rows : ∀ s, ((h.put r o').touch mark r).rows.get s = if s = r then some o' else h.rows.get s := by
    intro s; rw [t1]; exact Tr.get_set _ _ _ _
  have apart : ∀ s q x, s ≠ r → h.rows.get s = some x → x ≠ .dead → ρ s = some q → q.b ≠ p.b := by
    intro s q x hs e d hq
    rcases hr.sep s r x o q p e d hrow hd hs hq hp with h1 | ⟨g, _, h2, _⟩
    · exact h1
    · rw [hg] at h2; cases h2
  constructor
  · refine ⟨fun s q e => ?_, fun s x e d => ?_, fun s q x y ps pq e1 d1 e2 d2 hne e3 e4 => ?_, fun s x g e d e' => ?_⟩
    · rw [t3]
      have := hr.dom s q e
      exact ⟨this.1, this.2.1, by simpa using this.2.2⟩
    · rw [rows] at e
      by_cases hs : s = r
      · subst hs
        rw [if_pos rfl] at e; cases e
        exact ⟨p, hp, ho d⟩
      · rw [if_neg hs] at e
        obtain ⟨q, h1, h2⟩ := hr.obj s x e d
        exact ⟨q, h1, h2.keep (.refl _) (by simp [Array.getElem?_setIfInBounds_ne (Ne.symm (apart s q x hs e d h1))])⟩
    · rw [rows] at e1 e2
      by_cases hs : s = r
      · subst hs
        have hq : q ≠ s := fun e => hne e.symm
        rw [if_neg hq] at e2
        rw [hp] at e3; cases e3
        exact .inl (fun e => apart q pq y hq e2 d2 e4 e.symm)
      · rw [if_neg hs] at e1
        by_cases hq : q = r
        · subst hq
          rw [hp] at e4; cases e4
          exact .inl (apart s ps x hs e1 d1 e3)
        · rw [if_neg hq] at e2
          exact hr.sep s q x y ps pq e1 d1 e2 d2 hne e3 e4
    · rw [rows] at e
      rw [t2]
      by_cases hs : s = r
      · rw [if_pos hs] at e; cases e
        rw [hg'] at e'; cases e'
      · rw [if_neg hs] at e
        exact hr.grp s x g e d e'
  · refine ⟨.refl _, fun _ _ h => .inl h, Nat.le_of_eq t3.symm, rfl, rfl, rfl, by simp, fun b hlt hno => ?_, fun s hs => t4 s hs, fun s hlt hn => ?_, fun s x hlt e d => ?_⟩
    · have := hno r o p hrow hd hp
      simp [Array.getElem?_setIfInBounds_ne this]
    · have hs : s ≠ r := fun e => by subst e; exact hn (t5 hlt)
      rw [rows, if_neg hs]
    · rw [rows] at e
      by_cases hs : s = r
      · subst hs; exact ⟨o, hrow, hd⟩
      · rw [if_neg hs] at e; exact ⟨x, e, d⟩
theorem sameL_rel : ∀ {l m : List AV} {us vs : List Value}, sameL l m = true → VRs ρ l us → VRs ρ m vs → ∀ n, us.length = vs.length ∧ ((us.zip vs).all fun p => Instr.sameBits n p.1 p.2) = true
  | [], [], _, _, _, .nil, .nil, n => ⟨rfl, rfl⟩
  | _ :: _, [], _, _, h, _, _, _ => by unfold sameL at h; split at h <;> simp_all
  | [], _ :: _, _, _, h, _, _, _ => by cases h
  | a :: l, b :: m, _ :: _, _ :: _, h, .cons h1 h2, .cons h3 h4, n => by
    unfold sameL at h
    split at h
    · rename_i e1 e2; cases e1
    · rename_i j x l' k y m' e1 e2
      cases e1; cases e2
      rw [Bool.and_eq_true, Bool.and_eq_true, kEq_eq, ieq_eq, decide_eq_true_eq] at h
      obtain ⟨⟨hk, hi⟩, hr⟩ := h
      cases h1; cases h3
      obtain ⟨f1, f2⟩ := sameL_rel hr h2 h4 n
      refine ⟨by simp [f1], ?_⟩
      simp only [List.zip_cons_cons, List.all_cons, Bool.and_eq_true]
      refine ⟨?_, f2⟩
      cases n <;> (unfold Instr.sameBits; simp [hk]; simpa using hi)
    · rename_i x l' y m' e1 e2
      cases e1; cases e2
      rw [Bool.and_eq_true] at h
      cases h1; cases h3
      obtain ⟨f1, f2⟩ := sameL_rel h.2 h2 h4 n
      refine ⟨by simp [f1], ?_⟩
      simp only [List.zip_cons_cons, List.all_cons, Bool.and_eq_true]
      refine ⟨?_, f2⟩
      cases n <;> (unfold Instr.sameBits; exact h.1)
    · cases h
theorem sameV_rel {x y : AV} {u v : Value} (h : sameV x y = true) (hx : VR ρ x u) (hy : VR ρ y v) : Instr.sameBits 10000 u v = true := by
  unfold sameV at h
  split at h
  · cases hx; cases hy
    rename_i h1 _ h2
    obtain ⟨f1, f2⟩ := sameL_rel h h1 h2 9999
    unfold Instr.sameBits
    simp only [List.size_toArray, Bool.and_eq_true, beq_iff_eq]
    exact ⟨f1, f2⟩
  · have := (sameL_rel h (.cons hx .nil) (.cons hy .nil) 10000).2
    simpa using this
end
end Go.Ev
end

section
namespace Go.Ev
section
variable {P : Program} {ρ : Rn} {base mark : Nat} {h h' : Hp} {w w' : World}

theorem ERs.get {l : List (AV × AV × Nat)} {es : List MapEntry} (h : ERs ρ l es) : ∀ {i : Nat} {k v : AV} {n : Nat}, l[i]? = some (k, v, n) → ∃ u x, es[i]? = some { key := u, val := x, born := n } ∧ VR ρ k u ∧ VR ρ v x := by
  induction h with
  | nil => intro i k v n e; simp at e
  | cons h1 h2 _ ih =>
    intro i k v n e
    cases i with
    | zero => simp at e; obtain ⟨rfl, rfl, rfl⟩ := e; exact ⟨_, _, rfl, h1, h2⟩
    | succ i => exact ih (by simpa using e)
theorem ERs.modE {l : List (AV × AV × Nat)} {es : List MapEntry} (h : ERs ρ l es) {k v : AV} {u x : Value} (hk : VR ρ k u) (hv : VR ρ v x) : ∀ i : Nat, ERs ρ (Ev.modE i k v l) (es.modify i fun e => { e with key := u, val := x }) := by
  induction h with
  | nil => intro i; simpa [Ev.modE] using ERs.nil
  | cons h1 h2 h3 ih =>
    intro i
    cases i with
    | zero => exact .cons hk hv h3
    | succ i => exact .cons h1 h2 (ih i)
theorem ERs.snoc {l : List (AV × AV × Nat)} {es : List MapEntry} (h : ERs ρ l es) {k v : AV} {u x : Value} (hk : VR ρ k u) (hv : VR ρ v x) (n : Nat) : ERs ρ (l ++ [(k, v, n)]) (es ++ [{ key := u, val := x, born := n }]) := by
  induction h with
  | nil => exact .cons hk hv .nil
  | cons h1 h2 _ ih => exact .cons h1 h2 ih
theorem ERs.erase {l : List (AV × AV × Nat)} {es : List MapEntry} (h : ERs ρ l es) : ∀ i : Nat, ERs ρ (l.eraseIdx i) (es.eraseIdx i) := by
  induction h with
  | nil => intro i; simpa using ERs.nil
  | cons h1 h2 h3 ih =>
    intro i
    cases i with
    | zero => exact h3
    | succ i => exact .cons h1 h2 (ih i)
theorem set_new (w : World) (b : Nat) (o : Obj) (hb : b < w.heap.size) : ({ w with heap := w.heap.setIfInBounds b o } : World).heap[b]? = some o := by simp [hb]
theorem mapUpdate_run (hr : RelH P ρ base h w) {t : TypeId} {m k v : AV} (hu : Ev.mapUpdate P mark h t m k v = some h') {um uk uv : Value} (hm : VR ρ m um) (hk : VR ρ k uk) (hv : VR ρ v uv) :
    ∃ w', (Instr.mapUpdate t um uk uv).run P w = .ok () w' ∧ RelH P ρ base h' w' ∧ Post ρ h w mark ρ h' w' := by
  unfold Ev.mapUpdate at hu
  split at hu
  · rename_i kt e hun
    obtain ⟨hkey, g1⟩ := sel_none hu
    have hkey := (keyX_ok hkey).1
    obtain ⟨r, rfl, g2⟩ := AV.mapE_some g1
    obtain ⟨q, hq, g3⟩ := oB_some g2
    obtain ⟨x, hx, g4⟩ := oB_some g3
    clear hu g1 g2 g3
    obtain ⟨dd, hd⟩ := keyV_type hkey
    obtain ⟨es, c⟩ := q
    have hrow := mapAt_some hq
    cases hm with
    | map hp =>
      rename_i p
      obtain ⟨p', hp', ces, hblk, hes⟩ := hr.obj r _ hrow (by simp)
      rw [hp] at hp'; cases hp'
      have hlt := (hr.dom r p hp).2.2
      rw [findF_eq] at hx
      obtain ⟨y, hy1, hy2⟩ := findKey_run hd hk w hes hx
      have start : ∀ (w' : World), (match y with
          | some (i, _) => do
            let key ← Instr.keyThatStays (((ces[i]?).map (·.key)).getD uk) uk
            setObj p.b (.map (ces.modify i fun e => { e with key, val := uv }) c)
          | none => setObj p.b (.map (ces.push { key := uk, val := uv, born := c }) (c + 1)) : Sem Unit).run P w = .ok () w' → (Instr.mapUpdate t (.map (some p.b)) uk uv).run P w = .ok () w' := by
        intro w' h1
        unfold Instr.mapUpdate
        simp only [Sem.run_bind, run_underlying hun, Result.andThen_ok, run_getObj hblk (by simp), keyV_run _ 100 kt k hkey 10000 uk w (by omega) hk, hy1]
        cases y <;> exact h1
      cases hy2 with
      | none =>
        injection g4 with g4
        subst g4
        have := hr.put (mark := mark) (o' := .map (es ++ [(k, v, c)]) (c + 1)) hrow (by simp) rfl rfl hp (ob := .map (ces.push { key := uk, val := uv, born := c }) (c + 1))
          (fun _ => ⟨ces.push { key := uk, val := uv, born := c }, set_new w p.b _ hlt, by rw [Array.toList_push]; exact hes.snoc hk hv c⟩)
        exact ⟨_, start _ (run_setObj hblk (by simp)), this.1, this.2⟩
      | some h1 h2 h3 h4 h5 =>
        rename_i i k' v' u' x' n
        obtain ⟨hsame, g5⟩ := sel_none g4
        injection g5 with g5
        subst g5
        have := hr.put (mark := mark) (o' := .map (Ev.modE i k v es) c) hrow (by simp) rfl rfl hp (ob := .map (ces.modify i fun e => { e with key := uk, val := uv }) c)
          (fun _ => ⟨ces.modify i fun e => { e with key := uk, val := uv }, set_new w p.b _ hlt, by rw [Array.toList_modify]; exact hes.modE hk hv i⟩)
        refine ⟨_, start _ ?_, this.1, this.2⟩
        have hkey' : (ces[i]?).map (·.key) = some u' := by
          have : ces[i]? = some { key := u', val := x', born := n } := by simpa using h2
          rw [this]; rfl
        simp only [hkey', Option.getD_some]
        have hst : (Instr.keyThatStays u' uk).run P w = .ok uk w := by
          unfold Instr.keyThatStays
          rw [if_pos (sameV_rel hsame h4 hk)]; rfl
        rw [Sem.run_bind, hst, Result.andThen_ok]
        exact run_setObj hblk (by simp)
  · cases hu
theorem deleteOp_run (hr : RelH P ρ base h w) {t : TypeId} {m k : AV} (hu : Ev.deleteOp P mark h t m k = some h') {um uk : Value} (hm : VR ρ m um) (hk : VR ρ k uk) (ts : Array TypeId) (hts : ts[0]? = some t) (ty : TypeId) :
    ∃ w', (Builtin.delete_ ts ty #[um, uk]).run P w = .ok (.tuple #[]) w' ∧ RelH P ρ base h' w' ∧ Post ρ h w mark ρ h' w' := by
  unfold Ev.deleteOp at hu
  split at hu
  · rename_i kt e hun
    obtain ⟨hkey, g1⟩ := sel_none hu
    have hkey := (keyX_ok hkey).1
    obtain ⟨r, rfl, g2⟩ := AV.mapE_some g1
    obtain ⟨q, hq, g3⟩ := oB_some g2
    obtain ⟨x, hx, g4⟩ := oB_some g3
    clear hu g1 g2 g3
    obtain ⟨dd, hd⟩ := keyV_type hkey
    obtain ⟨es, c⟩ := q
    have hrow := mapAt_some hq
    cases hm with
    | map hp =>
      rename_i p
      obtain ⟨p', hp', ces, hblk, hes⟩ := hr.obj r _ hrow (by simp)
      rw [hp] at hp'; cases hp'
      have hlt := (hr.dom r p hp).2.2
      rw [findF_eq] at hx
      obtain ⟨y, hy1, hy2⟩ := findKey_run hd hk w hes hx
      have start : ∀ (w' : World), (match y with
          | some (i, _) => setObj p.b (.map (ces.eraseIdxIfInBounds i) c)
          | none => setObj p.b (.map ces c) : Sem Unit).run P w = .ok () w' → (Builtin.delete_ ts ty #[.map (some p.b), uk]).run P w = .ok (.tuple #[]) w' := by
        intro w' h1
        unfold Builtin.delete_
        simp only [hts, List.getElem?_toArray, List.getElem?_cons_zero, List.getElem?_cons_succ, Sem.run_bind, run_underlying hun, Result.andThen_ok, run_getObj hblk (by simp), keyV_run _ 100 kt k hkey 10000 uk w (by omega) hk, hy1]
        cases y with
        | none => simp only [Sem.run_bind, h1, Result.andThen_ok, Sem.run_pure]
        | some y => simp only [Sem.run_bind, h1, Result.andThen_ok, Sem.run_pure]
      cases hy2 with
      | none =>
        injection g4 with g4
        subst g4
        have := hr.put (mark := mark) (o' := .map es c) hrow (by simp) rfl rfl hp (ob := .map ces c) (fun _ => ⟨ces, set_new w p.b _ hlt, hes⟩)
        exact ⟨_, start _ (run_setObj hblk (by simp)), this.1, this.2⟩
      | some h1 h2 h3 h4 h5 =>
        rename_i i k' v' u' x' n
        injection g4 with g5
        subst g5
        have := hr.put (mark := mark) (o' := .map (es.eraseIdx i) c) hrow (by simp) rfl rfl hp (ob := .map (ces.eraseIdxIfInBounds i) c)
          (fun _ => ⟨ces.eraseIdxIfInBounds i, set_new w p.b _ hlt, by
            have : (ces.eraseIdxIfInBounds i).toList = ces.toList.eraseIdx i := by
              unfold Array.eraseIdxIfInBounds
              split
              · simp
              · rename_i hn; rw [List.eraseIdx_of_length_le (by simpa using hn)]
            rw [this]; exact hes.erase i⟩)
        exact ⟨_, start _ (run_setObj hblk (by simp)), this.1, this.2⟩
  · cases hu

/-- How an operation ends that yields a value, or nothing. -/
def Ends (P : Program) (o : Oper) (x : Act) (w : World) (u : Value) (w' : World) : Prop :=
  (execOp x.eval o).run P w = .ok (.value u) w' ∨ ((execOp x.eval o).run P w = .ok .skip w' ∧ u = Go.undef)
theorem findB_run {st : Nat} {v : AV} : ∀ {l : List (AV × AV × Nat)} {es : List MapEntry}, ERs ρ l es → findB st l = some v → ∃ e, es.find? (fun e => e.born == st) = some e ∧ VR ρ v (.tuple #[e.key, e.val])
  | _, _, .nil, h => by cases h
  | _, _, .cons (n := n) (u := u) (x := x) (es := es) h1 h2 h3, h => by
    unfold findB at h
    rw [nat_beq] at h
    rw [List.find?_cons]
    by_cases hn : n = st
    · simp only [hn, decide_true, cond_true] at h
      cases h
      simp only [hn, beq_self_eq_true]
      exact ⟨_, rfl, .tup (.cons h1 (.cons h2 .nil))⟩
    · simp only [hn, decide_false, cond_false] at h
      have : (n == st) = false := by simp [hn]
      simp only [this]
      exact findB_run h3 h
theorem entry_run (hr : RelH P ρ base h w) {r : Nat} {v : AV} (he : entryOp h r = some v) {p : Pl} (hp : ρ r = some p) (_ : p.o = 0) : ∃ u, (Instr.entry (.pointer (some ⟨p.b, 0, none⟩))).run P w = .ok u w ∧ VR ρ v u := by
  unfold entryOp at he
  split at he
  · rename_i m c seen hrow
    obtain ⟨st, h1, he⟩ := oB_some he
    obtain ⟨q, h2, he⟩ := oB_some he
    obtain ⟨h3, he2⟩ := sel_none he
    obtain ⟨es, c'⟩ := q
    rw [nat_beq, decide_eq_true_eq] at h3
    have h3 : c' = c := h3
    subst h3
    obtain ⟨p', hp', _, _, q, hq, hit⟩ := hr.obj r _ hrow (by simp)
    rw [hp] at hp'; cases hp'
    have hm : h.rows.get m = some (.map es c') := by
      unfold mapAt at h2
      split at h2
      · rename_i es' c'' hh; cases h2; exact hh
      · cases h2
    obtain ⟨q', hq', ces, h4, h5⟩ := hr.obj m _ hm (by simp)
    rw [hq] at hq'; cases hq'
    obtain ⟨e, h6, h7⟩ := findB_run h5 he2
    refine ⟨_, ?_, h7⟩
    have g1 : (getObj p.b).run P w = .ok (.mapIter (some q.b) c' (decN p.sz ++ seen).toArray c') w := by simp [getObj, Sem.run, hit]
    have g2 : (getObj q.b).run P w = .ok (.map ces c') w := by simp [getObj, Sem.run, h4]
    have g3 : (decN p.sz ++ seen).toArray.back? = some st := by simp [List.getLast?_append, h1]
    have g4 : ces.find? (fun e => e.born == st) = some e := by rw [← Array.find?_toList]; exact h6
    simp only [Instr.entry, Sem.run_bind, g1, Result.andThen_ok, g3, g2, bne_self_eq_false, Bool.false_eq_true, if_false, g4, Sem.run_pure]
  · cases he
theorem bornAt_eq : ∀ {l : List (AV × AV × Nat)} {i : Nat} {k v : AV} {n : Nat}, l[i]? = some (k, v, n) → bornAt l i = n
  | [], _, _, _, _, h => by simp at h
  | e :: l, 0, _, _, _, h => by simp at h; subst h; rfl
  | e :: l, i + 1, k, v, n, h => by
    have h' : l[i]? = some (k, v, n) := by simpa using h
    exact bornAt_eq (l := l) (i := i) h'
theorem modify_key (es : Array MapEntry) (i : Nat) (e0 : MapEntry) (u : Value) (h : es[i]? = some e0) : (es.modify i fun e => { e with key := u }) = es.modify i fun e => { e with key := u, val := e0.val } := by
  apply Array.ext
  · simp
  · intro j h1 h2
    rw [Array.getElem_modify, Array.getElem_modify]
    by_cases hj : i = j
    · subst hj
      rw [if_pos rfl, if_pos rfl]
      have : es[i]'(by simpa using h1) = e0 := by
        have := (Array.getElem?_eq_some_iff.1 h).2; exact this
      rw [this]
    · rw [if_neg hj, if_neg hj]
theorem mapEntry_run (hr : RelH P ρ base h w) {t : TypeId} {m k v : AV} (hu : Ev.mapEntryOp P mark h t m k = some (v, h')) {um uk : Value} (hm : VR ρ m um) (hk : VR ρ k uk) :
    ∃ u w', (Instr.mapEntry t um uk).run P w = .ok u w' ∧ VR ρ v u ∧ RelH P ρ base h' w' ∧ Post ρ h w mark ρ h' w' := by
  unfold Ev.mapEntryOp at hu
  split at hu
  · rename_i kt e hun
    obtain ⟨hkey, g1⟩ := sel_none hu
    have hkey := (keyX_ok hkey).1
    obtain ⟨r, rfl, g2⟩ := AV.mapE_some g1
    obtain ⟨q, hq, g3⟩ := oB_some g2
    obtain ⟨x, hx, g4⟩ := oB_some g3
    clear hu g1 g2 g3
    obtain ⟨dd, hd⟩ := keyV_type hkey
    obtain ⟨es, c⟩ := q
    have hrow := mapAt_some hq
    cases hm with
    | map hp =>
      rename_i p
      obtain ⟨p', hp', ces, hblk, hes⟩ := hr.obj r _ hrow (by simp)
      rw [hp] at hp'; cases hp'
      have hlt := (hr.dom r p hp).2.2
      rw [findF_eq] at hx
      obtain ⟨y, hy1, hy2⟩ := findKey_run hd hk w hes hx
      have start : ∀ (u : Value) (w' : World), (match y with
          | some (i, v) => do
            let key ← Instr.keyThatStays (((ces[i]?).map (·.key)).getD uk) uk
            setObj p.b (.map (ces.modify i fun e => { e with key }) c)
            pure (.tuple #[v, goInt (((ces[i]?).map (·.born)).getD 0)])
          | none => do
            let zero ← zeroValue e
            setObj p.b (.map (ces.push { key := uk, val := zero, born := c }) (c + 1))
            pure (.tuple #[zero, goInt c]) : Sem Value).run P w = .ok u w' → (Instr.mapEntry t (.map (some p.b)) uk).run P w = .ok u w' := by
        intro u w' h1
        unfold Instr.mapEntry
        simp only [Sem.run_bind, run_underlying hun, Result.andThen_ok, run_getObj hblk (by simp), keyV_run _ 100 kt k hkey 10000 uk w (by omega) hk, hy1]
        cases y <;> exact h1
      unfold entE at g4
      cases hy2 with
      | none =>
        obtain ⟨z, hz, g5⟩ := oB_some g4
        injection g5 with g5
        injection g5 with g5 g6
        subst g5 g6
        obtain ⟨zv, hz1, hz2⟩ := zeroOf_run hz w
        have := hr.put (mark := mark) (o' := .map (es ++ [(k, z, c)]) (c + 1)) hrow (by simp) rfl rfl hp (ob := .map (ces.push { key := uk, val := zv, born := c }) (c + 1))
          (fun _ => ⟨ces.push { key := uk, val := zv, born := c }, set_new w p.b _ hlt, by rw [Array.toList_push]; exact hes.snoc hk hz2 c⟩)
        refine ⟨_, _, start _ _ ?_, .tup (.cons hz2 (.cons (.int _ _) .nil)), this.1, this.2⟩
        simp only [Sem.run_bind, hz1, Result.andThen_ok, run_setObj hblk (by simp), Sem.run_pure]
        rfl
      | some h1 h2 h3 h4 h5 =>
        rename_i i k' v' u' x' n
        obtain ⟨hsame, g5⟩ := sel_none g4
        injection g5 with g5
        injection g5 with g5 g6
        subst g5 g6
        simp only [Nat.sub_zero] at h1 h2
        have h2' : ces[i]? = some { key := u', val := x', born := n } := by simpa using h2
        have := hr.put (mark := mark) (o' := .map (Ev.modE i k v' es) c) hrow (by simp) rfl rfl hp (ob := .map (ces.modify i fun e => { e with key := uk, val := x' }) c)
          (fun _ => ⟨ces.modify i fun e => { e with key := uk, val := x' }, set_new w p.b _ hlt, by rw [Array.toList_modify]; exact hes.modE hk h5 i⟩)
        refine ⟨_, _, start _ _ ?_, .tup (.cons h5 (.cons (.int _ _) .nil)), this.1, this.2⟩
        have hst : (Instr.keyThatStays u' uk).run P w = .ok uk w := by
          unfold Instr.keyThatStays
          rw [if_pos (sameV_rel hsame h4 hk)]; rfl
        have hmod := modify_key ces i _ uk h2'
        simp only [h2', Option.map_some, Option.getD_some, Sem.run_bind, hst, Result.andThen_ok]
        rw [hmod, run_setObj hblk (by simp), Result.andThen_ok, bornAt_eq h1]
        rfl
  · cases hu
theorem setB_run {st : Nat} {v : AV} {uv : Value} (hv : VR ρ v uv) {l : List (AV × AV × Nat)} {es : List MapEntry} (h : ERs ρ l es) : ∀ {l' : List (AV × AV × Nat)}, setB st v l = some l' → ∃ i, es.findIdx? (fun e => (e.born : Int) == (st : Int)) = some i ∧ ERs ρ l' (es.modify i fun e => { e with val := uv }) := by
  induction h with
  | nil => intro l' h; cases h
  | cons h1 h2 h3 ih =>
    rename_i k0 v0 u0 x0 n l0 es0
    intro l' h
    unfold setB at h
    rw [nat_beq] at h
    rw [List.findIdx?_cons]
    by_cases hn : n = st
    · simp only [hn, decide_true, cond_true] at h
      cases h
      simp only [hn, beq_self_eq_true, if_true]
      refine ⟨0, rfl, ?_⟩
      simpa using ERs.cons h1 hv h3
    · simp only [hn, decide_false, cond_false] at h
      obtain ⟨l1, h4, h5⟩ := oB_some h
      cases h5
      obtain ⟨i, h6, h7⟩ := ih h4
      have : ((n : Int) == (st : Int)) = false := by simp; omega
      simp only [this, Bool.false_eq_true, if_false, h6]
      refine ⟨i + 1, rfl, ?_⟩
      simpa using ERs.cons h1 h2 h7
theorem entryStore_run (hr : RelH P ρ base h w) {t : TypeId} {m s v : AV} (hu : Ev.entryStoreOp mark h m s v = some h') {um us uv : Value} (hm : VR ρ m um) (hs : VR ρ s us) (hv : VR ρ v uv) :
    ∃ w', (Instr.entryStore t um us uv).run P w = .ok () w' ∧ RelH P ρ base h' w' ∧ Post ρ h w mark ρ h' w' := by
  unfold Ev.entryStoreOp at hu
  obtain ⟨r, rfl, g1⟩ := AV.mapE_some hu
  obtain ⟨kk, n, rfl, g2⟩ := AV.intE_some g1
  obtain ⟨st, hst, g3⟩ := oB_some g2
  obtain ⟨q, hq, g4⟩ := oB_some g3
  obtain ⟨l, hl, g5⟩ := oB_some g4
  injection g5 with g5
  subst g5
  obtain ⟨es, c⟩ := q
  have hrow := mapAt_some hq
  have hn : n = (st : Int) := by
    cases n with
    | ofNat a => cases hst; rfl
    | negSucc a => cases hst
  cases hm with
  | map hp =>
    rename_i p
    cases hs
    obtain ⟨p', hp', ces, hblk, hes⟩ := hr.obj r _ hrow (by simp)
    rw [hp] at hp'; cases hp'
    have hlt := (hr.dom r p hp).2.2
    obtain ⟨i, h6, h7⟩ := setB_run hv hes hl
    have := hr.put (mark := mark) (o' := .map l c) hrow (by simp) rfl rfl hp (ob := .map (ces.modify i fun e => { e with val := uv }) c)
      (fun _ => ⟨ces.modify i fun e => { e with val := uv }, set_new w p.b _ hlt, by rw [Array.toList_modify]; exact h7⟩)
    refine ⟨_, ?_, this.1, this.2⟩
    have h8 : ces.findIdx? (fun e => (e.born : Int) == n) = some i := by obtain ⟨cl⟩ := ces; rw [hn]; simpa using h6
    unfold Instr.entryStore
    have hint : (asInt (.int kk n)).run P w = .ok n w := rfl
    simp only [Sem.run_bind, run_getObj hblk (by simp), Result.andThen_ok, hint, h8]
    exact run_setObj hblk (by simp)
theorem effOp_run (hr : RelH P ρ base h w) (hb : base ≤ w.heap.size) (hm : mark ≤ h.next) {a : Fr} {o : Oper} {v : AV} (he : effOp P mark h a o = some (v, h')) {x : Act} (hf : FrR ρ a x.tmps) :
    ∃ u w' ρ', Ends P o x w u w' ∧ VR ρ' v u ∧ RelH P ρ' base h' w' ∧ Post ρ h w mark ρ' h' w' := by
  obtain ⟨dst, op, type, pos, after, guard⟩ := o
  unfold effOp at he
  have upd_ok : ∀ (t : TypeId) (m k y : Operand) (op : Op), (op = .mapUpdate t m k y ∨ op = .insert t m k y) → (match a.eval m, a.eval k, a.eval y with | some m, some k, some v => (match Ev.mapUpdate P mark h t m k v with | some h => some (AV.undef, h) | none => none) | _, _, _ => none) = some (v, h') →
      ∃ u w' ρ', Ends P { dst, op, type, pos, after, guard } x w u w' ∧ VR ρ' v u ∧ RelH P ρ' base h' w' ∧ Post ρ h w mark ρ' h' w' := by
    intro t m k y op hop he
    split at he
    · rename_i mv kv yv h1 h2 h3
      split at he
      · rename_i h1' hup
        injection he with he
        injection he with he1 he2
        subst he1 he2
        obtain ⟨w', e1, e2, e3⟩ := mapUpdate_run hr hup (hf.eval h1) (hf.eval h2) (hf.eval h3)
        refine ⟨Go.undef, w', ρ, .inr ⟨?_, rfl⟩, VR.undef ρ, e2, e3⟩
        rcases hop with rfl | rfl <;> (simp only [execOp, Sem.run_bind, e1, Result.andThen_ok]; rfl)
      · cases he
    · cases he
  cases op <;> first | (cases he; done) | skip
  case store t y z =>
    simp only at he
    split at he
    · rename_i r off yv h1 h2
      split at he
      · rename_i h1' hst
        injection he with he
        injection he with he1 he2
        subst he1 he2
        have hy := hf.eval h1
        generalize hu : x.eval y = uy at hy
        cases hy with
        | ptr hp =>
          obtain ⟨w', e1, e2, e3⟩ := storeVar_run hr hst hp (hf.eval h2)
          refine ⟨Go.undef, w', ρ, .inr ⟨?_, rfl⟩, VR.undef ρ, e2, e3⟩
          simp only [execOp, hu, Instr.storeAt, Instr.sureAddr, Sem.run_bind, Sem.run_pure, Result.andThen_ok, e1]
      · cases he
    · cases he
  case mapUpdate t m k y => exact upd_ok t m k y _ (.inl rfl) he
  case insert t m k y => exact upd_ok t m k y _ (.inr rfl) he
  case mapEntry t m k =>
    simp only at he
    split at he
    · rename_i mv kv h1 h2
      obtain ⟨u, w', e1, e2, e3, e4⟩ := mapEntry_run hr he (hf.eval h1) (hf.eval h2)
      refine ⟨u, w', ρ, .inl ?_, e2, e3, e4⟩
      simp only [execOp, Sem.run_bind, e1, Result.andThen_ok, Sem.run_pure]
    · cases he
  case entryStore t m s y =>
    simp only at he
    split at he
    · rename_i mv sv yv h1 h2 h3
      split at he
      · rename_i h1' hup
        injection he with he
        injection he with he1 he2
        subst he1 he2
        obtain ⟨w', e1, e2, e3⟩ := entryStore_run (t := t) hr hup (hf.eval h1) (hf.eval h2) (hf.eval h3)
        refine ⟨Go.undef, w', ρ, .inr ⟨?_, rfl⟩, VR.undef ρ, e2, e3⟩
        simp only [execOp, Sem.run_bind, e1, Result.andThen_ok]; rfl
      · cases he
    · cases he
  case entry y =>
    simp only at he
    split at he
    · rename_i r h1
      split at he
      · rename_i v' hv
        injection he with he
        injection he with he1 he2
        subst he1 he2
        have hy := hf.eval h1
        generalize hu : x.eval y = uy at hy
        cases hy with
        | ptr hp =>
          rename_i p
          have ho : p.o = 0 := by
            unfold entryOp at hv
            split at hv
            · rename_i m c seen hrow
              obtain ⟨p', hp', h0, _⟩ := hr.obj r _ hrow (by simp)
              rw [hp] at hp'; cases hp'
              exact h0
            · cases hv
          obtain ⟨u, e1, e2⟩ := entry_run hr hv hp ho
          refine ⟨u, w, ρ, .inl ?_, e2, hr, Post.refl _ _ _ _⟩
          simp only [execOp, hu, ho, Nat.add_zero, Sem.run_bind, e1, Result.andThen_ok, Sem.run_pure]
      · cases he
    · cases he
  case range t y =>
    simp only at he
    split at he
    · rename_i r kt et h1 h2
      split at he
      · rename_i q hq
        obtain ⟨es, c⟩ := q
        injection he with he
        injection he with he1 he2
        subst he1 he2
        have hy := hf.eval h1
        generalize hu : x.eval y = uy at hy
        cases hy with
        | map hp =>
          rename_i p
          have hrow : h.rows.get r = some (.map es c) := by
            unfold mapAt at hq
            split at hq
            · rename_i es' c' hh; cases hq; exact hh
            · cases hq
          obtain ⟨p', hp', ces, h3, h4⟩ := hr.obj r _ hrow (by simp)
          rw [hp] at hp'; cases hp'
          have hno := hr.noName (Nat.le_refl h.next)
          obtain ⟨e6, e7⟩ := RelH.new (w' := w.alloc (.mapIter (some p.b) c #[] c)) (ob := .iter r c []) (p := ⟨w.heap.size, 0, 0, 0⟩) hr hb hm rfl rfl rfl rfl rfl ⟨rfl, fun _ => decN_zero, p, upd_le _ hno _ _ hp, by rw [decN_zero]; exact alloc_new _ _⟩ rfl
          refine ⟨.pointer (some ⟨w.heap.size, 0, none⟩), _, _, .inl ?_, VR.ptr (p := ⟨w.heap.size, 0, 0, 0⟩) (off := 0) (upd_same _ _ _), e6, e7⟩
          have hg : (getObj p.b).run P w = .ok (.map ces c) w := by simp [getObj, Sem.run, h3]
          simp only [execOp, hu, Instr.range, Sem.run_bind, run_underlying h2, Result.andThen_ok, hg, Sem.run_pure]
          rfl
      · cases he
    · cases he
  case call c =>
    obtain ⟨callee, args, tys⟩ := c
    have ex : ∀ (b : Builtin) (s : Sem Value) (q : Value) (w' : World), callee = .builtin b → (∀ cs, builtin b tys type cs (args.map x.eval) = (do pure (.value (← s)))) → s.run P w = .ok q w' → (execOp x.eval { dst, op := .call { callee, args, argTypes := tys }, type, pos, after, guard }).run P w = .ok (.value q) w' := by
      intro b s q w' hb hs hq
      subst hb
      simp only [execOp, resolve, Sem.run_bind, Sem.run_pure, Result.andThen_ok, invoke]
      rw [hs]
      exact vrun hq
    have hmm : args.map x.eval = ⟨args.toList.map x.eval⟩ := by apply Array.ext'; simp
    simp only at he
    split at he
    · rename_i s y hc ha
      have hl := hf.evalL ha
      split at he
      · rename_i t u ht hu
        generalize hus : args.toList.map x.eval = us at hl
        cases hl with
        | cons hs hl =>
          cases hl with
          | cons hy hn =>
            cases hn
            obtain ⟨q, w', ρ', e1, e2, e3, e4⟩ := appendOp_run hr hb hm he hs hy type
            refine ⟨q, w', ρ', .inl (ex .append _ q w' rfl (fun cs => rfl) ?_), e2, e3, e4⟩
            rw [hmm, hus, ← e1]
            unfold Builtin.append_
            simp [ht, hu]
      · cases he
    · rename_i d s hc ha
      have hl := hf.evalL ha
      split at he
      · rename_i t ht
        generalize hus : args.toList.map x.eval = us at hl
        cases hl with
        | cons hs hl =>
          cases hl with
          | cons hy hn =>
            cases hn
            obtain ⟨q, w', e1, e2, e3, e4⟩ := copyOp_run hr he hs hy tys ht type
            exact ⟨q, w', ρ, .inl (ex .copy _ q w' rfl (fun cs => rfl) (by rw [hmm, hus]; exact e1)), e2, e3, e4⟩
      · cases he
    · rename_i y hc ha
      have hl := hf.evalL ha
      split at he
      · rename_i t ht
        split at he
        · rename_i h1 hcl
          injection he with he
          injection he with he1 he2
          subst he1 he2
          generalize hus : args.toList.map x.eval = us at hl
          cases hl with
          | cons hs hl =>
            cases hl
            obtain ⟨w', e1, e3, e4⟩ := clearOp_run hr hcl hs tys ht type
            exact ⟨.tuple #[], w', ρ, .inl (ex .clear _ _ w' rfl (fun cs => rfl) (by rw [hmm, hus]; exact e1)), .tup .nil, e3, e4⟩
        · cases he
      · cases he
    · rename_i m k hc ha
      have hl := hf.evalL ha
      split at he
      · rename_i t ht
        split at he
        · rename_i h1 hcl
          injection he with he
          injection he with he1 he2
          subst he1 he2
          generalize hus : args.toList.map x.eval = us at hl
          cases hl with
          | cons hs hl =>
            cases hl with
            | cons hy hn =>
              cases hn
              obtain ⟨w', e1, e3, e4⟩ := deleteOp_run hr hcl hs hy tys ht type
              exact ⟨.tuple #[], w', ρ, .inl (ex .delete _ _ w' rfl (fun cs => rfl) (by rw [hmm, hus]; exact e1)), .tup .nil, e3, e4⟩
        · cases he
      · cases he
    · cases he
end
end Go.Ev
end

section
namespace Go.Ev

def WF (rb : Option Nat) : Fence := { Fence.wide with round := rb }
inductive DefR (ρ : Rn) : List Nat → List Deferred → Prop
  | nil : DefR ρ [] []
  | cons {m : Nat} {p : Pl} {ms : List Nat} {ds : List Deferred} : ρ m = some p → DefR ρ ms ds → DefR ρ (m :: ms) ({ target := .collected p.b, args := #[] } :: ds)
theorem DefR.mono {ρ σ : Rn} (h : Rn.le ρ σ) : ∀ {ms : List Nat} {ds : List Deferred}, DefR ρ ms ds → DefR σ ms ds
  | _, _, .nil => .nil
  | _, _, .cons e k => .cons (h _ _ e) (k.mono h)
inductive RndR (ρ : Rn) : Option Nat → Option Nat → Prop
  | none : RndR ρ none none
  | some {l : Nat} {p : Pl} : ρ l = some p → RndR ρ (some l) (some p.b)
theorem RndR.mono {ρ σ : Rn} (h : Rn.le ρ σ) {a b : Option Nat} : RndR ρ a b → RndR σ a b
  | .none => .none
  | .some e => .some (h _ _ e)
def exitOf : Out → Exit
  | .norm => .normal
  | .exit i => .exit i
  | .goto l => .goto l
  | .ret => .ret
/-- A frame and memory by names stand for a frame and a world. -/
structure St (P : Program) (ρ : Rn) (base mark : Nat) (a : Fr) (h : Hp) (x : Act) (w : World) : Prop where
  heap : RelH P ρ base h w
  base : base ≤ w.heap.size
  mark : mark ≤ h.next
  frame : FrR ρ a x.tmps
  defers : DefR ρ a.marks x.defers
/-- .. behind something that was run. -/
structure Aft (P : Program) (ρ : Rn) (base mark : Nat) (h : Hp) (w : World) (a' : Fr) (h' : Hp) (x' : Act) (w' : World) (ρ' : Rn) : Prop where
  heap : RelH P ρ' base h' w'
  frame : FrR ρ' a' x'.tmps
  defers : DefR ρ' a'.marks x'.defers
  post : Post ρ h w mark ρ' h' w'
theorem Aft.st {P : Program} {ρ ρ' : Rn} {base mark : Nat} {a a' : Fr} {h h' : Hp} {x x' : Act} {w w' : World} (s : St P ρ base mark a h x w) (t : Aft P ρ base mark h w a' h' x' w' ρ') : St P ρ' base mark a' h' x' w' :=
  ⟨t.heap, Nat.le_trans s.base t.post.size, Nat.le_trans s.mark t.post.next, t.frame, t.defers⟩
theorem Aft.trans {P : Program} {ρ ρ1 ρ2 : Rn} {base mark : Nat} {a a1 a2 : Fr} {h h1 h2 : Hp} {x x1 x2 : Act} {w w1 w2 : World} (s : St P ρ base mark a h x w) (t : Aft P ρ base mark h w a1 h1 x1 w1 ρ1) (u : Aft P ρ1 base mark h1 w1 a2 h2 x2 w2 ρ2) :
    Aft P ρ base mark h w a2 h2 x2 w2 ρ2 := ⟨u.heap, u.frame, u.defers, t.post.trans s.heap u.post⟩
theorem Aft.refl {P : Program} {ρ : Rn} {base mark : Nat} {a : Fr} {h : Hp} {x : Act} {w : World} (s : St P ρ base mark a h x w) : Aft P ρ base mark h w a h x w ρ := ⟨s.heap, s.frame, s.defers, Post.refl _ _ _ _⟩
/-- The condition that the rest of a walk must meet. -/
def After (P : Program) (ρ : Rn) (base mark : Nat) (h : Hp) (w : World) (a' : Fr) (h' : Hp) (x' : Act) (w' : World) : Prop := ∃ ρ', Aft P ρ base mark h w a' h' x' w' ρ'
def CodeOk (P : Program) (f : Nat → Option Nat → Code → Fr → Hp → Res) : Prop :=
  ∀ mark rnd c a h o a' h', f mark rnd c a h = .ok o a' h' → ∀ ρ base x w rb n, St P ρ base mark a h x w → RndR ρ rnd rb →
    c.wpIn (WF rb) n P (fun e x' w' => e = exitOf o ∧ After P ρ base mark h w a' h' x' w') x w
def CallOk (P : Program) (f : Nat → FuncId → List AV → Hp → VRes) : Prop :=
  ∀ mark k args h v h', f mark k args h = .ok v h' → ∀ ρ base w us, RelH P ρ base h w → base ≤ w.heap.size → mark ≤ h.next → VRs ρ args us →
    Calls P k us.toArray w fun e w' => ∃ u ρ', e = .returned u ∧ VR ρ' v u ∧ RelH P ρ' base h' w' ∧ Post ρ h w mark ρ' h' w'
structure Ok (P : Program) (R : Rec) : Prop where
  code : CodeOk P R.code
  call : CallOk P R.call
theorem calls_in {P : Program} {f : FuncId} {args : Array Value} {w : World} {R : Ending → World → Prop} (h : Calls P f args w R) (rb : Option Nat) (n : Nat) : CallsIn (WF rb) n P f args w R := (callsIn_wide (n := n)).2 h

section
variable {P : Program}
/-- What an operation must come to. -/
def OpOk (P : Program) (f : Nat → Oper → Fr → Hp → VRes) : Prop :=
  ∀ mark o a h v h', f mark o a h = .ok v h' → ∀ ρ base x w rb n (K : Act → World → Prop) (Q : Exit → Act → World → Prop), RelH P ρ base h w → base ≤ w.heap.size → mark ≤ h.next → FrR ρ a x.tmps →
    (∀ u w' ρ', VR ρ' v u → RelH P ρ' base h' w' → Post ρ h w mark ρ' h' w' → K (x.put o.dst u) w') → o.wpIn (WF rb) n P x w K Q
theorem defer_not {o : Oper} (h : kindOf o ≠ .val ∨ ∃ v a h, valOp P h a o = some v) : ∀ c, o.op ≠ .defer c := by
  intro c e
  obtain ⟨dst, op, type, pos, after, guard⟩ := o
  simp only at e
  subst e
  rcases h with h | ⟨v, a, h, hv⟩
  · exact h rfl
  · exact absurd (show (none : Option AV) = some v from hv) (by simp)
theorem wpIn_of_run {o : Oper} {x : Act} {w w' : World} {u : Value} {rb : Option Nat} {n : Nat} {K : Act → World → Prop} {Q : Exit → Act → World → Prop} (hd : ∀ c, o.op ≠ .defer c) (h : Ends P o x w u w') (hK : K (x.put o.dst u) w') : o.wpIn (WF rb) n P x w K Q := by
  refine ⟨fun _ _ => trivial, ?_⟩
  rw [Oper.semAt_eq _ _ _ hd]
  rcases h with h | ⟨h, rfl⟩
  · rw [h]; exact hK
  · rw [h]; exact hK
end
end Go.Ev
end

section
namespace Go.Ev
section
variable {P : Program} {ρ : Rn} {base mark : Nat} {R : Rec}

theorem frame_set (t : Tr AV) (n m : Nat) (ms : List Nat) (i : Nat) : Fr.get { tmps := t, nt := n, marks := ms } i = Fr.get { tmps := t, nt := m, marks := [] } i := rfl
theorem setParams_rel {nt : Nat} : ∀ {ps : List Nat} {args : List AV} {us : List Value} {t : Tr AV} {tm : Array Value}, VRs ρ args us → FrR ρ { tmps := t, nt, marks := [] } tm →
    FrR ρ { tmps := setParams nt ps args t, nt, marks := [] } ((ps.zip us).foldl (fun tmps (t, a) => tmps.setIfInBounds t a) tm)
  | [], args, us, t, tm, h, hf => by
    cases args <;> exact hf
  | p :: ps, [], _, t, tm, .nil, hf => hf
  | p :: ps, a :: args, _ :: us, t, tm, .cons h1 h2, hf => by
    rename_i u
    have := hf.put (x := { tmps := tm, defers := [] }) h1 (some p)
    rw [Fr.put_some] at this
    simp only [List.zip_cons_cons, List.foldl_cons]
    refine setParams_rel (ps := ps) h2 ?_
    rw [sel_eq, nat_ble]
    by_cases hp : p < nt
    · rw [if_pos hp] at this
      rw [if_pos (by simp only [decide_eq_true_eq]; omega)]
      exact this
    · rw [if_neg hp] at this
      rw [if_neg (by simp only [decide_eq_true_eq]; omega)]
      exact this
theorem loop_put {h : Hp} {w : World} (hr : RelH P ρ base h w) {l : Nat} {rc : ALoop} {st st' : LoopState} {pe pe' : Option Code} (hrow : h.rows.get l = some (.loop rc st pe)) {p : Pl} (hp : ρ l = some p) :
    ∃ r : Loop, w.heap[p.b]? = some (.loop r) ∧ r.state = st ∧ r.pending = pe ∧ r.params = rc.params.toArray ∧ r.assign = rc.assign ∧ r.body = rc.body ∧ FrR ρ { tmps := rc.tmps, nt := rc.nt, marks := [] } r.tmps ∧
      RelH P ρ base ((h.put l (.loop rc st' pe')).touch mark l) (w.putObj p.b (.loop { r with state := st', pending := pe' })) ∧ Post ρ h w mark ρ ((h.put l (.loop rc st' pe')).touch mark l) (w.putObj p.b (.loop { r with state := st', pending := pe' })) := by
  obtain ⟨p', hp', fn, tm, df, hb, hsz, hget⟩ := hr.obj l _ hrow (by simp)
  rw [hp] at hp'; cases hp'
  refine ⟨_, hb, rfl, rfl, rfl, rfl, rfl, ⟨hsz, hget⟩, ?_⟩
  exact hr.put hrow (by simp) rfl rfl hp (fun _ => ⟨fn, tm, df, set_new w p.b _ (hr.dom l p hp).2.2, hsz, hget⟩)
theorem evYield_run (hR : Ok P R) {l : Nat} {args : List AV} {h h' : Hp} {v : AV} (he : evYield R mark l args h = .ok v h') {w : World} (hr : RelH P ρ base h w) (hb : base ≤ w.heap.size) (hm : mark ≤ h.next) {p : Pl} (hp : ρ l = some p) {us : List Value} (hus : VRs ρ args us) (rb : Option Nat) (n : Nat) :
    YieldAt (WF rb) n P p.b us.toArray w fun e w' => ∃ u ρ', e = .returned u ∧ VR ρ' v u ∧ RelH P ρ' base h' w' ∧ Post ρ h w mark ρ' h' w' := by
  unfold evYield at he
  split at he
  · rename_i rc pe hrow
    rw [sel_eq] at he
    split at he
    case isFalse => cases he
    rename_i hlen
    rw [nat_beq, decide_eq_true_eq, sizeL_eq, sizeL_eq] at hlen
    split at he
    · rename_i a1 h1 hc1
      obtain ⟨r, e1, e2, e3, e4, e5, e6, e7, _⟩ := loop_put (mark := mark) (st' := .ready) (pe' := none) hr hrow hp
      unfold yBody at he
      split at he
      · rename_i rc2 pe2 hrow2
        split at he
        · rename_i out a3 h3 hc3
          have hsz : us.toArray.size = r.params.size := by rw [e4]; simp [← hlen, hus.length]
          refine ⟨r.fn, _, r.assign, r.body, run_yield e1 hsz, roundIn_of_wpIn (F := WF rb) trivial ?_⟩
          have s0 : St P ρ base mark { tmps := setParams rc.nt rc.params args rc.tmps, nt := rc.nt, marks := [] } h { tmps := (r.params.zip us.toArray).foldl (fun tmps (t, a) => tmps.setIfInBounds t a) r.tmps, defers := [] } w := by
            refine ⟨hr, hb, hm, ?_, .nil⟩
            have := setParams_rel (nt := rc.nt) (ps := rc.params) hus e7
            have ez : ((r.params.zip us.toArray).foldl (fun tmps (x : Tmp × Value) => tmps.setIfInBounds x.1 x.2) r.tmps) = ((rc.params.zip us).foldl (fun tmps (x : Tmp × Value) => tmps.setIfInBounds x.1 x.2) r.tmps) := by
              rw [e4, ← Array.foldl_toList, Array.toList_zip]
            exact ez ▸ this
          rw [e5, e6]
          refine wpIn_mono (hR.code _ _ _ _ _ _ _ _ hc1 ρ base _ w (some p.b) n s0 (.some hp)) ?_
          rintro e x1 w1 ⟨rfl, ρ1, t1⟩
          have s1 := t1.st s0
          have hp1 := t1.post.le l p hp
          obtain ⟨r2, f1, f2, f3, f4, f5, f6, f7, f8, f9⟩ := loop_put (mark := mark) (st' := .busy) (pe' := pe2) s1.heap hrow2 hp1
          refine ⟨_, run_beginRound f1 f2, ?_⟩
          have hpe : ({ r2 with state := LoopState.busy, pending := pe2 } : Loop) = { r2 with state := .busy } := by rw [← f3]
          rw [hpe] at f8 f9
          have s2 : St P ρ1 base mark a1 ((h1.put l (.loop rc2 .busy pe2)).touch mark l) x1 (w1.putObj p.b (.loop { r2 with state := .busy })) :=
            ⟨f8, Nat.le_trans s1.base f9.size, Nat.le_trans s1.mark f9.next, s1.frame, s1.defers⟩
          refine wpIn_mono (hR.code _ _ _ _ _ _ _ _ hc3 ρ1 base _ _ (some p.b) n s2 (.some hp1)) ?_
          rintro e x3 w3 ⟨rfl, ρ3, t3⟩
          have hp3 := t3.post.le l p hp1
          have pre := (t1.post.trans hr f9).trans hr t3.post
          unfold yRound at he
          split at he
          · rename_i rc3 pe3 hrow3
            have fin : ∀ (st : LoopState) (j : Option Code) (b : Bool), b = j.isNone → st = (if j.isNone then .ready else .done) → v = .bool b → h' = (h3.put l (.loop rc3 st j)).touch mark l →
                ∃ u w', (Instr.endRound p.b j).run P w3 = .ok u w' ∧ ∃ u' ρ', Ending.returned u = .returned u' ∧ VR ρ' v u' ∧ RelH P ρ' base h' w' ∧ Post ρ h w mark ρ' h' w' := by
              intro st j b hbj hst hv hh
              obtain ⟨r3, g1, g2, g3, g4, g5, g6, g7, g8, g9⟩ := loop_put (mark := mark) (st' := st) (pe' := j) t3.heap hrow3 hp3
              subst hv hh hst hbj
              exact ⟨_, _, run_endRound j g1, _, ρ3, rfl, .bool _, g8, pre.trans hr g9⟩
            cases out with
            | norm => injection he with he1 he2; exact fin .ready none true rfl rfl he1.symm he2.symm
            | exit id => injection he with he1 he2; exact fin .done (some (.exit id)) false rfl rfl he1.symm he2.symm
            | goto t => injection he with he1 he2; exact fin .done (some (.goto t)) false rfl rfl he1.symm he2.symm
            | ret => injection he with he1 he2; exact fin .done (some .ret) false rfl rfl he1.symm he2.symm
          · cases he
        · cases he
      · cases he
    · cases he
  · cases he

/-- No function is the one that the model serves itself. -/
def Plain (P : Program) : Prop := ∀ (k : Nat) (fn : Func), P.funcs[k]? = some fn → (fn.name == "runtime.NumGoroutine") = false
theorem oV_ok {α : Type} {x : Option α} {k : α → VRes} {v : AV} {h : Hp} (e : oV x k = .ok v h) : ∃ a, x = some a ∧ k a = .ok v h := by
  cases x with
  | none => cases e
  | some a => exact ⟨a, rfl, e⟩
theorem oR_ok {α : Type} {x : Option α} {k : α → Res} {o : Out} {a : Fr} {h : Hp} (e : oR x k = .ok o a h) : ∃ y, x = some y ∧ k y = .ok o a h := by
  cases x with
  | none => cases e
  | some a => exact ⟨a, rfl, e⟩
/-- What R enters has a body. -/
def Entered (P : Program) (R : Rec) : Prop := ∀ mark k args h v h', R.call mark k args h = .ok v h' → ∃ fn c, P.funcs[k]? = some fn ∧ fn.body = some c
theorem callV_run (hN : Plain P) (hE : Entered P R) (hR : Ok P R) {c : Call} {o : Oper} (ho : o.op = .call c) {g : Operand} (hg : c.callee = .value g) {a : Fr} {x : Act} {h h' : Hp} {w : World} {gv v : AV} {args : List AV} (hf : FrR ρ a x.tmps) (hgv : a.eval g = some gv) (hargs : evalL a c.args.toList = some args)
    (he : callV R mark gv args h = .ok v h') (hr : RelH P ρ base h w) (hb : base ≤ w.heap.size) (hm : mark ≤ h.next) {rb : Option Nat} {n : Nat} {K : Act → World → Prop} {Q : Exit → Act → World → Prop}
    (hK : ∀ u w' ρ', VR ρ' v u → RelH P ρ' base h' w' → Post ρ h w mark ρ' h' w' → K (x.put o.dst u) w') : o.wpIn (WF rb) n P x w K Q := by
  obtain ⟨dst, op, type, pos, after, guard⟩ := o
  simp only at ho
  subst ho
  obtain ⟨callee, cargs, tys⟩ := c
  simp only at hg
  subst hg
  refine ⟨fun _ _ => trivial, ?_⟩
  rw [Oper.semAt_eq _ _ _ (fun c e => by cases e)]
  have hgr := hf.eval hgv
  have har := hf.evalL hargs
  have hm' : cargs.map x.eval = ⟨cargs.toList.map x.eval⟩ := by apply Array.ext'; simp
  unfold callV at he
  split at he
  · rename_i k u cs
    generalize hgu : x.eval g = gu at hgr
    cases hgr with
    | func hu hcs =>
      rename_i us ccs
      obtain ⟨fn, body, hfn, hbody⟩ := hE _ _ _ _ _ _ he
      have hent := Go.Proofs.enters_of hfn (hN k fn hfn) hbody
      have hrun : (execOp x.eval { dst, op := .call { callee := .value g, args := cargs, argTypes := tys }, type, pos, after, guard }).run P w = .ok (.enter k (us ++ (cargs.toList.map x.eval ++ ccs)).toArray) w := by
        simp only [execOp, resolve, hgu, Deferred.ofValue, Sem.run_bind, Sem.run_pure, Result.andThen_ok, invoke]
        rw [hent]
        congr 2
        apply Array.ext'
        simp
      rw [hrun]
      refine ⟨fun h => by simp [WF, Fence.wide] at h, calls_in ((hR.call _ _ _ _ _ _ he ρ base w _ hr hb hm (hu.append (har.append hcs))).mono ?_) rb _⟩
      rintro e w' ⟨u, ρ', rfl, h1, h2, h3⟩
      exact hK u w' ρ' h1 h2 h3
  · rename_i l
    generalize hgu : x.eval g = gu at hgr
    cases hgr with
    | yield hp =>
      rename_i p
      obtain ⟨fn, tmps, as1, body, hy, hround⟩ := evYield_run hR he hr hb hm hp har rb (n - 1)
      have hrun : (execOp x.eval { dst, op := .call { callee := .value g, args := cargs, argTypes := tys }, type, pos, after, guard }).run P w = .ok (.round p.b fn tmps as1 body) w := by
        simp only [execOp, resolve, hgu, Deferred.ofValue, Sem.run_bind, Sem.run_pure, Result.andThen_ok, invoke]
        rw [← hy]
        congr 2
        apply Array.ext'
        simp
      rw [hrun]
      refine ⟨fun h => by simp [WF, Fence.wide] at h, hround.mono ?_⟩
      rintro e w' ⟨u, ρ', rfl, h1, h2, h3⟩
      exact hK u w' ρ' h1 h2 h3
  · cases he
theorem creOp_not {a : Fr} {o : Oper} {ob : AObj} (h : creOp P a o = some ob) : ∀ c, o.op ≠ .defer c := by
  intro c e
  unfold creOp at h
  rw [e] at h
  cases h
theorem effOp_not {a : Fr} {o : Oper} {h : Hp} {p : AV × Hp} (he : effOp P mark h a o = some p) : ∀ c, o.op ≠ .defer c := by
  intro c e
  unfold effOp at he
  rw [e] at he
  cases he
theorem evOp_ok (hN : Plain P) (hE : Entered P R) (hR : Ok P R) : OpOk P (evOp P R) := by
  intro mark o a h v h' he ρ base x w rb n K Q hr hb hm hf hK
  unfold evOp at he
  cases hk : kindOf o with
  | val =>
    rw [hk] at he
    have he : ofV h (valOp P h a o) = .ok v h' := he
    cases hv : valOp P h a o with
    | none => rw [hv] at he; cases he
    | some v' =>
      rw [hv] at he
      injection he with h1 h2
      subst h1 h2
      obtain ⟨u, h1, h2⟩ := valOp_run hv hf w (fun r _ => hr.obj r)
      exact wpIn_of_run (defer_not (.inr ⟨_, _, _, hv⟩)) (.inl h1) (hK u w ρ h2 hr (Post.refl _ _ _ _))
  | cre =>
    rw [hk] at he
    have he : oV (creOp P a o) (fun ob => oV (creVal a o h.next) fun v => .ok v (h.new ob)) = .ok v h' := he
    obtain ⟨ob, h1, h2⟩ := oV_ok he
    obtain ⟨v', h3, h4⟩ := oV_ok h2
    injection h4 with h4 h5
    subst h4 h5
    obtain ⟨u, o', e1, e2, e3⟩ := creOp_run h1 h3 hf w
    have hno := hr.noName (Nat.le_refl h.next)
    obtain ⟨e4, e5⟩ := e3 (upd ρ h.next ⟨w.heap.size, 0, 0, 0⟩) (upd_le _ hno) (upd_same _ _ _)
    obtain ⟨e6, e7⟩ := RelH.new (w' := w.alloc o') hr hb hm rfl rfl rfl rfl rfl e4 e2
    exact wpIn_of_run (creOp_not h1) (.inl e1) (hK u _ _ e5 e6 e7)
  | eff =>
    rw [hk] at he
    have he : ofO (effOp P mark h a o) = .ok v h' := he
    cases hv : effOp P mark h a o with
    | none => rw [hv] at he; cases he
    | some q =>
      obtain ⟨v', h1⟩ := q
      rw [hv] at he
      injection he with h2 h3
      subst h2 h3
      obtain ⟨u, w', ρ', e1, e2, e3, e4⟩ := effOp_run hr hb hm hv hf
      exact wpIn_of_run (effOp_not hv) e1 (hK u w' ρ' e2 e3 e4)
  | call =>
    rw [hk] at he
    have he : opCall o P R mark a h = .ok v h' := he
    unfold opCall at he
    split at he
    · rename_i c hc
      unfold opCallC at he
      obtain ⟨args, h1, h2⟩ := oV_ok he
      split at h2
      · rename_i g hg
        obtain ⟨gv, h3, h4⟩ := oV_ok h2
        exact callV_run hN hE hR hc hg hf h3 h1 h4 hr hb hm hK
      · cases h2
    · cases he

/-! A region in its order. -/
theorem wanted_rel {ops : List Oper} {a : Fr} {x : Act} {o : Oper} (hf : FrR ρ a x.tmps) (hT : topG ops a o = false) : Ev.wanted ops a o = Region.wanted o (yielded ops.toArray x.tmps) := by
  unfold Ev.wanted Region.wanted
  cases hg : o.guard with
  | none => rfl
  | some q =>
    obtain ⟨j, want⟩ := q
    change wantedAt ops a j want = _
    unfold wantedAt yielded
    simp only [getL_eq, List.getElem?_toArray]
    cases hj : ops[j]? with
    | none => rfl
    | some oj =>
      change (Option.rec false (fun d => (Fr.get a d).boolE false fun b => Bool.rec (not want) want b) oj.dst : Bool) = _
      simp only [Option.bind_some]
      cases hd : oj.dst with
      | none => rfl
      | some d =>
        change (Fr.get a d).boolE false (fun b => Bool.rec (not want) want b) = _
        simp only [Option.bind_some]
        have hT' : AV.isTop (a.get d) = false := by
          unfold topG at hT
          rw [hg] at hT
          simp only [getL_eq, hj, hd] at hT
          exact hT
        have h1 := (hf.get d).known hT'
        have h2 : x.tmps.getD d Go.undef = (x.tmps[d]?).getD Go.undef := by simp
        rw [h2] at h1
        cases hx : x.tmps[d]? with
        | none =>
          rw [hx] at h1
          simp only [Option.getD_none] at h1
          have : a.get d = .tup [] := by
            generalize hv : a.get d = v at h1
            cases h1 with
            | tup hl => cases hl; rfl
          rw [this]; rfl
        | some u =>
          rw [hx] at h1
          simp only [Option.getD_some] at h1
          generalize hv : a.get d = v at h1
          cases h1 <;> first | rfl | skip
          rename_i b
          cases b <;> cases want <;> rfl
theorem evOps_ok {f : Nat → Oper → Fr → Hp → VRes} (hO : OpOk P f) {rb : Option Nat} {n : Nat} {ops : List Oper} {Q : Exit → Act → World → Prop} (hst : ∀ (ih : Fr → Hp → Res) (o : Oper) (a : Fr) (h : Hp), opStep P R mark ops o ih a h = Bool.rec (Bool.rec (ih (Fr.put a o.dst .undef) h) ((f mark o a h).bind fun v h => ih (Fr.put a o.dst v) h) (Ev.wanted ops a o)) .bad (topG ops a o)) :
    ∀ (l : List Oper) (i : Nat), ops.drop i = l → ∀ (ρ : Rn) (a : Fr) (h : Hp) (x : Act) (w : World) (o : Out) (a' : Fr) (h' : Hp), evOps P R mark ops l a h = .ok o a' h' → St P ρ base mark a h x w →
      (∀ x' w', After P ρ base mark h w a' h' x' w' → Q (exitOf o) x' w') → wpOpsIn (WF rb) n P ops.toArray Q (List.range' i l.length) x w
  | [], i, hl, ρ, a, h, x, w, o, a', h', he, hs, hQ => by
    injection he with h1 h2 h3
    subst h1 h2 h3
    exact hQ x w ⟨ρ, Aft.refl hs⟩
  | op :: l, i, hl, ρ, a, h, x, w, o, a', h', he, hs, hQ => by
    have hop : ops[i]? = some op := by
      have : (ops.drop i)[0]? = some op := by rw [hl]; rfl
      simpa using this
    have hl' : ops.drop (i + 1) = l := by
      have : (ops.drop i).drop 1 = l := by rw [hl]; rfl
      simpa using this
    have he : opStep P R mark ops op (evOps P R mark ops l) a h = .ok o a' h' := he
    rw [hst] at he
    simp only [List.length_cons, List.range'_succ]
    unfold wpOpsIn
    simp only [List.getElem?_toArray, hop]
    cases hT : topG ops a op with
    | true => rw [hT] at he; cases he
    | false =>
    rw [hT] at he
    rw [← wanted_rel (ops := ops) (o := op) hs.frame hT]
    cases hw : Ev.wanted ops a op with
    | false =>
      rw [hw] at he
      simp only [Bool.false_eq_true, if_false]
      refine ⟨fun _ _ => trivial, ?_⟩
      have s1 : St P ρ base mark (Fr.put a op.dst .undef) h (x.put op.dst Go.undef) w := ⟨hs.heap, hs.base, hs.mark, hs.frame.put (VR.undef ρ) op.dst, by rw [Fr.put_marks]; have := hs.defers; cases hd : op.dst <;> exact this⟩
      exact evOps_ok hO hst l (i + 1) hl' ρ _ h _ w o a' h' he s1 hQ
    | true =>
      rw [hw] at he
      simp only [if_true]
      have he : (f mark op a h).bind (fun v h => evOps P R mark ops l (Fr.put a op.dst v) h) = .ok o a' h' := he
      cases hf : f mark op a h with
      | bad => rw [hf] at he; cases he
      | ok v h1 =>
        rw [hf] at he
        have he : evOps P R mark ops l (Fr.put a op.dst v) h1 = .ok o a' h' := he
        refine hO mark op a h v h1 hf ρ base x w rb n _ _ hs.heap hs.base hs.mark hs.frame (fun u w' ρ' h2 h3 h4 => ?_)
        have s1 : St P ρ' base mark (Fr.put a op.dst v) h1 (x.put op.dst u) w' :=
          ⟨h3, Nat.le_trans hs.base h4.size, Nat.le_trans hs.mark h4.next, (hs.frame.mono h4.le).put h2 op.dst, by rw [Fr.put_marks]; have := hs.defers.mono h4.le; cases hd : op.dst <;> exact this⟩
        have t1 : Aft P ρ base mark h w (Fr.put a op.dst v) h1 (x.put op.dst u) w' ρ' := ⟨h3, s1.frame, s1.defers, h4⟩
        exact evOps_ok hO hst l (i + 1) hl' ρ' _ h1 _ w' o a' h' he s1 (fun x' w'' ⟨ρ'', t2⟩ => hQ x' w'' ⟨ρ'', t1.trans hs t2⟩)
end
end Go.Ev
end

section
namespace Go.Ev
section
variable {P : Program} {ρ : Rn} {base mark : Nat} {R : Rec}

theorem stepR_scope {b : Frame} {a : Act} {k : List Item} {cs : List Frame} {w : World} {c : Code} : step P (lone (b.atR a (.code (.scope c) :: k)) cs w) = .next (lone (b.atR a (.code c :: .inScope c :: k)) cs w) :=
  step_lone_go (by simp [stepG, stepG.exec, Frame.atR])
theorem stepR_inScope {b : Frame} {a : Act} {k : List Item} {cs : List Frame} {w : World} {c : Code} : step P (lone (b.atR a (.inScope c :: k)) cs w) = .next (lone (b.atR a k) cs w) :=
  step_lone_go (by simp [stepG, stepG.exec, Frame.atR])
theorem wpIn_scope_straight {F : Fence} {n : Nat} {Q : Exit → Act → World → Prop} {a : Act} {w : World} {c : Code} (h : c.wpIn F n P (Exit.noGoto Q) a w) : (Code.scope c).wpIn F n P Q a w := by
  intro b k cs hro hb hr
  have h0 : (lone (b.atR a (.code (.scope c) :: k)) cs w).fenced P F := fenced_calm hb hr rfl
  obtain ⟨e, a₁, w₁, hq, harr⟩ := h b (.inScope c :: k) cs hro hb hr
  have hx : ∀ id, exitTo id (.inScope c :: k) = exitTo id k := fun id => by simp [exitTo]
  cases e with
  | normal => exact ⟨.normal, a₁, w₁, hq, .head h0 stepR_scope (StepsIn.trans harr (.one (fenced_calm hb hr rfl) stepR_inScope))⟩
  | exit id => exact ⟨.exit id, a₁, w₁, hq, fun k' hk => .head h0 stepR_scope (harr.1 k' (by rw [hx]; exact hk)), fun hr' hk => let ⟨k₁, h1, h2⟩ := harr.2 hr' (by rw [hx]; exact hk); ⟨k₁, h1, .head h0 stepR_scope h2⟩⟩
  | goto l => exact hq.elim
  | ret => exact ⟨.ret, a₁, w₁, hq, .of_steps (b := b) (k := k) (cs := cs) (e := .ret) (.one h0 stepR_scope) harr⟩
  | panic ch => exact ⟨.panic ch, a₁, w₁, hq, .of_steps (b := b) (k := k) (cs := cs) (e := .panic ch) (.one h0 stepR_scope) harr⟩
  | outgrown => exact ⟨_, a₁, w₁, hq, .of_steps (b := b) (k := k) (cs := cs) (e := .outgrown) (.one h0 stepR_scope) harr⟩

/-- A region that draws. -/
def DrawOk (P : Program) (R : Rec) : Prop :=
  ∀ mark ops a h o a' h', evRegion P R mark ops a h = .ok o a' h' → ∀ ρ base x w rb n id, St P ρ base mark a h x w → (Code.region id ops.toArray true).wpIn (WF rb) n P (fun e x' w' => e = exitOf o ∧ After P ρ base mark h w a' h' x' w') x w
theorem next_ok {r : Res} {k : Fr → Hp → Res} {o : Out} {a : Fr} {h : Hp} (e : r.next k = .ok o a h) : (∃ a1 h1, r = .ok .norm a1 h1 ∧ k a1 h1 = .ok o a h) ∨ (r = .ok o a h ∧ o ≠ .norm) := by
  cases r with
  | bad => cases e
  | ok o1 a1 h1 =>
    cases o1 with
    | norm => exact .inl ⟨a1, h1, rfl, e⟩
    | exit i => injection e with e1 e2 e3; subst e1 e2 e3; exact .inr ⟨rfl, by simp⟩
    | goto l => injection e with e1 e2 e3; subst e1 e2 e3; exact .inr ⟨rfl, by simp⟩
    | ret => injection e with e1 e2 e3; subst e1 e2 e3; exact .inr ⟨rfl, by simp⟩
theorem exitOf_norm {o : Out} (h : o ≠ .norm) : exitOf o ≠ .normal := by cases o <;> simp_all [exitOf]
theorem then_other {o : Out} (h : o ≠ .norm) {K : Act → World → Prop} {Q : Exit → Act → World → Prop} {x : Act} {w : World} (hq : Q (exitOf o) x w) : Exit.then K Q (exitOf o) x w := by cases o <;> first | exact absurd rfl h | exact hq

theorem loop_ok (hR : CodeOk P R.code) {rnd rb : Option Nat} {n : Nat} {c : Code} {Q : Exit → Act → World → Prop} : ∀ (m : Nat) (ρ : Rn) (a : Fr) (h : Hp) (x : Act) (w : World) (o : Out) (a' : Fr) (h' : Hp), cLoopAt R mark rnd c m a h = .ok o a' h' → St P ρ base mark a h x w → RndR ρ rnd rb →
    (∀ x' w', After P ρ base mark h w a' h' x' w' → Q (exitOf o) x' w') → Code.roundsIn (WF rb) n P c Q m x w
  | 0, _, _, _, _, _, _, _, _, he, _, _, _ => by cases he
  | m + 1, ρ, a, h, x, w, o, a', h', he, hs, hrd, hQ => by
    have he : (R.code mark rnd c a h).next (cLoopAt R mark rnd c m) = .ok o a' h' := he
    rw [roundsIn_succ]
    rcases next_ok he with ⟨a1, h1, e1, e2⟩ | ⟨e1, e2⟩
    · refine wpIn_mono (hR _ _ _ _ _ _ _ _ e1 ρ base x w rb n hs hrd) ?_
      rintro e x1 w1 ⟨rfl, ρ1, t1⟩
      exact loop_ok hR m ρ1 a1 h1 x1 w1 o a' h' e2 (t1.st hs) (hrd.mono t1.post.le) (fun x' w' ⟨ρ2, t2⟩ => hQ x' w' ⟨ρ2, t1.trans hs t2⟩)
    · refine wpIn_mono (hR _ _ _ _ _ _ _ _ e1 ρ base x w rb n hs hrd) ?_
      rintro e x1 w1 ⟨rfl, t⟩
      exact then_other e2 (hQ x1 w1 t)

/-- The statement 'for x := range f'. -/
theorem range_ok (hN : Plain P) (hE : Entered P R) (hR : Ok P R) {rnd rb : Option Nat} {n : Nat} {g : Operand} {ps : Array Tmp} {assign body : Code} {a a1 a' : Fr} {h h1 h' : Hp} {x : Act} {w : World} {o : Out} {gv : AV} (hg : a.eval g = some gv)
    (he : cRangeAt R mark rnd gv ps assign body a1 h1 = .ok o a' h') (hs : St P ρ base mark a h x w) (hrd : RndR ρ rnd rb)
    -- the loop's own memory
    {ρ1 : Rn} {w1 : World} {mk : List Deferred} {lb : Nat} {df : Nat} (ht : a1.tmps = a.tmps ∧ a1.nt = a.nt) (t1 : Aft P ρ base mark h w a1 h1 { x with defers := mk ++ x.defers } w1 ρ1) (hlb : lb = w1.heap.size)
    (hent : ∀ fn, (Instr.enterLoop fn x.tmps ps assign body rb).run P w = .ok (lb, mk) (w1.alloc (.loop { state := .ready, pending := none, fn, tmps := x.tmps, params := ps, assign, body, defers := df }))) :
    (Code.rangeFunc g ps assign body).wpIn (WF rb) n P (fun e x' w' => e = exitOf o ∧ After P ρ base mark h w a' h' x' w') x w := by
  unfold cRangeAt at he
  split at he
  · rename_i k u cs
    split at he
    · rename_i v2 h2 hcall
      obtain ⟨fn0, body0, hfn, hbody⟩ := hE _ _ _ _ _ _ hcall
      have hen := Go.Proofs.enters_of hfn (hN k fn0 hfn) hbody
      have hgr := hs.frame.eval hg
      generalize hgu : x.eval g = gu at hgr
      cases hgr with
      | func hu hcs =>
        rename_i us ccs
        refine wpIn_rangeFunc (fun fn _ => ?_)
        have s1 := t1.st hs
        have hno := s1.heap.noName (Nat.le_refl h1.next)
        have hnew := RelH.new (P := P) (mark := mark) (w' := w1.alloc (.loop { state := .ready, pending := none, fn, tmps := x.tmps, params := ps, assign, body, defers := df })) (ob := .loop { tmps := a1.tmps, nt := a1.nt, params := ps.toList, assign, body } .ready none)
          (p := ⟨w1.heap.size, 0, 0, 0⟩) s1.heap s1.base s1.mark rfl rfl rfl rfl rfl ?_ rfl
        · obtain ⟨r2, p2⟩ := hnew
          let ρ2 := upd ρ1 h1.next ⟨w1.heap.size, 0, 0, 0⟩
          refine ⟨lb, mk, w1.alloc (.loop { state := .ready, pending := none, fn, tmps := x.tmps, params := ps, assign, body, defers := df }), { target := .fn (.func k) ⟨ccs⟩, args := ⟨us⟩ ++ #[.func (.yield lb) #[] #[]] }, w1.alloc (.loop { state := .ready, pending := none, fn, tmps := x.tmps, params := ps, assign, body, defers := df }), k, (us ++ (.func (.yield lb) #[] #[] :: ccs)).toArray, w1.alloc (.loop { state := .ready, pending := none, fn, tmps := x.tmps, params := ps, assign, body, defers := df }), hent fn, ?_, fun _ _ => trivial, ?_, fun h => by simp [WF, Fence.wide] at h, ?_⟩
          · have hm : (#[Operand.const (.func (.yield lb) #[] #[])] : Array Operand).map x.eval = #[Value.func (.yield lb) #[] #[]] := by simp [Act.eval]
            simp only [resolve, hgu, Deferred.ofValue, Sem.run_pure, hm]
          · simp only [invoke]
            rw [hen]
            congr 2
            apply Array.ext'
            simp
          · have hal : VRs ρ2 (u ++ (.yield h1.next :: cs)) (us ++ (.func (.yield lb) #[] #[] :: ccs)) := by
              have l2 : Rn.le ρ ρ2 := t1.post.le.trans p2.le
              refine (hu.mono l2).append (.cons ?_ (hcs.mono l2))
              rw [hlb]
              exact VR.yield (p := ⟨w1.heap.size, 0, 0, 0⟩) (upd_same _ _ _)
            refine calls_in ((hR.call _ _ _ _ _ _ hcall ρ2 base _ _ r2 (Nat.le_trans s1.base p2.size) (Nat.le_trans s1.mark p2.next) hal).mono ?_) rb _
            rintro e w3 ⟨u3, ρ3, rfl, h3, h4, h5⟩
            unfold cRangeEnd at he
            split at he
            · rename_i rc st pe hrow
              have hp3 : ρ3 h1.next = some ⟨w1.heap.size, 0, 0, 0⟩ := h5.le _ _ (upd_same _ _ _)
              obtain ⟨r, f1, f2, f3, f4, f5, f6, f7, f8, f9⟩ := loop_put (mark := mark) (st' := .exhausted) (pe' := pe) h4 hrow hp3
              have hst : r.state ≠ .busy := by
                rw [f2]
                split at he
                · cases he
                · rename_i hne; exact hne
              have hpe : ({ r with state := LoopState.exhausted, pending := pe } : Loop) = { r with state := .exhausted } := by rw [← f3]
              rw [hpe] at f8 f9
              have hend : (Instr.endLoop w1.heap.size).run P w3 = .ok r.pending (w3.putObj w1.heap.size (.loop { r with state := .exhausted })) := run_endLoop (P := P) f1 hst
              have post : Post ρ h w mark ρ3 ((h2.put h1.next (.loop rc .exhausted pe)).touch mark h1.next) (w3.putObj w1.heap.size (.loop { r with state := .exhausted })) :=
                ((t1.post.trans hs.heap p2).trans hs.heap h5).trans hs.heap f9
              have l3 : Rn.le ρ1 ρ3 := p2.le.trans h5.le
              have t4 : Aft P ρ base mark h w a1 ((h2.put h1.next (.loop rc .exhausted pe)).touch mark h1.next) { x with defers := mk ++ x.defers } (w3.putObj w1.heap.size (.loop { r with state := .exhausted })) ρ3 :=
                ⟨f8, t1.frame.mono l3, t1.defers.mono l3, post⟩
              obtain ⟨W, hW⟩ : ∃ W, w3.putObj w1.heap.size (.loop { r with state := .exhausted }) = W := ⟨_, rfl⟩
              rw [hW] at hend t4
              subst hlb
              refine ⟨r.pending, W, hend, ?_⟩
              split at he
              · cases he
              · split at he
                · rename_i hpe'
                  injection he with g1 g2 g3
                  subst g1 g2 g3
                  rw [f3]
                  exact ⟨rfl, ρ3, t4⟩
                · rename_i c hpe'
                  rw [f3]
                  refine wpIn_mono (hR.code _ _ _ _ _ _ _ _ he ρ3 base _ _ rb n (t4.st hs) (hrd.mono post.le)) ?_
                  rintro e x5 w5 ⟨rfl, ρ5, t5⟩
                  exact ⟨rfl, ρ5, t4.trans hs t5⟩
            · cases he
        · refine ⟨fn, x.tmps, df, alloc_new _ _, ?_, fun t => ?_⟩
          · rw [hs.frame.size]; exact ht.2.symm
          · have l2 : Rn.le ρ (upd ρ1 h1.next ⟨w1.heap.size, 0, 0, 0⟩) := t1.post.le.trans (upd_le _ hno)
            have := (hs.frame.get t).mono l2
            have e : Fr.get { tmps := a1.tmps, nt := a1.nt, marks := [] } t = a.get t := by rw [ht.1]; rfl
            rw [e]; exact this
    · cases he
  · cases he
end
end Go.Ev
end

