/- Merged texts: piles, Rising, Falls; facts that stay; from a walk to the row. -/
import Derived.Test.YtnnfahdhmodejaaMGG
import Derived.Laws.CopyRow
import Derived.Laws.IdiomCopy
import Derived.ProofKit
import Derived.OpenShut
import Derived.Lib.SmallJoins
import Derived.Deep.Slices
namespace Go.Proofs.Ytnnfahdhmodejaa

/-- The place in the first row at which the taper k comes. -/
def atP (s : List Int) (k : Nat) : Nat := ins (row (bldR s k).1 0) (elt s k)
/-- The index at the end of a pile. -/
def lastP (P : List (List Int)) (i : Nat) : Int := elt (row P i) ((row P i).length - 1)
/-- The piles of the first k indexes, and the index before each. -/
def pilP (s : List Int) : Nat → List (List Int) × List Int
  | 0 => ([], [])
  | k + 1 => (addO (pilP s k).1 (atP s k) (k : Int), (pilP s k).2 ++ [if atP s k = 0 then -1 else lastP (pilP s k).1 (atP s k - 1)])
theorem row_putR (R : List (List Int)) (t : Int) : (row (putR R t).1 0).length = if ins (row R 0) t = (row R 0).length then (row R 0).length + 1 else (row R 0).length := by
  cases R with
  | nil => rfl
  | cons l R =>
    unfold putR
    have e : row (l :: R) 0 = l := rfl
    rw [e]
    split
    · simp [row]
    · simp [row]
theorem addP_len (P : List (List Int)) (r : Nat) (n : Int) : (addO P r n).length = if r = P.length then P.length + 1 else P.length := by
  unfold addO
  split
  · simp
  · simp
theorem addP_row {P : List (List Int)} {r : Nat} (n : Int) (hr : r ≤ P.length) (i : Nat) : row (addO P r n) i = if i = r then row P i ++ [n] else row P i := by
  unfold addO
  by_cases e : r = P.length
  · subst e
    rw [if_pos rfl]
    by_cases e2 : i = P.length
    · subst e2
      rw [if_pos rfl, row_ge (R := P) (Nat.le_refl _)]
      unfold row
      rw [List.getElem?_append_right (Nat.le_refl _), Nat.sub_self]; rfl
    · rw [if_neg e2]
      unfold row
      rcases Nat.lt_or_ge i P.length with h | h
      · rw [List.getElem?_append_left h]
      · rw [List.getElem?_append_right h, List.getElem?_eq_none (by simp; omega), List.getElem?_eq_none h]
  · rw [if_neg e]
    by_cases e2 : i = r
    · subst e2
      rw [if_pos rfl]
      unfold row
      rw [List.getElem?_set_self (by omega)]; rfl
    · rw [if_neg e2]
      unfold row
      rw [List.getElem?_set_ne (fun h => e2 h.symm)]
structure PilOk (s : List Int) (k : Nat) : Prop where
  len : (pilP s k).1.length = (row (bldR s k).1 0).length
  pos : ∀ i, i < (pilP s k).1.length → 0 < (row (pilP s k).1 i).length
  size : ∀ i, (row (pilP s k).1 i).length ≤ k
  most : (pilP s k).1.length ≤ k
  bef : (pilP s k).2.length = k
theorem atP_le {s : List Int} {k : Nat} (h : PilOk s k) : atP s k ≤ (pilP s k).1.length := by rw [h.len]; exact ins_le _ _
theorem pilOk (s : List Int) : ∀ k, PilOk s k
  | 0 => ⟨rfl, fun i hi => by simp [pilP] at hi, fun i => by simp [pilP, row], Nat.le_refl _, rfl⟩
  | k + 1 => by
    have h := pilOk s k
    have ha := atP_le h
    have hb : bldR s (k + 1) = ((putR (bldR s k).1 (elt s k)).1, addO (bldR s k).2 (putR (bldR s k).1 (elt s k)).2 ((k : Int) + 1)) := rfl
    have hp : (pilP s (k + 1)).1 = addO (pilP s k).1 (atP s k) (k : Int) := rfl
    have hl := addP_len (pilP s k).1 (atP s k) (k : Int)
    refine ⟨?_, fun i hi => ?_, fun i => ?_, ?_, ?_⟩
    · rw [hp, hl, hb, row_putR, h.len]; rfl
    · rw [hp] at hi ⊢
      rw [addP_row _ ha]
      split
      · rw [List.length_append]; simp
      · rename_i hne
        rw [hl] at hi
        split at hi
        · exact h.pos i (by omega)
        · exact h.pos i hi
    · rw [hp, addP_row _ ha]
      have := h.size i
      split
      · rw [List.length_append]; simp; omega
      · omega
    · rw [hp, hl]
      have := h.most
      split <;> omega
    · show ((pilP s k).2 ++ [_]).length = k + 1
      rw [List.length_append, h.bef]; rfl
end Go.Proofs.Ytnnfahdhmodejaa

namespace Go.Proofs.Ytnnfahdhmodejaa
open Go.RowKit Go.Shelf

theorem LL.clip {w w' : World} {B : Nat → Prop} {v e' : Value} {R : List (List Int)} {vs : List Value} {i : Nat} {xs : List Int} (h : LL w B v R vs) (hg : w.grownBy w' none) (he : rowI w' w.heap.size e' xs) (hB : ∀ k, w.heap.size ≤ k → B k) : LLp w' B v R vs i e' xs := by
  have h' := h.fr (C := fun _ => False) (Fr.grown hg (fun k e => by cases e)) (fun _ _ _ h => h)
  exact ⟨h'.len, h'.out, h'.outB, fun j f _ hf => h'.el j f hf, fun j f _ hf => h'.elB j f hf, fun j k f g _ _ hjk hf hg => h'.ap j k f g hjk hf hg, he.base (Nat.zero_le _), fun k ek => hB k (he.lt ek).1, fun j f _ hf => apart_fresh h he j f hf⟩
theorem snoc_len {P : List (List Int)} {n : Nat} (h : ∀ t, (row P t).length ≤ n) (i : Nat) : (row (P ++ [[]]) i).length ≤ n := by
  rw [row_snoc]
  split
  · exact Nat.zero_le _
  · exact h i
theorem rowI_clip {w : World} {base n c : Nat} {a : Option Addr} {xs : List Int} (h : rowI w base (.slice a n c) xs) : n ≤ c ∧ ∀ ad, a = some ad → ad.off = 0 ∧ ad.spot = none := by
  rcases h.2 with ⟨h1, _⟩ | ⟨g, cap, cur, h1, _, _, h2, _⟩
  · cases h1; exact ⟨Nat.le_refl _, fun ad e => by cases e⟩
  · cases h1; exact ⟨h2, fun ad e => by cases e; exact ⟨rfl, rfl⟩⟩
theorem wpList_append_ran {w w' : World} {v x' y' : Value} {ops : Array Oper} {rest : List Oper} {o : Oper} {a : Act} {Q : Exit → Act → World → Prop} (hgd : o.guard = none) (s x : Operand)
    (ho : o.op = .call { callee := .builtin .append, args := #[s, x], argTypes := #[31, 31] }) (hs : a.eval s = x') (hx : a.eval x = y') (hr : (Builtin.append_ #[31, 31] o.type #[x', y']).run Try.prog w = .ok v w') (H : wpList Try.prog ops Q rest (a.put o.dst v) w') :
    wpList Try.prog ops Q (o :: rest) a w := by
  refine wpList_plain hgd fun _ hK => ?_
  unfold Oper.wp execOp
  simp only [ho, resolve, invoke, builtin, Sem.run_bind, Sem.run_pure, Result.andThen_ok, List.map_toArray, List.map_cons, List.map_nil, hs, hx, hr]
  exact hK _ _ H
theorem append_num_at {w : World} {base : Nat} {v : Value} {xs : List Int} {ops : Array Oper} {rest : List Oper} {o : Oper} {a : Act} {Q : Exit → Act → World → Prop} (he : rowI w base v xs) (hgd : o.guard = none) (s x : Operand)
    (ho : o.op = .call { callee := .builtin .append, args := #[s, x], argTypes := #[31, 31] }) (q : Int) (hs : a.eval s = v) {nb : Nat} (hx : a.eval x = .slice (some ⟨nb, 0, none⟩) 1 1) (hnb : nb = w.heap.size) (hl : xs.length ≤ 1000) (hb : base ≤ w.heap.size)
    (H : ∀ v' w', rowI w' base v' (xs ++ [q]) → w.grownBy w' v.ownBlock → (∀ k, v'.ownBlock = some k → v.ownBlock = some k ∨ w.heap.size ≤ k) → wpList Try.prog ops Q rest (a.put o.dst v') w') :
    wpList Try.prog ops Q (o :: rest) a (w.alloc (.cells #[.int .i64 q] 3)) := by
  subst hnb
  obtain ⟨i0, hi, hz0, hz1, hz2⟩ := info_parts num3
  refine wpList_append_own_at _ hgd s x 31 ho base 3 i0 (.int .i64 0) 1 8 Try.underlying31 hi hz0 hz1 hz2 rfl (by decide) _ _ _ hs (World.ownsRow.alloc he _) ⟨w.heap.size, 0, none⟩ 1 1 [.int .i64 q] hx rfl (fun j u hj => ?_) (fun u hu => by simp at hu; subst hu; rfl)
    (by simp only [maxLen]; omega) (by omega) (by simp; omega) ?_
  · match j, hj with
    | 0, hj => simp at hj; subst hj; rw [Go.WideShapes.add_plain]; simp
  · intro e' w' h1 h2 _ h4
    have hs := h2.size
    refine H e' w' ?_ ⟨h2.os, h2.tape, h2.output, by have : w.heap.size ≤ (w.alloc (.cells #[.int .i64 q] 3)).heap.size := by simp
                                                     omega, fun k hk hne => (h2.block k (by simp; omega) hne).trans (Below.heap_alloc w _ k hk)⟩ (fun k ek => ?_)
    · unfold rowI
      rw [List.map_append, List.length_append]; exact h1
    · rcases h4 with h4 | h4
      · exact .inl (h4 ▸ ek)
      · rw [h4] at ek; cases ek; exact .inr (by simp)
/-- A stand, piles and what lies before, that have no block in common. -/
def Tri (w : World) (base sb : Nat) (R : List (List Int)) (v : Value) (P : List (List Int)) (u : Value) (F : List Int) : Prop :=
  ∃ (B D : Nat → Prop) (vs : List Value), SI w B sb R ∧ LL w D v P vs ∧ rowI w base u F ∧ (∀ k, B k → ¬ D k) ∧ (∀ k, u.ownBlock = some k → ¬ B k ∧ ¬ D k) ∧ (∀ k, D k → base ≤ k) ∧ (∀ k, B k → base ≤ k)
theorem Tri.ready {w : World} {base sb : Nat} {R : List (List Int)} {v u : Value} {P : List (List Int)} {F : List Int} (h : Tri w base sb R v P u F) (hb : base ≤ w.heap.size) :
    ∃ (B : Nat → Prop), SI w B sb R ∧ (∀ k, w.heap.size ≤ k → B k) ∧ (∀ k, B k → base ≤ k) ∧ ∀ (w' : World) (R' : List (List Int)), SI w' B sb R' → Fr w w' B → Tri w' base sb R' v P u F := by
  obtain ⟨B, D, vs, h1, h2, h3, h4, h5, h6, h7⟩ := h
  refine ⟨fun k => (B k ∧ k < w.heap.size) ∨ w.heap.size ≤ k, h1.mono fun j hj hB => .inl ⟨hB, hj⟩, fun k hk => .inr hk, fun k hk => hk.elim (fun h => h7 k h.1) (fun h => Nat.le_trans hb h), fun w' R' hs hF => ?_⟩
  have hu : ∀ k, u.ownBlock = some k → ¬ ((B k ∧ k < w.heap.size) ∨ w.heap.size ≤ k) := fun k ek hk => by
    have := (h3.lt ek).2
    rcases hk with hk | hk
    · exact (h5 k ek).1 hk.1
    · omega
  refine ⟨fun k => ((B k ∧ k < w.heap.size) ∨ w.heap.size ≤ k) ∧ k < w'.heap.size, fun k => D k ∧ k < w.heap.size, vs, hs.mono fun j hj hB => ⟨hB, hj⟩,
    (h2.bound.fr hF fun k hk hd hb => ?_), owns_fr h3 hF hu, fun k hk hd => ?_, fun k ek => ⟨fun hk => hu k ek hk.1, fun hd => (h5 k ek).2 hd.1⟩, fun k hk => h6 k hk.1, fun k hk => hk.1.elim (fun h => h7 k h.1) (fun h => Nat.le_trans hb h)⟩
  · rcases hb with hb | hb
    · exact h4 k hb.1 hd.1
    · omega
  · rcases hk.1 with hb | hb
    · exact h4 k hb.1 hd.1
    · have := hd.2; omega
theorem Tri.later {w w' : World} {base sb : Nat} {R : List (List Int)} {v u : Value} {P : List (List Int)} {F : List Int} (h : Tri w base sb R v P u F) (hb : Below w.heap.size w w') : Tri w' base sb R v P u F := by
  obtain ⟨B, D, vs, h1, h2, h3, h4, h5, h6, h7⟩ := h
  exact ⟨B, D, vs, h1.fr (C := fun _ => False) (Fr.of_below hb) (fun _ _ _ h => h), h2.later hb, owns_kept h3 hb, h4, h5, h6, h7⟩
/-- Ready for a change of the piles, where what lies before is replaced. -/
theorem Tri.piles {w w1 : World} {base sb : Nat} {R : List (List Int)} {v u u1 : Value} {P : List (List Int)} {F F1 : List Int} (h : Tri w base sb R v P u F) (hb : base ≤ w.heap.size) (hg : w.grownBy w1 u.ownBlock) (hu1 : rowI w1 base u1 F1) (hbl : ∀ k, u1.ownBlock = some k → u.ownBlock = some k ∨ w.heap.size ≤ k) :
    ∃ (D : Nat → Prop) (vs : List Value), LL w1 D v P vs ∧ (∀ k, w1.heap.size ≤ k → D k) ∧ (∀ k, D k → base ≤ k) ∧ ∀ (w' : World) (v' : Value) (P' : List (List Int)) (vs' : List Value), LL w' D v' P' vs' → Fr w1 w' D → Tri w' base sb R v' P' u1 F1 := by
  obtain ⟨B, D, vs, h1, h2, h3, h4, h5, h6, h7⟩ := h
  have hsz := hg.size
  have hF : Fr w w1 (fun k => u.ownBlock = some k) := Fr.grown hg (fun j e => e)
  have k1 := (h1.mono (C := fun k => B k ∧ k < w.heap.size) (fun j hj hB => ⟨hB, hj⟩)).fr hF (fun k _ hk e => (h5 k e).1 hk.1)
  have k2 := h2.bound.fr hF (fun k _ hk e => (h5 k e).2 hk.1)
  refine ⟨fun k => (D k ∧ k < w.heap.size) ∨ w1.heap.size ≤ k, vs, k2.mono fun j _ hd => .inl hd, fun k hk => .inr hk, fun k hk => hk.elim (fun h => h6 k h.1) (fun h => by omega), fun w' v' P' vs' hL hF' => ?_⟩
  have hu : ∀ k, u1.ownBlock = some k → ¬ ((D k ∧ k < w.heap.size) ∨ w1.heap.size ≤ k) := fun k ek hk => by
    have := (hu1.lt ek).2
    rcases hk with hk | hk
    · rcases hbl k ek with e | e
      · exact (h5 k e).2 hk.1
      · have := hk.2; omega
    · omega
  refine ⟨fun k => B k ∧ k < w.heap.size, fun k => ((D k ∧ k < w.heap.size) ∨ w1.heap.size ≤ k), vs', k1.fr hF' (fun k _ hk hd => ?_), hL, owns_fr hu1 hF' hu, fun k hk hd => ?_, fun k ek => ⟨fun hk => ?_, hu k ek⟩, fun k hk => hk.elim (fun h => h6 k h.1) (fun h => by omega), fun k hk => h7 k hk.1⟩
  · rcases hd with hd | hd
    · exact h4 k hk.1 hd.1
    · have := hk.2; omega
  · rcases hd with hd | hd
    · exact h4 k hk.1 hd.1
    · have := hk.2; omega
  · rcases hbl k ek with e | e
    · exact (h5 k e).1 hk.1
    · have := hk.2; omega
set_option maxRecDepth 100000 in
set_option maxHeartbeats 8000000 in
theorem piles_any (x : Value) (s : List Int) (w : World) (hx0 : RdI w .i64 x s) (hl : s.length ≤ 12) :
    Calls Try.prog 85 #[x] w fun e w' => ∃ u v, e = .returned (.tuple #[u, v]) ∧ RdLL w' u (pilP s s.length).1 ∧ RdI w' .i64 v (pilP s s.length).2 ∧ Below w.heap.size w w' := by
  obtain ⟨a, ca, rfl, _, hcm, hx⟩ := hx0.form
  clear hx0 hcm
  go_enter Try.func85, Try.ntmps85
  go_wp2_with fail
  refine (newstand_any (.slice none 0 0) [] w (rdLL_nil w) ⟨by simp, fun j => by simp [row]⟩).mono ?_
  rintro e w3 ⟨sb, rfl, hwh, hB⟩
  have HB3 := Lib.hid hB
  have HT0 : Hid (Tri w3 w.heap.size sb [] (.slice none 0 0) [] (.slice none 0 0) []) := Lib.hid ⟨_, fun _ => False, [], hwh.si, LL.nil _ _, World.ownsRow_nil _ _ _ _, fun _ _ h => h.elim, fun k ek => by simp [Value.ownBlock] at ek, fun _ h => h.elim, fun k hk => hk⟩
  clear hB hwh
  go_wp2_with fail
  go_loopw [4, 5, 7, 8, 9, 10, 11, 15] (fun s4 s5 _ _ _ _ _ s15 wr => ∃ (i : Nat) (v u : Value), i ≤ s.length ∧ v = s4 ∧ u = s5 ∧ s15 = .int .i64 i ∧ Tri wr w.heap.size sb (bldR s i).1 v (pilP s i).1 u (pilP s i).2 ∧ Below w.heap.size w wr) (fun _ _ _ _ _ _ _ s15 _ => s.length - (intOf s15).toNat)
  case atStart => exact ⟨0, _, _, Nat.zero_le _, rfl, rfl, rfl, HT0.out, HB3.out⟩
  case round =>
    clear HT0 HB3
    obtain ⟨i, v, u, hi, rfl, rfl, rfl, hT, hB⟩ := hrel
    have HT := Lib.hid hT; have HB := Lib.hid hB
    have hz := HB.out.size
    clear hT hB
    by_cases hlt : i < s.length
    · obtain ⟨bx, ox, rfl, hbx, hcx⟩ := hx (by omega)
      have gx := (HB.out.cell (p := ⟨bx, ox + i, none⟩) hbx).trans (hcx i hlt)
      have zx := Nat.lt_of_lt_of_le hbx HB.out.size
      have HE : Hid (elt s i = s[i]?.getD 0) := Lib.hid rfl
      have hsz := bld_size s i
      have hok := pilOk s i
      have hat := atP_le hok
      have HOK := Lib.hid hok
      have HR1 : Hid ((bldR s (i + 1)).1 = (putR (bldR s i).1 (elt s i)).1) := Lib.hid rfl
      have HP1 : Hid ((pilP s (i + 1)).1 = addO (pilP s i).1 (atP s i) (i : Int)) := Lib.hid rfl
      have HP2 : Hid ((pilP s (i + 1)).2 = (pilP s i).2 ++ [if atP s i = 0 then -1 else lastP (pilP s i).1 (atP s i - 1)]) := Lib.hid rfl
      have HATP : Hid (ins (row (bldR s i).1 0) (elt s i) = atP s i) := Lib.hid rfl
      have HSM : Hid (Sml (bldR s i).1) := Lib.hid ⟨by omega, fun j => by have := hsz.2 j; omega⟩
      have hp12 := hok.most
      have HB12 := Lib.hid hok.bef
      have HPOS := Lib.hid hok.pos
      have HPSZ := Lib.hid hok.size
      rw [HE.out] at HR1 HATP
      clear hsz hcx HE hok
      have HPUT := Lib.hid (fun B wz h hB => put_any sb (bldR s i).1 (s[i]?.getD 0) wz B h HSM.out hB)
      rw [HATP.out] at HPUT
      generalize s[i]?.getD 0 = q at *
      generalize (bldR s i).1 = R at *
      generalize (pilP s i).1 = P at *
      generalize (pilP s i).2 = F at *
      generalize atP s i = at' at *
      generalize hp : putR R q = p at *
      obtain ⟨R', r⟩ := p
      simp only at HR1 HPUT
      clear hp
      obtain ⟨B0, b1, b2, b3, b4⟩ := HT.out.ready hz
      have HB4 := Lib.hid b4; have HBB := Lib.hid b3
      have HPC := Lib.hid (HPUT.out B0 _ b1 b2)
      clear b1 b2 b3 b4 HPUT HATP
      have HV0 : Hid (∃ av cv, v = .slice av P.length cv) := Lib.hid (by obtain ⟨_, _, _, _, h2, _⟩ := HT.out; exact h2.form)
      have HU0 : Hid (∃ au cu, u = .slice au F.length cu) := Lib.hid (by obtain ⟨_, _, _, _, _, h3, _⟩ := HT.out; exact owns_form h3)
      obtain ⟨av, cv, rfl⟩ := HV0.out
      obtain ⟨au, cu, rfl⟩ := HU0.out
      clear HT HV0 HU0
      go_wp2_with fail
      refine HPC.out.mono ?_
      rintro e w5 ⟨rfl, hsi, hF⟩
      have HT5 := Lib.hid (HB4.out _ _ hsi hF)
      have HB5 := Lib.hid (hF.below HB.out HBB.out)
      clear hsi hF HPC HB4 HBB gx zx HB
      have HZS := Lib.hid HB5.out.size
      rcases Nat.eq_zero_or_pos at' with ha0 | ha0
      · subst ha0
        have HQ : Hid ((if (0 : Nat) = 0 then -1 else lastP P (0 - 1)) = (-1 : Int)) := Lib.hid rfl
        rw [HQ.out] at HP2
        have hT6 := HT5.out
        have hB6 := HB5.out
        obtain ⟨w6, hw6⟩ : ∃ x, w5 = x := ⟨w5, rfl⟩
        subst hw6
        have HT6 := Lib.hid hT6
        have HB6 := Lib.hid hB6
        have hz6 := HB6.out.size
        clear hT6 hB6
        have hUU : rowI w5 w.heap.size (.slice au F.length cu) F := by obtain ⟨_, _, _, _, _, h3, _⟩ := HT6.out; exact h3
        have hFl : F.length ≤ 1000 := by have := HB12.out; omega
        have HUU := Lib.hid hUU
        clear hUU
        go_wp2_with (at_builtin; refine append_num_at HUU.out rfl _ _ rfl ((-1 : Int)) rfl rfl rfl hFl hz6 ?_)
        intro u7 w7 hu7 hg7 hbl7
        obtain ⟨D, vs, l1, l2, l3, l4⟩ := HT6.out.piles hz6 hg7 hu7 hbl7
        obtain ⟨au7, cu7, rfl⟩ := owns_form hu7
        rw [show (F ++ [(-1 : Int)]).length = F.length + 1 by simp] at hu7 l4
        have HU7 := Lib.hid hu7; have HL7 := Lib.hid l1; have HD7 := Lib.hid l2; have HDB := Lib.hid l3; have HTR := Lib.hid l4
        have HB7 : Hid (Below w.heap.size w w7) := Lib.hid (bgr HB6.out hg7 (fun k e => (HUU.out.lt e).1))
        clear hu7 hg7 hbl7 l1 l2 l3 l4 HT6 HUU HB6
        by_cases hap : 0 = P.length
        · have t1 : (((0 : Nat) : Int) == (P.length : Int)) = true := by rw [beq_iff_eq]; omega
          rw [show (((0 : Nat)) : Int) = 0 by omega] at t1
          have t1' : ((0) == P.length) = true := by rw [beq_iff_eq]; omega
          have hPl : P.length ≤ 1000 := by omega
          have HSETP : Hid ((P ++ [[]]).set (0) (row (P ++ [[]]) (0) ++ [(i : Int)]) = addO P (0) (i : Int)) := Lib.hid (by rw [hap]; exact addO_push)
          have hr8 : 0 < (P ++ [[]]).length := by rw [List.length_append, List.length_singleton]; omega
          have hp8 : (P ++ [[]]).length ≤ 13 := by rw [List.length_append, List.length_singleton]; omega
          have HR8 := Lib.hid hr8; have HP8' := Lib.hid hp8
          clear hap hr8 hp8
          have HNIL : Hid (rowI w7 0 (.slice none 0 0) []) := Lib.hid (World.ownsRow_nil _ _ _ _)
          go_wp2_with (at_builtin; refine LL.push HL7.out HNIL.out (fun k ek => by simp [Value.ownBlock] at ek) (fun j f _ => apartV.symm (.inl rfl)) rfl _ _ rfl rfl rfl rfl hPl HD7.out ?_)
          intro v8 w8 hO8 hF8
          obtain ⟨av8, cv8, rfl⟩ := hO8.form
          have HO8 := Lib.hid hO8; have HF8 := Lib.hid hF8
          have HD8 := Lib.hid (fun k (hk : w8.heap.size ≤ k) => HD7.out k (Nat.le_trans hF8.size hk))
          have hr8 := HR8.out
          have hl8 : (row (P ++ [[]]) (0)).length ≤ 12 := snoc_len (fun t => Nat.le_trans (HPSZ.out t) (by omega)) _
          have hp8 := HP8'.out
          clear hO8 hF8 t1 t1' hPl HNIL HL7 HD7
          generalize P ++ [[]] = P8 at *
          generalize vs ++ [Value.slice none 0 0] = vs8 at *
          obtain ⟨g, c', e, he, hwg, hg, hve, hce, hfe, hrow⟩ := HO8.out.get (0) hr8
          cases he
          obtain ⟨ae, de, rfl⟩ := owns_form hrow
          have HRW := Lib.hid hrow; have HVE := Lib.hid hve
          obtain ⟨hle8, had8⟩ := rowI_clip hrow
          have hclip := fun wz => run_clip ae (row P8 (0)).length de hle8 had8 wz
          have HDG := Lib.hid hg
          have HRDW := Lib.hid (RdI.of_owns hrow)
          clear hrow hve hfe hg
          generalize row P8 (0) = l at *
          go_upto_region 14 with fail
          refine wp_region_flow [] [([0, 1, 2, 3, 4, 5, 6, 7, 8, 9, 10, 11, 12, 13, 14, 15, 16, 17], 18, true), ([], 19, true), ([20], 21, false)] [] (by kernel_rfl) (by kernel_rfl) ?_
          intro wd hBd hh
          clear hh
          have HLD := Lib.hid (HO8.out.later hBd)
          have HFD := Lib.hid (HF8.out.trans (Fr.of_below (B := D) hBd))
          have HRD := Lib.hid (HRDW.out.mono hBd)
          have c1 := (hBd.cell (p := ⟨g, 0, none⟩) hwg).trans hce
          have z1 := Nat.lt_of_lt_of_le hwg hBd.size
          have HZD := Lib.hid hBd.size
          have hL := @Later.cell wd
          clear hBd hce hwg
          simp only [flowP, flow, pickL, List.getElem?_cons_succ, List.getElem?_cons_zero]
          refine wpQuiet_nil ?_
          repeat (go_big_quiet_step (fail))
          refine wpQuiet_nil ?_
          go_wp2
          refine seg_grow ⟨⟨_, bal (bz wd) _⟩, rfl⟩ ?_
          refine wpQuiet_nil ?_
          clear hL c1 z1
          obtain ⟨v9, w9, hrun, hown, hgr⟩ := append_clip (wd.alloc (.cells #[.int .i64 (i : Int)] 3)) ae l.length de l (HRD.out.mono (bal (bz wd) _)) had8 (by omega) ⟨wd.heap.size, 0, none⟩ (i : Int) (cnew rfl rfl) 31
          obtain ⟨a9, c9, rfl⟩ := owns_form hown
          have HW9 := Lib.hid (show rowI w9 (wd.alloc (.cells #[.int .i64 (i : Int)] 3)).heap.size (.slice a9 (l.length + 1) c9) (l ++ [(i : Int)]) from by unfold rowI; rw [List.length_append]; exact hown)
          have hp := (HLD.out.later (bal (bz wd) (.cells #[.int .i64 (i : Int)] 3))).clip (i := 0) hgr HW9.out (fun k hk => HD8.out k (by have := HZD.out; simp at hk; omega))
          have HBw9 := Lib.hid (bgr (bal (bz wd) (.cells #[.int .i64 (i : Int)] 3)) hgr (fun k e => by cases e))
          have HF9 := Lib.hid ((HFD.out.trans (Fr.of_below (bal (bz wd) (.cells #[.int .i64 (i : Int)] 3)))).trans (Fr.grown hgr (fun k e => by cases e)))
          obtain ⟨hc2, hf2, hz2⟩ := hp.outer (0) hr8
          rw [HVE.out] at hc2
          have hst := hp.store hr8
          rw [HSETP.out] at hst
          have HFX := Lib.hid (HF9.out.trans (Fr.set (p := ⟨g, 0, none⟩) HDG.out (.slice a9 (l.length + 1) c9)))
          have HTX := Lib.hid (HTR.out _ _ _ _ hst HFX.out)
          have HBX := Lib.hid (HFX.out.below HB7.out HDB.out)
          have HQL : Hid (P8.length = (addO P (0) (i : Int)).length) := Lib.hid (by rw [← HSETP.out, List.length_set])
          clear hp hst hown hgr had8 hle8
          go_wp2_with (at_builtin; refine wpList_append_ran rfl _ _ rfl rfl rfl hrun ?_)
          go_wp2
          refine seg_grow ⟨⟨_, HBw9.out⟩, rfl⟩ ?_
          repeat (go_big_quiet_step (fail))
          refine wpQuiet_nil ?_
          clear hrun hclip
          go_wp2
          refine seg_write ?_
          refine wpQuiet_nil ?_
          refine only_done ?_
          clear hc2 hf2 hz2
          generalize w9.setCell ⟨g, 0, none⟩ (.slice a9 (l.length + 1) c9) = wX at *
          go_wp2_with fail
          go_roundw
          case rel => exact ⟨i + 1, _, _, by omega, rfl, rfl, by go_num, by rw [HR1.out, HP1.out, HP2.out]; exact HTX.out, HBX.out⟩
          case measure => simp [intOf]; omega
        · have t1 : (((0 : Nat) : Int) == (P.length : Int)) = false := by rw [beq_eq_false_iff_ne]; omega
          rw [show (((0 : Nat)) : Int) = 0 by omega] at t1
          have t1' : ((0) == P.length) = false := by rw [beq_eq_false_iff_ne]; omega
          have HF8 : Hid (Fr w7 w7 D) := Lib.hid (Fr.refl _ _)
          have HSETP : Hid (P.set (0) (row P (0) ++ [(i : Int)]) = addO P (0) (i : Int)) := Lib.hid (addO_set (by omega))
          have hr8 : 0 < P.length := by omega
          have hl8 : (row P (0)).length ≤ 12 := by have := HPSZ.out (0); omega
          have hp8 : P.length ≤ 13 := by omega
          have HO8 := HL7
          have HD8 := HD7
          clear HL7 HD7
          obtain ⟨P8, hP8⟩ : ∃ x, P = x := ⟨P, rfl⟩
          obtain ⟨vs8, hvs8⟩ : ∃ x, vs = x := ⟨vs, rfl⟩
          obtain ⟨w8, hw8⟩ : ∃ x, w7 = x := ⟨w7, rfl⟩
          subst hP8; subst hvs8; subst hw8
          obtain ⟨g, c', e, he, hwg, hg, hve, hce, hfe, hrow⟩ := HO8.out.get (0) hr8
          cases he
          obtain ⟨ae, de, rfl⟩ := owns_form hrow
          have HRW := Lib.hid hrow; have HVE := Lib.hid hve
          obtain ⟨hle8, had8⟩ := rowI_clip hrow
          have hclip := fun wz => run_clip ae (row P (0)).length de hle8 had8 wz
          have HDG := Lib.hid hg
          have HRDW := Lib.hid (RdI.of_owns hrow)
          clear hrow hve hfe hg
          generalize row P (0) = l at *
          go_upto_region 14 with fail
          refine wp_region_flow [] [([0, 1, 2, 3, 4, 5, 6, 7, 8, 9, 10, 11, 12, 13, 14, 15, 16, 17], 18, true), ([], 19, true), ([20], 21, false)] [] (by kernel_rfl) (by kernel_rfl) ?_
          intro wd hBd hh
          clear hh
          have HLD := Lib.hid (HO8.out.later hBd)
          have HFD := Lib.hid (HF8.out.trans (Fr.of_below (B := D) hBd))
          have HRD := Lib.hid (HRDW.out.mono hBd)
          have c1 := (hBd.cell (p := ⟨g, 0, none⟩) hwg).trans hce
          have z1 := Nat.lt_of_lt_of_le hwg hBd.size
          have HZD := Lib.hid hBd.size
          have hL := @Later.cell wd
          clear hBd hce hwg
          simp only [flowP, flow, pickL, List.getElem?_cons_succ, List.getElem?_cons_zero]
          refine wpQuiet_nil ?_
          repeat (go_big_quiet_step (fail))
          refine wpQuiet_nil ?_
          go_wp2
          refine seg_grow ⟨⟨_, bal (bz wd) _⟩, rfl⟩ ?_
          refine wpQuiet_nil ?_
          clear hL c1 z1
          obtain ⟨v9, w9, hrun, hown, hgr⟩ := append_clip (wd.alloc (.cells #[.int .i64 (i : Int)] 3)) ae l.length de l (HRD.out.mono (bal (bz wd) _)) had8 (by omega) ⟨wd.heap.size, 0, none⟩ (i : Int) (cnew rfl rfl) 31
          obtain ⟨a9, c9, rfl⟩ := owns_form hown
          have HW9 := Lib.hid (show rowI w9 (wd.alloc (.cells #[.int .i64 (i : Int)] 3)).heap.size (.slice a9 (l.length + 1) c9) (l ++ [(i : Int)]) from by unfold rowI; rw [List.length_append]; exact hown)
          have hp := (HLD.out.later (bal (bz wd) (.cells #[.int .i64 (i : Int)] 3))).clip (i := 0) hgr HW9.out (fun k hk => HD8.out k (by have := HZD.out; simp at hk; omega))
          have HBw9 := Lib.hid (bgr (bal (bz wd) (.cells #[.int .i64 (i : Int)] 3)) hgr (fun k e => by cases e))
          have HF9 := Lib.hid ((HFD.out.trans (Fr.of_below (bal (bz wd) (.cells #[.int .i64 (i : Int)] 3)))).trans (Fr.grown hgr (fun k e => by cases e)))
          obtain ⟨hc2, hf2, hz2⟩ := hp.outer (0) hr8
          rw [HVE.out] at hc2
          have hst := hp.store hr8
          rw [HSETP.out] at hst
          have HFX := Lib.hid (HF9.out.trans (Fr.set (p := ⟨g, 0, none⟩) HDG.out (.slice a9 (l.length + 1) c9)))
          have HTX := Lib.hid (HTR.out _ _ _ _ hst HFX.out)
          have HBX := Lib.hid (HFX.out.below HB7.out HDB.out)
          have HQL : Hid (P.length = (addO P (0) (i : Int)).length) := Lib.hid (by rw [← HSETP.out, List.length_set])
          clear hp hst hown hgr had8 hle8
          go_wp2_with (at_builtin; refine wpList_append_ran rfl _ _ rfl rfl rfl hrun ?_)
          go_wp2
          refine seg_grow ⟨⟨_, HBw9.out⟩, rfl⟩ ?_
          repeat (go_big_quiet_step (fail))
          refine wpQuiet_nil ?_
          clear hrun hclip
          go_wp2
          refine seg_write ?_
          refine wpQuiet_nil ?_
          refine only_done ?_
          clear hc2 hf2 hz2
          generalize w9.setCell ⟨g, 0, none⟩ (.slice a9 (l.length + 1) c9) = wX at *
          go_wp2_with fail
          go_roundw
          case rel => exact ⟨i + 1, _, _, by omega, rfl, rfl, by go_num, by rw [HR1.out, HP1.out, HP2.out]; exact HTX.out, HBX.out⟩
          case measure => simp [intOf]; omega
      · obtain ⟨j, rfl⟩ : ∃ j, at' = j + 1 := ⟨at' - 1, by omega⟩
        rw [if_neg (by omega), Nat.add_sub_cancel] at HP2
        obtain ⟨B6, D6, vs6, _, g2, _⟩ := HT5.out
        obtain ⟨g, c', e, he, hwg, hg, hve, hce, hfe, hrow⟩ := g2.get j (by omega)
        cases he
        obtain ⟨ae, de, rfl⟩ := owns_form hrow
        have hpj := HPOS.out j (by omega)
        have hsj := HPSZ.out j
        obtain ⟨h, c2, e2, hwh, gk, fk⟩ := hrow.get ((row P j).length - 1) (by omega)
        cases e2
        have HLP : Hid (lastP P j = elt (row P j) ((row P j).length - 1)) := Lib.hid rfl
        rw [HLP.out] at HP2
        rw [show ((j + 1 : Nat) : Int) = (j : Int) + 1 by omega]
        have dj : decide ((0 : Int) < (j : Int) + 1) = true := decide_eq_true (by omega)
        have dj' : decide (0 < j + 1) = true := decide_eq_true (by omega)
        have hjP : (j : Int) < (P.length : Int) := by omega
        clear g2 hve hfe hrow fk hg
        generalize elt (row P j) ((row P j).length - 1) = lp at *
        have hm1 : (((row P j).length - 1 : Nat) : Int) = ((row P j).length : Int) - 1 := by omega
        generalize hmm : (row P j).length - 1 = m1 at *
        have hm2 : (row P j).length = m1 + 1 := by omega
        rw [hm2] at *
        go_upto_region 10 with fail
        go_quiet (fail)
        have hT6 := HT5.out.later (Below.drewN' nq (bz w5))
        have hB6 : Below w.heap.size w (w5.drewN nq) := Below.drewN' _ HB5.out
        clear hce gk hwh hwg hm1 dj dj' hpj hsj ha0
        have HM2 := Lib.hid hm2
        clear hm2 hmm
        generalize w5.drewN nq = w6 at *
        have HT6 := Lib.hid hT6
        have HB6 := Lib.hid hB6
        have hz6 := HB6.out.size
        clear hT6 hB6
        have hUU : rowI w6 w.heap.size (.slice au F.length cu) F := by obtain ⟨_, _, _, _, _, h3, _⟩ := HT6.out; exact h3
        have hFl : F.length ≤ 1000 := by have := HB12.out; omega
        have HUU := Lib.hid hUU
        clear hUU
        go_wp2_with (at_builtin; refine append_num_at HUU.out rfl _ _ rfl (lp) rfl rfl rfl hFl hz6 ?_)
        intro u7 w7 hu7 hg7 hbl7
        obtain ⟨D, vs, l1, l2, l3, l4⟩ := HT6.out.piles hz6 hg7 hu7 hbl7
        obtain ⟨au7, cu7, rfl⟩ := owns_form hu7
        rw [show (F ++ [lp]).length = F.length + 1 by simp] at hu7 l4
        have HU7 := Lib.hid hu7; have HL7 := Lib.hid l1; have HD7 := Lib.hid l2; have HDB := Lib.hid l3; have HTR := Lib.hid l4
        have HB7 : Hid (Below w.heap.size w w7) := Lib.hid (bgr HB6.out hg7 (fun k e => (HUU.out.lt e).1))
        clear hu7 hg7 hbl7 l1 l2 l3 l4 HT6 HUU HB6
        by_cases hap : j + 1 = P.length
        · have t1 : (((j + 1 : Nat) : Int) == (P.length : Int)) = true := by rw [beq_iff_eq]; omega
          rw [show (((j + 1 : Nat)) : Int) = (j : Int) + 1 by omega] at t1
          have t1' : ((j + 1) == P.length) = true := by rw [beq_iff_eq]; omega
          have hPl : P.length ≤ 1000 := by omega
          have HSETP : Hid ((P ++ [[]]).set (j + 1) (row (P ++ [[]]) (j + 1) ++ [(i : Int)]) = addO P (j + 1) (i : Int)) := Lib.hid (by rw [hap]; exact addO_push)
          have hr8 : j + 1 < (P ++ [[]]).length := by rw [List.length_append, List.length_singleton]; omega
          have hp8 : (P ++ [[]]).length ≤ 13 := by rw [List.length_append, List.length_singleton]; omega
          have HR8 := Lib.hid hr8; have HP8' := Lib.hid hp8
          clear hap hr8 hp8
          have HNIL : Hid (rowI w7 0 (.slice none 0 0) []) := Lib.hid (World.ownsRow_nil _ _ _ _)
          go_wp2_with (at_builtin; refine LL.push HL7.out HNIL.out (fun k ek => by simp [Value.ownBlock] at ek) (fun j f _ => apartV.symm (.inl rfl)) rfl _ _ rfl rfl rfl rfl hPl HD7.out ?_)
          intro v8 w8 hO8 hF8
          obtain ⟨av8, cv8, rfl⟩ := hO8.form
          have HO8 := Lib.hid hO8; have HF8 := Lib.hid hF8
          have HD8 := Lib.hid (fun k (hk : w8.heap.size ≤ k) => HD7.out k (Nat.le_trans hF8.size hk))
          have hr8 := HR8.out
          have hl8 : (row (P ++ [[]]) (j + 1)).length ≤ 12 := snoc_len (fun t => Nat.le_trans (HPSZ.out t) (by omega)) _
          have hp8 := HP8'.out
          clear hO8 hF8 t1 t1' hPl HNIL HL7 HD7
          generalize P ++ [[]] = P8 at *
          generalize vs ++ [Value.slice none 0 0] = vs8 at *
          obtain ⟨g, c', e, he, hwg, hg, hve, hce, hfe, hrow⟩ := HO8.out.get (j + 1) hr8
          cases he
          obtain ⟨ae, de, rfl⟩ := owns_form hrow
          have HRW := Lib.hid hrow; have HVE := Lib.hid hve
          obtain ⟨hle8, had8⟩ := rowI_clip hrow
          have hclip := fun wz => run_clip ae (row P8 (j + 1)).length de hle8 had8 wz
          have HDG := Lib.hid hg
          have HRDW := Lib.hid (RdI.of_owns hrow)
          clear hrow hve hfe hg
          generalize row P8 (j + 1) = l at *
          go_upto_region 14 with fail
          refine wp_region_flow [] [([0, 1, 2, 3, 4, 5, 6, 7, 8, 9, 10, 11, 12, 13, 14, 15, 16, 17], 18, true), ([], 19, true), ([20], 21, false)] [] (by kernel_rfl) (by kernel_rfl) ?_
          intro wd hBd hh
          clear hh
          have HLD := Lib.hid (HO8.out.later hBd)
          have HFD := Lib.hid (HF8.out.trans (Fr.of_below (B := D) hBd))
          have HRD := Lib.hid (HRDW.out.mono hBd)
          have c1 := (hBd.cell (p := ⟨g, j + 1, none⟩) hwg).trans hce
          have z1 := Nat.lt_of_lt_of_le hwg hBd.size
          have HZD := Lib.hid hBd.size
          have hL := @Later.cell wd
          clear hBd hce hwg
          simp only [flowP, flow, pickL, List.getElem?_cons_succ, List.getElem?_cons_zero]
          refine wpQuiet_nil ?_
          repeat (go_big_quiet_step (fail))
          refine wpQuiet_nil ?_
          go_wp2
          refine seg_grow ⟨⟨_, bal (bz wd) _⟩, rfl⟩ ?_
          refine wpQuiet_nil ?_
          clear hL c1 z1
          obtain ⟨v9, w9, hrun, hown, hgr⟩ := append_clip (wd.alloc (.cells #[.int .i64 (i : Int)] 3)) ae l.length de l (HRD.out.mono (bal (bz wd) _)) had8 (by omega) ⟨wd.heap.size, 0, none⟩ (i : Int) (cnew rfl rfl) 31
          obtain ⟨a9, c9, rfl⟩ := owns_form hown
          have HW9 := Lib.hid (show rowI w9 (wd.alloc (.cells #[.int .i64 (i : Int)] 3)).heap.size (.slice a9 (l.length + 1) c9) (l ++ [(i : Int)]) from by unfold rowI; rw [List.length_append]; exact hown)
          have hp := (HLD.out.later (bal (bz wd) (.cells #[.int .i64 (i : Int)] 3))).clip (i := j + 1) hgr HW9.out (fun k hk => HD8.out k (by have := HZD.out; simp at hk; omega))
          have HBw9 := Lib.hid (bgr (bal (bz wd) (.cells #[.int .i64 (i : Int)] 3)) hgr (fun k e => by cases e))
          have HF9 := Lib.hid ((HFD.out.trans (Fr.of_below (bal (bz wd) (.cells #[.int .i64 (i : Int)] 3)))).trans (Fr.grown hgr (fun k e => by cases e)))
          obtain ⟨hc2, hf2, hz2⟩ := hp.outer (j + 1) hr8
          rw [HVE.out] at hc2
          have hst := hp.store hr8
          rw [HSETP.out] at hst
          have HFX := Lib.hid (HF9.out.trans (Fr.set (p := ⟨g, j + 1, none⟩) HDG.out (.slice a9 (l.length + 1) c9)))
          have HTX := Lib.hid (HTR.out _ _ _ _ hst HFX.out)
          have HBX := Lib.hid (HFX.out.below HB7.out HDB.out)
          have HQL : Hid (P8.length = (addO P (j + 1) (i : Int)).length) := Lib.hid (by rw [← HSETP.out, List.length_set])
          clear hp hst hown hgr had8 hle8
          go_wp2_with (at_builtin; refine wpList_append_ran rfl _ _ rfl rfl rfl hrun ?_)
          go_wp2
          refine seg_grow ⟨⟨_, HBw9.out⟩, rfl⟩ ?_
          repeat (go_big_quiet_step (fail))
          refine wpQuiet_nil ?_
          clear hrun hclip
          go_wp2
          refine seg_write ?_
          refine wpQuiet_nil ?_
          refine only_done ?_
          clear hc2 hf2 hz2
          generalize w9.setCell ⟨g, j + 1, none⟩ (.slice a9 (l.length + 1) c9) = wX at *
          go_wp2_with fail
          go_roundw
          case rel => exact ⟨i + 1, _, _, by omega, rfl, rfl, by go_num, by rw [HR1.out, HP1.out, HP2.out]; exact HTX.out, HBX.out⟩
          case measure => simp [intOf]; omega
        · have t1 : (((j + 1 : Nat) : Int) == (P.length : Int)) = false := by rw [beq_eq_false_iff_ne]; omega
          rw [show (((j + 1 : Nat)) : Int) = (j : Int) + 1 by omega] at t1
          have t1' : ((j + 1) == P.length) = false := by rw [beq_eq_false_iff_ne]; omega
          have HF8 : Hid (Fr w7 w7 D) := Lib.hid (Fr.refl _ _)
          have HSETP : Hid (P.set (j + 1) (row P (j + 1) ++ [(i : Int)]) = addO P (j + 1) (i : Int)) := Lib.hid (addO_set (by omega))
          have hr8 : j + 1 < P.length := by omega
          have hl8 : (row P (j + 1)).length ≤ 12 := by have := HPSZ.out (j + 1); omega
          have hp8 : P.length ≤ 13 := by omega
          have HO8 := HL7
          have HD8 := HD7
          clear HL7 HD7
          obtain ⟨P8, hP8⟩ : ∃ x, P = x := ⟨P, rfl⟩
          obtain ⟨vs8, hvs8⟩ : ∃ x, vs = x := ⟨vs, rfl⟩
          obtain ⟨w8, hw8⟩ : ∃ x, w7 = x := ⟨w7, rfl⟩
          subst hP8; subst hvs8; subst hw8
          obtain ⟨g, c', e, he, hwg, hg, hve, hce, hfe, hrow⟩ := HO8.out.get (j + 1) hr8
          cases he
          obtain ⟨ae, de, rfl⟩ := owns_form hrow
          have HRW := Lib.hid hrow; have HVE := Lib.hid hve
          obtain ⟨hle8, had8⟩ := rowI_clip hrow
          have hclip := fun wz => run_clip ae (row P (j + 1)).length de hle8 had8 wz
          have HDG := Lib.hid hg
          have HRDW := Lib.hid (RdI.of_owns hrow)
          clear hrow hve hfe hg
          generalize row P (j + 1) = l at *
          go_upto_region 14 with fail
          refine wp_region_flow [] [([0, 1, 2, 3, 4, 5, 6, 7, 8, 9, 10, 11, 12, 13, 14, 15, 16, 17], 18, true), ([], 19, true), ([20], 21, false)] [] (by kernel_rfl) (by kernel_rfl) ?_
          intro wd hBd hh
          clear hh
          have HLD := Lib.hid (HO8.out.later hBd)
          have HFD := Lib.hid (HF8.out.trans (Fr.of_below (B := D) hBd))
          have HRD := Lib.hid (HRDW.out.mono hBd)
          have c1 := (hBd.cell (p := ⟨g, j + 1, none⟩) hwg).trans hce
          have z1 := Nat.lt_of_lt_of_le hwg hBd.size
          have HZD := Lib.hid hBd.size
          have hL := @Later.cell wd
          clear hBd hce hwg
          simp only [flowP, flow, pickL, List.getElem?_cons_succ, List.getElem?_cons_zero]
          refine wpQuiet_nil ?_
          repeat (go_big_quiet_step (fail))
          refine wpQuiet_nil ?_
          go_wp2
          refine seg_grow ⟨⟨_, bal (bz wd) _⟩, rfl⟩ ?_
          refine wpQuiet_nil ?_
          clear hL c1 z1
          obtain ⟨v9, w9, hrun, hown, hgr⟩ := append_clip (wd.alloc (.cells #[.int .i64 (i : Int)] 3)) ae l.length de l (HRD.out.mono (bal (bz wd) _)) had8 (by omega) ⟨wd.heap.size, 0, none⟩ (i : Int) (cnew rfl rfl) 31
          obtain ⟨a9, c9, rfl⟩ := owns_form hown
          have HW9 := Lib.hid (show rowI w9 (wd.alloc (.cells #[.int .i64 (i : Int)] 3)).heap.size (.slice a9 (l.length + 1) c9) (l ++ [(i : Int)]) from by unfold rowI; rw [List.length_append]; exact hown)
          have hp := (HLD.out.later (bal (bz wd) (.cells #[.int .i64 (i : Int)] 3))).clip (i := j + 1) hgr HW9.out (fun k hk => HD8.out k (by have := HZD.out; simp at hk; omega))
          have HBw9 := Lib.hid (bgr (bal (bz wd) (.cells #[.int .i64 (i : Int)] 3)) hgr (fun k e => by cases e))
          have HF9 := Lib.hid ((HFD.out.trans (Fr.of_below (bal (bz wd) (.cells #[.int .i64 (i : Int)] 3)))).trans (Fr.grown hgr (fun k e => by cases e)))
          obtain ⟨hc2, hf2, hz2⟩ := hp.outer (j + 1) hr8
          rw [HVE.out] at hc2
          have hst := hp.store hr8
          rw [HSETP.out] at hst
          have HFX := Lib.hid (HF9.out.trans (Fr.set (p := ⟨g, j + 1, none⟩) HDG.out (.slice a9 (l.length + 1) c9)))
          have HTX := Lib.hid (HTR.out _ _ _ _ hst HFX.out)
          have HBX := Lib.hid (HFX.out.below HB7.out HDB.out)
          have HQL : Hid (P.length = (addO P (j + 1) (i : Int)).length) := Lib.hid (by rw [← HSETP.out, List.length_set])
          clear hp hst hown hgr had8 hle8
          go_wp2_with (at_builtin; refine wpList_append_ran rfl _ _ rfl rfl rfl hrun ?_)
          go_wp2
          refine seg_grow ⟨⟨_, HBw9.out⟩, rfl⟩ ?_
          repeat (go_big_quiet_step (fail))
          refine wpQuiet_nil ?_
          clear hrun hclip
          go_wp2
          refine seg_write ?_
          refine wpQuiet_nil ?_
          refine only_done ?_
          clear hc2 hf2 hz2
          generalize w9.setCell ⟨g, j + 1, none⟩ (.slice a9 (l.length + 1) c9) = wX at *
          go_wp2_with fail
          go_roundw
          case rel => exact ⟨i + 1, _, _, by omega, rfl, rfl, by go_num, by rw [HR1.out, HP1.out, HP2.out]; exact HTX.out, HBX.out⟩
          case measure => simp [intOf]; omega
    · have hie : i = s.length := by omega
      subst hie
      obtain ⟨B, D, vs, h1, h2, h3, _⟩ := HT.out
      obtain ⟨av, cv, rfl⟩ := h2.form
      obtain ⟨au, cu, rfl⟩ := owns_form h3
      have H1 := Lib.hid h2.rd; have H2 := Lib.hid (RdI.of_owns h3)
      clear h1 h2 h3
      have HB12 := Lib.hid (pilOk s s.length).bef
      generalize hPE : (pilP s s.length).1 = P at *
      generalize hFE : (pilP s s.length).2 = F at *
      have HPE := Lib.hid hPE; have HFE := Lib.hid hFE
      clear hPE hFE
      go_wp2_with fail
      go_ret2
      exact ⟨.slice av P.length cv, .slice au F.length cu, rfl, by rw [HPE.out]; exact H1.out, by rw [HFE.out]; exact H2.out, HB.out⟩
end Go.Proofs.Ytnnfahdhmodejaa

namespace Go.Proofs.Ytnnfahdhmodejaa
open Go.RowKit Go.Shelf

structure PilNum (s : List Int) (k : Nat) : Prop where
  num : ∀ i j, j < (row (pilP s k).1 i).length → 0 ≤ num (pilP s k).1 i j ∧ num (pilP s k).1 i j < (k : Int)
  bef : ∀ j, j < k → -1 ≤ elt (pilP s k).2 j ∧ elt (pilP s k).2 j < (k : Int)
theorem elt_snocP (l : List Int) (x : Int) (j : Nat) : elt (l ++ [x]) j = if j = l.length then x else elt l j := by
  unfold elt
  rcases Nat.lt_trichotomy j l.length with h | h | h
  · rw [List.getElem?_append_left h, if_neg (by omega)]
  · subst h; rw [if_pos rfl, List.getElem?_append_right (Nat.le_refl _), Nat.sub_self]; rfl
  · rw [if_neg (by omega), List.getElem?_append_right (by omega), List.getElem?_eq_none (by simp; omega), List.getElem?_eq_none (by omega)]
theorem pilNum (s : List Int) : ∀ k, PilNum s k
  | 0 => ⟨fun i j h => by simp [pilP, row] at h, fun j h => by omega⟩
  | k + 1 => by
    have h := pilNum s k
    have hk := pilOk s k
    have ha := atP_le hk
    have hp : (pilP s (k + 1)).1 = addO (pilP s k).1 (atP s k) (k : Int) := rfl
    have hb : (pilP s (k + 1)).2 = (pilP s k).2 ++ [if atP s k = 0 then -1 else lastP (pilP s k).1 (atP s k - 1)] := rfl
    refine ⟨fun i j hj => ?_, fun j hj => ?_⟩
    · unfold num
      rw [hp, addP_row _ ha] at hj ⊢
      split at hj
      · rename_i e
        rw [if_pos e, elt_snocP]
        split
        · omega
        · rw [List.length_append, List.length_singleton] at hj
          have := h.num i j (by omega)
          unfold num at this
          omega
      · rename_i e
        rw [if_neg e]
        have := h.num i j hj
        unfold num at this
        omega
    · rw [hb, elt_snocP, hk.bef]
      split
      · split
        · omega
        · have hpos := hk.pos (atP s k - 1) (by omega)
          have := h.num (atP s k - 1) ((row (pilP s k).1 (atP s k - 1)).length - 1) (by omega)
          unfold num at this
          unfold lastP
          omega
      · have := h.bef j (by omega)
        omega
/-- From an index back to those before it. -/
def chainR (F : List Int) : Nat → Int → List Int → List Int
  | 0, _, acc => acc
  | n + 1, a, acc => chainR F n (max 0 (elt F a.toNat)) (a :: acc)
/-- What Rising returns: the run, the error. -/
def risingE (s : List Int) : List Int × Int := if seqC s ≠ 0 then ([], seqC s) else (chainR (pilP s s.length).2 (pilP s s.length).1.length (num (pilP s s.length).1 ((pilP s s.length).1.length - 1) 0) [], 0)
set_option maxRecDepth 100000 in
set_option maxHeartbeats 1600000 in
theorem prisingrun_any (x : Value) (s : List Int) (w : World) (hx0 : RdI w .i64 x s) (hl : s.length ≤ 1000) : Calls Try.prog 43 #[x] w (Post2I w (risingE s)) := by
  have HX := Lib.hid hx0
  have HC := Lib.hid (pseq_any x s w hx0 hl)
  obtain ⟨a, ca, rfl, _, _, _⟩ := hx0.form
  clear hx0
  by_cases hc : seqC s = 0
  · have t1 : (seqC s != 0) = false := by simp [hc]
    have HH : Hid (risingE s = (chainR (pilP s s.length).2 (pilP s s.length).1.length (num (pilP s s.length).1 ((pilP s s.length).1.length - 1) 0) [], 0)) := Lib.hid (by unfold risingE; rw [if_neg (by simp [hc])])
    have hl12 := seqC_len hc
    have HPI := Lib.hid (fun wz h => piles_any (.slice a s.length ca) s wz h hl12)
    have HOK := Lib.hid (pilOk s s.length)
    have HNU := Lib.hid (pilNum s s.length)
    clear hc
    generalize seqC s = q0 at *
    generalize risingE s = L at *
    go_enter Try.func43, Try.ntmps43
    go_wp2_with fail
    refine HC.out.mono ?_
    rintro e w2 ⟨rfl, hB⟩
    have HB2 := Lib.hid hB
    clear hB HC
    go_wp2_with fail
    refine (HPI.out w2 (HX.out.mono HB2.out)).mono ?_
    rintro e w3 ⟨u, v, rfl, hu, hv, hB⟩
    have hpl := HOK.out.most
    have HBL := Lib.hid HOK.out.bef
    have HPOS := Lib.hid HOK.out.pos
    have HNM := Lib.hid HNU.out.num
    have HBF := Lib.hid HNU.out.bef
    have HU := Lib.hid hu; have HV := Lib.hid hv; have HB3 := Lib.hid (btr HB2.out hB)
    obtain ⟨au, cu, rfl⟩ := hu.sl
    obtain ⟨av, cv, rfl, _, _, _⟩ := hv.form
    clear hu hv hB HPI HOK HNU
    generalize (pilP s s.length).1 = P at *
    generalize (pilP s s.length).2 = F at *
    by_cases hP0 : P.length = 0
    · have t2 : ((P.length : Int) == 0) = true := by rw [beq_iff_eq]; omega
      have t2' : (P.length == 0) = true := by rw [beq_iff_eq]; exact hP0
      rw [hP0] at HH
      have HH2 : Hid (L = ([], 0)) := Lib.hid HH.out
      clear hP0 HH
      go_wp2_with fail
      go_ret2
      exact post2I_mk HH2.out (rdI_nil _ _) HB3.out
    · have t2 : ((P.length : Int) == 0) = false := by rw [beq_eq_false_iff_ne]; omega
      have t2' : (P.length == 0) = false := by rw [beq_eq_false_iff_ne]; exact hP0
      have HP0 := Lib.hid hP0
      clear hP0
      go_wp2_with (at_make; refine wpList_make_ints rfl _ _ rfl P.length rfl rfl (by omega) ?_)
      intro w4 hO4 hg4
      have HB4 := Lib.hid (bgr HB3.out hg4 (fun k h => by cases h))
      have HBw := Lib.hid (bgr (bz w3) hg4 (fun k h => by cases h))
      have HO4 := Lib.hid (hO4.base HB3.out.size)
      obtain ⟨m, hm⟩ : ∃ m, P.length = m + 1 := ⟨P.length - 1, by have := HP0.out; omega⟩
      obtain ⟨bb, off, a', c', e, hbb, hce, hrr⟩ := (HU.out.mono HBw.out).get m (by omega)
      subst e
      have hpm := HPOS.out m (by omega)
      obtain ⟨bq, oq, e, hbq, hcq⟩ := hrr.get hpm
      subst e
      have gq := hcq 0 hpm
      rw [Nat.add_zero] at gq
      have hnm := HNM.out m 0 hpm
      have HH2 : Hid (L = (chainR F P.length (num P m 0) [], 0)) := Lib.hid (by rw [HH.out, hm]; rfl)
      have HEN : Hid (elt (row P m) 0 = num P m 0) := Lib.hid rfl
      rw [HEN.out] at gq
      clear hO4 hg4 hrr hcq HH HEN
      generalize num P m 0 = a0 at *
      have HM := Lib.hid hm
      have hm1 : (P.length : Int) - 1 = (m : Int) := by omega
      have hmP : m < P.length := by omega
      generalize (row P m).length = rl at *
      generalize hg3 : w3.heap.size = g at *
      have HG3 := Lib.hid hg3
      clear hg3
      clear hm
      have HFN : Hid (chainR F P.length a0 [] = L.1) := Lib.hid (by rw [HH2.out])
      have HL2 : Hid (L = (L.1, 0)) := Lib.hid (by rw [HH2.out])
      generalize L.1 = FIN at *
      go_wp2_with fail
      go_loopw [8, 9, 36] (fun s8 _ s36 wr => ∃ (i n : Nat) (aa : Int) (acc : List Int), i + n = P.length ∧ s36 = .int .i64 i ∧ s8 = .int .i64 aa ∧ acc.length = i ∧ 0 ≤ aa ∧ aa < (s.length : Int) ∧ rowI wr w.heap.size (.slice (some ⟨g, 0, none⟩) P.length P.length) (zeros n ++ acc) ∧ Below w.heap.size w wr ∧ Below g w3 wr ∧ chainR F n aa acc = FIN) (fun _ _ s36 _ => P.length - (intOf s36).toNat)
      case atStart => exact ⟨0, P.length, a0, [], by omega, rfl, rfl, rfl, hnm.1, hnm.2, by rw [List.append_nil]; exact HO4.out, HB4.out, HBw.out, HFN.out⟩
      case round =>
        clear gq HO4 HB4 HFN hnm
        obtain ⟨i, n, aa, acc, hin, rfl, rfl, hacc, ha0, ha1, hO, hB, hV, hC⟩ := hrel
        have HO := Lib.hid hO; have HB := Lib.hid hB; have HBg := Lib.hid hV; have HCH := Lib.hid hC; have HAC := Lib.hid hacc
        clear hO hB hV hC hacc
        rcases n with _ | n
        · have hiP : i = P.length := by omega
          subst hiP
          have hE := HCH.out
          unfold chainR at hE
          have HO2 : Hid (rowI wr w.heap.size (.slice (some ⟨g, 0, none⟩) P.length P.length) FIN) := Lib.hid (by have h := HO.out; rw [← hE]; simpa [zeros] using h)
          have HLN : Hid (P.length = FIN.length) := Lib.hid (by rw [← hE]; exact HAC.out.symm)
          clear hE HCH HO
          go_wp2_with fail
          go_ret2
          exact post2I_mk HL2.out (RdI.of_owns (by have := HO2.out; exact this)) HB.out
        · obtain ⟨b, rfl⟩ := Int.eq_ofNat_of_zero_le ha0
          have hbs : b < s.length := by omega
          obtain ⟨bx, ox, e, hbx, hcx⟩ := HV.out.get (by have := HBL.out; omega)
          subst e
          have HNE : Hid (bx < g) := Lib.hid (by have := HG3.out; omega)
          have gx := (HBg.out.cell (p := ⟨bx, ox + b, none⟩) HNE.out).trans (hcx b (by have := HBL.out; omega))
          have hbf := HBF.out b hbs
          have hidx : (P.length : Int) - 1 - (i : Int) = (n : Int) := by omega
          have hidx2 : (m : Int) - (i : Int) = (n : Int) := by omega
          have hiP : (i : Int) < (P.length : Int) := by omega
          have hgw0 : w.heap.size ≤ g := (HO.out.lt (k := g) rfl).1
          obtain ⟨g2, c2, e2, gz, gc, gf⟩ := HO.out.get n (by rw [List.length_append, zeros_len]; omega)
          simp only [Value.slice.injEq, Option.some.injEq, Addr.mk.injEq, and_true] at e2
          obtain ⟨rfl, e2, e3⟩ := e2
          have HST := Lib.hid (HO.out.stored n (b : Int))
          rw [zeros_set] at HST
          have HB7 := Lib.hid (bset HB.out (p := ⟨g, n, none⟩) hgw0 (.int .i64 (b : Int)))
          have HC2 : Hid (chainR F n (max 0 (elt F b)) ((b : Int) :: acc) = FIN) := Lib.hid (by have := HCH.out; unfold chainR at this; rwa [show ((b : Int)).toNat = b by simp] at this)
          have gx2 : (wr.setCell ⟨g, n, none⟩ (.int .i64 (b : Int))).cell? ⟨bx, ox + b, none⟩ = some (.int .i64 (elt F b)) := (World.cell?_setCell_other _ _ _ _ (fun e => by simp only [Addr.mk.injEq] at e; have := HNE.out; omega)).trans gx
          have HV2 := Lib.hid (Below.setCell HBg.out (p := ⟨g, n, none⟩) (Nat.le_refl g) (.int .i64 (b : Int)))
          have hi1 : i + 1 + n = P.length := by omega
          have hgx : bx < wr.heap.size := by have := HNE.out; omega
          clear HO HBg HCH e2 e3 gx hin hcx hbx
          generalize elt F b = y at *
          have hbF : b < F.length := by have := HBL.out; omega
          have HMX : Hid (0 ≤ max 0 y ∧ max 0 y < (s.length : Int)) := Lib.hid (by omega)
          clear hbf
          go_wp2_with fail
          go_roundw
          case rel => exact ⟨i + 1, n, max 0 y, _, hi1, by go_num, rfl, by simp [HAC.out], HMX.out.1, HMX.out.2, HST.out, HB7.out, HV2.out, HC2.out⟩
          case measure => simp [intOf]; omega
  · have t1 : (seqC s != 0) = true := by simp [hc]
    have HH : Hid (risingE s = ([], seqC s)) := Lib.hid (by unfold risingE; rw [if_pos hc])
    clear hc
    generalize seqC s = q at *
    generalize risingE s = L at *
    go_enter Try.func43, Try.ntmps43
    go_wp2_with fail
    refine HC.out.mono ?_
    rintro e w2 ⟨rfl, hB⟩
    have HB1 := Lib.hid hB; clear hB HC
    go_wp2_with fail
    go_ret2
    exact post2I_mk HH.out (rdI_nil _ _) HB1.out
end Go.Proofs.Ytnnfahdhmodejaa

namespace Go.Proofs.Ytnnfahdhmodejaa
open Go.RowKit Go.Shelf

/-- What Falls returns: the runs, the error. -/
def fallsE (s : List Int) : List (List Int) × Int := if seqC s ≠ 0 then ([], seqC s) else ((pilP s s.length).1, 0)
theorem wpList_make_rows {w : World} {ops : Array Oper} {rest : List Oper} {o : Oper} {a : Act} {Q : Exit → Act → World → Prop} (hg : o.guard = none) (l c : Operand) (hop : o.op = Op.makeSlice 22 l c) (n : Nat) (hl : a.eval l = .int .i64 (n : Int)) (hc : a.eval c = .int .i64 (n : Int)) (hn : n ≤ 1000)
    (hK : ∀ w' xs, w'.ownsRow w.heap.size 31 1 (.slice (some ⟨w.heap.size, 0, none⟩) n n) n xs → w.grownBy w' none → wpList Try.prog ops Q rest (a.put o.dst (.slice (some ⟨w.heap.size, 0, none⟩) n n)) w') : wpList Try.prog ops Q (o :: rest) a w := by
  obtain ⟨i0, hi, hz0, hz1, hz2⟩ := info_parts info31
  refine wpList_make_full _ hg l c 22 hop w.heap.size 31 i0 (.slice none 0 0) 1 Try.underlying22 hi hz0 hz1 .i64 .i64 _ _ n hl hc rfl rfl (by rw [hz2]; omega) (by simp only [maxLen]; omega) (Nat.le_refl _) ?_
  intro w' h1 h2
  exact hK w' _ h1 h2
/-- 'copy' of rows that are read to a row just made. -/
theorem run_copy_rows (w0 w : World) (g n : Nat) (u : Value) (R : List (List Int)) (xs : List Value) (hu : RdLL w0 u R) (hb : Below w0.heap.size w0 w) (hg0 : w0.heap.size ≤ g) (hn : R.length = n) (hn2 : n ≤ 1000) (ho : w.ownsRow g 31 1 (.slice (some ⟨g, 0, none⟩) n n) n xs) :
    ∃ w', (∀ ty, (Builtin.copy_ #[22, 22] ty #[.slice (some ⟨g, 0, none⟩) n n, u]).run Try.prog w = .ok (goInt n) w') ∧ RdLL w' (.slice (some ⟨g, 0, none⟩) n n) R ∧ Below w0.heap.size w0 w' := by
  obtain ⟨vs, hvl, hrc, hel⟩ := hu
  obtain ⟨a, cap, rfl, h1, h2, h3⟩ := hrc
  have h63 : (1000 : Nat) ≤ maxLen := by unfold maxLen; omega
  rcases Nat.eq_zero_or_pos n with h0 | h0
  · refine ⟨w, fun ty => ?_, ?_, hb⟩
    · have := run_copy_none (P := Try.prog) w 22 22 ty 31 (some ⟨g, 0, none⟩) a n n vs.length cap Try.underlying22 (by kernel_rfl) (by simp [h0])
      rw [this, h0]; rfl
    · have hv0 : vs = [] := List.eq_nil_of_length_eq_zero (by omega)
      subst hv0
      exact ⟨[], hvl, ⟨some ⟨g, 0, none⟩, n, by rw [h0]; rfl, by simp, by omega, fun h => absurd rfl h⟩, fun i e he => by simp at he⟩
  · obtain ⟨bx, ox, rfl, hbx, hc⟩ := h3 (by intro e; rw [e] at hvl; simp at hvl; omega)
    obtain ⟨g', cap', cur, e, _, hgc, _, hcm, hcs, _⟩ : ∃ g' cap' cur, Value.slice (some ⟨g, 0, none⟩) n n = .slice (some ⟨g', 0, none⟩) n cap' ∧ g ≤ g' ∧ w.heap[g']? = some (.cells cur 31 (0, 0)) ∧ n ≤ cap' ∧ cap' ≤ maxLen ∧ cur.size = cap' * 1 ∧ cur.toList.take (n * 1) = xs := by
      rcases ho.2 with ⟨h, _⟩ | h
      · cases h
      · exact h
    cases e
    have hr := fun ty => run_copy_row (P := Try.prog) w 22 22 ty 31 g 0 n n ⟨bx, ox, none⟩ vs.length cap cur 31 vs Try.underlying22 (by kernel_rfl) hgc (by rw [hvl, hn]; exact (Nat.min_self n).symm) (fun j v hv => by
      rw [Go.WideShapes.add_plain]
      exact (hb.cell (p := ⟨bx, ox + j, none⟩) hbx).trans (hc j v hv)) (by rw [hcs]; omega) (fun v hv => by
      obtain ⟨i, hi, rfl⟩ := List.getElem_of_mem hv
      obtain ⟨a2, c2, e2, _⟩ := (hel i _ (List.getElem?_eq_getElem hi)).form
      exact (congrArg Value.oneCell' e2).trans rfl)
    have hB : Below w0.heap.size w0 (w.setRow g (cur.toList.take 0 ++ vs ++ cur.toList.drop (0 + n)).toArray) := hb.trans ⟨rfl, rfl, rfl, by simp, fun t ht => setRow_other _ _ _ _ (by omega)⟩
    have hvn : vs.length = n := by rw [hvl, hn]
    have hown : (w.setRow g (cur.toList.take 0 ++ vs ++ cur.toList.drop (0 + n)).toArray).ownsRow 0 31 1 (.slice (some ⟨g, 0, none⟩) n n) n vs := by
      refine ⟨by rw [hvn, Nat.mul_one], .inr ⟨g, n, (cur.toList.take 0 ++ vs ++ cur.toList.drop (0 + n)).toArray, rfl, Nat.zero_le _, setRow_heap _ _ _ _ 31 _ hgc, Nat.le_refl _, Nat.le_trans hn2 h63, ?_, ?_⟩⟩
      · rw [List.size_toArray, List.length_append, List.length_append, List.take_zero, List.length_nil, hvn, List.length_drop, Array.length_toList, hcs]; omega
      · rw [List.take_zero, List.nil_append, Nat.mul_one]
        show (vs ++ cur.toList.drop (0 + n)).take n = vs
        rw [← hvn, List.take_left']
        rfl
    have hrd : RdC (w.setRow g (cur.toList.take 0 ++ vs ++ cur.toList.drop (0 + n)).toArray) (.slice (some ⟨g, 0, none⟩) n n) vs.length vs := by
      rw [show vs.length = n from hvn]
      exact RdC.of_owns hown
    have hr2 : ∀ ty, (Builtin.copy_ #[22, 22] ty #[.slice (some ⟨g, 0, none⟩) n n, .slice (some ⟨bx, ox, none⟩) vs.length cap]).run Try.prog w = .ok (goInt n) (w.setRow g (cur.toList.take 0 ++ vs ++ cur.toList.drop (0 + n)).toArray) := fun ty => by
      rw [hr ty, hvn]
    generalize w.setRow g (cur.toList.take 0 ++ vs ++ cur.toList.drop (0 + n)).toArray = w' at *
    exact ⟨w', hr2, ⟨vs, hvl, hrd, fun i e he => (hel i e he).mono hB⟩, hB⟩
set_option maxRecDepth 100000 in
set_option maxHeartbeats 1600000 in
theorem pfallsrun_any (x : Value) (s : List Int) (w : World) (hx0 : RdI w .i64 x s) (hl : s.length ≤ 1000) : Calls Try.prog 44 #[x] w (Post2LL w (fallsE s)) := by
  have HX := Lib.hid hx0
  have HC := Lib.hid (pseq_any x s w hx0 hl)
  obtain ⟨a, ca, rfl, _, _, _⟩ := hx0.form
  clear hx0
  by_cases hc : seqC s = 0
  · have t1 : (seqC s != 0) = false := by simp [hc]
    have HH : Hid (fallsE s = ((pilP s s.length).1, 0)) := Lib.hid (by unfold fallsE; rw [if_neg (by simp [hc])])
    have hl12 := seqC_len hc
    have HPI := Lib.hid (fun wz h => piles_any (.slice a s.length ca) s wz h hl12)
    have HOK := Lib.hid (pilOk s s.length)
    clear hc
    generalize seqC s = q0 at *
    generalize fallsE s = L at *
    go_enter Try.func44, Try.ntmps44
    go_wp2_with fail
    refine HC.out.mono ?_
    rintro e w2 ⟨rfl, hB⟩
    have HB2 := Lib.hid hB
    clear hB HC
    go_wp2_with fail
    refine (HPI.out w2 (HX.out.mono HB2.out)).mono ?_
    rintro e w3 ⟨u, v, rfl, hu, hv, hB⟩
    have hpl := HOK.out.most
    have HU := Lib.hid hu; have HB3 := Lib.hid (btr HB2.out hB)
    obtain ⟨au, cu, rfl⟩ := hu.sl
    obtain ⟨av, cv, rfl, _, _, _⟩ := hv.form
    clear hu hv hB HPI HOK
    generalize (pilP s s.length).1 = P at *
    generalize (pilP s s.length).2 = F at *
    go_wp2_with (at_make; refine wpList_make_rows rfl _ _ rfl P.length rfl rfl (by omega) ?_)
    intro w4 xs hO4 hg4
    have HBw := Lib.hid (bgr (bz w3) hg4 (fun k h => by cases h))
    obtain ⟨w5, hcp, hr5, hB5⟩ := run_copy_rows w3 w4 w3.heap.size P.length _ P xs HU.out HBw.out (Nat.le_refl _) rfl (by omega) hO4
    have HR5 := Lib.hid hr5; have HB5 := Lib.hid (btr HB3.out hB5)
    clear hO4 hg4 hr5 hB5
    generalize w3.heap.size = g at *
    go_wp2_with (rw [hcp])
    go_wp2
    go_ret2
    exact post2LL_mk HH.out HR5.out HB5.out
  · have t1 : (seqC s != 0) = true := by simp [hc]
    have HH : Hid (fallsE s = ([], seqC s)) := Lib.hid (by unfold fallsE; rw [if_pos hc])
    clear hc
    generalize seqC s = q at *
    generalize fallsE s = L at *
    go_enter Try.func44, Try.ntmps44
    go_wp2_with fail
    refine HC.out.mono ?_
    rintro e w2 ⟨rfl, hB⟩
    have HB1 := Lib.hid hB; clear hB HC
    go_wp2_with fail
    go_ret2
    exact post2LL_mk HH.out (rdLL_nil _) HB1.out
end Go.Proofs.Ytnnfahdhmodejaa

namespace Go.Proofs.Ytnnfahdhmodejaa
open Go.RowKit Go.Shelf

def Keep (w : World) (G : World → Prop) : Prop := ∀ w', Below w.heap.size w w' → G w'
theorem Keep.here {w : World} {G : World → Prop} (h : Keep w G) : G w := h w (bz w)
theorem Keep.up {w w' : World} {G : World → Prop} (h : Keep w G) (hb : Below w.heap.size w w') : Keep w' G := fun w2 h2 => h w2 (btr hb h2)
theorem Keep.and {w : World} {G G' : World → Prop} (h : Keep w G) (k : Keep w G') : Keep w (fun w => G' w ∧ G w) := fun w' hb => ⟨k w' hb, h w' hb⟩
theorem Keep.name {w : World} {G : World → Prop} (h : Keep w G) : ∃ G' : World → Prop, Keep w G' ∧ ∀ w, G' w → G w := ⟨G, h, fun _ h => h⟩
theorem Keep.imp {w : World} {G G' : World → Prop} (h : Keep w G) (k : ∀ w, G w → G' w) : Keep w G' := fun w' hb => k w' (h w' hb)
theorem keepI {w : World} {k : IntKind} {v : Value} {xs : List Int} (h : RdI w k v xs) : Keep w (fun w => RdI w k v xs) := fun _ hb => h.mono hb
theorem keepP {w : World} {v : Value} {V : List (Int × Int)} (h : RdP w v V) : Keep w (fun w => RdP w v V) := fun _ hb => h.mono hb
theorem keepC {w : World} {p : Addr} {v : Value} (h : w.cell? p = some v) : Keep w (fun w => w.cell? p = some v) := fun _ hb => (hb.cell (World.block_lt_of_cell? w _ h)).trans h
theorem keepB {w0 w : World} (h : Below w0.heap.size w0 w) : Keep w (fun w => Below w0.heap.size w0 w) := fun _ hb => btr h hb
theorem keepZ {w : World} {b : Nat} (h : b < w.heap.size) : Keep w (fun w => b < w.heap.size) := fun _ hb => Nat.lt_of_lt_of_le h hb.size
theorem keep_true (w : World) : Keep w (fun _ => True) := fun _ _ => trivial

def arrI (xs : List Int) : Array Value := (xs.map (Value.int .i64)).toArray
theorem keepL {w : World} {v : Value} {R : List (List Int)} (h : RdLL w v R) : Keep w (fun w => RdLL w v R) := fun _ hb => h.mono hb
theorem rdI_new (w : World) (xs : List Int) (t : TypeId) (h : xs.length ≤ 1000) : RdI (w.alloc (.cells (arrI xs) t)) .i64 (.slice (some ⟨w.heap.size, 0, none⟩) xs.length xs.length) xs := by
  refine ⟨_, _, rfl, Nat.le_refl _, by unfold maxLen; omega, fun _ => ⟨w.heap.size, 0, rfl, by simp, fun j u hj => ?_⟩⟩
  exact cnew rfl (by simpa [arrI] using hj)
theorem rdI_at (w : World) (xs : List Int) (t : TypeId) (b : Nat) (hb : b = w.heap.size) (h : xs.length ≤ 1000) : RdI (w.alloc (.cells (arrI xs) t)) .i64 (.slice (some ⟨b, 0, none⟩) xs.length xs.length) xs := by
  subst hb; exact rdI_new w xs t h
/-- Rows that are written out. -/
theorem rdLL_at (w : World) (vs : List Value) (R : List (List Int)) (b : Nat) (hb : b = w.heap.size) (hl : vs.length = R.length) (h : vs.length ≤ 1000) (hr : ∀ i e, vs[i]? = some e → RdI w .i64 e (row R i)) : RdLL (w.alloc (.cells vs.toArray 31)) (.slice (some ⟨b, 0, none⟩) vs.length vs.length) R := by
  subst hb
  refine ⟨vs, hl, ⟨_, _, rfl, Nat.le_refl _, by unfold maxLen; omega, fun _ => ⟨w.heap.size, 0, rfl, by simp, fun j u hj => ?_⟩⟩, fun i e he => (hr i e he).mono (bal (bz w) _)⟩
  exact cnew rfl (by simpa using hj)
end Go.Proofs.Ytnnfahdhmodejaa

namespace Go.Proofs.Ytnnfahdhmodejaa
open Go.RowKit Go.Shelf

theorem of_id (x : Value) (w : World) : Calls Try.prog 57 #[x] w fun e w' => e = .returned x ∧ w = w' := by
  go_enter Try.func57, Try.ntmps57
  go_wp2_with fail
  go_ret
  exact ⟨rfl, rfl⟩
theorem rows_id (x : Value) (w : World) : Calls Try.prog 56 #[x] w fun e w' => e = .returned x ∧ w = w' := by
  go_enter Try.func56, Try.ntmps56
  go_wp2_with fail
  go_ret
  exact ⟨rfl, rfl⟩
theorem sequence_any (w : World) : Calls Try.prog 54 #[] w fun e w' => ∃ x, e = .returned x ∧ RdI w' .i64 x [3, 1, 2, 1] ∧ Below w.heap.size w w' := by
  have HR := Lib.hid (rdI_at w [3, 1, 2, 1] 3 w.heap.size rfl (by simp))
  go_enter Try.func54, Try.ntmps54
  go_wp2_with fail
  refine (of_id _ _).mono ?_
  rintro e w' ⟨rfl, rfl⟩
  go_wp2_with fail
  go_ret
  exact ⟨_, rfl, HR.out, bal (bz w) _⟩
set_option maxRecDepth 100000 in
theorem stand_any (w : World) : Calls Try.prog 55 #[] w fun e w' => ∃ x, e = .returned x ∧ RdLL w' x [[1, 1], [2], [3]] ∧ Below w.heap.size w w' := by
  obtain ⟨w1, h1⟩ : ∃ w1, w.alloc (.cells (arrI [1, 1]) 3) = w1 := ⟨_, rfl⟩
  have r1 : RdI w1 .i64 (.slice (some ⟨w.heap.size, 0, none⟩) 2 2) [1, 1] := by rw [← h1]; exact rdI_at w [1, 1] 3 _ rfl (by simp)
  have b1 : Below w.heap.size w w1 := by rw [← h1]; exact bal (bz w) _
  have z1 : w1.heap.size = w.heap.size + 1 := by rw [← h1]; simp
  obtain ⟨w2, h2⟩ : ∃ w2, w1.alloc (.cells (arrI [2]) 3) = w2 := ⟨_, rfl⟩
  have r2 : RdI w2 .i64 (.slice (some ⟨w.heap.size + 1, 0, none⟩) 1 1) [2] := by rw [← h2]; exact rdI_at w1 [2] 3 _ z1.symm (by simp)
  have b2 : Below w1.heap.size w1 w2 := by rw [← h2]; exact bal (bz w1) _
  have z2 : w2.heap.size = w.heap.size + 1 + 1 := by rw [← h2]; simp [z1]
  obtain ⟨w3, h3⟩ : ∃ w3, w2.alloc (.cells (arrI [3]) 3) = w3 := ⟨_, rfl⟩
  have r3 : RdI w3 .i64 (.slice (some ⟨w.heap.size + 1 + 1, 0, none⟩) 1 1) [3] := by rw [← h3]; exact rdI_at w2 [3] 3 _ z2.symm (by simp)
  have b3 : Below w2.heap.size w2 w3 := by rw [← h3]; exact bal (bz w2) _
  have z3 : w3.heap.size = w.heap.size + 1 + 1 + 1 := by rw [← h3]; simp [z2]
  have hrl := rdLL_at w3 [.slice (some ⟨w.heap.size, 0, none⟩) 2 2, .slice (some ⟨w.heap.size + 1, 0, none⟩) 1 1, .slice (some ⟨w.heap.size + 1 + 1, 0, none⟩) 1 1] [[1, 1], [2], [3]] (w.heap.size + 1 + 1 + 1) z3.symm rfl (by simp) (fun i e he => by
    match i with
    | 0 => simp at he; subst he; exact (r1.mono b2).mono b3
    | 1 => simp at he; subst he; exact r2.mono b3
    | 2 => simp at he; subst he; exact r3
    | n + 3 => simp at he)
  have HR := Lib.hid hrl
  have HB := Lib.hid (bal (btr (btr b1 b2) b3) (.cells #[.slice (some ⟨w.heap.size, 0, none⟩) 2 2, .slice (some ⟨w.heap.size + 1, 0, none⟩) 1 1, .slice (some ⟨w.heap.size + 1 + 1, 0, none⟩) 1 1] 31))
  have H1 : Hid (w.alloc (.cells #[.int .i64 1, .int .i64 1] 3) = w1) := Lib.hid h1
  have H2 : Hid (w1.alloc (.cells #[.int .i64 2] 3) = w2) := Lib.hid h2
  have H3 : Hid (w2.alloc (.cells #[.int .i64 3] 3) = w3) := Lib.hid h3
  clear hrl r1 r2 r3 b1 b2 b3 h1 h2 h3
  go_enter Try.func55, Try.ntmps55
  go_wp2_with fail
  refine (of_id _ _).mono ?_
  rintro e w' ⟨rfl, rfl⟩
  rw [H1.out]
  go_wp2_with fail
  refine (of_id _ _).mono ?_
  rintro e w' ⟨rfl, rfl⟩
  rw [H2.out]
  go_wp2_with fail
  refine (of_id _ _).mono ?_
  rintro e w' ⟨rfl, rfl⟩
  rw [H3.out]
  go_wp2_with fail
  refine (rows_id _ _).mono ?_
  rintro e w' ⟨rfl, rfl⟩
  go_wp2_with fail
  go_ret
  exact ⟨_, rfl, HR.out, HB.out⟩
set_option maxRecDepth 100000 in
theorem ordex_any (w : World) : Calls Try.prog 58 #[] w fun e w' => ∃ x, e = .returned x ∧ RdLL w' x [[1, 3], [2], [4]] ∧ Below w.heap.size w w' := by
  obtain ⟨w1, h1⟩ : ∃ w1, w.alloc (.cells (arrI [1, 3]) 3) = w1 := ⟨_, rfl⟩
  have r1 : RdI w1 .i64 (.slice (some ⟨w.heap.size, 0, none⟩) 2 2) [1, 3] := by rw [← h1]; exact rdI_at w [1, 3] 3 _ rfl (by simp)
  have b1 : Below w.heap.size w w1 := by rw [← h1]; exact bal (bz w) _
  have z1 : w1.heap.size = w.heap.size + 1 := by rw [← h1]; simp
  obtain ⟨w2, h2⟩ : ∃ w2, w1.alloc (.cells (arrI [2]) 3) = w2 := ⟨_, rfl⟩
  have r2 : RdI w2 .i64 (.slice (some ⟨w.heap.size + 1, 0, none⟩) 1 1) [2] := by rw [← h2]; exact rdI_at w1 [2] 3 _ z1.symm (by simp)
  have b2 : Below w1.heap.size w1 w2 := by rw [← h2]; exact bal (bz w1) _
  have z2 : w2.heap.size = w.heap.size + 1 + 1 := by rw [← h2]; simp [z1]
  obtain ⟨w3, h3⟩ : ∃ w3, w2.alloc (.cells (arrI [4]) 3) = w3 := ⟨_, rfl⟩
  have r3 : RdI w3 .i64 (.slice (some ⟨w.heap.size + 1 + 1, 0, none⟩) 1 1) [4] := by rw [← h3]; exact rdI_at w2 [4] 3 _ z2.symm (by simp)
  have b3 : Below w2.heap.size w2 w3 := by rw [← h3]; exact bal (bz w2) _
  have z3 : w3.heap.size = w.heap.size + 1 + 1 + 1 := by rw [← h3]; simp [z2]
  have hrl := rdLL_at w3 [.slice (some ⟨w.heap.size, 0, none⟩) 2 2, .slice (some ⟨w.heap.size + 1, 0, none⟩) 1 1, .slice (some ⟨w.heap.size + 1 + 1, 0, none⟩) 1 1] [[1, 3], [2], [4]] (w.heap.size + 1 + 1 + 1) z3.symm rfl (by simp) (fun i e he => by
    match i with
    | 0 => simp at he; subst he; exact (r1.mono b2).mono b3
    | 1 => simp at he; subst he; exact r2.mono b3
    | 2 => simp at he; subst he; exact r3
    | n + 3 => simp at he)
  have HR := Lib.hid hrl
  have HB := Lib.hid (bal (btr (btr b1 b2) b3) (.cells #[.slice (some ⟨w.heap.size, 0, none⟩) 2 2, .slice (some ⟨w.heap.size + 1, 0, none⟩) 1 1, .slice (some ⟨w.heap.size + 1 + 1, 0, none⟩) 1 1] 31))
  have H1 : Hid (w.alloc (.cells #[.int .i64 1, .int .i64 3] 3) = w1) := Lib.hid h1
  have H2 : Hid (w1.alloc (.cells #[.int .i64 2] 3) = w2) := Lib.hid h2
  have H3 : Hid (w2.alloc (.cells #[.int .i64 4] 3) = w3) := Lib.hid h3
  clear hrl r1 r2 r3 b1 b2 b3 h1 h2 h3
  go_enter Try.func58, Try.ntmps58
  go_wp2_with fail
  refine (of_id _ _).mono ?_
  rintro e w' ⟨rfl, rfl⟩
  rw [H1.out]
  go_wp2_with fail
  refine (of_id _ _).mono ?_
  rintro e w' ⟨rfl, rfl⟩
  rw [H2.out]
  go_wp2_with fail
  refine (of_id _ _).mono ?_
  rintro e w' ⟨rfl, rfl⟩
  rw [H3.out]
  go_wp2_with fail
  refine (rows_id _ _).mono ?_
  rintro e w' ⟨rfl, rfl⟩
  go_wp2_with fail
  go_ret
  exact ⟨_, rfl, HR.out, HB.out⟩
end Go.Proofs.Ytnnfahdhmodejaa

namespace Go.Proofs.Ytnnfahdhmodejaa
open Go.ChangeShapes Go.WideShapes Go.ChangeAt Go.RowKit Go.Deep Go.Joins

theorem Try.own : ownKnob Try.prog.godebug = none := by kernel_rfl
theorem Try.laidOut : laidOutB Try.prog = true := by kernel_rfl

section
variable {H : Type} {enc : TypeId × Value → H} {P : Program} {W W' : World}
theorem trodAll_later (hl : laidOutB P = true) (hb : Below W.heap.size W W') : ∀ (ts : List TypeId) (vs : List Value) (ds : List (DataW H)) (ps : List MemPlace), ts.all (fun t => P.readableRec t && decide (t < P.types.size)) = true →
    DataW.TrodAll enc P W 0 (fun _ => true) true ts vs ds ps → (∀ x ∈ ps, x.block < W.heap.size) → DataW.TrodAll enc P W' 0 (fun b => decide (b < W.heap.size)) true ts vs ds ps
  | [], [], [], _, _, h, _ => h
  | t :: ts, v :: vs, d :: ds, ps, hr, ⟨p, q, h1, h2, he⟩, hlt => by
    subst he
    simp only [List.all_cons, Bool.and_eq_true, decide_eq_true_eq] at hr
    exact ⟨p, q, Below.trod hl hr.1.1 hr.1.2 h1 hb (fun x hx => hlt x (List.mem_append_left _ hx)), trodAll_later hl hb ts vs ds q hr.2 h2 (fun x hx => hlt x (List.mem_append_right _ hx)), rfl⟩
  | [], _ :: _, _, _, _, h, _ => h.elim
  | [], [], _ :: _, _, _, h, _ => h.elim
  | _ :: _, [], _, _, _, h, _ => h.elim
  | _ :: _, _ :: _, [], _, _, h, _ => h.elim

theorem law_post {f : Func} {s : ChangeSpec} {args : Array Value} {ds : List (DataW H)} {before : List MemPlace} {b4 : TypeId} (hl : laidOutB P = true) (h4 : P.underlying b4 = some .bool)
    (hW : DataW.Whole enc P f.params.toList s.vars false W args.toList ds [] before) (hA : DataW.TrodAll enc P W 0 (fun _ => true) true f.params.toList args.toList ds before) (hrt : f.resultTypes = #[b4]) (hr : (s.fn H (ds ++ [])).results = [.lit (.bool true)]) (ha : (s.fn H (ds ++ [])).args = ds)
    (hv : s.vars = []) (hvv : (s.fn H (ds ++ [])).vars = []) (hread : f.params.toList.all (fun t => P.readableRec t && decide (t < P.types.size)) = true) (hb : Below W.heap.size W W') :
    s.post enc P f false true false false W args (.bool true) W' := by
  refine ⟨ds, [], before, [], before, [], hW, ?_, ?_, ?_, hb.frame _, fun h => by cases h⟩
  · rw [hr, hrt]
    exact trodAll_cons_mk (shut_bool h4 _) trodAll_mk0
  · rw [ha]
    exact trodAll_later hl hb _ _ _ _ hread hA hW.lt
  · rw [hv, hvv]; rfl
end

section
variable {H : Type} {enc : TypeId × Value → H} {W : World}
set_option maxRecDepth 100000 in
theorem open_ints_at {fuel : Nat} {t e : TypeId} {k : IntKind} {v : Value} {cs : List Value} {y : DataW H × List MemPlace} (ht : Try.prog.underlying t = some (.slice e)) (he : Try.prog.underlying e = some (.int k)) (hc : Try.prog.cellsOf e = 1)
    (hf : DataW.trod enc Try.prog W 0 (fun _ => true) true fuel t cs = some y) (hcs0 : cs = [v]) (hlt : ∀ x ∈ y.2, x.block < W.heap.size) : ∃ xs : List Int, RdI W k v xs ∧ ∀ n ∈ xs, (Lit.int k n).wf = true := by
  subst hcs0
  obtain ⟨d, p⟩ := y
  simp only at hlt
  rcases open_ints ht he hc hf with ⟨hcs, hx⟩ | ⟨a, len, cap, zs, hcs, _, hl, hm, hz, hx, hcell, hwz⟩
  · simp at hcs
    subst hcs
    exact ⟨[], ⟨none, 0, rfl, Nat.le_refl _, Nat.zero_le _, fun h => absurd rfl h⟩, fun n hn => by cases hn⟩
  · simp at hcs
    subst hcs
    simp only [Prod.mk.injEq] at hx
    obtain ⟨rfl, rfl⟩ := hx
    simp only [if_true] at hz
    have hlen : (zs.take len).length = len := by rw [List.length_take]; omega
    refine ⟨zs.take len, ⟨some a, cap, by rw [hlen], by rw [hlen]; exact hl, hm, fun hne => ?_⟩, fun n hn => hwz n (List.mem_of_mem_take hn)⟩
    have hl0 : 0 < len := by
      rcases Nat.eq_zero_or_pos len with h0 | h0
      · subst h0; simp at hne
      · exact h0
    obtain ⟨b, off, spot⟩ := a
    have hspot : spot = none := by simpa [Addr.add] using World.cell?_spot (hcell 0 (by omega))
    subst hspot
    refine ⟨b, off, rfl, hlt (.cell b off) (MemPlace.mem_row.2 ⟨0, by omega, by simp⟩), fun j u hj => ?_⟩
    have hjl : j < len := by have := (List.getElem?_eq_some_iff.1 hj).1; simp at this; omega
    have hjz : j < zs.length := by omega
    have := hcell j hjz
    rw [add_plain] at this
    rw [this, ← hj]
    simp [hjl, List.getD, hjz]


set_option maxRecDepth 100000 in
theorem open_ints_rd {r : Reach} {b0 : Nat} {t e : TypeId} {k : IntKind} {v : Value} {d : DataW H} {p : List MemPlace} (ht : Try.prog.underlying t = some (.slice e)) (he : Try.prog.underlying e = some (.int k)) (hc : Try.prog.cellsOf e = 1)
    (hv : Value.okWide Try.prog W r b0 t v) (h : DataW.Trod enc Try.prog W 0 (fun _ => true) true t v d p) (hlt : ∀ x ∈ p, x.block < W.heap.size) : ∃ xs : List Int, RdI W k v xs ∧ ∀ n ∈ xs, (Lit.int k n).wf = true := by
  obtain ⟨a0, len, cap, rfl⟩ := okWide_slice ht hv
  obtain ⟨fuel, hf⟩ := h
  exact open_ints_at ht he hc hf rfl hlt
set_option maxRecDepth 100000 in
theorem open_rows {r : Reach} {b0 : Nat} {v : Value} {d : DataW H} {p : List MemPlace} (hv : Value.okWide Try.prog W r b0 22 v) (h : DataW.Trod enc Try.prog W 0 (fun _ => true) true 22 v d p) (hlt : ∀ x ∈ p, x.block < W.heap.size) : ∃ R : List (List Int), RdLL W v R := by
  obtain ⟨a0, len, cap, rfl⟩ := okWide_slice Try.underlying22 hv
  obtain ⟨fuel, hf⟩ := h
  rcases open_slice1 Try.underlying22 (by kernel_rfl) hf with ⟨hcs, _⟩ | ⟨a, len', cap', m, n, V, D, Pl, hcs, _, hl, hm, hmm, hx, hi⟩
  · have hcs' : [Value.slice a0 len cap] = [Value.slice none 0 0] := hcs
    simp only [List.cons.injEq, Value.slice.injEq, and_true] at hcs'
    obtain ⟨rfl, rfl, rfl⟩ := hcs'
    exact ⟨[], rdLL_nil W⟩
  · have hcs' : [Value.slice a0 len cap] = [Value.slice (some a) len' cap'] := hcs
    simp only [List.cons.injEq, Value.slice.injEq, and_true] at hcs'
    obtain ⟨rfl, rfl, rfl⟩ := hcs'
    simp only [if_true] at hmm
    simp only [Prod.mk.injEq] at hx
    obtain ⟨_, rfl⟩ := hx
    have hr : ∀ i, i < len → ∃ xs : List Int, RdI W .i64 (V i) xs := fun i hil => by
      obtain ⟨xs, h1, _⟩ := open_ints_at Try.underlying31 Try.underlying3 (by kernel_rfl) (hi i (by omega)).2 rfl (fun x hx => hlt x (List.mem_append_right _ (List.mem_flatMap.2 ⟨i, List.mem_range.2 (by omega), hx⟩)))
      exact ⟨xs, h1⟩
    have hc : ∃ xs : Nat → List Int, ∀ i, i < len → RdI W .i64 (V i) (xs i) := by
      classical
      exact ⟨fun i => if h : i < len then Classical.choose (hr i h) else [], fun i h => by simp only [dif_pos h]; exact Classical.choose_spec (hr i h)⟩
    obtain ⟨xs, hxs⟩ := hc
    refine ⟨(List.range len).map xs, (List.range len).map V, by simp, ⟨some a, cap, by simp, by simpa using hl, hm, fun hne => ?_⟩, fun i e he => ?_⟩
    · have hl0 : 0 < len := by
        rcases Nat.eq_zero_or_pos len with h0 | h0
        · subst h0; simp at hne
        · exact h0
      obtain ⟨b, off, spot⟩ := a
      have hspot : spot = none := by simpa [Addr.add] using World.cell?_spot (hi 0 (by omega)).1
      subst hspot
      have hb := World.block_lt_of_cell? W _ (hi 0 (by omega)).1
      refine ⟨b, off, rfl, by simpa [Addr.add] using hb, fun j u hj => ?_⟩
      have hjl : j < len := by have := (List.getElem?_eq_some_iff.1 hj).1; simpa using this
      have := (hi j (by omega)).1
      rw [add_plain] at this
      rw [this, ← hj]
      simp [hjl]
    · have hil : i < len := by have := (List.getElem?_eq_some_iff.1 he).1; simpa using this
      have hev : V i = e := by simpa [hil] using he
      subst hev
      have hrow : row ((List.range len).map xs) i = xs i := by unfold row; simp [hil]
      rw [hrow]
      exact hxs i hil
end
end Go.Proofs.Ytnnfahdhmodejaa
