/- Shapes of the document: all shapes with a sum; sums of at most 12. -/
import Derived.Test.YtnnfahdhmodejaaMLf
import Derived.Test.YtnnfahdhmodejaaMGB
import Derived.Test.YtnnfahdhmodejaaMGD
namespace Go.Proofs.Ytnnfahdhmodejaa
open Go.RowKit Go.Shelf

set_option maxRecDepth 100000 in
theorem shapes_try : (List.range 13).all (fun f => (List.range 13).all fun s => (List.range 13).all fun m => decide ((shapesF f s m).length ≤ 77) && (shapesF f s m).all fun l => decide (l.length ≤ 12)) = true := by decide +kernel
theorem shapes_bd {f s m : Nat} (hf : f ≤ 12) (hs : s ≤ 12) (hm : m ≤ 12) : (shapesF f s m).length ≤ 77 ∧ ∀ i, (row (shapesF f s m) i).length ≤ 12 := by
  have h := List.all_eq_true.1 (List.all_eq_true.1 (List.all_eq_true.1 shapes_try f (List.mem_range.2 (by omega))) s (List.mem_range.2 (by omega))) m (List.mem_range.2 (by omega))
  simp only [Bool.and_eq_true, decide_eq_true_eq, List.all_eq_true] at h
  refine ⟨h.1, fun i => ?_⟩
  rcases Nat.lt_or_ge i (shapesF f s m).length with h1 | h1
  · rw [row_lt h1]; exact h.2 _ (List.getElem_mem _)
  · rw [row_ge h1]; simp
/-- The numbers from M down to c + 1, less by 1. -/
def downL (M c : Nat) : List Nat := (List.range M).reverse.take (M - c)
theorem downL_succ {M c : Nat} (h : c + 1 ≤ M) : downL M c = downL M (c + 1) ++ [c] := by
  unfold downL
  rw [show M - c = M - (c + 1) + 1 by omega, List.take_succ_eq_append_getElem (by simp; omega)]
  congr 1
  rw [List.getElem_reverse]
  simp
  omega
theorem downL_top (M : Nat) : downL M M = [] := by simp [downL]
theorem downL_all (M : Nat) : downL M 0 = (List.range M).reverse := by
  unfold downL
  rw [Nat.sub_zero, List.take_of_length_le (by simp)]
def consR (f s n : Nat) : List (List Int) := (shapesF f (s - n) (n + 1)).map fun r => ((n : Int) + 1) :: r
theorem flat_snoc {α : Type} (g : Nat → List α) (l : List Nat) (n : Nat) : (l ++ [n]).flatMap g = l.flatMap g ++ g n := by simp
theorem shapes_part {f s M c : Nat} (hf : f + 1 ≤ 12) (hs : s + 1 ≤ 12) (hM : M ≤ 12) : ((downL M c).flatMap (consR f s)).length ≤ 77 * 12 := by
  have h1 : ∀ l : List Nat, (∀ n ∈ l, n < 12) → (l.flatMap (consR f s)).length ≤ 77 * l.length := by
    intro l
    induction l with
    | nil => intro _; simp
    | cons n l ih =>
      intro h
      have := ih fun x hx => h x (by simp [hx])
      have h2 := (shapes_bd (f := f) (s := s - n) (m := n + 1) (by omega) (by omega) (by have := h n (by simp); omega)).1
      rw [List.flatMap_cons, List.length_append]
      simp only [consR, List.length_map, List.length_cons] at *
      omega
  have h2 : ∀ n ∈ downL M c, n < 12 := fun n hn => by
    have := List.mem_of_mem_take hn
    rw [List.mem_reverse, List.mem_range] at this
    omega
  have h3 := h1 _ h2
  have h4 : (downL M c).length ≤ 12 := by unfold downL; simp; omega
  omega
theorem ll_nil (w : World) : ∃ w', w.alloc (.cells #[.slice none 0 0] 31) = w' ∧ LL w' (fun k => w.heap.size ≤ k) (.slice (some ⟨w.heap.size, 0, none⟩) 1 1) [[]] [.slice none 0 0] ∧ Below w.heap.size w w' := by
  refine ⟨_, rfl, ⟨rfl, ⟨rfl, .inr ⟨w.heap.size, 1, #[.slice none 0 0], rfl, Nat.zero_le _, heap_alloc_new _ _, Nat.le_refl _, by unfold maxLen; omega, rfl, rfl⟩⟩, ?_, ?_, ?_, ?_⟩, bal (bz w) _⟩
  · intro k hk
    simp [Value.ownBlock] at hk
    omega
  · intro i e he
    match i with
    | 0 => simp at he; subst he; exact World.ownsRow_nil _ _ _ _
    | n + 1 => simp at he
  · intro i e he k hk
    match i with
    | 0 => simp at he; subst he; simp [Value.ownBlock] at hk
    | n + 1 => simp at he
  · intro i j e f hij he hf
    match i, j with
    | 0, 0 => exact absurd rfl hij
    | n + 1, _ => simp at he
    | _, n + 1 => simp at hf
set_option maxRecDepth 100000 in
set_option maxHeartbeats 1600000 in
theorem rshapes_any : ∀ (f s m : Nat) (w : World) (_ : s ≤ f) (_ : f ≤ 12) (_ : m ≤ 12),
    Calls Try.prog 53 #[.int .i64 s, .int .i64 m] w fun e w' => ∃ u vs, e = .returned u ∧ LL w' (fun k => w.heap.size ≤ k) u (shapesF f s m) vs ∧ Below w.heap.size w w' := by
  intro f
  induction f with
  | zero =>
    intro s m w hs _ _
    obtain rfl : s = 0 := by omega
    obtain ⟨w', hw, h1, h2⟩ := ll_nil w
    rw [show ([[]] : List (List Int)) = shapesF 0 0 m from by cases m <;> rfl] at h1
    have H1 := Lib.hid h1; have H2 := Lib.hid h2
    clear h1 h2
    go_enter Try.func53, Try.ntmps53
    go_wp2_with fail
    go_ret
    exact ⟨_, _, rfl, H1.out, H2.out⟩
  | succ f ih =>
    intro s m w hs hf hm
    cases s with
    | zero =>
      obtain ⟨w', hw, h1, h2⟩ := ll_nil w
      rw [show ([[]] : List (List Int)) = shapesF (f + 1) 0 m from by cases m <;> rfl] at h1
      have H1 := Lib.hid h1; have H2 := Lib.hid h2
      clear h1 h2
      go_enter Try.func53, Try.ntmps53
      go_wp2_with fail
      go_ret
      exact ⟨_, _, rfl, H1.out, H2.out⟩
    | succ s =>
      obtain ⟨M, hM⟩ : ∃ M, M = min (s + 1) m := ⟨_, rfl⟩
      have HS : Hid (shapesF (f + 1) (s + 1) m = (downL M 0).flatMap (consR f s)) := Lib.hid (by rw [downL_all, hM]; rfl)
      generalize shapesF (f + 1) (s + 1) m = FIN at *
      have IH := Lib.hid (fun n (hn : n < M) wz => ih (s - n) (n + 1) wz (by omega) (by omega) (by omega))
      have HPT := Lib.hid (fun c => shapes_part (f := f) (s := s) (M := M) (c := c) hf (by omega) (by omega))
      have HBD := Lib.hid (fun n (hn : n < M) => shapes_bd (f := f) (s := s - n) (m := n + 1) (by omega) (by omega) (by omega))
      have hmin : min ((s : Int) + 1) (m : Int) = (M : Int) := by omega
      have hM2 : M ≤ s + 1 := by omega
      have hM3 : M ≤ 12 := by omega
      have hs2 : s ≤ 11 := by omega
      have t0 : (((s : Int) + 1) == 0) = false := by rw [beq_eq_false_iff_ne]; omega
      rw [show (((s + 1 : Nat)) : Int) = (s : Int) + 1 from by push_cast; rfl]
      clear hM ih hs hf hm
      go_enter Try.func53, Try.ntmps53
      go_wp2_with fail
      all_goals first | (rename_i h _; simp [undef] at h; done) | skip
      go_loopw [5, 6, 7, 8] (fun s5 s6 _ _ wr => ∃ (c : Nat) (vs : List Value) (u : Value), c ≤ M ∧ u = s5 ∧ s6 = .int .i64 c ∧ LL wr (fun k => w.heap.size ≤ k) u ((downL M c).flatMap (consR f s)) vs ∧ Below w.heap.size w wr) (fun _ s6 _ _ _ => (intOf s6).toNat)
      case atStart => exact ⟨M, [], _, Nat.le_refl _, rfl, rfl, by rw [downL_top]; exact LL.nil _ _, bz w⟩
      case round =>
        obtain ⟨c, vs, u, hc, rfl, rfl, hO, hB⟩ := hrel
        have HO := Lib.hid hO; have HB := Lib.hid hB; clear hO hB
        cases c with
        | zero =>
          have HO2 : Hid (LL wr (fun k => w.heap.size ≤ k) u FIN vs) := Lib.hid (by rw [HS.out]; exact HO.out)
          clear HO
          go_wp2_with fail
          go_ret
          exact ⟨_, _, rfl, HO2.out, HB.out⟩
        | succ n =>
          have hcast : ((n + 1 : Nat) : Int) = (n : Int) + 1 := by push_cast; rfl
          have hsub : (s : Int) + 1 - ((n : Int) + 1) = ((s - n : Nat) : Int) := by omega
          have HI := Lib.hid (IH.out n (by omega) wr)
          have hb := HBD.out n (by omega)
          have HST := Lib.hid (downL_succ (M := M) (c := n) hc)
          have hpt := HPT.out (n + 1)
          have HCR : Hid (consR f s n = (shapesF f (s - n) (n + 1)).map fun r => ((n : Int) + 1) :: r) := Lib.hid rfl
          generalize shapesF f (s - n) (n + 1) = L at *
          rw [hcast] at HI
          rw [hcast]
          obtain ⟨au, cu, eu⟩ := HO.out.form
          subst eu
          have HBASE : Hid (∃ B, B = (downL M (n + 1)).flatMap (consR f s)) := Lib.hid ⟨_, rfl⟩
          obtain ⟨BASE, hBASE⟩ := HBASE.out
          have HBA := Lib.hid hBASE
          rw [← hBASE] at HO hpt
          rw [← hBASE]
          have hnM : n < M := by omega
          clear hcast hBASE HBASE
          go_wp2_with fail
          refine HI.out.mono ?_
          rintro e w2 ⟨ur, vr, rfl, hr, hB2⟩
          obtain ⟨ar, cr, rfl⟩ := hr.form
          have HRB := Lib.hid hr.bound
          have HO2 := Lib.hid ((HO.out.bound.later hB2).mono (C := fun k => (w.heap.size ≤ k ∧ k < wr.heap.size) ∨ w2.heap.size ≤ k) (fun j _ h => .inl h))
          have HB2 := Lib.hid (btr HB.out hB2)
          have HL := Lib.hid hb.2
          have hl77 := hb.1
          have hsz := HB2.out.size
          have hsw := HB.out.size
          obtain ⟨za, hza⟩ : ∃ z, z = wr.heap.size := ⟨_, rfl⟩
          rw [← hza] at HRB HO2 hsw
          clear hr hB2 HI hb HO HB hza
          go_wp2_with fail
          go_loopw [5, 8] (fun s5 s8 wr2 => ∃ (i : Nat) (vs : List Value) (u : Value), i ≤ L.length ∧ u = s5 ∧ s8 = .int .i64 i ∧ LL wr2 (fun k => (w.heap.size ≤ k ∧ k < za) ∨ w2.heap.size ≤ k) u (BASE ++ (L.take i).map fun r => ((n : Int) + 1) :: r) vs ∧ Fr w2 wr2 (fun k => (w.heap.size ≤ k ∧ k < za) ∨ w2.heap.size ≤ k)) (fun _ s8 _ => L.length - (intOf s8).toNat)
          case atStart => exact ⟨0, vs, _, Nat.zero_le _, rfl, rfl, by simpa using HO2.out, Fr.of_below (bz w2)⟩
          case round =>
            clear HO2
            obtain ⟨i, vs2, u2, hi, rfl, rfl, hO, hF⟩ := hrel
            have HO := Lib.hid hO; have HF2 := Lib.hid hF; clear hO hF
            have hz := HF2.out.size
            by_cases hlt : i < L.length
            · have HRD := (HRB.out.fr HF2.out (fun k hk h1 h2 => by rcases h2 with h2 | h2 <;> omega)).rd
              obtain ⟨b, off, a', c', e1, zx, gx, hrr⟩ := HRD.get i hlt
              have HRR := Lib.hid hrr
              have h1 := HL.out i
              have HF : Hid ((L.take (i + 1)).map (fun r => ((n : Int) + 1) :: r) = (L.take i).map (fun r => ((n : Int) + 1) :: r) ++ [((n : Int) + 1) :: row L i]) := Lib.hid (by rw [rows_take L i hlt, List.map_append]; rfl)
              have hlen : (BASE ++ (L.take i).map fun r => ((n : Int) + 1) :: r).length ≤ 1000 := by rw [List.length_append, List.length_map, List.length_take]; omega
              subst e1
              clear hrr HRD
              generalize row L i = ys at *
              generalize (L.take i).map (fun r => ((n : Int) + 1) :: r) = xs at *
              have HOW := Lib.hid (own_one wr (nb := wr.heap.size) (base := wr.heap.size) ((n : Int) + 1) rfl (Nat.le_refl _))
              go_wp2_with (at_builtin; refine wpList_append_any rfl _ _ rfl HOW.out (by simp) rfl rfl (HRR.out.mono (bal (bz wr) _)) (by simp) (by omega) ?_)
              intro v' w' hO' hg
              have hB1 : Below wr.heap.size wr w' := append_below (bal (bz wr) _) HOW.out hg (Nat.le_refl _)
              have HO1 := Lib.hid (HO.out.later hB1)
              have HFB := Lib.hid (HF2.out.trans (Fr.of_below hB1))
              obtain ⟨av, cv, rfl⟩ := owns_form hO'
              have HE := Lib.hid hO'
              have HAP := Lib.hid (fun j f hf => apart_fresh HO.out HE.out j f hf)
              have hz1 := HFB.out.size
              clear hB1 hO' hg HOW HO
              go_wp2_with (at_builtin; refine LL.push HO1.out (HE.out.base (Nat.zero_le _)) (fun k ek => .inr (Nat.le_trans hz (HE.out.lt ek).1)) HAP.out rfl _ _ rfl rfl rfl rfl (by omega) (fun k hk => .inr (Nat.le_trans hz1 hk)) ?_)
              intro u3 w3 hO3 hF3
              have HO3 := Lib.hid hO3
              have HF3 := Lib.hid (HFB.out.trans hF3)
              clear hO3 hF3
              go_wp2_with fail
              go_roundw
              case rel => exact ⟨i + 1, _, _, by omega, rfl, by go_num, by rw [HF.out]; exact HO3.out, HF3.out⟩
              case measure => simp [intOf]; omega
            · have hie : i = L.length := by omega
              have HO3 : Hid (LL wr (fun k => w.heap.size ≤ k) u2 ((downL M n).flatMap (consR f s)) vs2) := Lib.hid (by
                have h := HO.out
                rw [hie, List.take_length, ← HCR.out, HBA.out, ← flat_snoc, ← HST.out] at h
                exact h.mono fun j _ hj => by rcases hj with hj | hj <;> omega)
              have HB3 := Lib.hid (HF2.out.below HB2.out (fun j hj => by rcases hj with hj | hj <;> omega))
              clear HO
              go_wp2_with fail
              go_roundw
              case rel => exact ⟨n, _, _, by omega, rfl, by go_num, HO3.out, HB3.out⟩
              case measure => simp [intOf]
end Go.Proofs.Ytnnfahdhmodejaa
