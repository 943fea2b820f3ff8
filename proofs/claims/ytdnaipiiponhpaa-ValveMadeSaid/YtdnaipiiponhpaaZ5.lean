/- The document's Needless, Cut, MirrorOf, Mirror. -/
import Derived.Test.YtdnaipiiponhpaaZ4
namespace Go.Proofs.Ytdnaipiiponhpaa
open Go.RowKit Go.Shelf

/-- 'append' of one number to a list of the call's own. -/
theorem wpList_append_num {w : World} {base : Nat} {t e : TypeId} {v : Value} {xs : List Int} {ops : Array Oper} {rest : List Oper} {o : Oper} {a : Act} {Q : Exit → Act → World → Prop} (hgd : o.guard = none) (s x : Operand)
    (ho : o.op = .call { callee := .builtin .append, args := #[s, x], argTypes := #[t, t] }) (ht : Try.prog.underlying t = some (.slice e)) (hie : (Try.prog.info? e).map (fun i => (i.zero, i.size, i.bytes)) = some (some (.int .i64 0), 1, 8))
    (h : w.ownsRow base e 1 v xs.length (xs.map (Value.int .i64))) (q : Int) (hs : a.eval s = v) (hx : a.eval x = .slice (some ⟨w.heap.size, 0, none⟩) 1 1) (hl : xs.length ≤ 1000) (hb : base ≤ w.heap.size)
    (H : ∀ v' w', w'.ownsRow base e 1 v' (xs ++ [q]).length ((xs ++ [q]).map (Value.int .i64)) → (w.alloc (.cells #[.int .i64 q] e)).grownBy w' v.ownBlock → wpList Try.prog ops Q rest (a.put o.dst v') w') :
    wpList Try.prog ops Q (o :: rest) a (w.alloc (.cells #[.int .i64 q] e)) := by
  obtain ⟨i0, hi, hz0, hz1, hz2⟩ := info_parts hie
  refine wpList_append_own _ hgd s x t ho base e i0 (.int .i64 0) 1 8 ht hi hz0 hz1 hz2 rfl (by decide) _ _ _ hs (h.alloc _) ⟨w.heap.size, 0, none⟩ 1 1 [.int .i64 q] hx rfl (fun j u hj => ?_) (fun u hu => by simp at hu; subst hu; rfl)
    (by simp only [maxLen]; omega) (by omega) (by simp; omega) ?_
  · match j, hj with
    | 0, hj => simp at hj; subst hj; rw [Go.WideShapes.add_plain]; simp
  · intro v' w' h1 h2 _
    refine H v' w' ?_ h2
    rw [List.map_append, List.length_append]
    exact h1
theorem num3 : (Try.prog.info? 3).map (fun i => (i.zero, i.size, i.bytes)) = some (some (.int .i64 0), 1, 8) := by kernel_rfl
theorem num2 : (Try.prog.info? 2).map (fun i => (i.zero, i.size, i.bytes)) = some (some (.int .i64 0), 1, 8) := by kernel_rfl

def rneedL (p : Nat) (V : List (Int × Int)) (k : Nat) : List Int := ((List.range k).filter (rneedB p V)).map fun i => ((i : Nat) : Int)
theorem rneedL_succ (p : Nat) (V : List (Int × Int)) (k : Nat) : rneedL p V (k + 1) = if rneedB p V k then rneedL p V k ++ [(k : Int)] else rneedL p V k := by
  unfold rneedL
  rw [List.range_succ, List.filter_append, List.map_append]
  cases h : rneedB p V k <;> simp [h]
theorem rneedL_le (p : Nat) (V : List (Int × Int)) (k : Nat) : (rneedL p V k).length ≤ k := by
  unfold rneedL; rw [List.length_map]; have := List.length_filter_le (rneedB p V) (List.range k); simpa using this
def rneedR (p : Int) (V : List (Int × Int)) : List Int := if checkR p V = 0 then rneedL p.toNat V V.length else []

set_option maxRecDepth 100000 in
set_option maxHeartbeats 4000000 in
theorem rneedless_any (p : Int) (x : Value) (V : List (Int × Int)) (w : World) (hx0 : RdP w x V) (hl : V.length ≤ 1000) :
    Calls Try.prog 33 #[.agg #[.int .i64 p, x]] w fun e w' => ∃ v, e = .returned (.tuple #[v, .int .i64 (checkR p V)]) ∧ RdI w' .i64 v (rneedR p V) ∧ Below w.heap.size w w' := by
  obtain ⟨a, ca, rfl, _, _, _⟩ := hx0.form
  unfold rneedR
  have H0 := Lib.hid fun w1 (hB : Below w.heap.size w w1) => rcheck_any p _ V w1 (hx0.mono hB) hl
  by_cases h : checkR p V = 0
  · obtain ⟨n, rfl, hV⟩ := cond_row h
    rw [if_pos h, h, show ((n : Nat) : Int).toNat = n by omega]
    rw [h] at H0
    clear h
    have h40 := hV.len
    go_enter Try.func33, Try.ntmps33
    go_wp2_with fail
    refine (H0.out _ (bal (bz _) _)).mono ?_
    rintro e w2 ⟨rfl, hB2⟩
    have c0 : w2.cell? ⟨w.heap.size, 0, none⟩ = some (.int .i64 n) := (hB2.cell (by simp)).trans (cnew rfl rfl)
    have c1 : w2.cell? ⟨w.heap.size, 1, none⟩ = some (.slice a V.length ca) := (hB2.cell (by simp)).trans (cnew rfl rfl)
    have z2 := World.block_lt_of_cell? w2 _ c0
    simp only at z2
    have HB3 := Lib.hid (btr (bal (bz w) _) hB2)
    clear hB2
    go_wp2
    go_loopw [4, 5, 11, 12, 13, 14, 15, 16, 17, 18, 19, 20, 21, 22, 23, 24] (fun v i _ _ _ _ _ _ _ _ _ _ _ _ _ _ wr => ∃ k : Nat, k ≤ V.length ∧ i = .int .i64 k ∧ Below w.heap.size w wr ∧ w.heap.size < wr.heap.size ∧ wr.cell? ⟨w.heap.size, 0, none⟩ = some (.int .i64 n) ∧ wr.cell? ⟨w.heap.size, 1, none⟩ = some (.slice a V.length ca) ∧ wr.ownsRow (w.heap.size + 1) 3 1 v (rneedL n V k).length ((rneedL n V k).map (Value.int .i64))) (fun v i _ _ _ _ _ _ _ _ _ _ _ _ _ _ _ => V.length - (intOf i).toNat)
    case atStart => exact ⟨0, Nat.zero_le _, rfl, HB3.out, z2, c0, c1, World.ownsRow_nil _ _ _ _⟩
    case round =>
      obtain ⟨k, hk, rfl, hB, hz, d0, d1, hO⟩ := hrel
      have HO := Lib.hid hO; have HB := Lib.hid hB; clear hO hB c0 c1
      have HLE := Lib.hid (rneedL_le n V k)
      by_cases hlt : k < V.length
      · have HST := Lib.hid (rneedL_succ n V k)
        go_wp2_with fail
        refine (isneedless_any n k _ V _ (hx0.mono HB.out) hV hlt).mono ?_
        rintro e w4 ⟨rfl, hB4⟩
        have g0 := (hB4.cell (p := ⟨w.heap.size, 0, none⟩) hz).trans d0
        have g1 := (hB4.cell (p := ⟨w.heap.size, 1, none⟩) hz).trans d1
        have z4 : w.heap.size < w4.heap.size := Nat.lt_of_lt_of_le hz hB4.size
        have HO4 := Lib.hid (owns_kept HO.out hB4); have HB4 := Lib.hid (btr HB.out hB4)
        clear hB4 HO HB d0 d1
        generalize rneedB n V k = b at *
        cases b
        · go_wp2
          exact ⟨⟨k + 1, by omega, by go_num, HB4.out, z4, g0, g1, by rw [HST.out]; exact HO4.out⟩, by simp [intOf]; omega⟩
        · go_wp2_with (at_builtin; refine wpList_append_num rfl _ _ rfl Try.underlying34 num3 HO4.out _ rfl rfl (by have := HLE.out; omega) (by omega) ?_)
          intro v' w' hown' hgrow
          have hB8 : Below w.heap.size w w' := append_below (bal HB4.out _) (HO4.out.alloc _) hgrow (by omega)
          have hz8 : w4.heap.size ≤ w'.heap.size := by have := hgrow.size; simp at this; omega
          have hne : ∀ r, r < w.heap.size + 1 → w'.heap[r]? = w4.heap[r]? := fun r hr => (append_keep (HO4.out.alloc _) hgrow hr (by simp; omega)).trans (Below.heap_alloc _ _ _ (by omega))
          have y0 := (World.cell?_of_block (hne _ (by simp))).trans g0
          have y1 := (World.cell?_of_block (hne _ (by simp))).trans g1
          have HP := Lib.hid hown'; have HB8 := Lib.hid hB8
          clear hown' hgrow hB8 hne g0 g1
          go_wp2
          refine ⟨⟨k + 1, by omega, by go_num, HB8.out, by omega, y0, y1, by rw [HST.out, if_pos trivial, List.length_append, List.map_append]; exact HP.out⟩, by simp [intOf]; omega⟩
      · obtain rfl : k = V.length := by omega
        go_wp2
        go_ret2
        exact ⟨_, rfl, RdI.of_owns (by simpa using HO.out), HB.out⟩
  · rw [if_neg h]
    generalize checkR p V = c at *
    have e0 : (c != 0) = true := by simpa using h
    clear h
    go_enter Try.func33, Try.ntmps33
    go_wp2_with fail
    refine (H0.out _ (bal (bz _) _)).mono ?_
    rintro e w2 ⟨rfl, hB2⟩
    have hB3 := btr (bal (bz w) _) hB2
    have c0 : w2.cell? ⟨w.heap.size, 0, none⟩ = some (.int .i64 p) := (hB2.cell (by simp)).trans (cnew rfl rfl)
    have c1 : w2.cell? ⟨w.heap.size, 1, none⟩ = some (.slice a V.length ca) := (hB2.cell (by simp)).trans (cnew rfl rfl)
    go_wp2_with fail
    refine (H0.out _ hB3).mono ?_
    rintro e w3 ⟨rfl, hB4⟩
    go_wp2
    go_ret2
    exact ⟨_, rfl, rdI_nil _ _, btr hB3 hB4⟩
end Go.Proofs.Ytdnaipiiponhpaa
