/- Needless: which valves are needless; every row of at most 1000 valves. -/
import Derived.Test.YtdnaipiiponhpaaW6
namespace Go.Proofs.Ytdnaipiiponhpaa
open Go.RowKit Go.Shelf

theorem run_clip (a : Option Addr) (n cap : Nat) (h : n ≤ cap) (ha : ∀ ad, a = some ad → ad.off = 0 ∧ ad.spot = none) (w : World) :
    (Instr.slice 34 (.slice a n cap) none (some (.int .i64 (n : Int))) (some (.int .i64 (n : Int)))).run Try.prog w = .ok (.slice a n n) w := by
  have h1 : ¬ ((n : Int) < 0) := by omega
  have h2 : ¬ ((cap : Int) < (n : Int)) := by omega
  obtain ⟨i0, hi, hz0, hz1, hz2⟩ := info_parts Try.info3'
  cases a with
  | none => simp [Instr.slice, run_underlying Try.underlying34, Sem.run_bind, Instr.sliceBounds, Instr.sliceBound, asIntOf, h, sizeOf, typeInfo, hi, Addr.add]
  | some ad =>
    obtain ⟨e1, e2⟩ := ha ad rfl
    obtain ⟨b, o, sp⟩ := ad
    simp only at e1 e2
    subst e1; subst e2
    simp [Instr.slice, run_underlying Try.underlying34, Sem.run_bind, Instr.sliceBounds, Instr.sliceBound, asIntOf, h, sizeOf, typeInfo, hi, Addr.add]

/-- One more element behind a slice that is clipped to its length. -/
theorem append_clip (w : World) (base : Nat) (v : Value) (n : Nat) (xs : List Int) (hown : w.ownsRow base 3 1 v n (xs.map (Value.int .i64))) (hn : n ≤ 1000) (hb : base ≤ w.heap.size) (ad : Addr) (x : Int) (hx : w.cell? (ad.add 0) = some (.int .i64 x)) :
    ∃ a cap, v = .slice a n cap ∧ n ≤ cap ∧ (∀ ad, a = some ad → ad.off = 0 ∧ ad.spot = none) ∧ ∀ ty, ∃ v' w', (Builtin.append_ #[34, 34] ty #[.slice a n n, .slice (some ad) 1 1]).run Try.prog w = .ok v' w' ∧ w'.ownsRow base 3 1 v' (n + 1) ((xs ++ [x]).map (Value.int .i64)) ∧ w.grownBy w' none := by
  obtain ⟨i0, hi, hz0, hz1, hz2⟩ := info_parts Try.info3'
  have hl := hown.1
  rw [List.length_map] at hl
  have hnews : ∀ j u, ([Value.int .i64 x] : List Value)[j]? = some u → w.cell? (ad.add j) = some u := by
    intro j u hu
    cases j with
    | zero => simp at hu; rw [hx, hu]
    | succ j => simp at hu
  have grown : ∀ (old : Nat), (w.drew.alloc (.cells ((xs.map (Value.int .i64)).toArray ++ [Value.int .i64 x].toArray ++ Builtin.zeroCells (Value.int .i64 0).cells (grownCap w (n + 1) old 3 - (n + 1))) 3)).ownsRow base 3 1
        (.slice (some ⟨w.heap.size, 0, none⟩) (n + 1) (grownCap w (n + 1) old 3)) (n + 1) ((xs ++ [x]).map (Value.int .i64)) ∧
      w.grownBy (w.drew.alloc (.cells ((xs.map (Value.int .i64)).toArray ++ [Value.int .i64 x].toArray ++ Builtin.zeroCells (Value.int .i64 0).cells (grownCap w (n + 1) old 3 - (n + 1))) 3)) none := by
    intro old
    have hge := grownCap_ge w (n + 1) old 3
    have hcm : grownCap w (n + 1) old 3 ≤ maxLen := grownCap_le_maxLen w (n + 1) old 3 (by unfold maxLen; omega)
    refine ⟨⟨by simp; omega, .inr ⟨w.heap.size, _, _, rfl, hb, heap_alloc_new w.drew _, hge, hcm, ?_, ?_⟩⟩, ⟨rfl, rfl, rfl, by simp, fun k hk _ => heap_alloc_old w.drew _ k hk⟩⟩
    · simp only [Array.size_append, List.size_toArray, size_zeroCells, List.length_map, List.length_cons, List.length_nil]
      simp [Value.cells]
      omega
    · simp only [Array.toList_append, List.append_assoc, List.map_append, List.map_cons, List.map_nil]
      rw [← List.append_assoc, List.take_append_of_le_length (by simp; omega), List.take_of_length_le (by simp; omega)]
  rcases hown.2 with ⟨rfl, rfl⟩ | ⟨g, cap, cur, rfl, hbg, hg, hnc, hcm, hcs, htake⟩
  · obtain rfl : xs = [] := List.eq_nil_of_length_eq_zero (by omega)
    refine ⟨none, 0, rfl, Nat.le_refl _, by simp, fun ty => ?_⟩
    have hr := run_append_nil (P := Try.prog) w 34 ty 3 i0 (.int .i64 0) Try.underlying34 hi hz0 ad 1 1 [.int .i64 x] (by rw [hz1]; rfl) hnews (by omega) (by omega) (by rw [hz2]; omega)
    have hgr := grown 0
    simp only [Nat.zero_add, List.map_nil, List.nil_append, Array.empty_append] at hgr ⊢
    exact ⟨_, _, hr, hgr.1, hgr.2⟩
  · refine ⟨some ⟨g, 0, none⟩, cap, rfl, hnc, by rintro a e; cases e; exact ⟨rfl, rfl⟩, fun ty => ?_⟩
    have holds : ∀ j u, (xs.map (Value.int .i64))[j]? = some u → w.cell? ((⟨g, 0, none⟩ : Addr).add j) = some u := hown.cells (g := g) rfl
    have hr := run_append_grow (P := Try.prog) w 34 ty 3 i0 (.int .i64 0) Try.underlying34 hi hz0 ⟨g, 0, none⟩ n n (xs.map (Value.int .i64)) (by rw [hz1]; simp; omega) holds ad 1 1 [.int .i64 x] (by rw [hz1]; rfl) hnews (by omega) (by omega) (growslice_fits (by omega) (by rw [hz2]; omega))
    have hgr := grown n
    exact ⟨_, _, hr, hgr.1, hgr.2⟩

/-- The operation 'append', where its run is known. -/
theorem wpList_append_eq {P : Program} (w : World) {ops : Array Oper} {rest : List Oper} {o : Oper} {a : Act} {Q : Exit → Act → World → Prop} (hgd : o.guard = none) (s x : Operand) (t : TypeId)
    (ho : o.op = .call { callee := .builtin .append, args := #[s, x], argTypes := #[t, t] }) (v u : Value) (hs : a.eval s = v) (hx : a.eval x = u) {v' : Value} {w' : World}
    (hr : (Builtin.append_ #[t, t] o.type #[v, u]).run P w = .ok v' w') (h : wpList P ops Q rest (a.put o.dst v') w') : wpList P ops Q (o :: rest) a w := by
  refine wpList_plain hgd fun K hK => ?_
  unfold Oper.wp execOp
  simp only [ho, resolve, invoke, builtin, Sem.run_bind, Sem.run_pure, Result.andThen_ok, List.map_toArray, List.map_cons, List.map_nil, hs, hx, hr]
  exact hK _ _ h

/-- The needless valves. -/
def needlessL (p : Nat) (V : List (Int × Int)) (k : Nat) : List Int := ((List.range k).filter (needlessB p V)).map fun i => ((i : Nat) : Int)
theorem needlessL_succ (p : Nat) (V : List (Int × Int)) (k : Nat) : needlessL p V (k + 1) = if needlessB p V k then needlessL p V k ++ [(k : Int)] else needlessL p V k := by
  unfold needlessL
  rw [List.range_succ, List.filter_append]
  cases h : needlessB p V k <;> simp [h]
theorem needlessL_le (p : Nat) (V : List (Int × Int)) (k : Nat) : (needlessL p V k).length ≤ k := by
  unfold needlessL
  have := List.length_filter_le (needlessB p V) (List.range k)
  simp at this ⊢
  exact this
/-- Needless' answers. -/
def needL (p : Int) (V : List (Int × Int)) : List Int := if checkR p V = 0 then needlessL p.toNat V V.length else []

set_option maxRecDepth 100000 in
set_option maxHeartbeats 1000000 in
theorem needless_any (p : Int) (x : Value) (V : List (Int × Int)) (w : World) (hx0 : RdP w x V) (hl : V.length ≤ 1000) :
    Calls Try.prog 32 #[.agg #[.int .i64 p, x]] w fun e w' => ∃ v, e = .returned (.tuple #[v, .int .i64 (checkR p V)]) ∧ w'.ownsRow w.heap.size 3 1 v (needL p V).length ((needL p V).map (Value.int .i64)) ∧ Below w.heap.size w w' := by
  obtain ⟨a, ca, rfl, hca, hca2, _⟩ := hx0.form
  unfold needL
  by_cases h : checkR p V = 0
  · simp only [if_pos h]
    obtain ⟨n, rfl, hV⟩ := cond_row h
    rw [h]
    have hp1 := hV.p1; have hp8 := hV.p8; have h40 := hV.len
    rw [show ((n : Nat) : Int).toNat = n by omega]
    have H0 := Lib.hid (open_ok n _ V _ (hx0.mono (bal (bz w) (.cells #[.int .i64 n, .slice a V.length ca] 24))) hV)
    clear h
    go_enter Try.func32, Try.ntmps32
    go_wp2_with fail
    refine H0.out.mono ?_
    rintro e w2 ⟨bb, rfl, hb0, hb, hB2⟩
    have hB3 : Below w.heap.size w w2 := btr (bal (bz _) _) hB2
    have hz3 := hB3.size
    have hx3 := hx0.mono hB3
    obtain ⟨q0, q1, q2⟩ := id hb
    go_wp2
    go_loopw [6, 7, 22, 23, 24, 25, 26, 27, 28, 29, 30, 31, 32, 33, 34, 35, 36, 37] (fun o _ i _ _ _ _ _ _ _ _ _ _ _ _ _ _ _ wr => ∃ k : Nat, k ≤ V.length ∧ i = .int .i64 k ∧ Below w2.heap.size w2 wr ∧ wr.ownsRow w.heap.size 3 1 o (needlessL n V k).length ((needlessL n V k).map (Value.int .i64)))
      (fun _ _ i _ _ _ _ _ _ _ _ _ _ _ _ _ _ _ _ => ((V.length : Int) - intOf i).toNat)
    case atStart => exact ⟨0, Nat.zero_le _, rfl, bz _, World.ownsRow_nil _ _ _ _⟩
    case round =>
      obtain ⟨k, hk, rfl, hbr, hor⟩ := hrel
      have hkl := needlessL_le n V k
      have hO := Lib.hid hor; clear hor
      by_cases hkp : k < V.length
      · have hwz := hbr.size
        go_wp2_with fail
        refine (bneedless_any bb n _ V k wr (hb.mono hbr) (hx3.mono hbr) hV hkp).mono ?_
        rintro e w4 ⟨rfl, hB4⟩
        have ho4 := owns_kept hO.out hB4
        have hB5 : Below w2.heap.size w2 w4 := btr hbr hB4
        have hz5 := hB5.size
        have hst := needlessL_succ n V k
        generalize hv : needlessB n V k = y at *
        cases y
        · rw [if_neg (by simp)] at hst
          rw [← hst] at ho4
          have hO4 := Lib.hid ho4; clear ho4
          clear hO hst hv hkl
          go_wp2
          exact ⟨⟨k + 1, by omega, by simp, hB5, hO4.out⟩, by simp [intOf]; omega⟩
        · rw [if_pos rfl] at hst
          obtain ⟨ao, cap, rfl, hcap, hao, hap⟩ := append_clip (w4.alloc (.cells #[.int .i64 k] 3)) w.heap.size _ _ _ (ho4.alloc _) (by omega) (by simp; omega) ⟨w4.heap.size, 0, none⟩ k (cnew rfl rfl)
          obtain ⟨v', hap⟩ := Classical.skolem.1 hap
          obtain ⟨w', hap⟩ := Classical.skolem.1 hap
          have hsl := run_clip ao (needlessL n V k).length cap hcap hao
          have hap1 := Lib.hid fun ty => (hap ty).1
          have hap2 := Lib.hid fun ty => (hap ty).2
          have hln := congrArg List.length hst
          rw [List.length_append] at hln
          have HLN := Lib.hid hln; have HST := Lib.hid hst
          clear hap hO ho4 hln hst hv
          generalize hnn : (needlessL n V k).length = m at *
          have HNN := Lib.hid hnn; clear hnn
          go_wp2_with (at_builtin; refine wpList_append_eq _ rfl _ _ 34 rfl _ _ rfl rfl (hap1.out _) ?_)
          obtain ⟨h1, h2⟩ := hap2.out 34
          have hB6 : Below w2.heap.size w2 (w' 34) := btr (bal hB5 _) ((bgr (bz _) h2 (fun k h => by cases h)))
          refine ⟨⟨k + 1, by omega, by simp, hB6, ?_⟩, by simp [intOf]; omega⟩
          rw [HLN.out, HST.out]
          exact h1
      · obtain rfl : k = V.length := by omega
        go_wp2
        go_ret2
        exact ⟨_, rfl, hO.out, btr hB3 hbr⟩
  · simp only [if_neg h]
    have H0 := Lib.hid (open_no p _ V _ (hx0.mono (bal (bz w) (.cells #[.int .i64 p, .slice a V.length ca] 24))) hl h)
    generalize checkR p V = c at *
    have e0 : (c != 0) = true := by simpa using h
    clear h
    go_enter Try.func32, Try.ntmps32
    go_wp2_with fail
    refine H0.out.mono ?_
    rintro e w2 ⟨rfl, hB2⟩
    go_wp2
    go_ret2
    exact ⟨_, rfl, World.ownsRow_nil _ _ _ _, btr (bal (bz _) _) hB2⟩
end Go.Proofs.Ytdnaipiiponhpaa
