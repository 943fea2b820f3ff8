/- Maps from lanes to ints: what each operation on them does. -/
import Derived.Test.YtdnaipiiponhpaaTail
import Derived.Test.YtdnaipiiponhpaaW1
namespace Go.Proofs.Ytdnaipiiponhpaa
open Go.RowKit Go.Shelf Go.Instr

theorem Try.fields89 : (Try.prog.fieldsOf 89).toList.map (fun f => (f.name == "_", f.type, f.offset)) = [(false, 75, 0)] := by kernel_rfl
theorem Try.struct89 : Try.prog.underlying 89 = some (.struct (Try.prog.fieldsOf 89)) := by kernel_rfl
theorem Try.held89 : Try.prog.stoodInHeld 89 = false := by kernel_rfl
theorem Try.size75 (w : World) : (sizeOf 75).run Try.prog w = .ok 8 w := by kernel_rfl
theorem Try.agg75 (w : World) : (isAgg 75).run Try.prog w = .ok true w := by kernel_rfl
theorem Try.size2 (w : World) : (sizeOf 2).run Try.prog w = .ok 1 w := by kernel_rfl

theorem field89 : ∃ f, (Try.prog.fieldsOf 89).toList = [f] ∧ f.name ≠ "_" ∧ f.type = 75 ∧ f.offset = 0 := by
  have h := Try.fields89
  match hl : (Try.prog.fieldsOf 89).toList, h with
  | [f], h =>
    simp at h
    exact ⟨f, rfl, h.1, h.2.1, h.2.2⟩
  | [], h => simp at h
  | _ :: _ :: _, h => simp at h

theorem part_lane (w : World) (a : List Int) (ha : a.length = 8) : (part 75 (arrI a) 0).run Try.prog w = .ok (.agg (arrI a)) w := by
  have e : (arrI a).extract 0 (0 + 8) = arrI a := by
    apply Array.ext'
    simp only [arrI, List.extract_toArray, List.extract_eq_take_drop, List.drop_zero]
    rw [List.take_of_length_le (by simp [ha])]
  simp only [part, Sem.run_bind, Try.agg75, Result.andThen_ok, if_true, Try.size75, Sem.run_pure, e]

theorem eqKey (w : World) (a b : List Int) (ha : a.length = 8) (hb : b.length = 8) : (Op.equal 89 (.agg (arrI a)) (.agg (arrI b))).run Try.prog w = .ok (decide (a = b)) w := by
  obtain ⟨f, h1, h2, h3, h4⟩ := field89
  obtain ⟨i3, hi3, _⟩ := info_parts Try.info2
  unfold Op.equal Op.maxDepth
  rw [run_equalIn_struct w 9999 89 _ _ Try.struct89 Try.held89, h1]
  have he := run_eq_arr (P := Try.prog) w 9997 75 2 8 .i64 i3 Try.underlying75 hi3 (by kernel_rfl) Try.underlying2 a b ha hb
  simp only [Op.eqFields, Sem.run_bind, Sem.run_ite, h2, h3, h4, ne_eq, not_false_eq_true, if_true, part_lane w a ha, part_lane w b hb, Result.andThen_ok]
  rw [show (Op.equalIn 9999 75 (.agg (arrI a)) (.agg (arrI b))).run Try.prog w = .ok (decide (a = b)) w from he]
  cases decide (a = b) <;> simp

theorem checkLane (w : World) (e : Bool) (n : Nat) (a : List Int) (ha : a.length = 8) : (checkKey e (n + 2) 75 (.agg (arrI a))).run Try.prog w = .ok () w := by
  rw [checkKey]
  simp only [Sem.run_bind, run_underlying Try.underlying75, Result.andThen_ok, Std.Legacy.Range.forIn_eq_forIn_range', Std.Legacy.Range.size, Nat.sub_zero, Nat.add_sub_cancel, Nat.div_one]
  have hl : ∀ i ∈ List.range' 0 8 1, i < 8 := fun i hi => by simpa using (List.mem_range'_1.1 hi).2
  generalize List.range' 0 8 1 = l at hl
  induction l with
  | nil => simp
  | cons i l ih =>
    have hi := hl i (by simp)
    have px : (part 2 (arrI a) (i * 1)).run Try.prog w = .ok (.int .i64 (a[i]?.getD 0)) w := by
      simp [part, isAgg, run_underlying Try.underlying2, arrI, show i < a.length by omega]
    have pc : ∀ x, (checkKey e (n + 1) 2 (.int .i64 x)).run Try.prog w = .ok () w := by
      intro x; rw [checkKey]; simp [run_underlying Try.underlying2]
    simp only [List.forIn_cons, Sem.run_bind, Try.size2, Result.andThen_ok, px, pc, Sem.run_pure]
    exact ih fun j hj => hl j (by simp [hj])

theorem checkStruct (w : World) (e : Bool) (a : List Int) (ha : a.length = 8) : (checkKey e 10000 89 (.agg (arrI a))).run Try.prog w = .ok () w := by
  obtain ⟨f, h1, h2, h3, h4⟩ := field89
  rw [checkKey]
  simp only [Sem.run_bind, run_underlying Try.struct89, Result.andThen_ok]
  rw [← Array.forIn_toList, h1]
  simp only [List.forIn_cons, List.forIn_nil, Sem.run_bind, h2, h3, h4, ne_eq, not_false_eq_true, if_true, part_lane w a ha, Result.andThen_ok, checkLane w e 9997 a ha, Sem.run_pure]

/-- The entries of a map from lanes to ints: the key, the element, the stamp. -/
def entsOf (L : List (List Int × Int × Nat)) : Array MapEntry := (L.map fun e => { key := .agg (arrI e.1), val := .int .i64 e.2.1, born := e.2.2 }).toArray
/-- Block b is a map that reads as L. -/
structure MapAt (W : World) (b : Nat) (L : List (List Int × Int × Nat)) (clock : Nat) : Prop where
  blk : W.heap[b]? = some (.map (entsOf L) clock)
  len : ∀ e ∈ L, e.1.length = 8
  keys : (L.map (·.1)).Nodup
  born : (L.map (·.2.2)).Nodup
  old : ∀ e ∈ L, e.2.2 < clock

def findL (a : List Int) : List (List Int × Int × Nat) → Nat → Option (Nat × Value)
  | [], _ => none
  | e :: L, i => if a = e.1 then some (i, .int .i64 e.2.1) else findL a L (i + 1)

theorem run_findAsking (w : World) (a : List Int) (ha : a.length = 8) : ∀ (L : List (List Int × Int × Nat)) (i : Nat), (∀ e ∈ L, e.1.length = 8) → (findAsking 89 (.agg (arrI a)) (entsOf L).toList i).run Try.prog w = .ok (findL a L i) w
  | [], i, _ => by simp [entsOf, findAsking, findL]
  | e :: L, i, h => by
    have ih := run_findAsking w a ha L (i + 1) (fun x hx => h x (List.mem_cons_of_mem _ hx))
    have he := eqKey w a e.1 ha (h e (by simp))
    simp only [entsOf, List.map_cons, findAsking, findL] at ih ⊢
    simp only [Sem.run_bind, Sem.run_ite, he, Result.andThen_ok]
    by_cases hq : a = e.1
    · simp [hq]
    · simp only [hq, decide_false, if_false, Bool.false_eq_true]
      simpa using ih

theorem run_findKey (w : World) (a : List Int) (ha : a.length = 8) (L : List (List Int × Int × Nat)) (h : ∀ e ∈ L, e.1.length = 8) : (findKey 89 (.agg (arrI a)) (entsOf L).toList).run Try.prog w = .ok (findL a L 0) w := by
  unfold findKey
  simp only [Sem.run_bind, run_underlying Try.struct89, Result.andThen_ok]
  cases L with
  | nil => simp [entsOf, findNow, findL]
  | cons e L =>
    have : findNow (.struct (Try.prog.fieldsOf 89)) (.agg (arrI a)) (entsOf (e :: L)).toList 0 = none := by
      simp [entsOf, findNow, sameNow]
    rw [this]
    exact run_findAsking w a ha (e :: L) 0 h

theorem findL_none {a : List Int} : ∀ {L : List (List Int × Int × Nat)} {i : Nat}, findL a L i = none → a ∉ L.map (·.1)
  | [], _, _ => by simp
  | e :: L, i, h => by
    simp only [findL] at h
    split at h
    · cases h
    · rename_i hne
      have := findL_none h
      simp only [List.map_cons, List.mem_cons, not_or]
      exact ⟨hne, this⟩
theorem findL_some {a : List Int} : ∀ {L : List (List Int × Int × Nat)} {i j : Nat} {v : Value}, findL a L i = some (j, v) → ∃ k e, j = i + k ∧ L[k]? = some e ∧ e.1 = a ∧ v = .int .i64 e.2.1
  | [], _, _, _, h => by simp [findL] at h
  | e :: L, i, j, v, h => by
    simp only [findL] at h
    split at h
    · rename_i he
      simp only [Option.some.injEq, Prod.mk.injEq] at h
      exact ⟨0, e, by omega, by simp, he.symm, h.2.symm⟩
    · obtain ⟨k, e', h1, h2, h3, h4⟩ := findL_some h
      exact ⟨k + 1, e', by omega, by simpa using h2, h3, h4⟩

/-- What may be asked of the list of a map. -/
structure OkL (L : List (List Int × Int × Nat)) (clock : Nat) : Prop where
  len : ∀ e ∈ L, e.1.length = 8
  keys : (L.map (·.1)).Nodup
  born : (L.map (·.2.2)).Nodup
  old : ∀ e ∈ L, e.2.2 < clock

theorem sameBits_arr (a : List Int) : sameBits 10000 (.agg (arrI a)) (.agg (arrI a)) = true := by
  simp only [sameBits, arrI, beq_self_eq_true, Bool.true_and, List.all_eq_true]
  intro p hp
  rw [List.zip_map'] at hp
  simp only [List.mem_map] at hp
  obtain ⟨x, _, rfl⟩ := hp
  simp [sameBits]

theorem run_getMap {P : Program} {W : World} {b : Nat} {es : Array MapEntry} {c : Nat} (h : W.heap[b]? = some (.map es c)) : (getObj b).run P W = .ok (.map es c) W := by
  simp [getObj, Sem.run, h]
theorem run_setMap {P : Program} {W : World} {b : Nat} {o o' : Obj} (h : W.heap[b]? = some o) (ho : o.isCells = false := by rfl) : (setObj b o').run P W = .ok () (W.putObj b o') := by
  cases o <;> simp_all [setObj, Sem.run, World.putObj, Obj.isCells]
theorem map_set_same {α β : Type} (f : α → β) (L : List α) (k : Nat) (x : α) (h : ∀ hk : k < L.length, f L[k] = f x) : (L.set k x).map f = L.map f := by
  apply List.ext_getElem
  · simp
  · intro i h1 h2
    simp only [List.getElem_map, List.getElem_set]
    split
    · rename_i hki; subst hki; exact (h (by simpa using h2)).symm
    · rfl

theorem modify_same (L : List (List Int × Int × Nat)) (k : Nat) (e : List Int × Int × Nat) (h : L[k]? = some e) (a : List Int) (ha : e.1 = a) : (entsOf L).modify k (fun x => { x with key := .agg (arrI a) }) = entsOf L := by
  apply Array.ext
  · simp
  · intro i h1 h2
    rw [Array.getElem_modify]
    split
    · rename_i hk
      subst hk
      have hi : k < L.length := (List.getElem?_eq_some_iff.1 h).1
      have he : L[k] = e := (List.getElem?_eq_some_iff.1 h).2
      simp [entsOf, he, ha]
    · rfl

/-- The first half of 'm[a]++'. -/
theorem run_mapEntry {W : World} {b : Nat} {L : List (List Int × Int × Nat)} {c : Nat} (hb : W.heap[b]? = some (.map (entsOf L) c)) (hL : OkL L c) (a : List Int) (ha : a.length = 8) :
    ∃ v st L1 c1, (mapEntry 87 (.map (some b)) (.agg (arrI a))).run Try.prog W = .ok (.tuple #[v, goInt st]) (W.putObj b (.map (entsOf L1) c1)) ∧ OkL L1 c1 ∧ (∀ x, x ∈ L1.map (·.1) ↔ x = a ∨ x ∈ L.map (·.1)) ∧ ∃ e ∈ L1, ((e.2.2 : Nat) : Int) = st := by
  have hf := run_findKey W a ha L hL.len
  cases hr : findL a L 0 with
  | none =>
    rw [hr] at hf
    refine ⟨.int .i64 0, c, L ++ [(a, 0, c)], c + 1, ?_, ⟨?_, ?_, ?_, ?_⟩, ?_, (a, 0, c), by simp, rfl⟩
    · have hz : (zeroValue 3).run Try.prog W = .ok (.int .i64 0) W := by kernel_rfl
      have e : (entsOf L).push { key := .agg (arrI a), val := .int .i64 0, born := c } = entsOf (L ++ [(a, 0, c)]) := by simp [entsOf]
      simp only [mapEntry, Sem.run_bind, run_underlying Try.underlying87, Result.andThen_ok, run_getMap hb, checkStruct W false a ha, hf, hz, run_setMap hb, e, Sem.run_pure]
    · intro e he; simp at he; rcases he with he | rfl
      · exact hL.len e he
      · exact ha
    · rw [List.map_append, List.nodup_append]
      refine ⟨hL.keys, by simp, ?_⟩
      intro x hx y hy e; simp at hy; subst hy; subst e; exact findL_none hr hx
    · rw [List.map_append, List.nodup_append]
      refine ⟨hL.born, by simp, ?_⟩
      intro x hx y hy e; simp at hy; subst hy; subst e
      obtain ⟨q, hq, hq2⟩ := List.mem_map.1 hx
      have := hL.old q hq
      omega
    · intro e he; simp at he; rcases he with he | rfl
      · exact Nat.lt_succ_of_lt (hL.old e he)
      · exact Nat.lt_succ_self _
    · intro x; simp [or_comm]
  | some q =>
    obtain ⟨j, v⟩ := q
    rw [hr] at hf
    obtain ⟨k, e, hk, he, hea, hv⟩ := findL_some hr
    obtain rfl : j = k := by omega
    have hem : e ∈ L := List.mem_of_getElem? he
    refine ⟨v, e.2.2, L, c, ?_, hL, ?_, e, hem, rfl⟩
    · have hk1 : ((entsOf L)[j]?.map (·.key)).getD (.agg (arrI a)) = .agg (arrI a) := by simp [entsOf, he, hea]
      have hb1 : ((entsOf L)[j]?.map (fun x => (x.born : Int))).getD 0 = (e.2.2 : Int) := by simp [entsOf, he]
      simp only [mapEntry, Sem.run_bind, run_underlying Try.underlying87, Result.andThen_ok, run_getMap hb, checkStruct W false a ha, hf, keyThatStays, hk1, sameBits_arr, if_true, modify_same L j e he a hea, run_setMap hb, Sem.run_pure, hb1]
    · intro x
      constructor
      · exact .inr
      · rintro (rfl | h)
        · exact List.mem_map.2 ⟨e, hem, hea⟩
        · exact h

/-- The second half. -/
theorem run_entryStore {W : World} {b : Nat} {L : List (List Int × Int × Nat)} {c : Nat} (hb : W.heap[b]? = some (.map (entsOf L) c)) (hL : OkL L c) {e : List Int × Int × Nat} (he : e ∈ L) (val : Int) :
    ∃ L2, (entryStore 87 (.map (some b)) (goInt (e.2.2 : Nat)) (.int .i64 val)).run Try.prog W = .ok () (W.putObj b (.map (entsOf L2) c)) ∧ OkL L2 c ∧ L2.map (·.1) = L.map (·.1) := by
  obtain ⟨k, hk, hke⟩ := List.getElem_of_mem he
  have hidx : (entsOf L).findIdx? (fun x => ((x.born : Nat) : Int) == ((e.2.2 : Nat) : Int)) = some k := by
    rw [Array.findIdx?_eq_some_iff_getElem]
    refine ⟨by simp [entsOf, hk], by simp [entsOf, hke], ?_⟩
    intro j hj
    have hjl : j < L.length := by omega
    simp only [entsOf, List.getElem_toArray, List.getElem_map, beq_iff_eq, Int.natCast_inj]
    intro h
    have hnd := hL.born
    rw [List.nodup_iff_pairwise_ne, List.pairwise_iff_getElem] at hnd
    have := hnd j k (by simpa using hjl) (by simpa using hk) hj
    simp only [List.getElem_map, hke] at this
    exact this h
  refine ⟨L.set k (e.1, val, e.2.2), ?_, ?_, ?_⟩
  · have hm : (entsOf L).modify k (fun x => { x with val := .int .i64 val }) = entsOf (L.set k (e.1, val, e.2.2)) := by
      apply Array.ext
      · simp [entsOf]
      · intro i h1 h2
        rw [Array.getElem_modify]
        simp only [entsOf, List.getElem_toArray, List.getElem_map, List.getElem_set]
        split
        · rename_i hki; subst hki; simp [hke]
        · rfl
    simp [entryStore, Sem.run_bind, run_getMap hb, Result.andThen_ok, asInt, asIntOf, goInt, hidx, hm, run_setMap hb]
  · refine ⟨?_, ?_, ?_, ?_⟩
    · intro x hx
      rcases List.mem_or_eq_of_mem_set hx with h | rfl
      · exact hL.len x h
      · exact hL.len e he
    · rw [map_set_same (·.1) L k _ (fun _ => by simp [hke])]; exact hL.keys
    · rw [map_set_same (·.2.2) L k _ (fun _ => by simp [hke])]; exact hL.born
    · intro x hx
      rcases List.mem_or_eq_of_mem_set hx with h | rfl
      · exact hL.old x h
      · exact hL.old e he
  · exact map_set_same (·.1) L k (e.1, val, e.2.2) (fun _ => by simp [hke])

/-- 'm[a]' of ints. -/
theorem run_lookupL {W : World} {b : Nat} {L : List (List Int × Int × Nat)} {c : Nat} (hb : W.heap[b]? = some (.map (entsOf L) c)) (hL : OkL L c) (a : List Int) (ha : a.length = 8) :
    (Instr.lookup 87 (.map (some b)) (.agg (arrI a)) false).run Try.prog W = .ok (((findL a L 0).map (·.2)).getD (.int .i64 0)) W := by
  have hf := run_findKey W a ha L hL.len
  have hz : (zeroValue 3).run Try.prog W = .ok (.int .i64 0) W := by kernel_rfl
  cases hr : findL a L 0 with
  | none =>
    rw [hr] at hf
    simp [Instr.lookup, Sem.run_bind, run_underlying Try.underlying87, Result.andThen_ok, run_getMap hb, checkStruct W _ a ha, hf, hz]
  | some q =>
    rw [hr] at hf
    simp [Instr.lookup, Sem.run_bind, run_underlying Try.underlying87, Result.andThen_ok, run_getMap hb, checkStruct W _ a ha, hf]
theorem findL_int (a : List Int) (L : List (List Int × Int × Nat)) : ∃ n, ((findL a L 0).map (·.2)).getD (.int .i64 0) = .int .i64 n := by
  cases hr : findL a L 0 with
  | none => exact ⟨0, rfl⟩
  | some q =>
    obtain ⟨j, v⟩ := q
    obtain ⟨k, e, _, _, _, hv⟩ := findL_some hr
    exact ⟨e.2.1, by simp [hv]⟩

theorem map_erase {α β : Type} (f : α → β) : ∀ (L : List α) (j : Nat), (L.map f).eraseIdx j = (L.eraseIdx j).map f
  | [], j => by simp
  | x :: L, 0 => by simp
  | x :: L, j + 1 => by simp [map_erase f L j]

/-- 'delete(m, a)'. -/
theorem run_deleteL {W : World} {b : Nat} {L : List (List Int × Int × Nat)} {c : Nat} (hb : W.heap[b]? = some (.map (entsOf L) c)) (hL : OkL L c) (a : List Int) (ha : a.length = 8) :
    ∃ L2, (∀ t, (Builtin.delete_ #[87, 89] t #[.map (some b), .agg (arrI a)]).run Try.prog W = .ok (.tuple #[]) (W.putObj b (.map (entsOf L2) c))) ∧ OkL L2 c ∧ ∀ e, e ∈ L2 ↔ e ∈ L ∧ e.1 ≠ a := by
  have hf := run_findKey W a ha L hL.len
  cases hr : findL a L 0 with
  | none =>
    rw [hr] at hf
    refine ⟨L, fun t => ?_, hL, ?_⟩
    · simp [Builtin.delete_, Sem.run_bind, run_underlying Try.underlying87, Result.andThen_ok, run_getMap hb, checkStruct W _ a ha, hf, run_setMap hb]
    · intro e
      exact ⟨fun h => ⟨h, fun hea => findL_none hr (List.mem_map.2 ⟨e, h, hea⟩)⟩, fun h => h.1⟩
  | some q =>
    obtain ⟨j, v⟩ := q
    rw [hr] at hf
    obtain ⟨k, e0, hk, he, hea, hv⟩ := findL_some hr
    obtain rfl : j = k := by omega
    have hj : j < L.length := (List.getElem?_eq_some_iff.1 he).1
    have he0 : L[j] = e0 := (List.getElem?_eq_some_iff.1 he).2
    have hsub := List.eraseIdx_sublist L j
    refine ⟨L.eraseIdx j, fun t => ?_, ⟨fun x hx => hL.len x (hsub.subset hx), (hsub.map _).nodup hL.keys, (hsub.map _).nodup hL.born, fun x hx => hL.old x (hsub.subset hx)⟩, ?_⟩
    · have hm : (entsOf L).eraseIdxIfInBounds j = entsOf (L.eraseIdx j) := by
        simp [entsOf, map_erase]
      simp [Builtin.delete_, Sem.run_bind, run_underlying Try.underlying87, Result.andThen_ok, run_getMap hb, checkStruct W _ a ha, hf, run_setMap hb, hm]
    · intro e
      rw [List.mem_eraseIdx_iff_getElem]
      constructor
      · rintro ⟨i, hi, hne, rfl⟩
        refine ⟨List.getElem_mem _, fun h => ?_⟩
        have hnd := hL.keys
        rw [List.nodup_iff_pairwise_ne, List.pairwise_iff_getElem] at hnd
        rcases Nat.lt_or_gt_of_ne hne with hlt | hlt
        · have := hnd i j (by simpa using hi) (by simpa using hj) hlt
          simp only [List.getElem_map, he0, hea, h] at this
          exact this rfl
        · have := hnd j i (by simpa using hj) (by simpa using hi) hlt
          simp only [List.getElem_map, he0, hea, h] at this
          exact this rfl
      · rintro ⟨h1, h2⟩
        obtain ⟨i, hi, rfl⟩ := List.getElem_of_mem h1
        refine ⟨i, hi, ?_, rfl⟩
        rintro rfl
        rw [he0] at h2
        exact h2 hea

theorem run_choose_map {P : Program} (W : World) (n : Nat) (hn : 0 < n) : ∃ i k, i < n ∧ (choose (.mapNext n)).run P W = .ok i (W.drewN k) := by
  by_cases h : n ≤ 1
  · exact ⟨0, 0, hn, by simp [choose, Sem.run, Question.forced, h, World.drewN]⟩
  · exact ⟨W.tape W.drawn (.mapNext n) % n, 1, Nat.mod_lt _ hn, by simp [choose, Sem.run, Question.forced, Question.cut, h, World.drewN]⟩

/-- A range over the map under way, its iterator in block r: what has been met are the stamps in 'seen'. -/
theorem run_nextL {W : World} {b r : Nat} {L : List (List Int × Int × Nat)} {c : Nat} {seen : Array Nat} (hb : W.heap[b]? = some (.map (entsOf L) c)) (hL : OkL L c) (hr : W.heap[r]? = some (.mapIter (some b) c seen c)) :
    ((∀ e ∈ L, e.2.2 ∈ seen) ∧ ∀ t, (Instr.next (.pointer (some ⟨r, 0, none⟩)) false t).run Try.prog W = .ok (.tuple #[.bool false]) W) ∨
    ∃ e ∈ L, e.2.2 ∉ seen ∧ ∃ n, ∀ t, (Instr.next (.pointer (some ⟨r, 0, none⟩)) false t).run Try.prog W = .ok (.tuple #[.bool true, .agg (arrI e.1), .int .i64 e.2.1]) ((W.drewN n).putObj r (.mapIter (some b) c (seen.push e.2.2) c)) := by
  have hgr : (getObj r).run Try.prog W = .ok (.mapIter (some b) c seen c) W := by simp [getObj, Sem.run, hr]
  have hodd : (!seen.isEmpty && !(entsOf L).isEmpty && (entsOf L).all (fun x => decide (x.born ≥ c))) = false := by
    cases L with
    | nil => simp [entsOf]
    | cons e L =>
      have := hL.old e (by simp)
      simp [entsOf, show ¬ c ≤ e.2.2 by omega]
  have hleft : (entsOf L).filter (fun x => !seen.contains x.born) = entsOf (L.filter fun e => !seen.contains e.2.2) := by
    simp [entsOf, List.filter_map, Function.comp_def]
  have hold : (entsOf (L.filter fun e => !seen.contains e.2.2)).filter (fun x => decide (x.born < c)) = entsOf (L.filter fun e => !seen.contains e.2.2) := by
    rw [Array.filter_eq_self]
    intro x hx
    simp only [entsOf, List.mem_toArray, List.mem_map] at hx
    obtain ⟨e, he, rfl⟩ := hx
    simpa using hL.old e (List.mem_filter.1 he).1
  have hnew : (entsOf (L.filter fun e => !seen.contains e.2.2)).filter (fun x => decide (x.born ≥ c)) = #[] := by
    rw [Array.filter_eq_empty_iff]
    intro x hx
    simp only [entsOf, List.mem_toArray, List.mem_map] at hx
    obtain ⟨e, he, rfl⟩ := hx
    have := hL.old e (List.mem_filter.1 he).1
    simp; omega
  have hM : ∀ e, e ∈ L.filter (fun e => !seen.contains e.2.2) ↔ e ∈ L ∧ e.2.2 ∉ seen := by
    intro e; rw [List.mem_filter]; simp
  generalize L.filter (fun e => !seen.contains e.2.2) = M at *
  cases M with
  | nil =>
    refine .inl ⟨?_, fun t => ?_⟩
    · intro e he
      refine Classical.byContradiction fun h => ?_
      have := (hM e).2 ⟨he, h⟩
      cases this
    · have hd : ((entsOf []).filter fun x => decide (x.born < c)) = #[] ∧ ((entsOf []).filter fun x => decide (x.born ≥ c)) = #[] := by simp [entsOf]
      simp only [Instr.next, Sem.run_bind, hgr, Result.andThen_ok, run_getMap hb, hodd, hleft, hd.1, hd.2]
      simp [choose, Sem.run, Question.forced]
  | cons m M =>
    right
    obtain ⟨i, k, hi, hch⟩ := run_choose_map (P := Try.prog) W (m :: M).length (by simp)
    have hne : (entsOf (m :: M)).isEmpty = false := by simp [entsOf]
    obtain ⟨h1, h2⟩ := (hM _).1 (List.getElem_mem hi)
    refine ⟨_, h1, h2, k, fun t => ?_⟩
    have hsz : (#[] ++ (entsOf (m :: M) ++ #[]).map some).size = (m :: M).length := by simp [entsOf]
    have hcand : (#[] ++ (entsOf (m :: M) ++ #[]).map some)[i]? = some (some { key := .agg (arrI (m :: M)[i].1), val := .int .i64 (m :: M)[i].2.1, born := (m :: M)[i].2.2 }) := by
      rw [Array.empty_append, Array.append_empty, Array.getElem?_map]
      unfold entsOf
      rw [List.getElem?_toArray, List.getElem?_map, List.getElem?_eq_getElem hi]
      rfl
    have hr' : (W.drewN k).heap[r]? = some (.mapIter (some b) c seen c) := hr
    simp only [Instr.next, Sem.run_bind, hgr, Result.andThen_ok, run_getMap hb, hodd, hleft, hold, hnew, hne, Bool.false_eq_true, if_false, hsz, hch, hcand, run_setMap hr', Sem.run_pure]
/-- The entry that was met last. -/
theorem run_entryL {W : World} {b r : Nat} {L : List (List Int × Int × Nat)} {c : Nat} {seen : Array Nat} {e : List Int × Int × Nat} (hb : W.heap[b]? = some (.map (entsOf L) c)) (hL : OkL L c) (he : e ∈ L) (hr : W.heap[r]? = some (.mapIter (some b) c (seen.push e.2.2) c)) :
    (Instr.entry (.pointer (some ⟨r, 0, none⟩))).run Try.prog W = .ok (.tuple #[.agg (arrI e.1), .int .i64 e.2.1]) W := by
  have hgr : (getObj r).run Try.prog W = .ok (.mapIter (some b) c (seen.push e.2.2) c) W := by simp [getObj, Sem.run, hr]
  have hf : (entsOf L).find? (fun x => x.born == e.2.2) = some { key := .agg (arrI e.1), val := .int .i64 e.2.1, born := e.2.2 } := by
    obtain ⟨k, hk, rfl⟩ := List.getElem_of_mem he
    have hnd := hL.born
    rw [List.nodup_iff_pairwise_ne, List.pairwise_iff_getElem] at hnd
    simp only [entsOf, List.find?_toArray]
    rw [List.find?_eq_some_iff_getElem]
    refine ⟨by simp, k, by simpa using hk, by simp, fun j hj => ?_⟩
    have := hnd j k (by simp; omega) (by simpa using hk) hj
    simpa using this
  simp [Instr.entry, Sem.run_bind, hgr, Result.andThen_ok, run_getMap hb, hf]
end Go.Proofs.Ytdnaipiiponhpaa
