/- Merged texts: the bench in memory; no condition. -/
import Derived.Test.YtpeminhnjdakiaaGreatMBa
section
namespace Go.Proofs.YtpeminhnjdakiaaGreat
open Go.RowKit Go.Shelf Go.Instr

theorem Tryz.fields96 : (Tryz.prog.fieldsOf 262).toList.map (fun f => (f.name == "_", f.type, f.offset)) = [(false, 3, 0), (false, 3, 1)] := by kernel_rfl
theorem Tryz.struct96 : Tryz.prog.underlying 262 = some (.struct (Tryz.prog.fieldsOf 262)) := by kernel_rfl
theorem Tryz.held96 : Tryz.prog.stoodInHeld 262 = false := by kernel_rfl
/-- A pair as a value. -/
def kv (a : Int × Int) : Value := .agg #[.int .i64 a.1, .int .i64 a.2]

theorem field96 : ∃ f g, (Tryz.prog.fieldsOf 262).toList = [f, g] ∧ f.name ≠ "_" ∧ f.type = 3 ∧ f.offset = 0 ∧ g.name ≠ "_" ∧ g.type = 3 ∧ g.offset = 1 := by
  have h := Tryz.fields96
  match hl : (Tryz.prog.fieldsOf 262).toList, h with
  | [f, g], h =>
    simp at h
    exact ⟨f, g, rfl, h.1.1, h.1.2.1, h.1.2.2, h.2.1, h.2.2.1, h.2.2.2⟩
  | [], h => simp at h
  | [_], h => simp at h
  | _ :: _ :: _ :: _, h => simp at h

theorem part0 (w : World) (a b : Int) : (part 3 #[.int .i64 a, .int .i64 b] 0).run Tryz.prog w = .ok (.int .i64 a) w := by
  simp [part, isAgg, run_underlying Tryz.underlying3]
theorem part1 (w : World) (a b : Int) : (part 3 #[.int .i64 a, .int .i64 b] 1).run Tryz.prog w = .ok (.int .i64 b) w := by
  simp [part, isAgg, run_underlying Tryz.underlying3]

theorem eqKey (w : World) (a b : Int × Int) : (Op.equal 262 (kv a) (kv b)).run Tryz.prog w = .ok (decide (a = b)) w := by
  obtain ⟨f, g, h1, h2, h3, h4, h5, h6, h7⟩ := field96
  obtain ⟨a1, a2⟩ := a
  obtain ⟨b1, b2⟩ := b
  unfold Op.equal Op.maxDepth kv
  rw [run_equalIn_struct w 9999 262 _ _ Tryz.struct96 Tryz.held96, h1]
  simp only [Op.eqFields, Sem.run_bind, Sem.run_ite, h2, h3, h4, h5, h6, h7, ne_eq, not_false_eq_true, if_true, part0, part1, Result.andThen_ok, run_equalIn_int w _ 3 .i64 .i64 _ _ Tryz.underlying3]
  by_cases h : a1 = b1 <;> by_cases k : a2 = b2 <;> simp [h, k]

theorem checkStruct (w : World) (e : Bool) (a : Int × Int) : (checkKey e 10000 262 (kv a)).run Tryz.prog w = .ok () w := by
  obtain ⟨f, g, h1, h2, h3, h4, h5, h6, h7⟩ := field96
  have pc : ∀ x, (checkKey e 9999 3 (.int .i64 x)).run Tryz.prog w = .ok () w := by
    intro x; rw [checkKey]; simp [run_underlying Tryz.underlying3]
  unfold kv
  rw [checkKey]
  simp only [Sem.run_bind, run_underlying Tryz.struct96, Result.andThen_ok]
  rw [← Array.forIn_toList, h1]
  simp only [List.forIn_cons, List.forIn_nil, Sem.run_bind, h2, h3, h4, h5, h6, h7, ne_eq, not_false_eq_true, if_true, part0, part1, Result.andThen_ok, pc, Sem.run_pure]

/-- The entries of a map from lanes to ints: the key, the element, the stamp. -/
def entsOf (L : List ((Int × Int) × Int × Nat)) : Array MapEntry := (L.map fun e => { key := kv e.1, val := .int .i64 e.2.1, born := e.2.2 }).toArray
def findL (a : Int × Int) : List ((Int × Int) × Int × Nat) → Nat → Option (Nat × Value)
  | [], _ => none
  | e :: L, i => if a = e.1 then some (i, .int .i64 e.2.1) else findL a L (i + 1)

theorem run_findAsking (w : World) (a : Int × Int) : ∀ (L : List ((Int × Int) × Int × Nat)) (i : Nat), (findAsking 262 (kv a) (entsOf L).toList i).run Tryz.prog w = .ok (findL a L i) w
  | [], i => by simp [entsOf, findAsking, findL]
  | e :: L, i => by
    have ih := run_findAsking w a L (i + 1)
    have he := eqKey w a e.1
    simp only [entsOf, List.map_cons, findAsking, findL] at ih ⊢
    simp only [Sem.run_bind, Sem.run_ite, he, Result.andThen_ok]
    by_cases hq : a = e.1
    · simp [hq]
    · simp only [hq, decide_false, if_false, Bool.false_eq_true]
      simpa using ih

theorem run_findKey (w : World) (a : Int × Int) (L : List ((Int × Int) × Int × Nat)) : (findKey 262 (kv a) (entsOf L).toList).run Tryz.prog w = .ok (findL a L 0) w := by
  unfold findKey
  simp only [Sem.run_bind, run_underlying Tryz.struct96, Result.andThen_ok]
  cases L with
  | nil => simp [entsOf, findNow, findL]
  | cons e L =>
    have : findNow (.struct (Tryz.prog.fieldsOf 262)) (kv a) (entsOf (e :: L)).toList 0 = none := by
      simp [entsOf, findNow, sameNow, kv]
    rw [this]
    exact run_findAsking w a (e :: L) 0

theorem findL_none {a : Int × Int} : ∀ {L : List ((Int × Int) × Int × Nat)} {i : Nat}, findL a L i = none → a ∉ L.map (·.1)
  | [], _, _ => by simp
  | e :: L, i, h => by
    simp only [findL] at h
    split at h
    · cases h
    · rename_i hne
      have := findL_none h
      simp only [List.map_cons, List.mem_cons, not_or]
      exact ⟨hne, this⟩
theorem findL_some {a : Int × Int} : ∀ {L : List ((Int × Int) × Int × Nat)} {i j : Nat} {v : Value}, findL a L i = some (j, v) → ∃ k e, j = i + k ∧ L[k]? = some e ∧ e.1 = a ∧ v = .int .i64 e.2.1
  | [], _, _, _, h => by simp [findL] at h
  | e :: L, i, j, v, h => by
    simp only [findL] at h
    split at h
    · rename_i he
      simp only [Option.some.injEq, Prod.mk.injEq] at h
      exact ⟨0, e, by omega, by simp, he.symm, h.2.symm⟩
    · obtain ⟨k, e', h1, h2, h3, h4⟩ := findL_some h
      exact ⟨k + 1, e', by omega, by simpa using h2, h3, h4⟩

/-- What may be asked of the list of a map. -/
structure OkL (L : List ((Int × Int) × Int × Nat)) (clock : Nat) : Prop where
  keys : (L.map (·.1)).Nodup
  born : (L.map (·.2.2)).Nodup
  old : ∀ e ∈ L, e.2.2 < clock

theorem sameBits_kv (a : Int × Int) : sameBits 10000 (kv a) (kv a) = true := by
  simp [kv, sameBits]

theorem run_getMap {P : Program} {W : World} {b : Nat} {es : Array MapEntry} {c : Nat} (h : W.heap[b]? = some (.map es c)) : (getObj b).run P W = .ok (.map es c) W := by
  simp [getObj, Sem.run, h]
theorem run_setMap {P : Program} {W : World} {b : Nat} {o o' : Obj} (h : W.heap[b]? = some o) (ho : o.isCells = false := by rfl) : (setObj b o').run P W = .ok () (W.putObj b o') := by
  cases o <;> simp_all [setObj, Sem.run, World.putObj, Obj.isCells]
theorem map_set_same {α β : Type} (f : α → β) (L : List α) (k : Nat) (x : α) (h : ∀ hk : k < L.length, f L[k] = f x) : (L.set k x).map f = L.map f := by
  apply List.ext_getElem
  · simp
  · intro i h1 h2
    simp only [List.getElem_map, List.getElem_set]
    split
    · rename_i hki; subst hki; exact (h (by simpa using h2)).symm
    · rfl

theorem modify_put (L : List ((Int × Int) × Int × Nat)) (k : Nat) (e : (Int × Int) × Int × Nat) (h : L[k]? = some e) (a : Int × Int) (n : Int) :
    (entsOf L).modify k (fun x => { x with key := kv a, val := .int .i64 n }) = entsOf (L.set k (a, n, e.2.2)) := by
  apply Array.ext
  · simp [entsOf]
  · intro i h1 h2
    rw [Array.getElem_modify]
    simp only [entsOf, List.getElem_toArray, List.getElem_map, List.getElem_set]
    split
    · rename_i hk
      subst hk
      have he : L[k]'((List.getElem?_eq_some_iff.1 h).1) = e := (List.getElem?_eq_some_iff.1 h).2
      simp [he]
    · rfl

/-- 'm[a] = n'. -/
theorem run_putL {W : World} {b : Nat} {L : List ((Int × Int) × Int × Nat)} {c : Nat} (hb : W.heap[b]? = some (.map (entsOf L) c)) (hL : OkL L c) (a : Int × Int) (n : Int) :
    ∃ L1 c1, (mapUpdate 195 (.map (some b)) (kv a) (.int .i64 n)).run Tryz.prog W = .ok () (W.putObj b (.map (entsOf L1) c1)) ∧ OkL L1 c1 ∧ (∀ x m, (∃ t, (x, m, t) ∈ L1) ↔ (x = a ∧ m = n) ∨ (x ≠ a ∧ ∃ t, (x, m, t) ∈ L)) := by
  have hf := run_findKey W a L
  cases hr : findL a L 0 with
  | none =>
    rw [hr] at hf
    have hno := findL_none hr
    refine ⟨L ++ [(a, n, c)], c + 1, ?_, ⟨?_, ?_, ?_⟩, ?_⟩
    · have e : (entsOf L).push { key := kv a, val := .int .i64 n, born := c } = entsOf (L ++ [(a, n, c)]) := by simp [entsOf]
      simp only [mapUpdate, Sem.run_bind, run_underlying Tryz.underlying195, Result.andThen_ok, run_getMap hb, checkStruct W false a, hf, run_setMap hb, e]
    · rw [List.map_append, List.nodup_append]
      refine ⟨hL.keys, by simp, ?_⟩
      intro x hx y hy e; simp at hy; subst hy; subst e; exact hno hx
    · rw [List.map_append, List.nodup_append]
      refine ⟨hL.born, by simp, ?_⟩
      intro x hx y hy e; simp at hy; subst hy; subst e
      obtain ⟨q, hq, hq2⟩ := List.mem_map.1 hx
      have := hL.old q hq
      omega
    · intro e he; simp at he; rcases he with he | rfl
      · exact Nat.lt_succ_of_lt (hL.old e he)
      · exact Nat.lt_succ_self _
    · intro x m
      constructor
      · rintro ⟨t, ht⟩
        rw [List.mem_append, List.mem_singleton] at ht
        rcases ht with ht | ht
        · exact .inr ⟨fun e => hno (List.mem_map.2 ⟨_, ht, e⟩), t, ht⟩
        · simp only [Prod.mk.injEq] at ht; exact .inl ⟨ht.1, ht.2.1⟩
      · rintro (⟨rfl, rfl⟩ | ⟨_, t, ht⟩)
        · exact ⟨c, by simp⟩
        · exact ⟨t, by simp [ht]⟩
  | some q =>
    obtain ⟨j, v⟩ := q
    rw [hr] at hf
    obtain ⟨k, e, hk, he, hea, hv⟩ := findL_some hr
    obtain rfl : j = k := by omega
    have hj : j < L.length := (List.getElem?_eq_some_iff.1 he).1
    have hje : L[j] = e := (List.getElem?_eq_some_iff.1 he).2
    refine ⟨L.set j (a, n, e.2.2), c, ?_, ⟨?_, ?_, ?_⟩, ?_⟩
    · have hk1 : ((entsOf L)[j]?.map (·.key)).getD (kv a) = kv a := by simp [entsOf, he, hea]
      simp only [mapUpdate, Sem.run_bind, run_underlying Tryz.underlying195, Result.andThen_ok, run_getMap hb, checkStruct W false a, hf, keyThatStays, hk1, sameBits_kv, if_true, Sem.run_pure, run_setMap hb, modify_put L j e he a n]
    · rw [map_set_same (·.1) L j _ (fun _ => by simp [hje, hea])]; exact hL.keys
    · rw [map_set_same (·.2.2) L j _ (fun _ => by simp [hje])]; exact hL.born
    · intro x hx
      rcases List.mem_or_eq_of_mem_set hx with h | rfl
      · exact hL.old x h
      · exact hL.old e (List.mem_of_getElem? he)
    · intro x m
      constructor
      · rintro ⟨t, ht⟩
        obtain ⟨i, hi, hie⟩ := List.getElem_of_mem ht
        rw [List.getElem_set] at hie
        split at hie
        · simp only [Prod.mk.injEq] at hie; exact .inl ⟨hie.1.symm, hie.2.1.symm⟩
        · rename_i hne
          have hi' : i < L.length := by simpa using hi
          refine .inr ⟨fun hxa => ?_, t, by rw [← hie]; exact List.getElem_mem _⟩
          have hnd := hL.keys
          rw [List.nodup_iff_pairwise_ne, List.pairwise_iff_getElem] at hnd
          have e1 : L[i].1 = a := by rw [hie]; exact hxa
          rcases Nat.lt_or_gt_of_ne hne with h | h
          · have := hnd j i (by simpa using hj) (by simpa using hi') h
            simp only [List.getElem_map, hje, hea, e1] at this; exact this rfl
          · have := hnd i j (by simpa using hi') (by simpa using hj) h
            simp only [List.getElem_map, hje, hea, e1] at this; exact this rfl
      · rintro (⟨rfl, rfl⟩ | ⟨hxa, t, ht⟩)
        · exact ⟨e.2.2, by rw [List.mem_iff_getElem]; exact ⟨j, by simpa using hj, by simp⟩⟩
        · obtain ⟨i, hi, hie⟩ := List.getElem_of_mem ht
          refine ⟨t, List.mem_iff_getElem.2 ⟨i, by simpa using hi, ?_⟩⟩
          rw [List.getElem_set, if_neg, hie]
          rintro rfl
          rw [hje] at hie; rw [hie] at hea; exact hxa hea

/-- 'm[a]', and whether it is there. -/
theorem run_lookupL {W : World} {b : Nat} {L : List ((Int × Int) × Int × Nat)} {c : Nat} (hb : W.heap[b]? = some (.map (entsOf L) c)) (a : Int × Int) :
    (Instr.lookup 195 (.map (some b)) (kv a) true).run Tryz.prog W = .ok (.tuple #[((findL a L 0).map (·.2)).getD (.int .i64 0), .bool (findL a L 0).isSome]) W := by
  have hf := run_findKey W a L
  have hz : (zeroValue 2).run Tryz.prog W = .ok (.int .i64 0) W := by kernel_rfl
  cases hr : findL a L 0 with
  | none =>
    rw [hr] at hf
    simp [Instr.lookup, Sem.run_bind, run_underlying Tryz.underlying195, Result.andThen_ok, run_getMap hb, checkStruct W _ a, hf]
  | some q =>
    rw [hr] at hf
    simp [Instr.lookup, Sem.run_bind, run_underlying Tryz.underlying195, Result.andThen_ok, run_getMap hb, checkStruct W _ a, hf]

theorem map_erase {α β : Type} (f : α → β) : ∀ (L : List α) (j : Nat), (L.map f).eraseIdx j = (L.eraseIdx j).map f
  | [], j => by simp
  | x :: L, 0 => by simp
  | x :: L, j + 1 => by simp [map_erase f L j]

/-- 'delete(m, a)'. -/
theorem run_deleteL {W : World} {b : Nat} {L : List ((Int × Int) × Int × Nat)} {c : Nat} (hb : W.heap[b]? = some (.map (entsOf L) c)) (hL : OkL L c) (a : Int × Int) :
    ∃ L2, (∀ t, (Builtin.delete_ #[195, 262] t #[.map (some b), kv a]).run Tryz.prog W = .ok (.tuple #[]) (W.putObj b (.map (entsOf L2) c))) ∧ OkL L2 c ∧ ∀ e, e ∈ L2 ↔ e ∈ L ∧ e.1 ≠ a := by
  have hf := run_findKey W a L
  cases hr : findL a L 0 with
  | none =>
    rw [hr] at hf
    refine ⟨L, fun t => ?_, hL, ?_⟩
    · simp [Builtin.delete_, Sem.run_bind, run_underlying Tryz.underlying195, Result.andThen_ok, run_getMap hb, checkStruct W _ a, hf, run_setMap hb]
    · intro e
      exact ⟨fun h => ⟨h, fun hea => findL_none hr (List.mem_map.2 ⟨e, h, hea⟩)⟩, fun h => h.1⟩
  | some q =>
    obtain ⟨j, v⟩ := q
    rw [hr] at hf
    obtain ⟨k, e0, hk, he, hea, hv⟩ := findL_some hr
    obtain rfl : j = k := by omega
    have hj : j < L.length := (List.getElem?_eq_some_iff.1 he).1
    have he0 : L[j] = e0 := (List.getElem?_eq_some_iff.1 he).2
    have hsub := List.eraseIdx_sublist L j
    refine ⟨L.eraseIdx j, fun t => ?_, ⟨(hsub.map _).nodup hL.keys, (hsub.map _).nodup hL.born, fun x hx => hL.old x (hsub.subset hx)⟩, ?_⟩
    · have hm : (entsOf L).eraseIdxIfInBounds j = entsOf (L.eraseIdx j) := by
        simp [entsOf, map_erase]
      simp [Builtin.delete_, Sem.run_bind, run_underlying Tryz.underlying195, Result.andThen_ok, run_getMap hb, checkStruct W _ a, hf, run_setMap hb, hm]
    · intro e
      rw [List.mem_eraseIdx_iff_getElem]
      constructor
      · rintro ⟨i, hi, hne, rfl⟩
        refine ⟨List.getElem_mem _, fun h => ?_⟩
        have hnd := hL.keys
        rw [List.nodup_iff_pairwise_ne, List.pairwise_iff_getElem] at hnd
        rcases Nat.lt_or_gt_of_ne hne with hlt | hlt
        · have := hnd i j (by simpa using hi) (by simpa using hj) hlt
          simp only [List.getElem_map, he0, hea, h] at this
          exact this rfl
        · have := hnd j i (by simpa using hj) (by simpa using hi) hlt
          simp only [List.getElem_map, he0, hea, h] at this
          exact this rfl
      · rintro ⟨h1, h2⟩
        obtain ⟨i, hi, rfl⟩ := List.getElem_of_mem h1
        refine ⟨i, hi, ?_, rfl⟩
        rintro rfl
        rw [he0] at h2
        exact h2 hea

theorem run_choose_map {P : Program} (W : World) (n : Nat) (hn : 0 < n) : ∃ i k, i < n ∧ (choose (.mapNext n)).run P W = .ok i (W.drewN k) := by
  by_cases h : n ≤ 1
  · exact ⟨0, 0, hn, by simp [choose, Sem.run, Question.forced, h, World.drewN]⟩
  · exact ⟨W.tape W.drawn (.mapNext n) % n, 1, Nat.mod_lt _ hn, by simp [choose, Sem.run, Question.forced, Question.cut, h, World.drewN]⟩

/-- A range over the map under way, its iterator in block r: what has been met are the stamps in 'seen'. -/
theorem run_nextL {W : World} {b r : Nat} {L : List ((Int × Int) × Int × Nat)} {c : Nat} {seen : Array Nat} (hb : W.heap[b]? = some (.map (entsOf L) c)) (hL : OkL L c) (hr : W.heap[r]? = some (.mapIter (some b) c seen c)) :
    ((∀ e ∈ L, e.2.2 ∈ seen) ∧ ∀ t, (Instr.next (.pointer (some ⟨r, 0, none⟩)) false t).run Tryz.prog W = .ok (.tuple #[.bool false]) W) ∨
    ∃ e ∈ L, e.2.2 ∉ seen ∧ ∃ n, ∀ t, (Instr.next (.pointer (some ⟨r, 0, none⟩)) false t).run Tryz.prog W = .ok (.tuple #[.bool true, kv e.1, .int .i64 e.2.1]) ((W.drewN n).putObj r (.mapIter (some b) c (seen.push e.2.2) c)) := by
  have hgr : (getObj r).run Tryz.prog W = .ok (.mapIter (some b) c seen c) W := by simp [getObj, Sem.run, hr]
  have hodd : (!seen.isEmpty && !(entsOf L).isEmpty && (entsOf L).all (fun x => decide (x.born ≥ c))) = false := by
    cases L with
    | nil => simp [entsOf]
    | cons e L =>
      have := hL.old e (by simp)
      simp [entsOf, show ¬ c ≤ e.2.2 by omega]
  have hleft : (entsOf L).filter (fun x => !seen.contains x.born) = entsOf (L.filter fun e => !seen.contains e.2.2) := by
    simp [entsOf, List.filter_map, Function.comp_def]
  have hold : (entsOf (L.filter fun e => !seen.contains e.2.2)).filter (fun x => decide (x.born < c)) = entsOf (L.filter fun e => !seen.contains e.2.2) := by
    rw [Array.filter_eq_self]
    intro x hx
    simp only [entsOf, List.mem_toArray, List.mem_map] at hx
    obtain ⟨e, he, rfl⟩ := hx
    simpa using hL.old e (List.mem_filter.1 he).1
  have hnew : (entsOf (L.filter fun e => !seen.contains e.2.2)).filter (fun x => decide (x.born ≥ c)) = #[] := by
    rw [Array.filter_eq_empty_iff]
    intro x hx
    simp only [entsOf, List.mem_toArray, List.mem_map] at hx
    obtain ⟨e, he, rfl⟩ := hx
    have := hL.old e (List.mem_filter.1 he).1
    simp; omega
  have hM : ∀ e, e ∈ L.filter (fun e => !seen.contains e.2.2) ↔ e ∈ L ∧ e.2.2 ∉ seen := by
    intro e; rw [List.mem_filter]; simp
  generalize L.filter (fun e => !seen.contains e.2.2) = M at *
  cases M with
  | nil =>
    refine .inl ⟨?_, fun t => ?_⟩
    · intro e he
      refine Classical.byContradiction fun h => ?_
      have := (hM e).2 ⟨he, h⟩
      cases this
    · have hd : ((entsOf []).filter fun x => decide (x.born < c)) = #[] ∧ ((entsOf []).filter fun x => decide (x.born ≥ c)) = #[] := by simp [entsOf]
      simp only [Instr.next, Sem.run_bind, hgr, Result.andThen_ok, run_getMap hb, hodd, hleft, hd.1, hd.2]
      simp [choose, Sem.run, Question.forced]
  | cons m M =>
    right
    obtain ⟨i, k, hi, hch⟩ := run_choose_map (P := Tryz.prog) W (m :: M).length (by simp)
    have hne : (entsOf (m :: M)).isEmpty = false := by simp [entsOf]
    obtain ⟨h1, h2⟩ := (hM _).1 (List.getElem_mem hi)
    refine ⟨_, h1, h2, k, fun t => ?_⟩
    have hsz : (#[] ++ (entsOf (m :: M) ++ #[]).map some).size = (m :: M).length := by simp [entsOf]
    have hcand : (#[] ++ (entsOf (m :: M) ++ #[]).map some)[i]? = some (some { key := kv (m :: M)[i].1, val := .int .i64 (m :: M)[i].2.1, born := (m :: M)[i].2.2 }) := by
      rw [Array.empty_append, Array.append_empty, Array.getElem?_map]
      unfold entsOf
      rw [List.getElem?_toArray, List.getElem?_map, List.getElem?_eq_getElem hi]
      rfl
    have hr' : (W.drewN k).heap[r]? = some (.mapIter (some b) c seen c) := hr
    simp only [Instr.next, Sem.run_bind, hgr, Result.andThen_ok, run_getMap hb, hodd, hleft, hold, hnew, hne, Bool.false_eq_true, if_false, hsz, hch, hcand, run_setMap hr', Sem.run_pure]
/-- The entry that was met last. -/
theorem run_entryL {W : World} {b r : Nat} {L : List ((Int × Int) × Int × Nat)} {c : Nat} {seen : Array Nat} {e : (Int × Int) × Int × Nat} (hb : W.heap[b]? = some (.map (entsOf L) c)) (hL : OkL L c) (he : e ∈ L) (hr : W.heap[r]? = some (.mapIter (some b) c (seen.push e.2.2) c)) :
    (Instr.entry (.pointer (some ⟨r, 0, none⟩))).run Tryz.prog W = .ok (.tuple #[kv e.1, .int .i64 e.2.1]) W := by
  have hgr : (getObj r).run Tryz.prog W = .ok (.mapIter (some b) c (seen.push e.2.2) c) W := by simp [getObj, Sem.run, hr]
  have hf : (entsOf L).find? (fun x => x.born == e.2.2) = some { key := kv e.1, val := .int .i64 e.2.1, born := e.2.2 } := by
    obtain ⟨k, hk, rfl⟩ := List.getElem_of_mem he
    have hnd := hL.born
    rw [List.nodup_iff_pairwise_ne, List.pairwise_iff_getElem] at hnd
    simp only [entsOf, List.find?_toArray]
    rw [List.find?_eq_some_iff_getElem]
    refine ⟨by simp, k, by simpa using hk, by simp, fun j hj => ?_⟩
    have := hnd j k (by simp; omega) (by simpa using hk) hj
    simpa using this
  simp [Instr.entry, Sem.run_bind, hgr, Result.andThen_ok, run_getMap hb, hf]
end Go.Proofs.YtpeminhnjdakiaaGreat
end

section
namespace Go.Proofs.YtpeminhnjdakiaaGreat
open Go.RowKit Go.Shelf

theorem info75 : (Tryz.prog.info? 25).map (fun i => (i.zero, i.size, i.bytes)) = some (some (.agg #[.int .i64 0, .int .i64 0]), 2, 16) := by kernel_rfl
theorem info96 : (Tryz.prog.info? 262).map (fun i => (i.zero, i.size, i.bytes)) = some (some (.agg #[.int .i64 0, .int .i64 0]), 2, 16) := by kernel_rfl
theorem info22 : (Tryz.prog.info? 32).map (fun i => (i.zero, i.size, i.bytes)) = some (some (.slice none 0 0), 1, 24) := by kernel_rfl
end Go.Proofs.YtpeminhnjdakiaaGreat
end

section
namespace Go.Proofs.YtpeminhnjdakiaaGreat
open Go.RowKit

theorem take_eq_step (xs ys : List Int) (k : Nat) (hx : k < xs.length) (hy : k < ys.length) (h : xs.take k = ys.take k) (he : xs[k]?.getD 0 = ys[k]?.getD 0) : xs.take (k+1) = ys.take (k+1) := by
  rw [List.take_succ_eq_append_getElem hx, List.take_succ_eq_append_getElem hy, h]
  simp [hx, hy] at he
  rw [he]
theorem ne_of_get (xs ys : List Int) (k : Nat) (he : xs[k]?.getD 0 ≠ ys[k]?.getD 0) : xs ≠ ys := by
  intro e; subst e; exact he rfl

set_option maxRecDepth 100000 in
set_option maxHeartbeats 400000 in
theorem ints_any (x y : Value) (xs ys : List Int) (w : World) (hx0 : RdI w .i64 x xs) (hy0 : RdI w .i64 y ys) (hl : xs.length ≤ 1000) (hl2 : ys.length ≤ 1000) :
    Calls Tryz.prog 105 #[x, y] w fun e w' => e = .returned (.bool (decide (xs = ys))) ∧ Below w.heap.size w w' := by
  obtain ⟨a, ca, rfl, _, _, hx⟩ := hx0.form
  obtain ⟨b, cb, rfl, _, _, hy⟩ := hy0.form
  clear hx0 hy0
  by_cases hll : xs.length = ys.length
  · have h1 : ((xs.length : Int) != (ys.length : Int)) = false := by simp [hll]
    have HL := Lib.hid hll; clear hll
    go_enter Tryz.func105, Tryz.ntmps105
    go_wp2
    go_loopw [5] (fun i wr => ∃ k : Nat, k ≤ xs.length ∧ i = .int .i64 k ∧ xs.take k = ys.take k ∧ Below w.heap.size w wr) (fun i _ => xs.length - (intOf i).toNat)
    case atStart => exact ⟨0, Nat.zero_le _, rfl, by simp, Below.refl _ _⟩
    case round =>
      obtain ⟨k, hk, rfl, ht, hB⟩ := hrel
      by_cases hlt : k < xs.length
      · obtain ⟨bx, ox, rfl, hbx, hcx⟩ := hx (by omega)
        obtain ⟨by', oy, rfl, hby, hcy⟩ := hy (by rw [← HL.out]; omega)
        have gx := (hB.cell (p := ⟨bx, ox + k, none⟩) hbx).trans (hcx k hlt)
        have hlt2 : k < ys.length := by rw [← HL.out]; exact hlt
        have gy := (hB.cell (p := ⟨by', oy + k, none⟩) hby).trans (hcy k hlt2)
        have HT := Lib.hid ht; clear ht
        clear hx hy hcx hcy
        by_cases he : xs[k]?.getD 0 = ys[k]?.getD 0
        · have hb1 : (xs[k]?.getD 0 != ys[k]?.getD 0) = false := by simp [he]
          have HE := Lib.hid he; clear he
          have HT2 := Lib.hid (take_eq_step xs ys k hlt hlt2 HT.out HE.out)
          generalize xs[k]?.getD 0 = p at *
          generalize ys[k]?.getD 0 = q at *
          go_wp2
          go_quiet (fail)
          go_wp2
          go_roundw
          case rel => exact ⟨k + 1, by omega, by go_num, HT2.out, Below.drewN' _ hB⟩
          case measure => simp [intOf]; omega
        · have hb1 : (xs[k]?.getD 0 != ys[k]?.getD 0) = true := by simpa using he
          have HE := Lib.hid (ne_of_get xs ys k he); clear he
          generalize xs[k]?.getD 0 = p at *
          generalize ys[k]?.getD 0 = q at *
          go_wp2
          go_quiet (fail)
          go_wp2
          go_ret
          exact ⟨ret_bool (by simp [HE.out]), Below.drewN' _ hB⟩
      · have HT := Lib.hid ht; clear ht
        go_wp2
        go_ret
        refine ⟨ret_bool ?_, hB⟩
        have h1 := HT.out
        rw [List.take_of_length_le (by omega), List.take_of_length_le (by rw [← HL.out]; omega)] at h1
        simp [h1]
  · have h1 : ((xs.length : Int) != (ys.length : Int)) = true := by rw [bne_iff_ne]; omega
    have HL := Lib.hid hll; clear hll
    go_enter Tryz.func105, Tryz.ntmps105
    go_wp2
    go_ret
    refine ⟨ret_bool ?_, Below.refl _ _⟩
    have := HL.out
    symm; simp only [decide_eq_false_iff_not]
    intro e; subst e; exact this rfl

def outB (lo hi x : Int) : Bool := decide (x < lo ∨ hi < x)
set_option maxRecDepth 100000 in
set_option maxHeartbeats 400000 in
theorem withinf_any (x lo hi : Int) (bl bh : Nat) (w : World) (h1 : w.cell? ⟨bl, 0, none⟩ = some (.int .i64 lo)) (h2 : w.cell? ⟨bh, 0, none⟩ = some (.int .i64 hi)) :
    Calls Tryz.prog 219 #[.int .i64 x, .pointer (some ⟨bl, 0, none⟩), .pointer (some ⟨bh, 0, none⟩)] w fun e w' => e = .returned (.bool (outB lo hi x)) ∧ Below w.heap.size w w' := by
  by_cases hlo : x < lo
  · go_enter Tryz.func219, Tryz.ntmps219
    go_wp2
    go_ret
    exact ⟨ret_bool (by simp [outB, hlo]), Below.refl _ _⟩
  · by_cases hhi : hi < x <;>
    · go_enter Tryz.func219, Tryz.ntmps219
      go_wp2
      go_ret
      exact ⟨ret_bool (by simp [outB, hlo, hhi]), Below.refl _ _⟩

def idxOf {α : Type} (p : α → Bool) (xs : List α) : Int := match xs.findIdx? p with | some i => i | none => -1
theorem find_none_step {α : Type} {d : α} {p : α → Bool} {xs : List α} {k : Nat} (h : ∀ i, i < k → p (xs[i]?.getD d) = false) (hk : k < xs.length) : p (xs[k]?.getD d) = true → idxOf p xs = k := by
  intro ht
  have : xs.findIdx? p = some k := by
    rw [List.findIdx?_eq_some_iff_getElem]
    refine ⟨hk, by simpa [hk] using ht, fun j hj => ?_⟩
    have := h j hj
    rw [List.getElem?_eq_getElem (by omega)] at this
    simpa using this
  simp [idxOf, this]
theorem find_none {α : Type} {d : α} {p : α → Bool} {xs : List α} (h : ∀ i, i < xs.length → p (xs[i]?.getD d) = false) : idxOf p xs = -1 := by
  have : xs.findIdx? p = none := by
    rw [List.findIdx?_eq_none_iff]
    intro x hx
    obtain ⟨i, hi, rfl⟩ := List.getElem_of_mem hx
    have := h i hi
    simpa [hi] using this
  simp [idxOf, this]

theorem idxOf_any {α : Type} (p : α → Bool) (xs : List α) : decide (0 ≤ idxOf p xs) = xs.any p := by
  cases h : xs.findIdx? p with
  | some i =>
    have : xs.any p = true := by
      rw [List.findIdx?_eq_some_iff_getElem] at h
      obtain ⟨h1, h2, _⟩ := h
      exact List.any_eq_true.2 ⟨_, List.getElem_mem h1, h2⟩
    rw [this]; simp [idxOf, h]
  | none =>
    have : xs.any p = false := by
      rw [List.findIdx?_eq_none_iff] at h
      rw [List.any_eq_false]
      intro x hx; simp [h x hx]
    rw [this]; simp [idxOf, h]

set_option maxRecDepth 100000 in
set_option maxHeartbeats 400000 in
theorem indexf_any (x : Value) (xs : List Int) (lo hi : Int) (bl bh : Nat) (w : World) (hx0 : RdI w .i64 x xs) (hl : xs.length ≤ 1000)
    (h1 : w.cell? ⟨bl, 0, none⟩ = some (.int .i64 lo)) (h2 : w.cell? ⟨bh, 0, none⟩ = some (.int .i64 hi)) (hb1 : bl < w.heap.size) (hb2 : bh < w.heap.size) :
    Calls Tryz.prog 131 #[x, .func (.func 219) #[] #[.pointer (some ⟨bl, 0, none⟩), .pointer (some ⟨bh, 0, none⟩)]] w fun e w' => e = .returned (.int .i64 (idxOf (outB lo hi) xs)) ∧ Below w.heap.size w w' := by
  obtain ⟨a, ca, rfl, _, _, hx⟩ := hx0.form
  clear hx0
  go_enter Tryz.func131, Tryz.ntmps131
  go_wp2
  go_loopw [5, 8] (fun j i wr => ∃ k : Nat, k ≤ xs.length ∧ i = .int .i64 k ∧ (∀ i, i < k → outB lo hi (xs[i]?.getD 0) = false) ∧ Below w.heap.size w wr) (fun _ i _ => xs.length - (intOf i).toNat)
  case atStart => exact ⟨0, Nat.zero_le _, rfl, by intro i h1; omega, Below.refl _ _⟩
  case round =>
    obtain ⟨k, hk, rfl, ht, hB⟩ := hrel
    have HT := Lib.hid ht; clear ht
    by_cases hlt : k < xs.length
    · obtain ⟨bx, ox, rfl, hbx, hcx⟩ := hx (by omega)
      have gx := (hB.cell (p := ⟨bx, ox + k, none⟩) hbx).trans (hcx k hlt)
      have g1 := (hB.cell (p := ⟨bl, 0, none⟩) hb1).trans h1
      have g2 := (hB.cell (p := ⟨bh, 0, none⟩) hb2).trans h2
      clear hx hcx
      generalize hp : xs[k]?.getD 0 = p at *
      have HP := Lib.hid hp; clear hp
      go_wp2_with (go_at_call 219; refine (withinf_any _ _ _ _ _ _ g1 g2).mono ?_)
      rintro e w2 ⟨rfl, hB2⟩
      have hB3 := hB.trans (hB2.mono hB.size)
      cases hb : outB lo hi p
      · go_wp2
        go_roundw
        case rel =>
          refine ⟨k + 1, by omega, by go_num, fun i h1 => ?_, hB3⟩
          by_cases e : i = k
          · subst e; rw [HP.out]; exact hb
          · exact HT.out i (by omega)
        case measure => simp [intOf]; omega
      · go_wp2
        go_ret
        exact ⟨ret_int (find_none_step HT.out hlt (by rw [HP.out]; exact hb)).symm, hB3⟩
    · go_wp2
      go_ret
      exact ⟨ret_int (find_none fun i hi => HT.out i (by omega)).symm, hB⟩

set_option maxRecDepth 100000 in
set_option maxHeartbeats 400000 in
theorem containsf_any (x : Value) (xs : List Int) (lo hi : Int) (bl bh : Nat) (w : World) (hx0 : RdI w .i64 x xs) (hl : xs.length ≤ 1000)
    (h1 : w.cell? ⟨bl, 0, none⟩ = some (.int .i64 lo)) (h2 : w.cell? ⟨bh, 0, none⟩ = some (.int .i64 hi)) (hb1 : bl < w.heap.size) (hb2 : bh < w.heap.size) :
    Calls Tryz.prog 62 #[x, .func (.func 219) #[] #[.pointer (some ⟨bl, 0, none⟩), .pointer (some ⟨bh, 0, none⟩)]] w fun e w' => e = .returned (.bool (xs.any (outB lo hi))) ∧ Below w.heap.size w w' := by
  go_enter Tryz.func62, Tryz.ntmps62
  go_wp2_with (go_at_call 131; refine (indexf_any _ _ _ _ _ _ _ hx0 hl h1 h2 hb1 hb2).mono ?_)
  rintro e w2 ⟨rfl, hB2⟩
  have H := Lib.hid (idxOf_any (outB lo hi) xs)
  go_wp2
  go_ret
  exact ⟨ret_bool H.out, hB2⟩

set_option maxRecDepth 100000 in
set_option maxHeartbeats 400000 in
theorem within_any (x : Value) (xs : List Int) (lo hi : Int) (w : World) (hx0 : RdI w .i64 x xs) (hl : xs.length ≤ 1000) :
    Calls Tryz.prog 156 #[.int .i64 lo, .int .i64 hi, x] w fun e w' => e = .returned (.bool (!xs.any (outB lo hi))) ∧ Below w.heap.size w w' := by
  go_enter Tryz.func156, Tryz.ntmps156
  go_wp2_with (go_at_call 62; refine (containsf_any _ xs lo hi w.heap.size (w.heap.size + 1) _ ?_ hl ?_ ?_ ?_ ?_).mono ?_)
  · exact hx0.mono (((Below.refl _ _).alloc (Nat.le_refl _) _).alloc (by simp) _)
  · simp
  · simp
  · simp; omega
  · simp
  rintro e w2 ⟨rfl, hB2⟩
  go_wp2
  go_ret
  exact ⟨rfl, btr (bal (bal (bz _) _) _) hB2⟩
end Go.Proofs.YtpeminhnjdakiaaGreat
end

section
namespace Go.Proofs.YtpeminhnjdakiaaGreat
open Go.RowKit Go.Shelf

def checkD (R : Int) (W : List Int) : Int := if outB 1 6 R then 3 else if 16 < W.length then 6 else if W.any (outB 1 8) then 2 else 0
theorem one_slice {w : World} {p : Int} {b : Nat} (h : w.cell? ⟨b, 0, none⟩ = some (.int .i64 p)) (hb : b < w.heap.size) : RdI w .i64 (.slice (some ⟨b, 0, none⟩) 1 1) [p] := by
  refine ⟨_, _, rfl, by simp, by unfold maxLen; omega, fun _ => ⟨_, _, rfl, hb, fun j u hj => ?_⟩⟩
  match j, hj with
  | 0, hj => simp at hj; subst hj; exact h
theorem RdI.ex {w : World} {k : IntKind} {v : Value} {V : List Int} (h : RdI w k v V) (n : Nat) (hn : V.length = n) : ∃ a c, v = .slice a n c := by
  obtain ⟨a, c, h, _⟩ := h; exact ⟨a, c, by rw [h, hn]⟩

set_option maxRecDepth 100000 in
set_option maxHeartbeats 1000000 in
theorem checkday_any (R : Int) (x : Value) (W : List Int) (w : World) (hx0 : RdI w .i64 x W) (hl : W.length ≤ 1000) :
    Calls Tryz.prog 217 #[.agg #[.int .i64 R, x]] w fun e w' => e = .returned (.int .i64 (checkD R W)) ∧ Below w.heap.size w w' := by
  obtain ⟨a, c, rfl⟩ := hx0.ex _ rfl
  have HX := Lib.hid hx0; clear hx0
  unfold checkD
  cases hr : outB 1 6 R
  · have HR : Hid ([R].any (outB 1 6) = false) := Lib.hid (by simp [hr])
    clear hr
    by_cases h16 : 16 < W.length
    · rw [if_neg (by decide), if_pos h16]
      have d2 : decide ((16 : Int) < (W.length : Int)) = true := decide_eq_true (by omega)
      go_enter Tryz.func217, Tryz.ntmps217
      go_wp2_with fail
      refine (within_any _ [R] _ _ _ (one_slice (by simp) (by simp)) (by simp)).mono ?_
      rintro e w2 ⟨rfl, hB2⟩
      rw [HR.out]
      obtain ⟨hc, hf⟩ := bcell hB2
      have hz := hB2.size
      simp only [World.size_alloc] at hz
      go_wp2_with fail
      go_ret
      exact ⟨rfl, btr (bal (bal (bz _) _) _) hB2⟩
    · rw [if_neg (by decide), if_neg h16]
      have d2 : decide ((16 : Int) < (W.length : Int)) = false := decide_eq_false (by omega)
      have HWI := Lib.hid (fun wz hx => within_any (.slice a W.length c) W 1 8 wz hx hl)
      obtain ⟨q, hq⟩ : ∃ q, W.any (outB 1 8) = q := ⟨_, rfl⟩
      rw [hq] at HWI ⊢
      clear hq
      go_enter Tryz.func217, Tryz.ntmps217
      go_wp2_with fail
      refine (within_any _ [R] _ _ _ (one_slice (by simp) (by simp)) (by simp)).mono ?_
      rintro e w2 ⟨rfl, hB2⟩
      rw [HR.out]
      obtain ⟨hc, hf⟩ := bcell hB2
      have hz := hB2.size
      simp only [World.size_alloc] at hz
      have HB2 := Lib.hid hB2
      clear hB2
      go_wp2_with fail
      refine (HWI.out _ (HX.out.mono (btr (bal (bal (bz _) _) _) HB2.out))).mono ?_
      rintro e w3 ⟨rfl, hB3⟩
      cases q
      · go_wp2_with fail
        go_ret
        exact ⟨rfl, btr (btr (bal (bal (bz _) _) _) HB2.out) hB3⟩
      · go_wp2_with fail
        go_ret
        exact ⟨rfl, btr (btr (bal (bal (bz _) _) _) HB2.out) hB3⟩
  · have HR : Hid ([R].any (outB 1 6) = true) := Lib.hid (by simp [hr])
    clear hr
    rw [if_pos rfl]
    go_enter Tryz.func217, Tryz.ntmps217
    go_wp2_with fail
    refine (within_any _ [R] _ _ _ (one_slice (by simp) (by simp)) (by simp)).mono ?_
    rintro e w2 ⟨rfl, hB2⟩
    rw [HR.out]
    go_wp2_with fail
    go_ret
    exact ⟨rfl, btr (bal (bal (bz _) _) _) hB2⟩

set_option maxRecDepth 100000 in
set_option maxHeartbeats 1000000 in
theorem rcheckday_any (R : Int) (x : Value) (W : List Int) (w : World) (hx0 : RdI w .i64 x W) (hl : W.length ≤ 1000) :
    Calls Tryz.prog 165 #[.agg #[.int .i64 R, x]] w fun e w' => e = .returned (.int .i64 (checkD R W)) ∧ Below w.heap.size w w' := by
  obtain ⟨a, c, rfl, hca, hcm, hx⟩ := hx0.form
  clear hcm hx0
  unfold checkD
  by_cases h1 : R < 1
  · rw [if_pos (by simp [outB]; omega)]
    have d1 : decide (R < 1) = true := decide_eq_true h1
    go_enter Tryz.func165, Tryz.ntmps165
    go_wp2_with fail
    go_ret
    exact ⟨rfl, bal (bz _) _⟩
  · have d1 : decide (R < 1) = false := decide_eq_false h1
    by_cases h6 : 6 < R
    · rw [if_pos (by simp [outB]; omega)]
      have d6 : decide (6 < R) = true := decide_eq_true h6
      go_enter Tryz.func165, Tryz.ntmps165
      go_wp2_with fail
      go_ret
      exact ⟨rfl, bal (bz _) _⟩
    · have d6 : decide (6 < R) = false := decide_eq_false h6
      rw [if_neg (by simp [outB]; omega)]
      by_cases h16 : 16 < W.length
      · rw [if_pos h16]
        have d2 : decide ((16 : Int) < (W.length : Int)) = true := decide_eq_true (by omega)
        go_enter Tryz.func165, Tryz.ntmps165
        go_wp2_with fail
        go_ret
        exact ⟨rfl, bal (bz _) _⟩
      · rw [if_neg h16]
        obtain ⟨q, hq⟩ : ∃ q, W.any (outB 1 8) = q := ⟨_, rfl⟩
        rw [hq]
        have HQ := Lib.hid hq; clear hq
        have d2 : decide ((16 : Int) < (W.length : Int)) = false := decide_eq_false (by omega)
        go_enter Tryz.func165, Tryz.ntmps165
        go_wp2_with fail
        have c0 : (w.alloc (.cells #[.int .i64 R, .slice a W.length c] 126)).cell? ⟨w.heap.size, 1, none⟩ = some (.slice a W.length c) := cnew rfl rfl
        have HC0 := Lib.hid c0; clear c0
        go_loopw [3] (fun i wr => ∃ k : Nat, k ≤ W.length ∧ i = .int .i64 k ∧ Hid (∀ j, j < k → outB 1 8 (W[j]?.getD 0) = false) ∧ Below (w.alloc (.cells #[.int .i64 R, .slice a W.length c] 126)).heap.size (w.alloc (.cells #[.int .i64 R, .slice a W.length c] 126)) wr) (fun i _ => W.length - (intOf i).toNat)
        case atStart => exact ⟨0, Nat.zero_le _, rfl, Lib.hid (fun j h => by omega), bz _⟩
        case round =>
          obtain ⟨k, hk, rfl, HO, hB⟩ := hrel
          have e0 := (hB.cell (p := ⟨w.heap.size, 1, none⟩) (by simp)).trans HC0.out
          have hz := hB.size
          simp only [World.size_alloc] at hz
          by_cases hlt : k < W.length
          · obtain ⟨bx, ox, rfl, hbx, hcx⟩ := hx (by omega)
            have g0 := ((btr (bal (bz w) _) hB).cell (p := ⟨bx, ox + k, none⟩) hbx).trans (hcx k hlt)
            have zb : bx < wr.heap.size := by omega
            have HB := Lib.hid hB
            clear hB hx hcx
            generalize hp : W[k]?.getD 0 = p at *
            have HP := Lib.hid hp; clear hp
            have hany : ∀ q, outB 1 8 p = q → (q = true → W.any (outB 1 8) = true) := by
              intro q hq hqt
              subst hqt
              rw [List.any_eq_true]
              refine ⟨p, ?_, hq⟩
              have := HP.out
              rw [List.getElem?_eq_getElem hlt] at this
              simp at this; rw [← this]; exact List.getElem_mem hlt
            have HA := Lib.hid hany; clear hany
            by_cases q1 : p < 1
            · have z1 : decide (p < 1) = true := decide_eq_true q1
              obtain rfl : q = true := by rw [← HQ.out]; exact HA.out true (by simp [outB, q1]) rfl
              go_wp2_with fail
              go_ret
              exact ⟨rfl, btr (bal (bz _) _) HB.out⟩
            · have z1 : decide (p < 1) = false := decide_eq_false q1
              by_cases q8 : 8 < p
              · have z8 : decide (8 < p) = true := decide_eq_true q8
                obtain rfl : q = true := by rw [← HQ.out]; exact HA.out true (by simp [outB, q8]) rfl
                go_wp2_with fail
                go_ret
                exact ⟨rfl, btr (bal (bz _) _) HB.out⟩
              · have z8 : decide (8 < p) = false := decide_eq_false q8
                have HO1 : Hid (∀ j, j < k + 1 → outB 1 8 (W[j]?.getD 0) = false) := Lib.hid (fun j hj => by
                  by_cases e : j = k
                  · subst e; rw [HP.out]; simp [outB]; omega
                  · exact HO.out j (by omega))
                clear HA HO q1 q8
                go_wp2_with fail
                go_roundw
                case rel => exact ⟨k + 1, by omega, by go_num, HO1, HB.out⟩
                case measure => simp [intOf]; omega
          · have hn : W.any (outB 1 8) = false := by
              rw [List.any_eq_false]
              intro y hy
              obtain ⟨j, hj, rfl⟩ := List.getElem_of_mem hy
              have := HO.out j (by omega)
              simpa [hj] using this
            obtain rfl : q = false := by rw [← HQ.out]; exact hn
            have HB := Lib.hid hB
            clear hB hn
            go_wp2_with fail
            go_ret
            exact ⟨rfl, btr (bal (bz _) _) HB.out⟩
end Go.Proofs.YtpeminhnjdakiaaGreat
end

section
namespace Go.Proofs.YtpeminhnjdakiaaGreat
open Go.RowKit Go.Shelf

def arrI (l : List Int) : Array Value := (l.map (Value.int .i64)).toArray
theorem arrI_size (l : List Int) : (arrI l).size = l.length := by simp [arrI]
theorem arrI_get (l : List Int) (i : Nat) (h : i < l.length) : (arrI l)[i]? = some (.int .i64 (l[i]?.getD 0)) := by simp [arrI, h]
theorem arrI_set (l : List Int) (i : Nat) (x : Int) : (arrI l).setIfInBounds i (.int .i64 x) = arrI (l.set i x) := by simp [arrI, List.map_set]

def benchC (R : Int) (x : Value) (on : List Int) (m : Value) : Array Value := ([.int .i64 R, x] ++ on.map (Value.int .i64) ++ [m]).toArray
/-- Block b is a bench: its room, its wants, what is on it (9 numbers), its pauses. -/
structure BenchAt (w : World) (b : Nat) (R : Int) (x : Value) (on : List Int) (m : Value) : Prop where
  row : w.heap[b]? = some (.cells (benchC R x on m) 197 (0, 0))
  len : on.length = 9
theorem BenchAt.lt {w : World} {b : Nat} {R : Int} {x : Value} {on : List Int} {m : Value} (h : BenchAt w b R x on m) : b < w.heap.size := (Array.getElem?_eq_some_iff.1 h.row).1
theorem BenchAt.up {w w' : World} {b : Nat} {R : Int} {x : Value} {on : List Int} {m : Value} (h : BenchAt w b R x on m) (hb : Below w.heap.size w w') : BenchAt w' b R x on m := ⟨(hb.block _ h.lt).trans h.row, h.len⟩
theorem BenchAt.far {w w' : World} {b : Nat} {R : Int} {x : Value} {on : List Int} {m : Value} {n : Nat} (h : BenchAt w b R x on m) (hb : Below n w w') (hn : b < n) : BenchAt w' b R x on m := ⟨(hb.block _ hn).trans h.row, h.len⟩
theorem BenchAt.cells {w : World} {b : Nat} {R : Int} {x : Value} {on : List Int} {m : Value} (h : BenchAt w b R x on m) :
    w.cell? ⟨b, 0, none⟩ = some (.int .i64 R) ∧ w.cell? ⟨b, 1, none⟩ = some x ∧ w.cell? ⟨b, 11, none⟩ = some m := by
  have hl := h.len
  refine ⟨?_, ?_, ?_⟩
  · rw [cell_of_row w _ 0 _ _ _ h.row]; rfl
  · rw [cell_of_row w _ 1 _ _ _ h.row]; rfl
  · rw [cell_of_row w _ 11 _ _ _ h.row]
    simp [benchC, hl]
theorem BenchAt.on {w : World} {b : Nat} {R : Int} {x : Value} {on : List Int} {m : Value} (h : BenchAt w b R x on m) {i : Nat} (hi : i < 9) : w.cell? ⟨b, 2 + i, none⟩ = some (.int .i64 (on[i]?.getD 0)) := by
  have hl := h.len
  rw [cell_of_row w _ _ _ _ _ h.row]
  simp [benchC, List.getElem?_append, hl, hi, Nat.add_comm 2 i]
theorem BenchAt.set {w : World} {b : Nat} {R : Int} {x : Value} {on : List Int} {m : Value} (h : BenchAt w b R x on m) {i : Nat} (hi : i < 9) (v : Int) : BenchAt (w.setCell ⟨b, 2 + i, none⟩ (.int .i64 v)) b R x (on.set i v) m := by
  have hl := h.len
  refine ⟨?_, by simp [hl]⟩
  rw [heap_setCell_same w b (2 + i) _ _ _ h.row]
  congr 2
  unfold benchC
  apply Array.ext'
  simp only [Array.toList_setIfInBounds]
  rw [List.set_append_left _ _ (by simp [hl]; omega), List.set_append_right _ _ (by simp)]
  simp [List.map_set]
theorem BenchAt.load {w : World} {b : Nat} {R : Int} {x : Value} {on : List Int} {m : Value} (h : BenchAt w b R x on m) : (loadVar 194 ⟨b, 2, none⟩).run Tryz.prog w = .ok (.agg (arrI on)) w := by
  have hl : (loadCells ⟨b, 2, none⟩ (on.map (Value.int .i64)).length).run Tryz.prog w = .ok (on.map (Value.int .i64)).toArray w :=
    run_loadCells_list (P := Tryz.prog) w ⟨b, 2, none⟩ (on.map (Value.int .i64)) (fun j v hv => by
      have hadd : (⟨b, 2, none⟩ : Addr).add j = ⟨b, 2 + j, none⟩ := by unfold Addr.add; split <;> simp_all
      have hj : j < 9 := by have := (List.getElem?_eq_some_iff.1 hv).1; rw [List.length_map, h.len] at this; exact this
      rw [hadd, h.on hj]
      rw [← hv]
      simp [h.len, hj])
  have hi : (Tryz.prog.info? 194).map (·.size) = some 9 := by kernel_rfl
  cases hq : Tryz.prog.info? 194 with
  | none => simp [hq] at hi
  | some i =>
    have hs : i.size = 9 := by simpa [hq] using hi
    have hagg : (isAgg 194).run Tryz.prog w = .ok true w := by
      unfold isAgg
      rw [Sem.run_bind, run_underlying Tryz.underlying194 w]
      rfl
    rw [List.length_map, h.len] at hl
    unfold loadVar
    simp [Sem.run_bind, hagg, sizeOf, typeInfo, hq, hs, hl, arrI]

theorem wpList_load_var {P : Program} {ops : Array Oper} {rest : List Oper} {o : Oper} {a : Act} {w : World} {Q : Exit → Act → World → Prop} (hgd : o.guard = none) (ty : TypeId) (x : Operand) (ho : o.op = .load ty x)
    (ad : Addr) (hx : a.eval x = .pointer (some ad)) (v : Value) (hl : (loadVar ty ad).run P w = .ok v w) (h : wpList P ops Q rest (a.put o.dst v) w) : wpList P ops Q (o :: rest) a w :=
  wpList_plain hgd fun _ hK => by
    unfold Oper.wp execOp
    simp only [ho, hx, Instr.loadAt, Instr.sureAddr, Sem.run_bind, Sem.run_pure, Result.andThen_ok, hl]
    exact hK _ _ h

theorem wpList_index {P : Program} {ops : Array Oper} {rest : List Oper} {o : Oper} {a : Act} {w : World} {Q : Exit → Act → World → Prop} (hgd : o.guard = none) (ty : TypeId) (x y : Operand) (ho : o.op = .index ty x y)
    (vx vy : Value) (hx : a.eval x = vx) (hy : a.eval y = vy) (v : Value) (hl : (Instr.index ty vx vy).run P w = .ok v w) (h : wpList P ops Q rest (a.put o.dst v) w) : wpList P ops Q (o :: rest) a w :=
  wpList_plain hgd fun _ hK => by
    unfold Oper.wp execOp
    simp only [ho, hx, hy, Sem.run_bind, Sem.run_pure, Result.andThen_ok, hl]
    exact hK _ _ h
def bitV (on : List Int) (r : Int) : Int := on[r.toNat]?.getD 0
set_option maxRecDepth 100000 in
set_option maxHeartbeats 1000000 in
theorem has_any (b : Nat) (R : Int) (x : Value) (on : List Int) (m : Value) (r : Int) (w : World) (hD : BenchAt w b R x on m) (r0 : 0 ≤ r) (r1 : r ≤ 8) :
    Calls Tryz.prog 157 #[.pointer (some ⟨b, 0, none⟩), .int .i64 r] w fun e w' => e = .returned (.bool (decide (0 < bitV on r))) ∧ w = w' := by
  obtain ⟨n, rfl⟩ := Int.eq_ofNat_of_zero_le r0
  have c0 := hD.on (i := n) (by omega)
  have hz := hD.lt
  unfold bitV
  rw [Int.toNat_natCast]
  clear hD
  generalize on[n]?.getD 0 = v at *
  go_enter Tryz.func157, Tryz.ntmps157
  go_wp2_with fail
  go_ret
  exact ⟨rfl, rfl⟩
set_option maxRecDepth 100000 in
set_option maxHeartbeats 1000000 in
theorem put_any (b : Nat) (R : Int) (x : Value) (on : List Int) (m : Value) (r : Int) (w : World) (hD : BenchAt w b R x on m) (r0 : 0 ≤ r) (r1 : r ≤ 8) :
    Calls Tryz.prog 159 #[.pointer (some ⟨b, 0, none⟩), .int .i64 r] w fun e w' => (∃ v, e = .returned v) ∧ w' = w.setCell ⟨b, 2 + r.toNat, none⟩ (.int .i64 0) := by
  obtain ⟨n, rfl⟩ := Int.eq_ofNat_of_zero_le r0
  have c0 := hD.on (i := n) (by omega)
  have hz := hD.lt
  have hf : w.frozen? ⟨b, 2 + n, none⟩ = false := frozen_of_row w b _ _ _ hD.row
  rw [Int.toNat_natCast]
  clear hD
  generalize on[n]?.getD 0 = v at *
  go_enter Tryz.func159, Tryz.ntmps159
  go_wp2_with fail
  exact bodyPost_end (results_none rfl _ _ _) rfl ⟨⟨_, rfl⟩, rfl⟩
set_option maxRecDepth 100000 in
set_option maxHeartbeats 1000000 in
theorem take_any (b : Nat) (R : Int) (x : Value) (on : List Int) (m : Value) (r : Int) (w : World) (hD : BenchAt w b R x on m) (r0 : 0 ≤ r) (r1 : r ≤ 8) :
    Calls Tryz.prog 160 #[.pointer (some ⟨b, 0, none⟩), .int .i64 r] w fun e w' => (∃ v, e = .returned v) ∧ w' = w.setCell ⟨b, 2 + r.toNat, none⟩ (.int .i64 1) := by
  obtain ⟨n, rfl⟩ := Int.eq_ofNat_of_zero_le r0
  have c0 := hD.on (i := n) (by omega)
  have hz := hD.lt
  have hf : w.frozen? ⟨b, 2 + n, none⟩ = false := frozen_of_row w b _ _ _ hD.row
  rw [Int.toNat_natCast]
  clear hD
  generalize on[n]?.getD 0 = v at *
  go_enter Tryz.func160, Tryz.ntmps160
  go_wp2_with fail
  exact bodyPost_end (results_none rfl _ _ _) rfl ⟨⟨_, rfl⟩, rfl⟩

theorem run_index_on (on : List Int) (hl : on.length = 9) {k : Nat} (hk : k < 9) (w : World) : (Instr.index 194 (.agg (arrI on)) (.int .i64 (k : Int))).run Tryz.prog w = .ok (.int .i64 (on[k]?.getD 0)) w := by
  obtain ⟨i0, hi, hz0, hz1, hz2⟩ := info_parts num3
  simp [Instr.index, run_underlying Tryz.underlying194, asIntOf, part, isAgg, run_underlying Tryz.underlying3, sizeOf, typeInfo, hi, hz1, arrI, hl, hk, go_sem]
def sumL (l : List Int) : Int := l.foldl (· + ·) 0
theorem sumL_snoc (l : List Int) (x : Int) : sumL (l ++ [x]) = sumL l + x := by simp [sumL, List.foldl_append]
theorem sumL_bd (on : List Int) (h : ∀ y ∈ on, 0 ≤ y ∧ y ≤ 1) : ∀ k, k ≤ on.length → 0 ≤ sumL (on.take k) ∧ sumL (on.take k) ≤ k
  | 0, _ => by simp [sumL]
  | k + 1, hk => by
    have ih := sumL_bd on h k (by omega)
    rw [List.take_succ_eq_append_getElem (by omega), sumL_snoc]
    have := h on[k] (List.getElem_mem _)
    omega
set_option maxRecDepth 100000 in
set_option maxHeartbeats 1000000 in
theorem many_any (b : Nat) (R : Int) (x : Value) (on : List Int) (m : Value) (w : World) (hD : BenchAt w b R x on m) (h01 : ∀ y ∈ on, 0 ≤ y ∧ y ≤ 1) :
    Calls Tryz.prog 158 #[.pointer (some ⟨b, 0, none⟩)] w fun e w' => e = .returned (.int .i64 (sumL on)) ∧ w = w' := by
  have hld := hD.load
  have hz := hD.lt
  have hl := hD.len
  clear hD
  go_enter Tryz.func158, Tryz.ntmps158
  go_wp2_with (refine wpList_load_var rfl 194 _ rfl _ rfl _ hld ?_)
  go_loopw [3, 5, 10] (fun s3 _ i wr => ∃ k : Nat, k ≤ 9 ∧ i = .int .i64 k ∧ s3 = .int .i64 (sumL (on.take k)) ∧ w = wr) (fun _ _ i _ => 9 - (intOf i).toNat)
  case atStart => exact ⟨0, Nat.zero_le _, rfl, rfl, rfl⟩
  case round =>
    obtain ⟨k, hk, rfl, rfl, rfl⟩ := hrel
    by_cases hlt : k < 9
    · have hix := run_index_on on hl hlt w
      have HT : Hid (sumL (on.take (k + 1)) = sumL (on.take k) + on[k]?.getD 0) := Lib.hid (by
        rw [List.take_succ_eq_append_getElem (by omega), sumL_snoc]; simp [hl, hlt])
      have hb := h01 (on[k]?.getD 0) (by simp [hl, hlt])
      have hs := sumL_bd on h01 k (by omega)
      generalize on[k]?.getD 0 = v at *
      generalize sumL (on.take k) = s at *
      obtain ⟨b0, b1⟩ := hb
      go_wp2_with fail
      go_roundw
      case rel => exact ⟨k + 1, by omega, by go_num, by rw [HT.out], trivial⟩
      case measure => simp [intOf]; omega
    · have hke : k = 9 := by omega
      have he : on.take k = on := by rw [List.take_of_length_le (by omega)]
      rw [he]
      clear he hke
      go_wp2_with fail
      go_ret
      exact ⟨rfl, rfl⟩
end Go.Proofs.YtpeminhnjdakiaaGreat
end

section
namespace Go.Proofs.YtpeminhnjdakiaaGreat
open Go.RowKit Go.Shelf

def eqB (r y : Int) : Bool := r == y
set_option maxRecDepth 100000 in
set_option maxHeartbeats 400000 in
theorem index_any (x : Value) (xs : List Int) (r : Int) (w : World) (hx0 : RdI w .i64 x xs) (hl : xs.length ≤ 1000) :
    Calls Tryz.prog 19 #[x, .int .i64 r] w fun e w' => e = .returned (.int .i64 (idxOf (eqB r) xs)) ∧ w = w' := by
  obtain ⟨a, ca, rfl, _, hcm, hx⟩ := hx0.form
  clear hx0 hcm
  go_enter Tryz.func19, Tryz.ntmps19
  go_wp2
  go_loopw [5, 8] (fun j i wr => ∃ k : Nat, k ≤ xs.length ∧ i = .int .i64 k ∧ Hid (∀ i, i < k → eqB r (xs[i]?.getD 0) = false) ∧ w = wr) (fun _ i _ => xs.length - (intOf i).toNat)
  case atStart => exact ⟨0, Nat.zero_le _, rfl, Lib.hid (by intro i h1; omega), rfl⟩
  case round =>
    obtain ⟨k, hk, rfl, HT, rfl⟩ := hrel
    by_cases hlt : k < xs.length
    · obtain ⟨bx, ox, rfl, hbx, hcx⟩ := hx (by omega)
      have gx := hcx k hlt
      clear hx hcx
      generalize hp : xs[k]?.getD 0 = p at *
      have HP := Lib.hid hp; clear hp
      by_cases hb : r = p
      · have t1 : (r == p) = true := by simp [hb]
        have HE : Hid (eqB r p = true) := Lib.hid t1
        clear hb
        go_wp2_with fail
        go_ret
        exact ⟨ret_int (find_none_step HT.out hlt (by rw [HP.out]; exact HE.out)).symm, rfl⟩
      · have t1 : (r == p) = false := by simp [hb]
        have HT1 : Hid (∀ i, i < k + 1 → eqB r (xs[i]?.getD 0) = false) := Lib.hid (fun i h1 => by
          by_cases e : i = k
          · subst e; rw [HP.out]; exact t1
          · exact HT.out i (by omega))
        clear hb HT
        go_wp2_with fail
        go_roundw
        case rel => exact ⟨k + 1, by omega, by go_num, HT1, trivial⟩
        case measure => simp [intOf]; omega
    · have HN : Hid (idxOf (eqB r) xs = -1) := Lib.hid (find_none fun i hi => HT.out i (by omega))
      go_wp2_with fail
      go_ret
      exact ⟨ret_int HN.out.symm, rfl⟩
theorem contains_any (x : Value) (xs : List Int) (r : Int) (w : World) (hx0 : RdI w .i64 x xs) (hl : xs.length ≤ 1000) :
    Calls Tryz.prog 60 #[x, .int .i64 r] w fun e w' => e = .returned (.bool (xs.any (eqB r))) ∧ w = w' := by
  have H := Lib.hid (idxOf_any (eqB r) xs)
  have HI := Lib.hid (index_any x xs r w hx0 hl)
  generalize idxOf (eqB r) xs = q at *
  go_enter Tryz.func60, Tryz.ntmps60
  go_wp2_with fail
  refine HI.out.mono ?_
  rintro e w2 ⟨rfl, rfl⟩
  go_wp2_with fail
  go_ret
  exact ⟨ret_bool H.out, rfl⟩
theorem run_cutMid (g o n c lo hi : Nat) (h1 : lo ≤ hi) (h2 : hi ≤ c) : ∃ ad, (∀ w : World, (Instr.slice 32 (.slice (some ⟨g, o, none⟩) n c) (some (.int .i64 (lo : Int))) (some (.int .i64 (hi : Int))) none).run Tryz.prog w = .ok (.slice (some ad) (hi - lo) (c - lo)) w) ∧ (lo < hi → ad = ⟨g, o + lo, none⟩) := by
  obtain ⟨i0, hi0, hz0, hz1, hz2⟩ := info_parts num3
  have k1 : ¬ ((lo : Int) < 0) := by omega
  have k2 : ¬ ((hi : Int) < (lo : Int)) := by omega
  have k3 : ¬ ((c : Int) < (hi : Int)) := by omega
  by_cases hq : c = lo
  · have hh : hi = lo := by omega
    subst hh; subst hq
    refine ⟨⟨g, o, none⟩, fun w => ?_, fun h => by omega⟩
    simp [Instr.slice, run_underlying Tryz.underlying32, Sem.run_bind, Instr.sliceBounds, Instr.sliceBound, asIntOf, sizeOf, typeInfo, hi0, Addr.add]
  · refine ⟨⟨g, o + lo, none⟩, fun w => ?_, fun _ => rfl⟩
    simp [Instr.slice, run_underlying Tryz.underlying32, Sem.run_bind, Instr.sliceBounds, Instr.sliceBound, asIntOf, sizeOf, typeInfo, hi0, hz1, Addr.add, hq, h1, h2]
theorem rdI_mid {w : World} {g o n c lo hi : Nat} {ad : Addr} {W : List Int} (hn : n = W.length) (h : RdI w .i64 (.slice (some ⟨g, o, none⟩) n c) W) (h1 : lo ≤ hi) (h2 : hi ≤ n) (had : lo < hi → ad = ⟨g, o + lo, none⟩) : RdI w .i64 (.slice (some ad) (hi - lo) (c - lo)) ((W.drop lo).take (hi - lo)) := by
  subst hn
  obtain ⟨_, _, e, k1, k2, hx⟩ := h.form
  cases e
  have hl : ((W.drop lo).take (hi - lo)).length = hi - lo := by rw [List.length_take, List.length_drop]; omega
  refine ⟨_, _, by rw [hl], by omega, by omega, fun hne => ?_⟩
  have hlt : lo < hi := by
    rcases Nat.lt_or_ge lo hi with h | h
    · exact h
    · rw [show hi - lo = 0 by omega] at hne; simp at hne
  obtain ⟨b, off, e, hb, hc⟩ := hx (by omega)
  cases e
  refine ⟨g, o + lo, by rw [had hlt], hb, fun j u hu => ?_⟩
  have hj : j < hi - lo := by have := (List.getElem?_eq_some_iff.1 hu).1; rw [List.length_map, hl] at this; exact this
  have := hc (lo + j) (by omega)
  rw [show o + lo + j = o + (lo + j) by omega, this, ← hu]
  have hj2 : lo + j < W.length := by omega
  simp [hj, List.getElem?_drop, hj2]

abbrev Ents := List ((Int × Int) × Int × Nat)
/-- The want i. -/
def want (W : List Int) (i : Nat) : Int := W[i]?.getD 0
/-- The map bears the pairs of wants of the same reamer up to (i, k). -/
def FillM (W : List Int) (L : Ents) (k i : Nat) : Prop :=
  ∀ x m, (∃ t, (x, m, t) ∈ L) ↔ ∃ a b : Nat, a < b ∧ b < W.length ∧ x = ((a : Int), (b : Int)) ∧ m = want W b ∧ want W b = want W a ∧ (b < k ∨ b = k ∧ a < i)
/-- None of the same reamer lies between. -/
def soleB (W : List Int) (a b : Nat) : Bool := !((W.drop (a + 1)).take (b - (a + 1))).any (eqB (want W b))
/-- The map bears the pauses. -/
def PsM (W : List Int) (L : Ents) : Prop :=
  ∀ x m, (∃ t, (x, m, t) ∈ L) ↔ ∃ a b : Nat, a < b ∧ b < W.length ∧ x = ((a : Int), (b : Int)) ∧ m = want W b ∧ want W b = want W a ∧ soleB W a b = true
theorem fill_nil (W : List Int) : FillM W [] 0 0 := by
  intro x m
  constructor
  · rintro ⟨t, h⟩; cases h
  · rintro ⟨a, b, h1, h2, _, _, _, h⟩; omega
theorem fill_next {W : List Int} {L : Ents} {k : Nat} (h : FillM W L k k) : FillM W L (k + 1) 0 := by
  intro x m
  rw [h x m]
  constructor
  · rintro ⟨a, b, h1, h2, h3, h4, h5, h6⟩; exact ⟨a, b, h1, h2, h3, h4, h5, by omega⟩
  · rintro ⟨a, b, h1, h2, h3, h4, h5, h6⟩; exact ⟨a, b, h1, h2, h3, h4, h5, by omega⟩
theorem fill_skip {W : List Int} {L : Ents} {k i : Nat} (h : FillM W L k i) (hne : want W k ≠ want W i) : FillM W L k (i + 1) := by
  intro x m
  rw [h x m]
  constructor
  · rintro ⟨a, b, h1, h2, h3, h4, h5, h6⟩; exact ⟨a, b, h1, h2, h3, h4, h5, by omega⟩
  · rintro ⟨a, b, h1, h2, h3, h4, h5, h6⟩
    refine ⟨a, b, h1, h2, h3, h4, h5, ?_⟩
    rcases h6 with h6 | ⟨rfl, h6⟩
    · exact .inl h6
    · refine .inr ⟨rfl, ?_⟩
      rcases Nat.lt_or_ge a i with h | h
      · exact h
      · have : a = i := by omega
        subst this; exact absurd h5 hne
theorem fill_put {W : List Int} {L L1 : Ents} {k i : Nat} (h : FillM W L k i) (hi : i < k) (hk : k < W.length) (he : want W k = want W i)
    (hp : ∀ x m, (∃ t, (x, m, t) ∈ L1) ↔ (x = ((i : Int), (k : Int)) ∧ m = want W k) ∨ (x ≠ ((i : Int), (k : Int)) ∧ ∃ t, (x, m, t) ∈ L)) : FillM W L1 k (i + 1) := by
  intro x m
  rw [hp, h x m]
  constructor
  · rintro (⟨rfl, rfl⟩ | ⟨_, a, b, h1, h2, h3, h4, h5, h6⟩)
    · exact ⟨i, k, hi, hk, rfl, rfl, he, by omega⟩
    · exact ⟨a, b, h1, h2, h3, h4, h5, by omega⟩
  · rintro ⟨a, b, h1, h2, rfl, rfl, h5, h6⟩
    by_cases e : a = i ∧ b = k
    · obtain ⟨rfl, rfl⟩ := e; exact .inl ⟨rfl, rfl⟩
    · refine .inr ⟨fun e' => ?_, a, b, h1, h2, rfl, rfl, h5, by omega⟩
      simp only [Prod.mk.injEq] at e'
      exact e ⟨by omega, by omega⟩
/-- An entry is a pause. -/
def clE (W : List Int) (e : (Int × Int) × Int × Nat) : Bool := soleB W e.1.1.toNat e.1.2.toNat
theorem clm_of {W : List Int} {L L' : Ents} {seen : Array Nat} (h : FillM W L W.length 0) (h1 : ∀ e ∈ L', e ∈ L) (h2 : ∀ e ∈ L, clE W e = true → e ∈ L') (h3 : ∀ e ∈ L', e.2.2 ∈ seen → clE W e = true) (h4 : ∀ e ∈ L', e.2.2 ∈ seen) : PsM W L' := by
  intro x m
  constructor
  · rintro ⟨t, ht⟩
    obtain ⟨a, b, g1, g2, rfl, rfl, g5, _⟩ := (h x m).1 ⟨t, h1 _ ht⟩
    refine ⟨a, b, g1, g2, rfl, rfl, g5, ?_⟩
    have := h3 _ ht (h4 _ ht)
    simpa [clE] using this
  · rintro ⟨a, b, g1, g2, rfl, rfl, g5, g3⟩
    obtain ⟨t, ht⟩ := (h _ _).2 ⟨a, b, g1, g2, rfl, rfl, g5, .inl g2⟩
    exact ⟨t, h2 _ ht (by simpa [clE] using g3)⟩
theorem fill_at {W : List Int} {L : Ents} (h : FillM W L W.length 0) {e : (Int × Int) × Int × Nat} (he : e ∈ L) : ∃ a b : Nat, a < b ∧ b < W.length ∧ e.1 = ((a : Int), (b : Int)) ∧ e.2.1 = want W b := by
  obtain ⟨a, b, h1, h2, h3, h4, _⟩ := (h e.1 e.2.1).1 ⟨e.2.2, he⟩
  exact ⟨a, b, h1, h2, h3, h4⟩

/-- Each element of a list without repetition. -/
theorem nodup_le {α : Type} [DecidableEq α] : ∀ (l m : List α), l.Nodup → (∀ x ∈ l, x ∈ m) → l.length ≤ m.length := by
  intro l
  induction l with
  | nil => intro m _ _; simp
  | cons x r ih =>
    intro m hn hs
    rw [List.nodup_cons] at hn
    have hx := hs x (by simp)
    have := ih (m.erase x) hn.2 (fun y hy => by
      rw [List.mem_erase_of_ne]
      · exact hs y (by simp [hy])
      · rintro rfl; exact hn.1 hy)
    rw [List.length_erase_of_mem hx] at this
    have := List.length_pos_of_mem hx
    simp only [List.length_cons]
    omega
theorem nodup_len {α : Type} [DecidableEq α] (l m : List α) (hl : l.Nodup) (hm : m.Nodup) (h : ∀ x, x ∈ l ↔ x ∈ m) : l.length = m.length :=
  Nat.le_antisymm (nodup_le l m hl fun x => (h x).1) (nodup_le m l hm fun x => (h x).2)
/-- How many entries a range has not met yet. -/
def unmet : Option Obj → Option Obj → Nat
  | some (.map es _), some (.mapIter _ _ seen _) => (es.filter fun e => !seen.contains e.born).size
  | _, _ => 0
theorem unmet_eq (L : Ents) (c : Nat) (seen : Array Nat) (m : Option Nat) (s l : Nat) : unmet (some (.map (entsOf L) c)) (some (.mapIter m s seen l)) = (L.filter fun e => !seen.contains e.2.2).length := by
  simp [unmet, entsOf, List.filter_map, Function.comp_def]
theorem born_inj {L : Ents} {c : Nat} (hL : OkL L c) {e e' : (Int × Int) × Int × Nat} (h1 : e ∈ L) (h2 : e' ∈ L) (h : e.2.2 = e'.2.2) : e = e' := by
  obtain ⟨i, hi, rfl⟩ := List.getElem_of_mem h1
  obtain ⟨j, hj, rfl⟩ := List.getElem_of_mem h2
  have hb := hL.born
  rw [List.nodup_iff_pairwise_ne, List.pairwise_iff_getElem] at hb
  rcases Nat.lt_trichotomy i j with h' | rfl | h'
  · exact absurd (by rw [List.getElem_map, List.getElem_map]; exact h) (hb i j (by simpa) (by simpa) h')
  · rfl
  · exact absurd (by rw [List.getElem_map, List.getElem_map]; exact h.symm) (hb j i (by simpa) (by simpa) h')
theorem nodup_ents {L : Ents} {c : Nat} (hL : OkL L c) : L.Nodup := by
  have hb := hL.born
  unfold List.Nodup at hb ⊢
  rw [List.pairwise_map] at hb
  exact hb.imp fun h e => h (by rw [e])
theorem unmet_lt {L L2 : Ents} {c : Nat} {seen : Array Nat} {e : (Int × Int) × Int × Nat} (h2 : OkL L2 c) (hs : ∀ x ∈ L2, x ∈ L) (he : e ∈ L) (hes : e.2.2 ∉ seen) :
    (L2.filter fun x => !(seen.push e.2.2).contains x.2.2).length < (L.filter fun x => !seen.contains x.2.2).length := by
  have hm : e ∈ L.filter fun x => !seen.contains x.2.2 := by
    rw [List.mem_filter]; exact ⟨he, by simpa using hes⟩
  have h := nodup_le (L2.filter fun x => !(seen.push e.2.2).contains x.2.2) ((L.filter fun x => !seen.contains x.2.2).erase e) ((nodup_ents h2).filter _) (fun x hx => by
    rw [List.mem_filter] at hx
    obtain ⟨hx1, hx2⟩ := hx
    simp only [Array.contains_push, Bool.not_or, Bool.and_eq_true] at hx2
    have hne : x ≠ e := by rintro rfl; simp at hx2
    rw [List.mem_erase_of_ne hne, List.mem_filter]
    exact ⟨hs x hx1, by simp at hx2 ⊢; exact hx2.1⟩)
  rw [List.length_erase_of_mem hm] at h
  have := List.length_pos_of_mem hm
  omega


/-- Block b is the bench of a day, with on it what a list of 9 numbers says. -/
def IsBench (w : World) (b : Nat) (R : Int) (W : List Int) (on : List Int) : Prop :=
  ∃ x M L c, BenchAt w b R x on (.map (some M)) ∧ w.heap[M]? = some (.map (entsOf L) c) ∧ OkL L c ∧ PsM W L ∧ RdI w .i64 x W
theorem IsBench.mono {w w' : World} {b : Nat} {R : Int} {W on : List Int} (h : IsBench w b R W on) (hb : Below w.heap.size w w') : IsBench w' b R W on := by
  obtain ⟨x, M, L, c, h1, h2, h3, h4, h5⟩ := h
  exact ⟨x, M, L, c, h1.up hb, (hb.block _ (Array.getElem?_eq_some_iff.1 h2).1).trans h2, h3, h4, h5.mono hb⟩
theorem IsBench.lt {w : World} {b : Nat} {R : Int} {W on : List Int} (h : IsBench w b R W on) : b < w.heap.size := by
  obtain ⟨x, M, L, c, h1, _⟩ := h; exact h1.lt
end Go.Proofs.YtpeminhnjdakiaaGreat
end

section
namespace Go.Proofs.YtpeminhnjdakiaaGreat
open Go.RowKit Go.Shelf

def zeros : List Int := List.replicate 9 0
theorem BenchAt.clear {b : Nat} {R : Int} {x m : Value} (k : Nat) : ∀ (i : Nat) (w : World), i + k ≤ 9 → BenchAt w b R x zeros m → BenchAt (w.setCells b (2 + i) (List.replicate k (.int .i64 0))) b R x zeros m := by
  induction k with
  | zero => intro i w _ h; exact h
  | succ k ih =>
    intro i w hi h
    rw [List.replicate_succ, World.setCells]
    have := h.set (i := i) (by omega) 0
    rw [show zeros.set i 0 = zeros from List.set_replicate_self] at this
    exact ih (i + 1) _ (by omega) this
theorem run_cutToI (g o n c i : Nat) (h : i ≤ c) (w : World) : (Instr.slice 32 (.slice (some ⟨g, o, none⟩) n c) none (some (.int .i64 (i : Int))) none).run Tryz.prog w = .ok (.slice (some ⟨g, o, none⟩) i c) w := by
  obtain ⟨i0, hi, hz0, hz1, hz2⟩ := info_parts num3
  have h2 : ¬ ((c : Int) < (i : Int)) := by omega
  simp [Instr.slice, run_underlying Tryz.underlying32, Sem.run_bind, Instr.sliceBounds, Instr.sliceBound, asIntOf, h, sizeOf, typeInfo, hi, Addr.add]
theorem bsetsL {a : World} {g : Nat} (hg : a.heap.size ≤ g) (vs : List Value) : ∀ (o : Nat) (w : World), Below a.heap.size a w → Below a.heap.size a (w.setCells g o vs) := by
  induction vs with
  | nil => intro o w h; exact h
  | cons v vs ih => intro o w h; exact ih (o + 1) _ (bset h hg _)
theorem heap_setCells_far {g : Nat} (k : Nat) (hk : k ≠ g) (vs : List Value) : ∀ (o : Nat) (w : World), (w.setCells g o vs).heap[k]? = w.heap[k]? := by
  induction vs with
  | nil => intro o w; rfl
  | cons v vs ih => intro o w; rw [World.setCells, ih]; exact Go.Deep.blk_setCell_other w _ v k hk
/-- newBench under way. -/
structure Mid (w wr : World) (R : Int) (x : Value) (L : Ents) (c : Nat) : Prop where
  B : Below w.heap.size w wr
  D : BenchAt wr (w.heap.size + 1 + 1) R x zeros (.map (some (w.heap.size + 1)))
  M : wr.heap[w.heap.size + 1]? = some (.map (entsOf L) c)
  ok : OkL L c
theorem Mid.up {w wr w' : World} {R : Int} {x : Value} {L : Ents} {c : Nat} (h : Mid w wr R x L c) (hb : Below wr.heap.size wr w') : Mid w w' R x L c :=
  ⟨btr h.B hb, h.D.up hb, (hb.block _ (Array.getElem?_eq_some_iff.1 h.M).1).trans h.M, h.ok⟩
theorem Mid.put {w wr : World} {R : Int} {x : Value} {L L1 : Ents} {c c1 : Nat} (h : Mid w wr R x L c) (h1 : OkL L1 c1) : Mid w (wr.putObj (w.heap.size + 1) (.map (entsOf L1) c1)) R x L1 c1 :=
  ⟨below_put h.B _ (by omega), ⟨(World.putObj_heap_other (by omega)).trans h.D.row, h.D.len⟩, World.putObj_heap_same (Array.getElem?_eq_some_iff.1 h.M).1, h1⟩
theorem Mid.next {w wr : World} {R : Int} {x : Value} {L : Ents} {c bi n : Nat} {o : Obj} (h : Mid w wr R x L c) (hb : w.heap.size + 1 + 1 < bi) : Mid w ((wr.drewN n).putObj bi o) R x L c :=
  ⟨below_put (Below.drewN' n h.B) _ (by omega), ⟨(World.putObj_heap_other (by omega)).trans h.D.row, h.D.len⟩, (World.putObj_heap_other (by omega)).trans h.M, h.ok⟩

theorem mid_start {w W3 : World} {R : Int} {x : Value} (hB : Below w.heap.size w W3) (hD : BenchAt W3 (w.heap.size + 1 + 1) R x zeros (.map (some (w.heap.size + 1)))) (hM : W3.heap[w.heap.size + 1]? = some (.map (entsOf []) 0)) :
    Mid w (W3.setCells (w.heap.size + 1 + 1) 2 (List.replicate 9 (.int .i64 0))) R x [] 0 :=
  ⟨bsetsL (by omega) _ _ _ hB, BenchAt.clear 9 0 W3 (by omega) hD, (heap_setCells_far _ (by omega) _ _ _).trans hM, ⟨by simp, by simp, by simp⟩⟩

def BenchOk (R : Int) (W : List Int) (w : World) (e : Ending) (w' : World) : Prop := ∃ b, e = .returned (.pointer (some ⟨b, 0, none⟩)) ∧ w.heap.size ≤ b ∧ IsBench w' b R W zeros ∧ Below w.heap.size w w'
set_option maxRecDepth 100000 in
set_option maxHeartbeats 4000000 in
theorem newbench_any (R : Int) (x : Value) (W : List Int) (w : World) (hx0 : RdI w .i64 x W) (hl : W.length ≤ 16) :
    Calls Tryz.prog 218 #[.agg #[.int .i64 R, x]] w (BenchOk R W w) := by
  obtain ⟨a, ca, rfl, hca, hca2, hx⟩ := hx0.form
  have hmm := @run_makeMap Tryz.prog
  have HX0 := Lib.hid hx0
  clear hca2 hx0
  have hD0 : BenchAt (((w.alloc (Obj.cells #[Value.int IntKind.i64 R, Value.slice a W.length ca] 126)).alloc (Obj.map #[] 0)).alloc (Obj.cells (benchC R (.slice a W.length ca) zeros (.map (some (w.heap.size + 1)))) 197)) (w.heap.size + 1 + 1) R (.slice a W.length ca) zeros (.map (some (w.heap.size + 1))) := by
    refine ⟨?_, rfl⟩
    have h := heap_alloc_new ((w.alloc (Obj.cells #[Value.int IntKind.i64 R, Value.slice a W.length ca] 126)).alloc (Obj.map #[] 0)) (Obj.cells (benchC R (.slice a W.length ca) zeros (.map (some (w.heap.size + 1)))) 197)
    rw [World.size_alloc, World.size_alloc] at h
    exact h
  have hM0 : (((w.alloc (Obj.cells #[Value.int IntKind.i64 R, Value.slice a W.length ca] 126)).alloc (Obj.map #[] 0)).alloc (Obj.cells (benchC R (.slice a W.length ca) zeros (.map (some (w.heap.size + 1)))) 197)).heap[w.heap.size + 1]? = some (.map (entsOf []) 0) := by
    have h := heap_alloc_new (w.alloc (Obj.cells #[Value.int IntKind.i64 R, Value.slice a W.length ca] 126)) (Obj.map #[] 0)
    rw [World.size_alloc] at h
    exact (Below.heap_alloc _ _ _ (by simp)).trans h
  have hcl : (Builtin.clear_ #[32] 0 #[.slice (some ⟨w.heap.size + 1 + 1, 2, none⟩) 9 9]).run Tryz.prog (((w.alloc (Obj.cells #[Value.int IntKind.i64 R, Value.slice a W.length ca] 126)).alloc (Obj.map #[] 0)).alloc (Obj.cells (benchC R (.slice a W.length ca) zeros (.map (some (w.heap.size + 1)))) 197)) = .ok (.tuple #[]) ((((w.alloc (Obj.cells #[Value.int IntKind.i64 R, Value.slice a W.length ca] 126)).alloc (Obj.map #[] 0)).alloc (Obj.cells (benchC R (.slice a W.length ca) zeros (.map (some (w.heap.size + 1)))) 197)).setCells (w.heap.size + 1 + 1) 2 (List.replicate 9 (.int .i64 0))) := by
    refine Lib.run_clear_slice _ 32 3 0 (.int .i64 0) Tryz.underlying32 (fun w => by kernel_rfl) rfl rfl (w.heap.size + 1 + 1) 2 9 9 (by omega) (fun j hj => ?_) (fun j hj => frozen_of_row _ _ _ _ _ hD0.row)
    have := hD0.on (i := j) hj
    rw [this]
    rfl
  have HM1 := Lib.hid (mid_start (bal (bal (bal (bz w) (Obj.cells #[Value.int IntKind.i64 R, Value.slice a W.length ca] 126)) (Obj.map #[] 0)) (Obj.cells (benchC R (.slice a W.length ca) zeros (.map (some (w.heap.size + 1)))) 197)) hD0 hM0)
  clear hD0 hM0
  have he : benchC R (.slice a W.length ca) zeros (.map (some (w.heap.size + 1))) = #[Value.int IntKind.i64 R, Value.slice a W.length ca, Value.int IntKind.i64 0, Value.int IntKind.i64 0, Value.int IntKind.i64 0, Value.int IntKind.i64 0, Value.int IntKind.i64 0, Value.int IntKind.i64 0, Value.int IntKind.i64 0, Value.int IntKind.i64 0, Value.int IntKind.i64 0, Value.map (some (w.heap.size + 1))] := rfl
  rw [he] at hcl HM1
  clear he
  rw [show List.replicate 9 (Value.int .i64 0) = [Value.int IntKind.i64 0, Value.int IntKind.i64 0, Value.int IntKind.i64 0, Value.int IntKind.i64 0, Value.int IntKind.i64 0, Value.int IntKind.i64 0, Value.int IntKind.i64 0, Value.int IntKind.i64 0, Value.int IntKind.i64 0] from rfl] at hcl HM1
  go_enter Tryz.func218, Tryz.ntmps218
  go_upto_region 3 with fail
  clear hmm hcl
  obtain ⟨d0, d1, d2⟩ := HM1.out.D.cells
  have dz := HM1.out.D.lt
  generalize (((w.alloc (Obj.cells #[Value.int IntKind.i64 R, Value.slice a W.length ca] 126)).alloc (Obj.map #[] 0)).alloc (Obj.cells #[Value.int IntKind.i64 R, Value.slice a W.length ca, Value.int IntKind.i64 0, Value.int IntKind.i64 0, Value.int IntKind.i64 0, Value.int IntKind.i64 0, Value.int IntKind.i64 0, Value.int IntKind.i64 0, Value.int IntKind.i64 0, Value.int IntKind.i64 0, Value.int IntKind.i64 0, Value.map (some (w.heap.size + 1))] 197)).setCells (w.heap.size + 1 + 1) 2 [Value.int IntKind.i64 0, Value.int IntKind.i64 0, Value.int IntKind.i64 0, Value.int IntKind.i64 0, Value.int IntKind.i64 0, Value.int IntKind.i64 0, Value.int IntKind.i64 0, Value.int IntKind.i64 0, Value.int IntKind.i64 0] = wv at *
  go_wp2_with fail
  go_loopw [4, 5, 6, 7, 23] (fun _ _ _ _ i wr => ∃ (k : Nat) (L : Ents) (c : Nat), k ≤ W.length ∧ i = .int .i64 k ∧ Mid w wr R (.slice a W.length ca) L c ∧ Hid (FillM W L k 0)) (fun _ _ _ _ i _ => W.length - (intOf i).toNat)
  case atStart => exact ⟨0, [], 0, Nat.zero_le _, rfl, HM1.out, Lib.hid (fill_nil W)⟩
  case round =>
    obtain ⟨k, L, c, hk, rfl, hM, HF⟩ := hrel
    clear d0 d1 d2 dz HM1
    obtain ⟨d0, d1, d2⟩ := hM.D.cells
    have dz := hM.D.lt
    have HM := Lib.hid hM; clear hM
    by_cases hlt : k < W.length
    · obtain ⟨bx, ox, rfl, hbx, hcx⟩ := hx (by omega)
      have gx := (HM.out.B.cell (p := ⟨bx, ox + k, none⟩) hbx).trans (hcx k hlt)
      have hcx' := Lib.hid hcx
      have hbz := Nat.lt_of_lt_of_le hbx HM.out.B.size
      have hs := run_cutToI bx ox W.length ca k (by omega)
      clear hx hcx
      have HP : Hid (W[k]?.getD 0 = want W k) := Lib.hid rfl
      generalize W[k]?.getD 0 = q at *
      go_wp2_with fail
      clear hs
      go_loopw [6, 7, 36] (fun _ _ i ws => ∃ (i' : Nat) (L : Ents) (c : Nat), i' ≤ k ∧ i = .int .i64 i' ∧ Mid w ws R (.slice (some ⟨bx, ox, none⟩) W.length ca) L c ∧ Hid (FillM W L k i')) (fun _ _ i _ => k - (intOf i).toNat)
      case atStart => exact ⟨0, L, c, Nat.zero_le _, rfl, HM.out, HF⟩
      case round =>
        clear HM HF L c d0 d1 d2 dz gx hbz
        obtain ⟨i, L, c, hi, rfl, hM, HF⟩ := hrel
        obtain ⟨d0, d1, d2⟩ := hM.D.cells
        have dz := hM.D.lt
        have HM := Lib.hid hM; clear hM
        have hbz := Nat.lt_of_lt_of_le hbx HM.out.B.size
        by_cases hli : i < k
        · have gx := (HM.out.B.cell (p := ⟨bx, ox + i, none⟩) hbx).trans (hcx'.out i (by omega))
          have HP' : Hid (W[i]?.getD 0 = want W i) := Lib.hid rfl
          generalize W[i]?.getD 0 = q' at *
          by_cases hqq : q = q'
          · have t1 : (q == q') = true := by simp [hqq]
            have HQ := Lib.hid hqq; clear hqq
            obtain ⟨L1, c1, hput, hok1, hkeys⟩ := run_putL HM.out.M HM.out.ok ((i : Int), (k : Int)) q
            have HK1 := Lib.hid hkeys
            unfold kv at hput
            simp only at hput
            clear hkeys
            go_wp2_with fail
            clear hput
            go_roundw
            case rel => exact ⟨i + 1, L1, c1, by omega, by go_num, HM.out.put hok1, Lib.hid (fill_put HF.out hli hlt (by rw [← HP.out, ← HP'.out]; exact HQ.out) (by rw [← HP.out]; exact HK1.out))⟩
            case measure => simp [intOf]; omega
          · have t1 : (q == q') = false := by simp [hqq]
            have HQ := Lib.hid hqq; clear hqq
            go_wp2_with fail
            go_roundw
            case rel => exact ⟨i + 1, L, c, by omega, by go_num, HM.out, Lib.hid (fill_skip HF.out (by rw [← HP.out, ← HP'.out]; exact HQ.out))⟩
            case measure => simp [intOf]; omega
        · have hik : i = k := by omega
          subst hik
          go_wp2_with fail
          go_roundw
          case rel => exact ⟨i + 1, L, c, by omega, by go_num, HM.out, Lib.hid (fill_next HF.out)⟩
          case measure => simp [intOf]; omega
    · have hkl : k = W.length := by omega
      have HKL := Lib.hid hkl; clear hkl
      have hrg : (Instr.range 195 (.map (some (w.heap.size + 1)))).run Tryz.prog wr = .ok (.pointer (some ⟨wr.heap.size, 0, none⟩)) (wr.alloc (.mapIter (some (w.heap.size + 1)) c #[] c)) := by
        simp [Instr.range, Sem.run_bind, run_underlying Tryz.underlying195, Result.andThen_ok, run_getMap HM.out.M]
      go_wp2_with fail
      clear hrg
      have hW := HM.out.B.size
      have hMB := HM.out.D.lt
      have hMU := HM.out.up (bal (bz wr) (.mapIter (some (w.heap.size + 1)) c #[] c))
      have hIT : (wr.alloc (.mapIter (some (w.heap.size + 1)) c #[] c)).heap[wr.heap.size]? = some (.mapIter (some (w.heap.size + 1)) c #[] c) := heap_alloc_new _ _
      have HMU := Lib.hid hMU; have HIT := Lib.hid hIT
      clear hMU hIT d0 d1 d2 dz HM
      generalize (wr.alloc (.mapIter (some (w.heap.size + 1)) c #[] c)) = wv at *
      generalize hbi : wr.heap.size = bi at *
      clear hbi
      go_loopw [8] (fun _ ws => ∃ L' seen, Mid w ws R (.slice a W.length ca) L' c ∧ ws.heap[bi]? = some (.mapIter (some (w.heap.size + 1)) c seen c) ∧
          (∀ e ∈ L', e ∈ L) ∧ (∀ e ∈ L, clE W e = true → e ∈ L') ∧ (∀ e ∈ L', e.2.2 ∈ seen → clE W e = true)) (fun _ ws => unmet (ws.heap[w.heap.size + 1]?) (ws.heap[bi]?))
      case atStart => exact ⟨L, #[], HMU.out, HIT.out, fun e h => h, fun e h _ => h, by simp⟩
      case round =>
        clear HMU HIT
        obtain ⟨L', seen, hM, hit, hs1, hs2, hs3⟩ := hrel
        rcases run_nextL hM.M hM.ok hit with ⟨hall, hnx⟩ | ⟨e, he, hes, n, hnx⟩
        · have HA := Lib.hid hall; have HM := Lib.hid hM; have HI := Lib.hid hit; have HS1 := Lib.hid hs1; have HS2 := Lib.hid hs2; have HS3 := Lib.hid hs3
          clear hall hM hit hs1 hs2 hs3
          go_wp2_with fail
          go_ret
          refine ⟨_, rfl, by omega, ⟨_, _, L', c, HM.out.D, HM.out.M, HM.out.ok, clm_of (by have := HF.out; rw [HKL.out] at this; exact this) HS1.out HS2.out HS3.out HA.out, HX0.out.mono HM.out.B⟩, HM.out.B⟩
        · have HSN := Lib.hid hes; have HE := Lib.hid he; have HM := Lib.hid hM; have HI := Lib.hid hit; have HS1 := Lib.hid hs1; have HS2 := Lib.hid hs2; have HS3 := Lib.hid hs3
          clear hes he hM hit hs1 hs2 hs3
          go_wp2_with fail
          clear hnx
          obtain ⟨⟨k1, k2⟩, m, t⟩ := e
          obtain ⟨a', b', hab, hbl, he1, he2⟩ := fill_at (by have := HF.out; rw [HKL.out] at this; exact this) (HS1.out _ HE.out)
          simp only [Prod.mk.injEq] at he1 he2
          obtain ⟨rfl, rfl⟩ := he1
          have hal : a' < W.length := by omega
          have hbr := HM.out.B.size
          have hrI := (Array.getElem?_eq_some_iff.1 HI.out).1
          have hMn := HM.out.next (n := n) (o := .mapIter (some (w.heap.size + 1)) c (seen.push t) c) hMB
          have hnI : ((wr.drewN n).putObj bi (.mapIter (some (w.heap.size + 1)) c (seen.push t) c)).heap[bi]? = some (.mapIter (some (w.heap.size + 1)) c (seen.push t) c) := World.putObj_heap_same hrI
          have hen := run_entryL hMn.M hMn.ok HE.out hnI
          have hzn : ((wr.drewN n).putObj bi (.mapIter (some (w.heap.size + 1)) c (seen.push t) c)).heap.size = wr.heap.size := by simp [World.drewN]
          have HMn := Lib.hid hMn; have HNI := Lib.hid hnI; clear hMn hnI
          simp only at hen HMn HNI hzn
          generalize (wr.drewN n).putObj bi (.mapIter (some (w.heap.size + 1)) c (seen.push t) c) = wn at *
          have hbn : bi < wn.heap.size := by omega
          clear hzn
          obtain ⟨bx, ox, rfl, hbx, hcx⟩ := hx (by omega)
          have gb := hcx b' hbl
          have HP : Hid (W[b']?.getD 0 = want W b') := Lib.hid rfl
          obtain ⟨ad, hs, had⟩ := run_cutMid bx ox W.length ca (a' + 1) b' (by omega) (by omega)
          have HRD := Lib.hid (fun wz (hB : Below w.heap.size w wz) => rdI_mid rfl (HX0.out.mono hB) (show a' + 1 ≤ b' by omega) (by omega) had)
          have hs' : ∀ wz : World, (Instr.slice 32 (.slice (some ⟨bx, ox, none⟩) W.length ca) (some (.int .i64 ((a' : Int) + 1))) (some (.int .i64 (b' : Int))) none).run Tryz.prog wz = .ok (.slice (some ad) (b' - (a' + 1)) (ca - (a' + 1))) wz := fun wz => by
            have := hs wz; rwa [show (((a' + 1 : Nat)) : Int) = (a' : Int) + 1 by omega] at this
          have hdl : ((W.drop (a' + 1)).take (b' - (a' + 1))).length ≤ 1000 := by rw [List.length_take]; omega
          have HCE : Hid (clE W ((↑a', ↑b'), m, t) = !((W.drop (a' + 1)).take (b' - (a' + 1))).any (eqB (want W b'))) := Lib.hid rfl
          have HE2 := Lib.hid he2
          clear hx hcx he2 hs had
          generalize W[b']?.getD 0 = q at *
          rw [← HP.out] at HCE
          have HCT := Lib.hid (fun x wz hx => contains_any x ((W.drop (a' + 1)).take (b' - (a' + 1))) q wz hx hdl)
          generalize ((W.drop (a' + 1)).take (b' - (a' + 1))).any (eqB q) = cz at *
          unfold kv at hen
          simp only at hen
          have HSS := Lib.hid hs'; clear hs'
          go_wp2_with fail
          clear hen
          have hMy := HMn.out.up (bal (bz wn) (Obj.cells #[Value.int IntKind.i64 ↑a', Value.int IntKind.i64 ↑b'] 262))
          have y0 : (wn.alloc (Obj.cells #[Value.int IntKind.i64 ↑a', Value.int IntKind.i64 ↑b'] 262)).cell? ⟨wn.heap.size, 0, none⟩ = some (.int .i64 a') := cnew rfl rfl
          have y1 : (wn.alloc (Obj.cells #[Value.int IntKind.i64 ↑a', Value.int IntKind.i64 ↑b'] 262)).cell? ⟨wn.heap.size, 1, none⟩ = some (.int .i64 b') := cnew rfl rfl
          have yz : wn.heap.size < (wn.alloc (Obj.cells #[Value.int IntKind.i64 ↑a', Value.int IntKind.i64 ↑b'] 262)).heap.size := by simp
          have yI := (Below.heap_alloc wn (.cells #[Value.int IntKind.i64 ↑a', Value.int IntKind.i64 ↑b'] 262) bi hbn).trans HNI.out
          have HMY := Lib.hid hMy; have HYI := Lib.hid yI
          clear hMy yI HMn HNI
          generalize (wn.alloc (Obj.cells #[Value.int IntKind.i64 ↑a', Value.int IntKind.i64 ↑b'] 262)) = wy at *
          generalize hyb : wn.heap.size = yb at *
          clear hyb
          refine wp_region_flow [] [([0, 1, 2, 3, 4, 5, 6, 7, 8, 9, 10, 11, 12, 13, 14, 15, 16, 17, 18, 19], 20, true)] [] (by kernel_rfl) (by kernel_rfl) ?_
          intro wc hBc hh
          clear hh
          have hMc := HMY.out.up hBc
          obtain ⟨e0, e1, e2⟩ := hMc.D.cells
          have ez := hMc.D.lt
          have hb2 := (hMc.B.cell (p := ⟨bx, ox + b', none⟩) hbx).trans gb
          have hbx' : bx < wc.heap.size := Nat.lt_of_lt_of_le hbx hMc.B.size
          have u0 := (hBc.cell (p := ⟨yb, 0, none⟩) yz).trans y0
          have u1 := (hBc.cell (p := ⟨yb, 1, none⟩) yz).trans y1
          have uz : yb < wc.heap.size := Nat.lt_of_lt_of_le yz hBc.size
          have hL := @Later.cell wc
          have hss := HSS.out
          have HMC := Lib.hid hMc; have HBc := Lib.hid hBc
          clear hMc hBc gb y0 y1
          simp only [flowP, flow, pickL, List.getElem?_cons_succ, List.getElem?_cons_zero]
          refine wpQuiet_nil ?_
          repeat (go_big_quiet_step (fail))
          refine wpQuiet_nil ?_
          go_wp2_with fail
          refine (HCT.out _ _ (HRD.out _ HMC.out.B)).mono ?_
          rintro e w' ⟨rfl, rfl⟩
          go_wp2
          refine seg_grow ⟨⟨_, bz _⟩, rfl⟩ ?_
          refine wpQuiet_nil ?_
          refine only_done ?_
          clear hss hb2
          have hyc := (HBc.out.block _ (Array.getElem?_eq_some_iff.1 HYI.out).1).trans HYI.out
          have HYC := Lib.hid hyc
          clear hyc HYI
          cases cz
          · go_wp2
            go_roundw
            case rel =>
              refine ⟨L', seen.push t, HMC.out, HYC.out, HS1.out, HS2.out, fun x hx hxs => ?_⟩
              rw [Array.mem_push] at hxs
              rcases hxs with h | h
              · exact HS3.out x hx h
              · rw [born_inj HMC.out.ok hx HE.out h]; exact HCE.out
            case measure =>
              rw [HM.out.M, HI.out, HMC.out.M, HYC.out, unmet_eq, unmet_eq]
              exact unmet_lt HMC.out.ok (fun x h => h) HE.out HSN.out
          · go_wp2_with fail
            refine wp_region_flow [] [([0, 1, 2, 3, 4], 5, false)] [] (by kernel_rfl) (by kernel_rfl) ?_
            intro wd hBd hh
            clear hh
            have hMd := HMC.out.up hBd
            obtain ⟨d0, d1, d2⟩ := hMd.D.cells
            have dz := hMd.D.lt
            have v0 := (hBd.cell (World.block_lt_of_cell? wc _ u0)).trans u0
            have v1 := (hBd.cell (World.block_lt_of_cell? wc _ u1)).trans u1
            have vz : yb < wd.heap.size := Nat.lt_of_lt_of_le uz hBd.size
            have hyd := (hBd.block _ (Array.getElem?_eq_some_iff.1 HYC.out).1).trans HYC.out
            have hLd := @Later.cell wd
            obtain ⟨L2, hdel, hL2, hk2⟩ := run_deleteL hMd.M hMd.ok ((a' : Int), (b' : Int))
            have HMD := Lib.hid hMd; have HYD := Lib.hid hyd; have HDEL := Lib.hid hdel; have HK2 := Lib.hid hk2
            clear hMd hyd hdel hk2 hBd e0 e1 e2 u0 u1 hL
            simp only [flowP, flow, pickL, List.getElem?_cons_succ, List.getElem?_cons_zero]
            refine wpQuiet_nil ?_
            repeat (go_big_quiet_step (fail))
            refine wpQuiet_nil ?_
            have hdel := HDEL.out
            unfold kv at hdel
            simp only at hdel
            go_wp2
            refine seg_write ?_
            refine wpQuiet_nil ?_
            refine only_done ?_
            clear hdel
            go_wp2
            go_roundw
            case rel =>
              refine ⟨L2, seen.push t, HMD.out.put hL2, (World.putObj_heap_other (by omega)).trans HYD.out, fun x h => HS1.out x ((HK2.out x).1 h).1, fun x h1 h2 => (HK2.out x).2 ⟨HS2.out x h1 h2, fun h => ?_⟩, fun x hx hxs => ?_⟩
              · obtain ⟨x1, x2, x3⟩ := x
                simp only at h
                subst h
                have := HCE.out
                unfold clE at this h2
                simp only at this h2
                rw [h2] at this
                cases this
              · obtain ⟨hx1, hx2⟩ := (HK2.out x).1 hx
                rw [Array.mem_push] at hxs
                rcases hxs with h | h
                · exact HS3.out x hx1 h
                · exact absurd (by rw [born_inj HMD.out.ok hx1 HE.out h]) hx2
            case measure =>
              rw [HM.out.M, HI.out, World.putObj_heap_same (Array.getElem?_eq_some_iff.1 HMD.out.M).1, World.putObj_heap_other (by omega), HYD.out, unmet_eq, unmet_eq]
              exact unmet_lt hL2 (fun x h => ((HK2.out x).1 h).1) HE.out HSN.out
end Go.Proofs.YtpeminhnjdakiaaGreat
end

section
namespace Go.Proofs.YtpeminhnjdakiaaGreat
open Go.RowKit Go.Shelf

theorem checkD_cases (R : Int) (W : List Int) : checkD R W = 0 ∨ checkD R W = 2 ∨ checkD R W = 3 ∨ checkD R W = 6 := by
  unfold checkD; (repeat' split) <;> simp
/-- A valid day. -/
structure OkD (R : Int) (W : List Int) : Prop where
  r1 : 1 ≤ R
  r6 : R ≤ 6
  l16 : W.length ≤ 16
  ok : ∀ x ∈ W, 1 ≤ x ∧ x ≤ 8
theorem okD_of {R : Int} {W : List Int} (h : checkD R W = 0) : OkD R W := by
  unfold checkD at h
  by_cases h1 : outB 1 6 R = true
  · rw [if_pos h1] at h; cases h
  · rw [if_neg h1] at h
    by_cases h2 : 16 < W.length
    · rw [if_pos h2] at h; cases h
    · rw [if_neg h2] at h
      by_cases h3 : W.any (outB 1 8) = true
      · rw [if_pos h3] at h; cases h
      · simp [outB] at h1 h3
        exact ⟨by omega, by omega, by omega, fun x hx => by have := h3 x hx; omega⟩
theorem OkD.at {R : Int} {W : List Int} (h : OkD R W) {i : Nat} (hi : i < W.length) : 1 ≤ want W i ∧ want W i ≤ 8 := by
  have : want W i = W[i] := by simp [want, hi]
  rw [this]; exact h.ok _ (List.getElem_mem hi)

def OpenOk (R : Int) (W : List Int) (w : World) (e : Ending) (w' : World) : Prop := ∃ b, e = .returned (.tuple #[.pointer (some ⟨b, 0, none⟩), .int .i64 0]) ∧ w.heap.size ≤ b ∧ IsBench w' b R W zeros ∧ Below w.heap.size w w'
set_option maxRecDepth 100000 in
set_option maxHeartbeats 1000000 in
theorem open_ok (R : Int) (x : Value) (W : List Int) (w : World) (hx0 : RdI w .i64 x W) (hc : checkD R W = 0) : Calls Tryz.prog 155 #[.agg #[.int .i64 R, x]] w (OpenOk R W w) := by
  have hl := (okD_of hc).l16
  obtain ⟨a, c, rfl⟩ := hx0.ex _ rfl
  have HC := Lib.hid (fun wz hx => checkday_any R (.slice a W.length c) W wz hx (by omega))
  have HN := Lib.hid (fun wz hx => newbench_any R (.slice a W.length c) W wz hx hl)
  rw [hc] at HC
  have HX := Lib.hid hx0
  clear hc hx0
  unfold OpenOk
  go_enter Tryz.func155, Tryz.ntmps155
  go_wp2_with fail
  refine (HC.out _ (HX.out.mono (bal (bz _) _))).mono ?_
  rintro e w2 ⟨rfl, hB2⟩
  obtain ⟨hc, hf⟩ := bcell hB2
  have hz := hB2.size
  simp only [World.size_alloc] at hz
  have HB2 := Lib.hid (btr (bal (bz w) _) hB2)
  clear hB2
  go_wp2_with fail
  refine (HN.out _ (HX.out.mono HB2.out)).mono ?_
  rintro e w3 ⟨b, rfl, hb, hD, hB3⟩
  have HD := Lib.hid hD; have HB3 := Lib.hid hB3
  clear hD hB3
  go_wp2_with fail
  go_ret2
  exact ⟨b, rfl, by omega, HD.out, btr HB2.out HB3.out⟩
set_option maxRecDepth 100000 in
set_option maxHeartbeats 1000000 in
theorem open_no (R : Int) (x : Value) (W : List Int) (w : World) (hx0 : RdI w .i64 x W) (hl : W.length ≤ 1000) (hc : checkD R W ≠ 0) :
    Calls Tryz.prog 155 #[.agg #[.int .i64 R, x]] w fun e w' => e = .returned (.tuple #[.pointer none, .int .i64 (checkD R W)]) ∧ Below w.heap.size w w' := by
  obtain ⟨a, c, rfl⟩ := hx0.ex _ rfl
  have HC := Lib.hid (fun wz hx => checkday_any R (.slice a W.length c) W wz hx hl)
  have HX := Lib.hid hx0
  have t1 : (checkD R W != 0) = true := by simpa using hc
  clear hc hx0
  generalize checkD R W = q at *
  go_enter Tryz.func155, Tryz.ntmps155
  go_wp2_with fail
  refine (HC.out _ (HX.out.mono (bal (bz _) _))).mono ?_
  rintro e w2 ⟨rfl, hB2⟩
  have HB2 := Lib.hid (btr (bal (bz w) _) hB2)
  clear hB2
  go_wp2_with fail
  go_ret2
  exact ⟨rfl, HB2.out⟩

def ruleE (R : Int) (W : List Int) (r : Int) : Int := if checkD R W ≠ 0 then checkD R W else if outB 1 3 r then 2 else 0
set_option maxRecDepth 100000 in
set_option maxHeartbeats 1000000 in
theorem ruled_no (R : Int) (x : Value) (W : List Int) (r : Int) (w : World) (hx0 : RdI w .i64 x W) (hl : W.length ≤ 1000) (hc : ruleE R W r ≠ 0) :
    Calls Tryz.prog 153 #[.agg #[.int .i64 R, x], .int .i64 r] w fun e w' => e = .returned (.tuple #[.pointer none, .int .i64 (ruleE R W r)]) ∧ Below w.heap.size w w' := by
  obtain ⟨a, c, rfl⟩ := hx0.ex _ rfl
  have HX := Lib.hid hx0
  by_cases h : checkD R W = 0
  · have e : ruleE R W r = if outB 1 3 r then 2 else 0 := by unfold ruleE; rw [if_neg (by simpa using h)]
    rw [e] at hc ⊢
    have hr : outB 1 3 r = true := by
      cases h : outB 1 3 r
      · rw [h] at hc; exact absurd rfl hc
      · rfl
    rw [if_pos hr]
    have HO := Lib.hid (fun wz hx => open_ok R (.slice a W.length c) W wz hx h)
    have HR : Hid ([r].any (outB 1 3) = true) := Lib.hid (by simp [hr])
    clear e h hc hr hx0
    unfold OpenOk at HO
    go_enter Tryz.func153, Tryz.ntmps153
    go_wp2_with fail
    refine (HO.out _ (HX.out.mono (bal (bz _) _))).mono ?_
    rintro e w2 ⟨b, rfl, hb, hD, hB2⟩
    have HB2 := Lib.hid (btr (bal (bz w) _) hB2)
    clear hB2 hD
    go_wp2_with fail
    refine (within_any _ [r] _ _ _ (one_slice (by simp) (by simp)) (by simp)).mono ?_
    rintro e w3 ⟨rfl, hB3⟩
    rw [HR.out]
    go_wp2_with fail
    go_ret2
    exact ⟨rfl, btr (bal HB2.out _) hB3⟩
  · have e : ruleE R W r = checkD R W := by unfold ruleE; rw [if_pos h]
    rw [e]
    have HO := Lib.hid (fun wz hx => open_no R (.slice a W.length c) W wz hx hl h)
    have t1 : (checkD R W != 0) = true := by simpa using h
    clear e hc h hx0
    generalize checkD R W = q at *
    go_enter Tryz.func153, Tryz.ntmps153
    go_wp2_with fail
    refine (HO.out _ (HX.out.mono (bal (bz _) _))).mono ?_
    rintro e w2 ⟨rfl, hB2⟩
    have HB2 := Lib.hid (btr (bal (bz w) _) hB2)
    clear hB2
    go_wp2_with fail
    go_ret2
    exact ⟨rfl, HB2.out⟩
set_option maxRecDepth 100000 in
set_option maxHeartbeats 1000000 in
theorem ruled_ok (R : Int) (x : Value) (W : List Int) (r : Int) (w : World) (hx0 : RdI w .i64 x W) (hc : ruleE R W r = 0) :
    Calls Tryz.prog 153 #[.agg #[.int .i64 R, x], .int .i64 r] w (OpenOk R W w) := by
  obtain ⟨a, c, rfl⟩ := hx0.ex _ rfl
  have HX := Lib.hid hx0
  have h : checkD R W = 0 := by
    unfold ruleE at hc
    by_cases h : checkD R W = 0
    · exact h
    · rw [if_pos h] at hc; exact absurd hc h
  have hr : outB 1 3 r = false := by
    unfold ruleE at hc
    rw [if_neg (by simpa using h)] at hc
    cases h : outB 1 3 r
    · rfl
    · rw [h] at hc; exact absurd hc (by decide)
  have HO := Lib.hid (fun wz hx => open_ok R (.slice a W.length c) W wz hx h)
  have HR : Hid ([r].any (outB 1 3) = false) := Lib.hid (by simp [hr])
  clear h hc hr hx0
  unfold OpenOk at HO ⊢
  go_enter Tryz.func153, Tryz.ntmps153
  go_wp2_with fail
  refine (HO.out _ (HX.out.mono (bal (bz _) _))).mono ?_
  rintro e w2 ⟨b, rfl, hb, hD, hB2⟩
  have hbs : w.heap.size ≤ b := by simp at hb; omega
  have HB2 := Lib.hid (btr (bal (bz w) _) hB2); have HD := Lib.hid hD
  clear hB2 hD hb
  go_wp2_with fail
  refine (within_any _ [r] _ _ _ (one_slice (by simp) (by simp)) (by simp)).mono ?_
  rintro e w3 ⟨rfl, hB3⟩
  rw [HR.out]
  have HB3 := Lib.hid hB3; clear hB3
  go_wp2_with fail
  go_ret2
  exact ⟨b, rfl, hbs, HD.out.mono (btr (bal (bz _) _) HB3.out), btr (bal HB2.out _) HB3.out⟩
end Go.Proofs.YtpeminhnjdakiaaGreat
end

section
namespace Go.Proofs.YtpeminhnjdakiaaGreat
open Go.RowKit Go.Shelf

theorem one_arr (l : List Int) : (arrI l).all (·.oneCell') = true := by simp [arrI, Value.oneCell']
def hasB (on : List Int) (r : Int) : Bool := decide (0 < bitV on r)
def fullB (R : Int) (on : List Int) (w : Int) : Bool := !hasB on w && (sumL on == R)
def stepOn (on : List Int) (p w : Int) : List Int := (on.set p.toNat 0).set w.toNat 1
/-- The wants W are done by the plan P: how many are fetched, and the error. -/
def cpGo (R : Int) : List Int → List Int → List Int → Int → Int × Int
  | w :: W, p :: P, on, n => if fullB R on w = !(p != 0) then (0, 16) else if fullB R on w && !hasB on p then (0, 18) else cpGo R W P (stepOn on p w) (n + if hasB on w then 0 else 1)
  | [], _, _, n => (n, 0)
  | _ :: _, [], _, n => (n, 0)
/-- What is on the bench: 0 or 1 for each reamer, 0 for none. -/
structure OnOk (on : List Int) : Prop where
  len : on.length = 9
  bit : ∀ y ∈ on, 0 ≤ y ∧ y ≤ 1
  zero : on[0]?.getD 0 = 0
theorem OnOk.at {on : List Int} (h : OnOk on) (i : Nat) : 0 ≤ on[i]?.getD 0 ∧ on[i]?.getD 0 ≤ 1 := by
  by_cases hi : i < on.length
  · have := h.bit on[i] (List.getElem_mem hi); simpa [hi] using this
  · simp [hi]
theorem zeros_ok : OnOk zeros := ⟨rfl, by decide, rfl⟩
theorem set_getS (l : List Int) (i j : Nat) (v : Int) (hi : i < l.length) : (l.set i v)[j]?.getD 0 = if i = j then v else l[j]?.getD 0 := by
  rw [List.getElem?_set]
  by_cases e : i = j
  · subst e; simp [hi]
  · simp [e]
theorem OnOk.step {on : List Int} (h : OnOk on) {p w : Int} (p0 : 0 ≤ p) (p1 : p ≤ 8) (w0 : 1 ≤ w) (w1 : w ≤ 8) : OnOk (stepOn on p w) := by
  have hl := h.len
  refine ⟨by simp [stepOn, hl], fun y hy => ?_, ?_⟩
  · unfold stepOn at hy
    rcases List.mem_or_eq_of_mem_set hy with hy | rfl
    · rcases List.mem_or_eq_of_mem_set hy with hy | rfl
      · exact h.bit y hy
      · omega
    · omega
  · unfold stepOn
    rw [set_getS _ _ _ _ (by simp [hl]; omega), if_neg (by omega), set_getS _ _ _ _ (by omega)]
    split
    · rfl
    · exact h.zero
theorem step_same {on : List Int} (h : OnOk on) {w : Int} (w0 : 1 ≤ w) (w1 : w ≤ 8) (hh : hasB on w = true) : stepOn on 0 w = on := by
  have hl := h.len
  have hw := h.at w.toNat
  have hh' : 0 < bitV on w := of_decide_eq_true hh
  unfold bitV at hh'
  have h1 : on[w.toNat]?.getD 0 = 1 := by omega
  apply List.ext_getElem
  · simp [stepOn]
  · intro j h1' h2'
    have e : (stepOn on 0 w)[j]?.getD 0 = on[j]?.getD 0 := by
      unfold stepOn
      rw [set_getS _ _ _ _ (by simp [hl]; omega)]
      by_cases e : w.toNat = j
      · rw [if_pos e, ← e, h1]
      · rw [if_neg e, set_getS _ _ _ _ (by simp [hl])]
        by_cases e0 : (0 : Int).toNat = j
        · rw [if_pos e0, ← e0]; exact h.zero.symm
        · rw [if_neg e0]
    simpa [h1', h2'] using e
theorem step_other {on : List Int} (h : OnOk on) {p w : Int} (w1 : w ≤ 8) (w0 : 1 ≤ w) (hh : hasB on w = false) : on ≠ stepOn on p w := by
  intro e
  have hl := h.len
  have h1 : (stepOn on p w)[w.toNat]?.getD 0 = 1 := by
    unfold stepOn
    rw [set_getS _ _ _ _ (by simp [hl]; omega), if_pos rfl]
  rw [← e] at h1
  have hh' : ¬ 0 < bitV on w := of_decide_eq_false hh
  unfold bitV at hh'
  omega
theorem wpQuiet_load_part {P : Program} {ops : Array Oper} {Q : Act → Prop} {a : Act} {w : World} {rest : List Oper} {o : Oper} (hgd : o.guard = none) (ty : TypeId) (x : Operand) (ho : o.op = .load ty x) (ad : Addr) (hx : a.eval x = .pointer (some ad)) (v : Value)
    (hl : ∀ l : Later w, (loadVar ty ad).run P l.val = .ok v l.val)
    (h : wpQuiet P ops (fun w' => ∃ x : Later w, w' = x.val) Q rest (a.put o.dst v)) : wpQuiet P ops (fun w' => ∃ x : Later w, w' = x.val) Q (o :: rest) a := by
  unfold wpQuiet
  rw [if_pos (by simp [Region.wanted, hgd])]
  refine ⟨v, ?_, h⟩
  rintro w' ⟨l, rfl⟩
  unfold Oper.quietAt execOp
  simp only [ho, hx, Instr.loadAt, Instr.sureAddr, Sem.run_bind, Sem.run_pure, Result.andThen_ok, hl l, Oper.quietUpon, and_self]

def planR (R : Int) (W P : List Int) : Int × Int := if checkD R W ≠ 0 then (0, checkD R W) else if P.length ≠ W.length then (0, 15) else if P.any (outB 0 8) then (0, 3) else cpGo R W P zeros 0
def PlanOk (R : Int) (W P : List Int) (w : World) (e : Ending) (w' : World) : Prop := e = .returned (.tuple #[.int .i64 (planR R W P).1, .int .i64 (planR R W P).2]) ∧ Below w.heap.size w w'
set_option maxRecDepth 100000 in
set_option maxHeartbeats 1000000 in
theorem checkplan_no (R : Int) (x y : Value) (W P : List Int) (w : World) (hx0 : RdI w .i64 x W) (hy0 : RdI w .i64 y P) (hl : W.length ≤ 1000) (hc : checkD R W ≠ 0) : Calls Tryz.prog 98 #[.agg #[.int .i64 R, x], y] w (PlanOk R W P w) := by
  obtain ⟨a, c, rfl⟩ := hx0.ex _ rfl
  obtain ⟨a', c', rfl⟩ := hy0.ex _ rfl
  unfold PlanOk planR
  rw [if_pos hc]
  have HO := Lib.hid (fun wz hx => open_no R (.slice a W.length c) W wz hx hl hc)
  have HX := Lib.hid hx0
  have t1 : (checkD R W != 0) = true := by simpa using hc
  clear hc hx0 hy0
  generalize checkD R W = q at *
  go_enter Tryz.func98, Tryz.ntmps98
  go_wp2_with fail
  refine (HO.out _ (HX.out.mono (bal (bz _) _))).mono ?_
  rintro e w2 ⟨rfl, hB2⟩
  have HB2 := Lib.hid (btr (bal (bz w) _) hB2)
  clear hB2
  go_wp2_with fail
  go_ret2
  exact ⟨rfl, HB2.out⟩
set_option maxRecDepth 100000 in
set_option maxHeartbeats 4000000 in
theorem checkplan_ok (R : Int) (x y : Value) (W P : List Int) (w : World) (hx0 : RdI w .i64 x W) (hy0 : RdI w .i64 y P) (hlp : P.length ≤ 1000) (hc : checkD R W = 0) : Calls Tryz.prog 98 #[.agg #[.int .i64 R, x], y] w (PlanOk R W P w) := by
  have hd := okD_of hc
  have h16 := hd.l16
  obtain ⟨a, c, rfl, hca, hcm, hx⟩ := hx0.form
  obtain ⟨a', c', rfl, hca', hcm', hy⟩ := hy0.form
  clear hcm hcm'
  unfold PlanOk planR
  rw [if_neg (by simpa using hc)]
  have HO := Lib.hid (fun wz hx => open_ok R (.slice a W.length c) W wz hx hc)
  unfold OpenOk at HO
  have HX := Lib.hid hx0; have HY := Lib.hid hy0
  clear hc hx0 hy0
  by_cases hpl : P.length = W.length
  · rw [if_neg (by simpa using hpl)]
    have t2 : ((P.length : Int) != (W.length : Int)) = false := by simp [hpl]
    have HPL := Lib.hid hpl
    have HWI := Lib.hid (fun wz hx => within_any (.slice a' P.length c') P 0 8 wz hx hlp)
    cases hpo : P.any (outB 0 8)
    · rw [hpo] at HWI
      rw [if_neg (by decide)]
      have HPB : Hid (∀ k, k < P.length → 0 ≤ P[k]?.getD 0 ∧ P[k]?.getD 0 ≤ 8) := Lib.hid (fun k hk => by
        rw [List.any_eq_false] at hpo
        have := hpo P[k] (List.getElem_mem hk)
        simp [outB] at this
        simp [hk]; omega)
      obtain ⟨res, hres⟩ : ∃ res, cpGo R W P zeros 0 = res := ⟨_, rfl⟩
      rw [hres]
      have HRES := Lib.hid hres
      obtain ⟨rA, rE⟩ := res
      have HD := Lib.hid hd
      clear hpo hpl hres hd
      go_enter Tryz.func98, Tryz.ntmps98
      go_wp2_with fail
      refine (HO.out _ (HX.out.mono (bal (bz _) _))).mono ?_
      rintro e w2 ⟨b, rfl, hb, hDD, hB2⟩
      obtain ⟨x, M, L, c0, hD, _, _, _, _⟩ := hDD
      obtain ⟨hcc, hf⟩ := bcell hB2
      have hz := hB2.size
      simp only [World.size_alloc] at hz hb
      have HB2 := Lib.hid hB2; have HDB := Lib.hid hD
      clear hB2 hD
      go_wp2_with fail
      refine (HWI.out _ (HY.out.mono (btr (bal (bz _) _) HB2.out))).mono ?_
      rintro e w3 ⟨rfl, hB3⟩
      have HB3 := Lib.hid (btr HB2.out hB3); have HD3 := Lib.hid (HDB.out.up hB3)
      clear hB3 HDB HB2 hcc hf
      have hr0 : (w.alloc (.cells #[.int .i64 R, .slice a W.length c] 126)).cell? ⟨w.heap.size, 0, none⟩ = some (.int .i64 R) := cnew rfl rfl
      have hr1 : (w.alloc (.cells #[.int .i64 R, .slice a W.length c] 126)).cell? ⟨w.heap.size, 1, none⟩ = some (.slice a W.length c) := cnew rfl rfl
      have HR0 := Lib.hid (fun wz (hB : Below (w.alloc (.cells #[.int .i64 R, .slice a W.length c] 126)).heap.size (w.alloc (.cells #[.int .i64 R, .slice a W.length c] 126)) wz) => (hB.cell (p := ⟨w.heap.size, 0, none⟩) (by simp)).trans hr0)
      have HR1 := Lib.hid (fun wz (hB : Below (w.alloc (.cells #[.int .i64 R, .slice a W.length c] 126)).heap.size (w.alloc (.cells #[.int .i64 R, .slice a W.length c] 126)) wz) => (hB.cell (p := ⟨w.heap.size, 1, none⟩) (by simp)).trans hr1)
      have HBW := Lib.hid (fun wz (hB : Below (w.alloc (.cells #[.int .i64 R, .slice a W.length c] 126)).heap.size (w.alloc (.cells #[.int .i64 R, .slice a W.length c] 126)) wz) => btr (bal (bz w) _) hB)
      have hbs : (w.alloc (.cells #[.int .i64 R, .slice a W.length c] 126)).heap.size ≤ b := by simp; omega
      have hws : w.heap.size < (w.alloc (.cells #[.int .i64 R, .slice a W.length c] 126)).heap.size := by simp
      have e1 := HR1.out _ HB3.out
      have ez := Nat.lt_of_lt_of_le hws HB3.out.size
      clear hr0 hr1 hb hz
      generalize (w.alloc (.cells #[.int .i64 R, .slice a W.length c] 126)) = wA at *
      go_wp2_with fail
      go_loopw [8, 9, 10, 11, 12, 36] (fun s8 _ _ _ _ i wr => ∃ (k : Nat) (on : List Int) (n : Int), k ≤ W.length ∧ s8 = .int .i64 n ∧ i = .int .i64 k ∧ 0 ≤ n ∧ n ≤ k ∧ BenchAt wr b R x on (.map (some M)) ∧ OnOk on ∧ Hid (cpGo R (W.drop k) (P.drop k) on n = (rA, rE)) ∧ Below wA.heap.size wA wr) (fun _ _ _ _ _ i _ => W.length - (intOf i).toNat)
      case atStart => exact ⟨0, zeros, 0, Nat.zero_le _, rfl, rfl, by omega, by omega, HD3.out, zeros_ok, HRES, HB3.out⟩
      case round =>
        obtain ⟨k, on, n, hk, rfl, rfl, n0, n1, hD, hOn, HG, hB⟩ := hrel
        clear HD3 HB3 HRES e1 ez
        have HDD := Lib.hid hD; have HON := Lib.hid hOn; have HB := Lib.hid hB
        clear hD hOn hB
        by_cases hlt : k < W.length
        · obtain ⟨bx, ox, rfl, hbx, hcx⟩ := hx (by omega)
          obtain ⟨by', oy, rfl, hby, hcy⟩ := hy (by rw [HPL.out]; omega)
          have gw := ((HBW.out _ HB.out).cell (p := ⟨bx, ox + k, none⟩) hbx).trans (hcx k hlt)
          have hbz : bx < wr.heap.size := Nat.lt_of_lt_of_le hbx (HBW.out _ HB.out).size
          have hkp : k < P.length := by rw [HPL.out]; exact hlt
          have GP := Lib.hid (fun wz (hB : Below wA.heap.size wA wz) => ((HBW.out _ hB).cell (p := ⟨by', oy + k, none⟩) hby).trans (hcy k hkp))
          have ZP := Lib.hid (fun wz (hB : Below wA.heap.size wA wz) => Nat.lt_of_lt_of_le hby (HBW.out _ hB).size)
          obtain ⟨v1, v8⟩ := HD.out.at hlt
          obtain ⟨p0, p8⟩ := HPB.out k hkp
          have HGO := Lib.hid (show cpGo R (want W k :: W.drop (k + 1)) (P[k]?.getD 0 :: P.drop (k + 1)) on n = (rA, rE) from by
            have h := HG.out
            rw [List.drop_eq_getElem_cons hlt, List.drop_eq_getElem_cons hkp] at h
            have e1 : want W k = W[k] := by simp [want, hlt]
            have e2 : P[k]?.getD 0 = P[k] := by simp [hkp]
            rw [e1, e2]; exact h)
          clear hx hy hcx hcy HG hbx hby
          change wr.cell? _ = some (.int .i64 (want W k)) at gw
          generalize want W k = q at *
          generalize P[k]?.getD 0 = p at *
          have HM := Lib.hid (fun wz hD => many_any b R x on (.map (some M)) wz hD HON.out.bit)
          have HH := Lib.hid (fun r wz hD r0 r1 => has_any b R x on (.map (some M)) r wz hD r0 r1)
          change Hid (∀ r wz, _ → _ → _ → Calls Tryz.prog 157 _ wz fun e w' => e = .returned (.bool (hasB on r)) ∧ wz = w') at HH
          unfold cpGo fullB at HGO
          rcases hth : hasB on q with _ | _
          · rcases hsu : (sumL on == R) with _ | _
            · have hfu : (!hasB on q && (sumL on == R)) = false := by rw [hth, hsu]; rfl
              rw [hfu, hth] at HGO
              have HHQ := Lib.hid (fun wz hD => HH.out q wz hD (by omega) (by omega))
              rw [hth] at HHQ
              have HTH := Lib.hid hth; clear hth hfu
              have HSU := Lib.hid hsu; clear hsu
              by_cases hp0 : p = 0
              · have hpp : (p != 0) = false := by simp [hp0]
                rw [hpp] at HGO
                subst hp0
                go_wp2_with fail
                refine wp_region_flow [] [([0, 1], 2, true), ([3, 4, 5, 7, 8], 6, true)] [9, 10, 11] (by kernel_rfl) (by kernel_rfl) ?_
                intro wc hBc hh
                clear hh
                have HDC := Lib.hid (HDD.out.up hBc); have HBC := Lib.hid (btr HB.out hBc)
                have r0 := HR0.out _ HBC.out
                have rz := Nat.lt_of_lt_of_le hws HBC.out.size
                have hL := @Later.cell wc
                clear hBc gw hbz HDD HB
                simp only [flowP, flow, pickL, List.getElem?_cons_succ, List.getElem?_cons_zero]
                refine wpQuiet_nil ?_
                repeat (go_big_quiet_step (fail))
                refine wpQuiet_nil ?_
                go_wp2_with fail
                refine (HHQ.out _ HDC.out).mono ?_
                rintro e w' ⟨rfl, rfl⟩
                go_wp2
                refine seg_grow ⟨⟨_, bz _⟩, rfl⟩ ?_
                repeat (go_big_quiet_step (fail))
                refine wpQuiet_nil ?_
                go_wp2_with fail
                refine (HM.out _ HDC.out).mono ?_
                rintro e w' ⟨rfl, rfl⟩
                have hsu := HSU.out
                generalize sumL on = su at *
                go_wp2
                refine seg_grow ⟨⟨_, bz _⟩, rfl⟩ ?_
                repeat (go_big_quiet_step (fail))
                refine wpQuiet_nil ?_
                refine only_done ?_
                rw [if_neg (by decide), Bool.false_and, if_neg (by decide)] at HGO
                have gp := GP.out _ HBC.out; have zp := ZP.out _ HBC.out
                have hld := HDC.out.load
                have hi60 : (Tryz.prog.info? 194).map (·.size) = some 9 := by kernel_rfl
                have HI60 := Lib.hid hi60; clear hi60
                have hB5 := below_box wc #[Value.int IntKind.i64 0, Value.int IntKind.i64 0, Value.int IntKind.i64 0, Value.int IntKind.i64 0, Value.int IntKind.i64 0, Value.int IntKind.i64 0, Value.int IntKind.i64 0, Value.int IntKind.i64 0, Value.int IntKind.i64 0] (arrI on) 194
                have HB5 := Lib.hid (btr HBC.out hB5); have HD5 := Lib.hid (HDC.out.up hB5); have HG1 := Lib.hid (heap_box wc #[Value.int IntKind.i64 0, Value.int IntKind.i64 0, Value.int IntKind.i64 0, Value.int IntKind.i64 0, Value.int IntKind.i64 0, Value.int IntKind.i64 0, Value.int IntKind.i64 0, Value.int IntKind.i64 0, Value.int IntKind.i64 0] (arrI on) 194)
                have gp5 := GP.out _ HB5.out; have zp5 := ZP.out _ HB5.out; have hbw := (Array.getElem?_eq_some_iff.1 HG1.out).1
                have hbc := HDC.out.lt
                clear hB5 r0 rz hL
                go_wp2_with (first
                  | (refine wpList_load_var rfl 194 _ rfl _ rfl _ hld ?_)
                  | (refine wpList_store_row rfl 194 (.tmp 12) (.tmp 74) rfl wc.heap.size (arrI on) rfl rfl 194 _ (heap_alloc_new _ _) (by rw [arrI_size, HON.out.len]; exact HI60.out) (by rw [arrI_size, HON.out.len]; rfl) (one_arr _) ?_))
                generalize World.setRow _ _ _ = w5 at *
                clear gp zp hld
                refine (put_any b R x on (.map (some M)) 0 w5 HD5.out (by omega) (by omega)).mono ?_
                rintro e w6 ⟨⟨v6, rfl⟩, hw6⟩
                have HD6 := Lib.hid (show BenchAt w6 b R x (on.set (0 : Int).toNat 0) (.map (some M)) by rw [hw6]; exact HD5.out.set (by omega) 0)
                have HB6 := Lib.hid (show Below wA.heap.size wA w6 by rw [hw6]; exact bset HB5.out hbs _)
                have HG6 := Lib.hid (show w6.heap[wc.heap.size]? = some (.cells (arrI on) 194 (0, 0)) by rw [hw6, Go.Deep.blk_setCell_other _ _ _ _ (by simp; omega)]; exact HG1.out)
                clear hw6 gp5 zp5 hbw HD5 HB5 HG1
                go_wp2_with fail
                refine (take_any b R x (on.set (0 : Int).toNat 0) (.map (some M)) q w6 HD6.out (by omega) (by omega)).mono ?_
                rintro e w7 ⟨⟨v7, rfl⟩, hw7⟩
                have HD7 := Lib.hid (show BenchAt w7 b R x (stepOn on 0 q) (.map (some M)) by rw [hw7]; exact HD6.out.set (by omega) 1)
                have HB7 := Lib.hid (show Below wA.heap.size wA w7 by rw [hw7]; exact bset HB6.out hbs _)
                have HG7 := Lib.hid (show w7.heap[wc.heap.size]? = some (.cells (arrI on) 194 (0, 0)) by rw [hw7, Go.Deep.blk_setCell_other _ _ _ _ (by simp; omega)]; exact HG6.out)
                clear hw7 HD6 HB6 HG6
                have HON7 := Lib.hid (HON.out.step (p := 0) (by omega) (by omega) v1 v8)
                have HNE : Hid ((!decide (on = stepOn on 0 q)) = true) := Lib.hid (by simp [step_other HON.out v8 v1 HTH.out])
                obtain ⟨i3, hi3, _, _, _⟩ := info_parts num3
                have hne : ∀ w' : World, (binOp .neq 194 (.agg (arrI on)) (.agg (arrI (stepOn on 0 q)))).run Tryz.prog w' = .ok (.bool (!decide (on = stepOn on 0 q))) w' := fun w' => run_neq_arr (P := Tryz.prog) w' 194 3 9 .i64 i3 Tryz.underlying194 hi3 (by kernel_rfl) Tryz.underlying3 on (stepOn on 0 q) HON.out.len HON7.out.len
                rw [HNE.out] at hne
                have HNN := Lib.hid hne
                clear hne hi3 HNE
                go_upto_region 20 with fail
                refine wp_region_flow [] [] [0, 1, 2, 3, 4, 5] (by kernel_rfl) (by kernel_rfl) ?_
                intro wd hBd hh
                clear hh
                have HD8 := Lib.hid (HD7.out.up hBd); have HB8 := Lib.hid (btr HB7.out hBd)
                have HG8 := Lib.hid ((hBd.block _ (Array.getElem?_eq_some_iff.1 HG7.out).1).trans HG7.out)
                have HLD := Lib.hid (fun l : Later wd => (HD8.out.up l.le).load)
                have hne := HNN.out
                clear hBd HD7 HB7 HG7
                simp only [flowP, flow, pickL, List.getElem?_cons_succ, List.getElem?_cons_zero]
                refine wpQuiet_nil ?_
                repeat (first
                  | (refine wpQuiet_load_row rfl 194 (.tmp 12) rfl wc.heap.size rfl 194 (arrI on) (0, 0) _ HG8.out Tryz.underlying194 rfl (by rw [arrI_size, HON.out.len]; exact HI60.out) ?_)
                  | (refine wpQuiet_load_part rfl 194 (.tmp 87) rfl ⟨b, 2, none⟩ rfl _ HLD.out ?_)
                  | (quiet_step (fail)))
                refine wpQuiet_nil ?_
                refine only_done ?_
                clear hne
                have HGN := Lib.hid (show cpGo R (W.drop (k + 1)) (P.drop (k + 1)) (stepOn on 0 q) (n + 1) = (rA, rE) from by have h := HGO.out; simpa using h)
                clear HGO
                go_wp2_with fail
                go_roundw
                case rel => exact ⟨k + 1, stepOn on 0 q, n + 1, by omega, by first | rfl | simp, by go_num, by omega, by omega, HD8.out, HON7.out, HGN, HB8.out⟩
                case measure => simp [intOf]; omega
              · have hpp : (p != 0) = true := by simp [hp0]
                rw [hpp] at HGO
                go_wp2_with fail
                refine wp_region_flow [] [([0, 1], 2, true), ([3, 4, 5, 7, 8], 6, true)] [9, 10, 11] (by kernel_rfl) (by kernel_rfl) ?_
                intro wc hBc hh
                clear hh
                have HDC := Lib.hid (HDD.out.up hBc); have HBC := Lib.hid (btr HB.out hBc)
                have r0 := HR0.out _ HBC.out
                have rz := Nat.lt_of_lt_of_le hws HBC.out.size
                have hL := @Later.cell wc
                clear hBc gw hbz HDD HB
                simp only [flowP, flow, pickL, List.getElem?_cons_succ, List.getElem?_cons_zero]
                refine wpQuiet_nil ?_
                repeat (go_big_quiet_step (fail))
                refine wpQuiet_nil ?_
                go_wp2_with fail
                refine (HHQ.out _ HDC.out).mono ?_
                rintro e w' ⟨rfl, rfl⟩
                go_wp2
                refine seg_grow ⟨⟨_, bz _⟩, rfl⟩ ?_
                repeat (go_big_quiet_step (fail))
                refine wpQuiet_nil ?_
                go_wp2_with fail
                refine (HM.out _ HDC.out).mono ?_
                rintro e w' ⟨rfl, rfl⟩
                have hsu := HSU.out
                generalize sumL on = su at *
                go_wp2
                refine seg_grow ⟨⟨_, bz _⟩, rfl⟩ ?_
                repeat (go_big_quiet_step (fail))
                refine wpQuiet_nil ?_
                refine only_done ?_
                rw [if_pos (by decide)] at HGO
                have hra := HGO.out
                simp only [Prod.mk.injEq] at hra
                obtain ⟨rfl, rfl⟩ := hra
                have gp := GP.out _ HBC.out; have zp := ZP.out _ HBC.out
                go_wp2_with fail
                go_ret2
                exact ⟨rfl, HBW.out _ HBC.out⟩
            · have hfu : (!hasB on q && (sumL on == R)) = true := by rw [hth, hsu]; rfl
              rw [hfu, hth] at HGO
              have HHQ := Lib.hid (fun wz hD => HH.out q wz hD (by omega) (by omega))
              rw [hth] at HHQ
              have HTH := Lib.hid hth; clear hth hfu
              have HSU := Lib.hid hsu; clear hsu
              by_cases hp0 : p = 0
              · have hpp : (p != 0) = false := by simp [hp0]
                rw [hpp] at HGO
                subst hp0
                go_wp2_with fail
                refine wp_region_flow [] [([0, 1], 2, true), ([3, 4, 5, 7, 8], 6, true)] [9, 10, 11] (by kernel_rfl) (by kernel_rfl) ?_
                intro wc hBc hh
                clear hh
                have HDC := Lib.hid (HDD.out.up hBc); have HBC := Lib.hid (btr HB.out hBc)
                have r0 := HR0.out _ HBC.out
                have rz := Nat.lt_of_lt_of_le hws HBC.out.size
                have hL := @Later.cell wc
                clear hBc gw hbz HDD HB
                simp only [flowP, flow, pickL, List.getElem?_cons_succ, List.getElem?_cons_zero]
                refine wpQuiet_nil ?_
                repeat (go_big_quiet_step (fail))
                refine wpQuiet_nil ?_
                go_wp2_with fail
                refine (HHQ.out _ HDC.out).mono ?_
                rintro e w' ⟨rfl, rfl⟩
                go_wp2
                refine seg_grow ⟨⟨_, bz _⟩, rfl⟩ ?_
                repeat (go_big_quiet_step (fail))
                refine wpQuiet_nil ?_
                go_wp2_with fail
                refine (HM.out _ HDC.out).mono ?_
                rintro e w' ⟨rfl, rfl⟩
                have hsu := HSU.out
                generalize sumL on = su at *
                go_wp2
                refine seg_grow ⟨⟨_, bz _⟩, rfl⟩ ?_
                repeat (go_big_quiet_step (fail))
                refine wpQuiet_nil ?_
                refine only_done ?_
                rw [if_pos (by decide)] at HGO
                have hra := HGO.out
                simp only [Prod.mk.injEq] at hra
                obtain ⟨rfl, rfl⟩ := hra
                have gp := GP.out _ HBC.out; have zp := ZP.out _ HBC.out
                go_wp2_with fail
                go_ret2
                exact ⟨rfl, HBW.out _ HBC.out⟩
              · have hpp : (p != 0) = true := by simp [hp0]
                rw [hpp] at HGO
                go_wp2_with fail
                refine wp_region_flow [] [([0, 1], 2, true), ([3, 4, 5, 7, 8], 6, true)] [9, 10, 11] (by kernel_rfl) (by kernel_rfl) ?_
                intro wc hBc hh
                clear hh
                have HDC := Lib.hid (HDD.out.up hBc); have HBC := Lib.hid (btr HB.out hBc)
                have r0 := HR0.out _ HBC.out
                have rz := Nat.lt_of_lt_of_le hws HBC.out.size
                have hL := @Later.cell wc
                clear hBc gw hbz HDD HB
                simp only [flowP, flow, pickL, List.getElem?_cons_succ, List.getElem?_cons_zero]
                refine wpQuiet_nil ?_
                repeat (go_big_quiet_step (fail))
                refine wpQuiet_nil ?_
                go_wp2_with fail
                refine (HHQ.out _ HDC.out).mono ?_
                rintro e w' ⟨rfl, rfl⟩
                go_wp2
                refine seg_grow ⟨⟨_, bz _⟩, rfl⟩ ?_
                repeat (go_big_quiet_step (fail))
                refine wpQuiet_nil ?_
                go_wp2_with fail
                refine (HM.out _ HDC.out).mono ?_
                rintro e w' ⟨rfl, rfl⟩
                have hsu := HSU.out
                generalize sumL on = su at *
                go_wp2
                refine seg_grow ⟨⟨_, bz _⟩, rfl⟩ ?_
                repeat (go_big_quiet_step (fail))
                refine wpQuiet_nil ?_
                refine only_done ?_
                rw [if_neg (by decide), Bool.true_and] at HGO
                have HHP := Lib.hid (fun wz hD => HH.out p wz hD (by omega) (by omega))
                rcases hhp : hasB on p with _ | _
                · rw [hhp] at HHP HGO
                  rw [if_pos (by decide)] at HGO
                  have hra := HGO.out
                  simp only [Prod.mk.injEq] at hra
                  obtain ⟨rfl, rfl⟩ := hra
                  clear hhp
                  have gp := GP.out _ HBC.out; have zp := ZP.out _ HBC.out
                  go_wp2_with fail
                  refine (HHP.out _ HDC.out).mono ?_
                  rintro e w' ⟨rfl, rfl⟩
                  go_wp2_with fail
                  go_ret2
                  exact ⟨rfl, HBW.out _ HBC.out⟩
                · rw [hhp] at HHP HGO
                  rw [if_neg (by decide)] at HGO
                  clear hhp
                  have gp := GP.out _ HBC.out; have zp := ZP.out _ HBC.out
                  go_upto_region 15 with fail
                  go_wp2_with fail
                  refine (HHP.out _ HDC.out).mono ?_
                  rintro e w' ⟨rfl, rfl⟩
                  have hld := HDC.out.load
                  have hi60 : (Tryz.prog.info? 194).map (·.size) = some 9 := by kernel_rfl
                  have HI60 := Lib.hid hi60; clear hi60
                  have hB5 := below_box wc #[Value.int IntKind.i64 0, Value.int IntKind.i64 0, Value.int IntKind.i64 0, Value.int IntKind.i64 0, Value.int IntKind.i64 0, Value.int IntKind.i64 0, Value.int IntKind.i64 0, Value.int IntKind.i64 0, Value.int IntKind.i64 0] (arrI on) 194
                  have HB5 := Lib.hid (btr HBC.out hB5); have HD5 := Lib.hid (HDC.out.up hB5); have HG1 := Lib.hid (heap_box wc #[Value.int IntKind.i64 0, Value.int IntKind.i64 0, Value.int IntKind.i64 0, Value.int IntKind.i64 0, Value.int IntKind.i64 0, Value.int IntKind.i64 0, Value.int IntKind.i64 0, Value.int IntKind.i64 0, Value.int IntKind.i64 0] (arrI on) 194)
                  have gp5 := GP.out _ HB5.out; have zp5 := ZP.out _ HB5.out; have hbw := (Array.getElem?_eq_some_iff.1 HG1.out).1
                  have hbc := HDC.out.lt
                  clear hB5 r0 rz hL
                  go_wp2_with (first
                    | (refine wpList_load_var rfl 194 _ rfl _ rfl _ hld ?_)
                    | (refine wpList_store_row rfl 194 (.tmp 12) (.tmp 74) rfl wc.heap.size (arrI on) rfl rfl 194 _ (heap_alloc_new _ _) (by rw [arrI_size, HON.out.len]; exact HI60.out) (by rw [arrI_size, HON.out.len]; rfl) (one_arr _) ?_))
                  generalize World.setRow _ _ _ = w5 at *
                  clear gp zp hld
                  refine (put_any b R x on (.map (some M)) p w5 HD5.out (by omega) (by omega)).mono ?_
                  rintro e w6 ⟨⟨v6, rfl⟩, hw6⟩
                  have HD6 := Lib.hid (show BenchAt w6 b R x (on.set (p : Int).toNat 0) (.map (some M)) by rw [hw6]; exact HD5.out.set (by omega) 0)
                  have HB6 := Lib.hid (show Below wA.heap.size wA w6 by rw [hw6]; exact bset HB5.out hbs _)
                  have HG6 := Lib.hid (show w6.heap[wc.heap.size]? = some (.cells (arrI on) 194 (0, 0)) by rw [hw6, Go.Deep.blk_setCell_other _ _ _ _ (by simp; omega)]; exact HG1.out)
                  clear hw6 gp5 zp5 hbw HD5 HB5 HG1
                  go_wp2_with fail
                  refine (take_any b R x (on.set (p : Int).toNat 0) (.map (some M)) q w6 HD6.out (by omega) (by omega)).mono ?_
                  rintro e w7 ⟨⟨v7, rfl⟩, hw7⟩
                  have HD7 := Lib.hid (show BenchAt w7 b R x (stepOn on p q) (.map (some M)) by rw [hw7]; exact HD6.out.set (by omega) 1)
                  have HB7 := Lib.hid (show Below wA.heap.size wA w7 by rw [hw7]; exact bset HB6.out hbs _)
                  have HG7 := Lib.hid (show w7.heap[wc.heap.size]? = some (.cells (arrI on) 194 (0, 0)) by rw [hw7, Go.Deep.blk_setCell_other _ _ _ _ (by simp; omega)]; exact HG6.out)
                  clear hw7 HD6 HB6 HG6
                  have HON7 := Lib.hid (HON.out.step (p := p) (by omega) (by omega) v1 v8)
                  have HNE : Hid ((!decide (on = stepOn on p q)) = true) := Lib.hid (by simp [step_other HON.out v8 v1 HTH.out])
                  obtain ⟨i3, hi3, _, _, _⟩ := info_parts num3
                  have hne : ∀ w' : World, (binOp .neq 194 (.agg (arrI on)) (.agg (arrI (stepOn on p q)))).run Tryz.prog w' = .ok (.bool (!decide (on = stepOn on p q))) w' := fun w' => run_neq_arr (P := Tryz.prog) w' 194 3 9 .i64 i3 Tryz.underlying194 hi3 (by kernel_rfl) Tryz.underlying3 on (stepOn on p q) HON.out.len HON7.out.len
                  rw [HNE.out] at hne
                  have HNN := Lib.hid hne
                  clear hne hi3 HNE
                  go_upto_region 20 with fail
                  refine wp_region_flow [] [] [0, 1, 2, 3, 4, 5] (by kernel_rfl) (by kernel_rfl) ?_
                  intro wd hBd hh
                  clear hh
                  have HD8 := Lib.hid (HD7.out.up hBd); have HB8 := Lib.hid (btr HB7.out hBd)
                  have HG8 := Lib.hid ((hBd.block _ (Array.getElem?_eq_some_iff.1 HG7.out).1).trans HG7.out)
                  have HLD := Lib.hid (fun l : Later wd => (HD8.out.up l.le).load)
                  have hne := HNN.out
                  clear hBd HD7 HB7 HG7
                  simp only [flowP, flow, pickL, List.getElem?_cons_succ, List.getElem?_cons_zero]
                  refine wpQuiet_nil ?_
                  repeat (first
                    | (refine wpQuiet_load_row rfl 194 (.tmp 12) rfl wc.heap.size rfl 194 (arrI on) (0, 0) _ HG8.out Tryz.underlying194 rfl (by rw [arrI_size, HON.out.len]; exact HI60.out) ?_)
                    | (refine wpQuiet_load_part rfl 194 (.tmp 87) rfl ⟨b, 2, none⟩ rfl _ HLD.out ?_)
                    | (quiet_step (fail)))
                  refine wpQuiet_nil ?_
                  refine only_done ?_
                  clear hne
                  have HGN := Lib.hid (show cpGo R (W.drop (k + 1)) (P.drop (k + 1)) (stepOn on p q) (n + 1) = (rA, rE) from by have h := HGO.out; simpa using h)
                  clear HGO
                  go_wp2_with fail
                  go_roundw
                  case rel => exact ⟨k + 1, stepOn on p q, n + 1, by omega, by first | rfl | simp, by go_num, by omega, by omega, HD8.out, HON7.out, HGN, HB8.out⟩
                  case measure => simp [intOf]; omega
          · have hfu : (!hasB on q && (sumL on == R)) = false := by rw [hth]; rfl
            rw [hfu, hth] at HGO
            have HHQ := Lib.hid (fun wz hD => HH.out q wz hD (by omega) (by omega))
            rw [hth] at HHQ
            have HTH := Lib.hid hth; clear hth hfu
            by_cases hp0 : p = 0
            · have hpp : (p != 0) = false := by simp [hp0]
              rw [hpp] at HGO
              subst hp0
              go_wp2_with fail
              refine wp_region_flow [] [([0, 1], 2, true), ([3, 4, 5, 7, 8], 6, true)] [9, 10, 11] (by kernel_rfl) (by kernel_rfl) ?_
              intro wc hBc hh
              clear hh
              have HDC := Lib.hid (HDD.out.up hBc); have HBC := Lib.hid (btr HB.out hBc)
              have r0 := HR0.out _ HBC.out
              have rz := Nat.lt_of_lt_of_le hws HBC.out.size
              have hL := @Later.cell wc
              clear hBc gw hbz HDD HB
              simp only [flowP, flow, pickL, List.getElem?_cons_succ, List.getElem?_cons_zero]
              refine wpQuiet_nil ?_
              repeat (go_big_quiet_step (fail))
              refine wpQuiet_nil ?_
              go_wp2_with fail
              refine (HHQ.out _ HDC.out).mono ?_
              rintro e w' ⟨rfl, rfl⟩
              go_wp2
              refine seg_grow ⟨⟨_, bz _⟩, rfl⟩ ?_
              repeat (go_big_quiet_step (fail))
              refine wpQuiet_nil ?_
              go_wp2
              refine seg_grow ⟨⟨_, bz _⟩, rfl⟩ ?_
              repeat (go_big_quiet_step (fail))
              refine wpQuiet_nil ?_
              refine only_done ?_
              rw [if_neg (by decide), Bool.false_and, if_neg (by decide)] at HGO
              have gp := GP.out _ HBC.out; have zp := ZP.out _ HBC.out
              have hld := HDC.out.load
              have hi60 : (Tryz.prog.info? 194).map (·.size) = some 9 := by kernel_rfl
              have HI60 := Lib.hid hi60; clear hi60
              have hB5 := below_box wc #[Value.int IntKind.i64 0, Value.int IntKind.i64 0, Value.int IntKind.i64 0, Value.int IntKind.i64 0, Value.int IntKind.i64 0, Value.int IntKind.i64 0, Value.int IntKind.i64 0, Value.int IntKind.i64 0, Value.int IntKind.i64 0] (arrI on) 194
              have HB5 := Lib.hid (btr HBC.out hB5); have HD5 := Lib.hid (HDC.out.up hB5); have HG1 := Lib.hid (heap_box wc #[Value.int IntKind.i64 0, Value.int IntKind.i64 0, Value.int IntKind.i64 0, Value.int IntKind.i64 0, Value.int IntKind.i64 0, Value.int IntKind.i64 0, Value.int IntKind.i64 0, Value.int IntKind.i64 0, Value.int IntKind.i64 0] (arrI on) 194)
              have gp5 := GP.out _ HB5.out; have zp5 := ZP.out _ HB5.out; have hbw := (Array.getElem?_eq_some_iff.1 HG1.out).1
              have hbc := HDC.out.lt
              clear hB5 r0 rz hL
              go_wp2_with (first
                | (refine wpList_load_var rfl 194 _ rfl _ rfl _ hld ?_)
                | (refine wpList_store_row rfl 194 (.tmp 12) (.tmp 74) rfl wc.heap.size (arrI on) rfl rfl 194 _ (heap_alloc_new _ _) (by rw [arrI_size, HON.out.len]; exact HI60.out) (by rw [arrI_size, HON.out.len]; rfl) (one_arr _) ?_))
              generalize World.setRow _ _ _ = w5 at *
              clear gp zp hld
              refine (put_any b R x on (.map (some M)) 0 w5 HD5.out (by omega) (by omega)).mono ?_
              rintro e w6 ⟨⟨v6, rfl⟩, hw6⟩
              have HD6 := Lib.hid (show BenchAt w6 b R x (on.set (0 : Int).toNat 0) (.map (some M)) by rw [hw6]; exact HD5.out.set (by omega) 0)
              have HB6 := Lib.hid (show Below wA.heap.size wA w6 by rw [hw6]; exact bset HB5.out hbs _)
              have HG6 := Lib.hid (show w6.heap[wc.heap.size]? = some (.cells (arrI on) 194 (0, 0)) by rw [hw6, Go.Deep.blk_setCell_other _ _ _ _ (by simp; omega)]; exact HG1.out)
              clear hw6 gp5 zp5 hbw HD5 HB5 HG1
              go_wp2_with fail
              refine (take_any b R x (on.set (0 : Int).toNat 0) (.map (some M)) q w6 HD6.out (by omega) (by omega)).mono ?_
              rintro e w7 ⟨⟨v7, rfl⟩, hw7⟩
              have HD7 := Lib.hid (show BenchAt w7 b R x (stepOn on 0 q) (.map (some M)) by rw [hw7]; exact HD6.out.set (by omega) 1)
              have HB7 := Lib.hid (show Below wA.heap.size wA w7 by rw [hw7]; exact bset HB6.out hbs _)
              have HG7 := Lib.hid (show w7.heap[wc.heap.size]? = some (.cells (arrI on) 194 (0, 0)) by rw [hw7, Go.Deep.blk_setCell_other _ _ _ _ (by simp; omega)]; exact HG6.out)
              clear hw7 HD6 HB6 HG6
              have HON7 := Lib.hid (HON.out.step (p := 0) (by omega) (by omega) v1 v8)
              have HNE : Hid ((!decide (on = stepOn on 0 q)) = false) := Lib.hid (by rw [step_same HON.out v1 v8 HTH.out]; simp)
              obtain ⟨i3, hi3, _, _, _⟩ := info_parts num3
              have hne : ∀ w' : World, (binOp .neq 194 (.agg (arrI on)) (.agg (arrI (stepOn on 0 q)))).run Tryz.prog w' = .ok (.bool (!decide (on = stepOn on 0 q))) w' := fun w' => run_neq_arr (P := Tryz.prog) w' 194 3 9 .i64 i3 Tryz.underlying194 hi3 (by kernel_rfl) Tryz.underlying3 on (stepOn on 0 q) HON.out.len HON7.out.len
              rw [HNE.out] at hne
              have HNN := Lib.hid hne
              clear hne hi3 HNE
              go_upto_region 20 with fail
              refine wp_region_flow [] [] [0, 1, 2, 3, 4, 5] (by kernel_rfl) (by kernel_rfl) ?_
              intro wd hBd hh
              clear hh
              have HD8 := Lib.hid (HD7.out.up hBd); have HB8 := Lib.hid (btr HB7.out hBd)
              have HG8 := Lib.hid ((hBd.block _ (Array.getElem?_eq_some_iff.1 HG7.out).1).trans HG7.out)
              have HLD := Lib.hid (fun l : Later wd => (HD8.out.up l.le).load)
              have hne := HNN.out
              clear hBd HD7 HB7 HG7
              simp only [flowP, flow, pickL, List.getElem?_cons_succ, List.getElem?_cons_zero]
              refine wpQuiet_nil ?_
              repeat (first
                | (refine wpQuiet_load_row rfl 194 (.tmp 12) rfl wc.heap.size rfl 194 (arrI on) (0, 0) _ HG8.out Tryz.underlying194 rfl (by rw [arrI_size, HON.out.len]; exact HI60.out) ?_)
                | (refine wpQuiet_load_part rfl 194 (.tmp 87) rfl ⟨b, 2, none⟩ rfl _ HLD.out ?_)
                | (quiet_step (fail)))
              refine wpQuiet_nil ?_
              refine only_done ?_
              clear hne
              have HGN := Lib.hid (show cpGo R (W.drop (k + 1)) (P.drop (k + 1)) (stepOn on 0 q) (n + 0) = (rA, rE) from by have h := HGO.out; simpa using h)
              clear HGO
              go_wp2_with fail
              go_roundw
              case rel => exact ⟨k + 1, stepOn on 0 q, n + 0, by omega, by first | rfl | simp, by go_num, by omega, by omega, HD8.out, HON7.out, HGN, HB8.out⟩
              case measure => simp [intOf]; omega
            · have hpp : (p != 0) = true := by simp [hp0]
              rw [hpp] at HGO
              go_wp2_with fail
              refine wp_region_flow [] [([0, 1], 2, true), ([3, 4, 5, 7, 8], 6, true)] [9, 10, 11] (by kernel_rfl) (by kernel_rfl) ?_
              intro wc hBc hh
              clear hh
              have HDC := Lib.hid (HDD.out.up hBc); have HBC := Lib.hid (btr HB.out hBc)
              have r0 := HR0.out _ HBC.out
              have rz := Nat.lt_of_lt_of_le hws HBC.out.size
              have hL := @Later.cell wc
              clear hBc gw hbz HDD HB
              simp only [flowP, flow, pickL, List.getElem?_cons_succ, List.getElem?_cons_zero]
              refine wpQuiet_nil ?_
              repeat (go_big_quiet_step (fail))
              refine wpQuiet_nil ?_
              go_wp2_with fail
              refine (HHQ.out _ HDC.out).mono ?_
              rintro e w' ⟨rfl, rfl⟩
              go_wp2
              refine seg_grow ⟨⟨_, bz _⟩, rfl⟩ ?_
              repeat (go_big_quiet_step (fail))
              refine wpQuiet_nil ?_
              go_wp2
              refine seg_grow ⟨⟨_, bz _⟩, rfl⟩ ?_
              repeat (go_big_quiet_step (fail))
              refine wpQuiet_nil ?_
              refine only_done ?_
              rw [if_pos (by decide)] at HGO
              have hra := HGO.out
              simp only [Prod.mk.injEq] at hra
              obtain ⟨rfl, rfl⟩ := hra
              have gp := GP.out _ HBC.out; have zp := ZP.out _ HBC.out
              go_wp2_with fail
              go_ret2
              exact ⟨rfl, HBW.out _ HBC.out⟩
        · have hke : k = W.length := by omega
          have hra := HG.out
          rw [List.drop_eq_nil_of_le (by omega)] at hra
          unfold cpGo at hra
          simp only [Prod.mk.injEq] at hra
          obtain ⟨rfl, rfl⟩ := hra
          clear hke HG
          go_wp2_with fail
          go_ret2
          exact ⟨rfl, HBW.out _ HB.out⟩
    · rw [hpo] at HWI
      rw [if_pos rfl]
      clear hpo hpl
      go_enter Tryz.func98, Tryz.ntmps98
      go_wp2_with fail
      refine (HO.out _ (HX.out.mono (bal (bz _) _))).mono ?_
      rintro e w2 ⟨b, rfl, hb, hDD, hB2⟩
      obtain ⟨hcc, hf⟩ := bcell hB2
      have hz := hB2.size
      simp only [World.size_alloc] at hz
      have HB2 := Lib.hid (btr (bal (bz w) _) hB2)
      clear hB2 hDD
      go_wp2_with fail
      refine (HWI.out _ (HY.out.mono HB2.out)).mono ?_
      rintro e w3 ⟨rfl, hB3⟩
      go_wp2_with fail
      go_ret2
      exact ⟨rfl, btr HB2.out hB3⟩
  · rw [if_pos hpl]
    have t2 : ((P.length : Int) != (W.length : Int)) = true := by simp; omega
    clear hpl
    go_enter Tryz.func98, Tryz.ntmps98
    go_wp2_with fail
    refine (HO.out _ (HX.out.mono (bal (bz _) _))).mono ?_
    rintro e w2 ⟨b, rfl, hb, hDD, hB2⟩
    obtain ⟨hcc, hf⟩ := bcell hB2
    have hz := hB2.size
    simp only [World.size_alloc] at hz
    have HB2 := Lib.hid (btr (bal (bz w) _) hB2)
    clear hB2 hDD
    go_wp2_with fail
    go_ret2
    exact ⟨rfl, HB2.out⟩
end Go.Proofs.YtpeminhnjdakiaaGreat
end

