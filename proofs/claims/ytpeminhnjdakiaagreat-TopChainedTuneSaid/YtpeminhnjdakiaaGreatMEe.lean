/- Merged texts: maps with keys that are structs; rows of the own; no condition. -/
import Derived.WalkKit
import Derived.RangeFuncRecord
import Derived.RangeFuncOwn
import Derived.WalkSpells
import Derived.WalkLawsBesides
import Derived.Test.YtpeminhnjdakiaaGreatMEd
import Derived.Laws.OwnMore
section
namespace Go.EvMap
open Go.RowKit Go.Instr

/-- The entries of a map: the key, the element, the stamp. -/
abbrev Ents (α : Type) := List (α × Value × Nat)
def entsOf {α : Type} (kv : α → Value) (L : Ents α) : Array MapEntry := (L.map fun e => { key := kv e.1, val := e.2.1, born := e.2.2 }).toArray
/-- Maps of this type have keys of this form. -/
structure KeyS (P : Program) (mt kt et : TypeId) {α : Type} [DecidableEq α] (kv : α → Value) : Prop where
  under : P.underlying mt = some (.map kt et)
  now : ∃ d, P.underlying kt = some d ∧ ∀ a e (L : Ents α), findNow d (kv a) (entsOf kv (e :: L)).toList 0 = none
  eq : ∀ w a b, (Op.equal kt (kv a) (kv b)).run P w = .ok (decide (a = b)) w
  check : ∀ w e a, (checkKey e 10000 kt (kv a)).run P w = .ok () w
  same : ∀ a, sameBits 10000 (kv a) (kv a) = true
section
variable {P : Program} {mt kt et : TypeId} {α : Type} [DecidableEq α] {kv : α → Value}
def findL (a : α) : Ents α → Nat → Option (Nat × Value)
  | [], _ => none
  | e :: L, i => if a = e.1 then some (i, e.2.1) else findL a L (i + 1)

theorem run_findAsking (hK : KeyS P mt kt et kv) (w : World) (a : α) : ∀ (L : Ents α) (i : Nat), (findAsking kt (kv a) (entsOf kv L).toList i).run P w = .ok (findL a L i) w
  | [], i => by simp [entsOf, findAsking, findL]
  | e :: L, i => by
    have ih := run_findAsking hK w a L (i + 1)
    have he := hK.eq w a e.1
    simp only [entsOf, List.map_cons, findAsking, findL] at ih ⊢
    simp only [Sem.run_bind, Sem.run_ite, he, Result.andThen_ok]
    by_cases hq : a = e.1
    · simp [hq]
    · simp only [hq, decide_false, if_false, Bool.false_eq_true]
      simpa using ih

theorem run_findKey (hK : KeyS P mt kt et kv) (w : World) (a : α) (L : Ents α) : (findKey kt (kv a) (entsOf kv L).toList).run P w = .ok (findL a L 0) w := by
  obtain ⟨d, h1, h2⟩ := hK.now
  unfold findKey
  simp only [Sem.run_bind, run_underlying h1, Result.andThen_ok]
  cases L with
  | nil => simp [entsOf, findNow, findL]
  | cons e L =>
    rw [h2]
    exact run_findAsking hK w a (e :: L) 0

theorem findL_none {a : α} : ∀ {L : Ents α} {i : Nat}, findL a L i = none → a ∉ L.map (·.1)
  | [], _, _ => by simp
  | e :: L, i, h => by
    simp only [findL] at h
    split at h
    · cases h
    · rename_i hne
      have := findL_none h
      simp only [List.map_cons, List.mem_cons, not_or]
      exact ⟨hne, this⟩
theorem findL_some {a : α} : ∀ {L : Ents α} {i j : Nat} {v : Value}, findL a L i = some (j, v) → ∃ k e, j = i + k ∧ L[k]? = some e ∧ e.1 = a ∧ v = e.2.1
  | [], _, _, _, h => by simp [findL] at h
  | e :: L, i, j, v, h => by
    simp only [findL] at h
    split at h
    · rename_i he
      simp only [Option.some.injEq, Prod.mk.injEq] at h
      exact ⟨0, e, by omega, by simp, he.symm, h.2.symm⟩
    · obtain ⟨k, e', h1, h2, h3, h4⟩ := findL_some h
      exact ⟨k + 1, e', by omega, by simpa using h2, h3, h4⟩

/-- What may be asked of the list of a map. -/
structure OkL (L : Ents α) (clock : Nat) : Prop where
  keys : (L.map (·.1)).Nodup
  born : (L.map (·.2.2)).Nodup
  old : ∀ e ∈ L, e.2.2 < clock

theorem run_getMap {W : World} {b : Nat} {es : Array MapEntry} {c : Nat} (h : W.heap[b]? = some (.map es c)) : (getObj b).run P W = .ok (.map es c) W := by
  simp [getObj, Sem.run, h]
theorem run_setMap {W : World} {b : Nat} {o o' : Obj} (h : W.heap[b]? = some o) (ho : o.isCells = false := by rfl) : (setObj b o').run P W = .ok () (W.putObj b o') := by
  cases o <;> simp_all [setObj, Sem.run, World.putObj, Obj.isCells]
theorem map_set_same {α β : Type} (f : α → β) (L : List α) (k : Nat) (x : α) (h : ∀ hk : k < L.length, f L[k] = f x) : (L.set k x).map f = L.map f := by
  apply List.ext_getElem
  · simp
  · intro i h1 h2
    simp only [List.getElem_map, List.getElem_set]
    split
    · rename_i hki; subst hki; exact (h (by simpa using h2)).symm
    · rfl

omit [DecidableEq α] in
theorem modify_put (L : Ents α) (k : Nat) (e : α × Value × Nat) (h : L[k]? = some e) (a : α) (n : Value) :
    (entsOf kv L).modify k (fun x => { x with key := kv a, val := n }) = entsOf kv (L.set k (a, n, e.2.2)) := by
  apply Array.ext
  · simp [entsOf]
  · intro i h1 h2
    rw [Array.getElem_modify]
    simp only [entsOf, List.getElem_toArray, List.getElem_map, List.getElem_set]
    split
    · rename_i hk
      subst hk
      have he : L[k]'((List.getElem?_eq_some_iff.1 h).1) = e := (List.getElem?_eq_some_iff.1 h).2
      simp [he]
    · rfl

/-- 'm[a] = n'. -/
theorem run_putL (hK : KeyS P mt kt et kv) {W : World} {b : Nat} {L : Ents α} {c : Nat} (hb : W.heap[b]? = some (.map (entsOf kv L) c)) (hL : OkL L c) (a : α) (n : Value) :
    ∃ L1 c1, (mapUpdate mt (.map (some b)) (kv a) (n)).run P W = .ok () (W.putObj b (.map (entsOf kv L1) c1)) ∧ OkL L1 c1 ∧ (∀ x m, (∃ t, (x, m, t) ∈ L1) ↔ (x = a ∧ m = n) ∨ (x ≠ a ∧ ∃ t, (x, m, t) ∈ L)) := by
  have hf := run_findKey hK W a L
  cases hr : findL a L 0 with
  | none =>
    rw [hr] at hf
    have hno := findL_none hr
    refine ⟨L ++ [(a, n, c)], c + 1, ?_, ⟨?_, ?_, ?_⟩, ?_⟩
    · have e : (entsOf kv L).push { key := kv a, val := n, born := c } = entsOf kv (L ++ [(a, n, c)]) := by simp [entsOf]
      simp only [mapUpdate, Sem.run_bind, run_underlying hK.under, Result.andThen_ok, run_getMap hb, hK.check W false a, hf, run_setMap hb, e]
    · rw [List.map_append, List.nodup_append]
      refine ⟨hL.keys, by simp, ?_⟩
      intro x hx y hy e; simp at hy; subst hy; subst e; exact hno hx
    · rw [List.map_append, List.nodup_append]
      refine ⟨hL.born, by simp, ?_⟩
      intro x hx y hy e; simp at hy; subst hy; subst e
      obtain ⟨q, hq, hq2⟩ := List.mem_map.1 hx
      have := hL.old q hq
      omega
    · intro e he; simp at he; rcases he with he | rfl
      · exact Nat.lt_succ_of_lt (hL.old e he)
      · exact Nat.lt_succ_self _
    · intro x m
      constructor
      · rintro ⟨t, ht⟩
        rw [List.mem_append, List.mem_singleton] at ht
        rcases ht with ht | ht
        · exact .inr ⟨fun e => hno (List.mem_map.2 ⟨_, ht, e⟩), t, ht⟩
        · simp only [Prod.mk.injEq] at ht; exact .inl ⟨ht.1, ht.2.1⟩
      · rintro (⟨rfl, rfl⟩ | ⟨_, t, ht⟩)
        · exact ⟨c, by simp⟩
        · exact ⟨t, by simp [ht]⟩
  | some q =>
    obtain ⟨j, v⟩ := q
    rw [hr] at hf
    obtain ⟨k, e, hk, he, hea, hv⟩ := findL_some hr
    obtain rfl : j = k := by omega
    have hj : j < L.length := (List.getElem?_eq_some_iff.1 he).1
    have hje : L[j] = e := (List.getElem?_eq_some_iff.1 he).2
    refine ⟨L.set j (a, n, e.2.2), c, ?_, ⟨?_, ?_, ?_⟩, ?_⟩
    · have hk1 : ((entsOf kv L)[j]?.map (·.key)).getD (kv a) = kv a := by simp [entsOf, he, hea]
      simp only [mapUpdate, Sem.run_bind, run_underlying hK.under, Result.andThen_ok, run_getMap hb, hK.check W false a, hf, keyThatStays, hk1, hK.same, if_true, Sem.run_pure, run_setMap hb, modify_put L j e he a n]
    · rw [map_set_same (·.1) L j _ (fun _ => by simp [hje, hea])]; exact hL.keys
    · rw [map_set_same (·.2.2) L j _ (fun _ => by simp [hje])]; exact hL.born
    · intro x hx
      rcases List.mem_or_eq_of_mem_set hx with h | rfl
      · exact hL.old x h
      · exact hL.old e (List.mem_of_getElem? he)
    · intro x m
      constructor
      · rintro ⟨t, ht⟩
        obtain ⟨i, hi, hie⟩ := List.getElem_of_mem ht
        rw [List.getElem_set] at hie
        split at hie
        · simp only [Prod.mk.injEq] at hie; exact .inl ⟨hie.1.symm, hie.2.1.symm⟩
        · rename_i hne
          have hi' : i < L.length := by simpa using hi
          refine .inr ⟨fun hxa => ?_, t, by rw [← hie]; exact List.getElem_mem _⟩
          have hnd := hL.keys
          rw [List.nodup_iff_pairwise_ne, List.pairwise_iff_getElem] at hnd
          have e1 : L[i].1 = a := by rw [hie]; exact hxa
          rcases Nat.lt_or_gt_of_ne hne with h | h
          · have := hnd j i (by simpa using hj) (by simpa using hi') h
            simp only [List.getElem_map, hje, hea, e1] at this; exact this rfl
          · have := hnd i j (by simpa using hi') (by simpa using hj) h
            simp only [List.getElem_map, hje, hea, e1] at this; exact this rfl
      · rintro (⟨rfl, rfl⟩ | ⟨hxa, t, ht⟩)
        · exact ⟨e.2.2, by rw [List.mem_iff_getElem]; exact ⟨j, by simpa using hj, by simp⟩⟩
        · obtain ⟨i, hi, hie⟩ := List.getElem_of_mem ht
          refine ⟨t, List.mem_iff_getElem.2 ⟨i, by simpa using hi, ?_⟩⟩
          rw [List.getElem_set, if_neg, hie]
          rintro rfl
          rw [hje] at hie; rw [hie] at hea; exact hxa hea

/-- 'm[a]', and whether it is there. -/
theorem run_lookupL (hK : KeyS P mt kt et kv) {z : Value} {W : World} {b : Nat} {L : Ents α} {c : Nat} (hb : W.heap[b]? = some (.map (entsOf kv L) c)) (a : α) (hz : (zeroValue et).run P W = .ok z W) :
    (Instr.lookup mt (.map (some b)) (kv a) true).run P W = .ok (.tuple #[((findL a L 0).map (·.2)).getD z, .bool (findL a L 0).isSome]) W := by
  have hf := run_findKey hK W a L
  cases hr : findL a L 0 with
  | none =>
    rw [hr] at hf
    simp [Instr.lookup, Sem.run_bind, run_underlying hK.under, Result.andThen_ok, run_getMap hb, hK.check W _ a, hf, hz]
  | some q =>
    rw [hr] at hf
    simp [Instr.lookup, Sem.run_bind, run_underlying hK.under, Result.andThen_ok, run_getMap hb, hK.check W _ a, hf]

theorem map_erase {α β : Type} (f : α → β) : ∀ (L : List α) (j : Nat), (L.map f).eraseIdx j = (L.eraseIdx j).map f
  | [], j => by simp
  | x :: L, 0 => by simp
  | x :: L, j + 1 => by simp [map_erase f L j]

/-- 'delete(m, a)'. -/
theorem run_deleteL (hK : KeyS P mt kt et kv) {W : World} {b : Nat} {L : Ents α} {c : Nat} (hb : W.heap[b]? = some (.map (entsOf kv L) c)) (hL : OkL L c) (a : α) :
    ∃ L2, (∀ t, (Builtin.delete_ #[mt, kt] t #[.map (some b), kv a]).run P W = .ok (.tuple #[]) (W.putObj b (.map (entsOf kv L2) c))) ∧ OkL L2 c ∧ ∀ e, e ∈ L2 ↔ e ∈ L ∧ e.1 ≠ a := by
  have hf := run_findKey hK W a L
  cases hr : findL a L 0 with
  | none =>
    rw [hr] at hf
    refine ⟨L, fun t => ?_, hL, ?_⟩
    · simp [Builtin.delete_, Sem.run_bind, run_underlying hK.under, Result.andThen_ok, run_getMap hb, hK.check W _ a, hf, run_setMap hb]
    · intro e
      exact ⟨fun h => ⟨h, fun hea => findL_none hr (List.mem_map.2 ⟨e, h, hea⟩)⟩, fun h => h.1⟩
  | some q =>
    obtain ⟨j, v⟩ := q
    rw [hr] at hf
    obtain ⟨k, e0, hk, he, hea, hv⟩ := findL_some hr
    obtain rfl : j = k := by omega
    have hj : j < L.length := (List.getElem?_eq_some_iff.1 he).1
    have he0 : L[j] = e0 := (List.getElem?_eq_some_iff.1 he).2
    have hsub := List.eraseIdx_sublist L j
    refine ⟨L.eraseIdx j, fun t => ?_, ⟨(hsub.map _).nodup hL.keys, (hsub.map _).nodup hL.born, fun x hx => hL.old x (hsub.subset hx)⟩, ?_⟩
    · have hm : (entsOf kv L).eraseIdxIfInBounds j = entsOf kv (L.eraseIdx j) := by
        simp [entsOf, map_erase]
      simp [Builtin.delete_, Sem.run_bind, run_underlying hK.under, Result.andThen_ok, run_getMap hb, hK.check W _ a, hf, run_setMap hb, hm]
    · intro e
      rw [List.mem_eraseIdx_iff_getElem]
      constructor
      · rintro ⟨i, hi, hne, rfl⟩
        refine ⟨List.getElem_mem _, fun h => ?_⟩
        have hnd := hL.keys
        rw [List.nodup_iff_pairwise_ne, List.pairwise_iff_getElem] at hnd
        rcases Nat.lt_or_gt_of_ne hne with hlt | hlt
        · have := hnd i j (by simpa using hi) (by simpa using hj) hlt
          simp only [List.getElem_map, he0, hea, h] at this
          exact this rfl
        · have := hnd j i (by simpa using hj) (by simpa using hi) hlt
          simp only [List.getElem_map, he0, hea, h] at this
          exact this rfl
      · rintro ⟨h1, h2⟩
        obtain ⟨i, hi, rfl⟩ := List.getElem_of_mem h1
        refine ⟨i, hi, ?_, rfl⟩
        rintro rfl
        rw [he0] at h2
        exact h2 hea

theorem run_choose_map (W : World) (n : Nat) (hn : 0 < n) : ∃ i k, i < n ∧ (choose (.mapNext n)).run P W = .ok i (W.drewN k) := by
  by_cases h : n ≤ 1
  · exact ⟨0, 0, hn, by simp [choose, Sem.run, Question.forced, h, World.drewN]⟩
  · exact ⟨W.tape W.drawn (.mapNext n) % n, 1, Nat.mod_lt _ hn, by simp [choose, Sem.run, Question.forced, Question.cut, h, World.drewN]⟩

omit [DecidableEq α] in
/-- A range over the map under way, its iterator in block r: what has been met are the stamps in 'seen'. -/
theorem run_nextL {W : World} {b r : Nat} {L : Ents α} {c : Nat} {seen : Array Nat} (hb : W.heap[b]? = some (.map (entsOf kv L) c)) (hL : OkL L c) (hr : W.heap[r]? = some (.mapIter (some b) c seen c)) :
    ((∀ e ∈ L, e.2.2 ∈ seen) ∧ ∀ t, (Instr.next (.pointer (some ⟨r, 0, none⟩)) false t).run P W = .ok (.tuple #[.bool false]) W) ∨
    ∃ e ∈ L, e.2.2 ∉ seen ∧ ∃ n, ∀ t, (Instr.next (.pointer (some ⟨r, 0, none⟩)) false t).run P W = .ok (.tuple #[.bool true, kv e.1, e.2.1]) ((W.drewN n).putObj r (.mapIter (some b) c (seen.push e.2.2) c)) := by
  have hgr : (getObj r).run P W = .ok (.mapIter (some b) c seen c) W := by simp [getObj, Sem.run, hr]
  have hodd : (!seen.isEmpty && !(entsOf kv L).isEmpty && (entsOf kv L).all (fun x => decide (x.born ≥ c))) = false := by
    cases L with
    | nil => simp [entsOf]
    | cons e L =>
      have := hL.old e (by simp)
      simp [entsOf, show ¬ c ≤ e.2.2 by omega]
  have hleft : (entsOf kv L).filter (fun x => !seen.contains x.born) = entsOf kv (L.filter fun e => !seen.contains e.2.2) := by
    simp [entsOf, List.filter_map, Function.comp_def]
  have hold : (entsOf kv (L.filter fun e => !seen.contains e.2.2)).filter (fun x => decide (x.born < c)) = entsOf kv (L.filter fun e => !seen.contains e.2.2) := by
    rw [Array.filter_eq_self]
    intro x hx
    simp only [entsOf, List.mem_toArray, List.mem_map] at hx
    obtain ⟨e, he, rfl⟩ := hx
    simpa using hL.old e (List.mem_filter.1 he).1
  have hnew : (entsOf kv (L.filter fun e => !seen.contains e.2.2)).filter (fun x => decide (x.born ≥ c)) = #[] := by
    rw [Array.filter_eq_empty_iff]
    intro x hx
    simp only [entsOf, List.mem_toArray, List.mem_map] at hx
    obtain ⟨e, he, rfl⟩ := hx
    have := hL.old e (List.mem_filter.1 he).1
    simp; omega
  have hM : ∀ e, e ∈ L.filter (fun e => !seen.contains e.2.2) ↔ e ∈ L ∧ e.2.2 ∉ seen := by
    intro e; rw [List.mem_filter]; simp
  generalize L.filter (fun e => !seen.contains e.2.2) = M at *
  cases M with
  | nil =>
    refine .inl ⟨?_, fun t => ?_⟩
    · intro e he
      refine Classical.byContradiction fun h => ?_
      have := (hM e).2 ⟨he, h⟩
      cases this
    · have hd : ((entsOf kv []).filter fun x => decide (x.born < c)) = #[] ∧ ((entsOf kv []).filter fun x => decide (x.born ≥ c)) = #[] := by simp [entsOf]
      simp only [Instr.next, Sem.run_bind, hgr, Result.andThen_ok, run_getMap hb, hodd, hleft, hd.1, hd.2]
      simp [choose, Sem.run, Question.forced]
  | cons m M =>
    right
    obtain ⟨i, k, hi, hch⟩ := run_choose_map (P := P) W (m :: M).length (by simp)
    have hne : (entsOf kv (m :: M)).isEmpty = false := by simp [entsOf]
    obtain ⟨h1, h2⟩ := (hM _).1 (List.getElem_mem hi)
    refine ⟨_, h1, h2, k, fun t => ?_⟩
    have hsz : (#[] ++ (entsOf kv (m :: M) ++ #[]).map some).size = (m :: M).length := by simp [entsOf]
    have hcand : (#[] ++ (entsOf kv (m :: M) ++ #[]).map some)[i]? = some (some { key := kv (m :: M)[i].1, val := (m :: M)[i].2.1, born := (m :: M)[i].2.2 }) := by
      rw [Array.empty_append, Array.append_empty, Array.getElem?_map]
      unfold entsOf
      rw [List.getElem?_toArray, List.getElem?_map, List.getElem?_eq_getElem hi]
      rfl
    have hr' : (W.drewN k).heap[r]? = some (.mapIter (some b) c seen c) := hr
    simp only [Instr.next, Sem.run_bind, hgr, Result.andThen_ok, run_getMap hb, hodd, hleft, hold, hnew, hne, Bool.false_eq_true, if_false, hsz, hch, hcand, run_setMap hr', Sem.run_pure]
omit [DecidableEq α] in
/-- The entry that was met last. -/
theorem run_entryL {W : World} {b r : Nat} {L : Ents α} {c : Nat} {seen : Array Nat} {e : α × Value × Nat} (hb : W.heap[b]? = some (.map (entsOf kv L) c)) (hL : OkL L c) (he : e ∈ L) (hr : W.heap[r]? = some (.mapIter (some b) c (seen.push e.2.2) c)) :
    (Instr.entry (.pointer (some ⟨r, 0, none⟩))).run P W = .ok (.tuple #[kv e.1, e.2.1]) W := by
  have hgr : (getObj r).run P W = .ok (.mapIter (some b) c (seen.push e.2.2) c) W := by simp [getObj, Sem.run, hr]
  have hf : (entsOf kv L).find? (fun x => x.born == e.2.2) = some { key := kv e.1, val := e.2.1, born := e.2.2 } := by
    obtain ⟨k, hk, rfl⟩ := List.getElem_of_mem he
    have hnd := hL.born
    rw [List.nodup_iff_pairwise_ne, List.pairwise_iff_getElem] at hnd
    simp only [entsOf, List.find?_toArray]
    rw [List.find?_eq_some_iff_getElem]
    refine ⟨by simp, k, by simpa using hk, by simp, fun j hj => ?_⟩
    have := hnd j k (by simp; omega) (by simpa using hk) hj
    simpa using this
  simp [Instr.entry, Sem.run_bind, hgr, Result.andThen_ok, run_getMap hb, hf]
end

/-! Keys that are structs of one or two numbers. -/
def k1 (a : Int) : Value := .agg #[.int .i64 a]
def k2 (a : Int × Int) : Value := .agg #[.int .i64 a.1, .int .i64 a.2]
section
variable {P : Program} {mt kt et it : TypeId}
theorem partAt (hi : P.underlying it = some (.int .i64)) (w : World) (cs : Array Value) (i : Nat) (v : Value) (h : cs[i]? = some v) : (part it cs i).run P w = .ok v w := by
  simp [part, isAgg, run_underlying hi, h]
theorem keyS1 (hu : P.underlying mt = some (.map kt et)) (hk : P.underlying kt = some (.struct (P.fieldsOf kt))) (hh : P.stoodInHeld kt = false) (hi : P.underlying it = some (.int .i64)) (hf : (P.fieldsOf kt).toList.map (fun f => (f.name == "_", f.type, f.offset)) = [(false, it, 0)]) : KeyS P mt kt et k1 := by
  obtain ⟨f, h1, h2, h3, h4⟩ : ∃ f, (P.fieldsOf kt).toList = [f] ∧ f.name ≠ "_" ∧ f.type = it ∧ f.offset = 0 := by
    match hl : (P.fieldsOf kt).toList, hf with
    | [f], h => simp at h; exact ⟨f, rfl, h.1, h.2.1, h.2.2⟩
    | [], h => simp at h
    | _ :: _ :: _, h => simp at h
  have p0 : ∀ w a, (part it #[.int .i64 a] 0).run P w = .ok (.int .i64 a) w := fun w a => partAt hi w _ _ _ rfl
  refine ⟨hu, ⟨_, hk, fun a e L => by simp [entsOf, findNow, sameNow, k1]⟩, fun w a b => ?_, fun w e a => ?_, fun a => by simp [k1, sameBits]⟩
  · unfold Op.equal Op.maxDepth k1
    rw [run_equalIn_struct w 9999 kt _ _ hk hh, h1]
    simp only [Op.eqFields, Sem.run_bind, Sem.run_ite, h2, h3, h4, ne_eq, not_false_eq_true, if_true, p0, Result.andThen_ok, run_equalIn_int w _ it .i64 .i64 _ _ hi]
    by_cases h : a = b <;> simp [h]
  · have pc : ∀ x, (checkKey e 9999 it (.int .i64 x)).run P w = .ok () w := by
      intro x; rw [checkKey]; simp [run_underlying hi]
    unfold k1
    rw [checkKey]
    simp only [Sem.run_bind, run_underlying hk, Result.andThen_ok]
    rw [← Array.forIn_toList, h1]
    simp only [List.forIn_cons, List.forIn_nil, Sem.run_bind, h2, h3, h4, ne_eq, not_false_eq_true, if_true, p0, Result.andThen_ok, pc, Sem.run_pure]
theorem keyS2 (hu : P.underlying mt = some (.map kt et)) (hk : P.underlying kt = some (.struct (P.fieldsOf kt))) (hh : P.stoodInHeld kt = false) (hi : P.underlying it = some (.int .i64)) (hf : (P.fieldsOf kt).toList.map (fun f => (f.name == "_", f.type, f.offset)) = [(false, it, 0), (false, it, 1)]) : KeyS P mt kt et k2 := by
  obtain ⟨f, g, h1, h2, h3, h4, h5, h6, h7⟩ : ∃ f g, (P.fieldsOf kt).toList = [f, g] ∧ f.name ≠ "_" ∧ f.type = it ∧ f.offset = 0 ∧ g.name ≠ "_" ∧ g.type = it ∧ g.offset = 1 := by
    match hl : (P.fieldsOf kt).toList, hf with
    | [f, g], h => simp at h; exact ⟨f, g, rfl, h.1.1, h.1.2.1, h.1.2.2, h.2.1, h.2.2.1, h.2.2.2⟩
    | [], h => simp at h
    | [_], h => simp at h
    | _ :: _ :: _ :: _, h => simp at h
  have p0 : ∀ w a b, (part it #[.int .i64 a, .int .i64 b] 0).run P w = .ok (.int .i64 a) w := fun w a b => partAt hi w _ _ _ rfl
  have p1 : ∀ w a b, (part it #[.int .i64 a, .int .i64 b] 1).run P w = .ok (.int .i64 b) w := fun w a b => partAt hi w _ _ _ rfl
  refine ⟨hu, ⟨_, hk, fun a e L => by simp [entsOf, findNow, sameNow, k2]⟩, fun w a b => ?_, fun w e a => ?_, fun a => by simp [k2, sameBits]⟩
  · obtain ⟨a1, a2⟩ := a
    obtain ⟨b1, b2⟩ := b
    unfold Op.equal Op.maxDepth k2
    rw [run_equalIn_struct w 9999 kt _ _ hk hh, h1]
    simp only [Op.eqFields, Sem.run_bind, Sem.run_ite, h2, h3, h4, h5, h6, h7, ne_eq, not_false_eq_true, if_true, p0, p1, Result.andThen_ok, run_equalIn_int w _ it .i64 .i64 _ _ hi]
    by_cases h : a1 = b1 <;> by_cases k : a2 = b2 <;> simp [h, k]
  · have pc : ∀ x, (checkKey e 9999 it (.int .i64 x)).run P w = .ok () w := by
      intro x; rw [checkKey]; simp [run_underlying hi]
    unfold k2
    rw [checkKey]
    simp only [Sem.run_bind, run_underlying hk, Result.andThen_ok]
    rw [← Array.forIn_toList, h1]
    simp only [List.forIn_cons, List.forIn_nil, Sem.run_bind, h2, h3, h4, h5, h6, h7, ne_eq, not_false_eq_true, if_true, p0, p1, Result.andThen_ok, pc, Sem.run_pure]
end

/-! What is left of a range. -/
def unmet : Option Obj → Option Obj → Nat
  | some (.map es _), some (.mapIter _ _ seen _) => (es.filter fun e => !seen.contains e.born).size
  | _, _ => 0
section
variable {α : Type}
theorem unmet_eq (kv : α → Value) (L : Ents α) (c : Nat) (seen : Array Nat) (m : Option Nat) (s l : Nat) : unmet (some (.map (entsOf kv L) c)) (some (.mapIter m s seen l)) = (L.filter fun e => !seen.contains e.2.2).length := by
  simp [unmet, entsOf, List.filter_map, Function.comp_def]
theorem born_inj {L : Ents α} {c : Nat} (hL : OkL L c) {e e' : α × Value × Nat} (h1 : e ∈ L) (h2 : e' ∈ L) (h : e.2.2 = e'.2.2) : e = e' := by
  obtain ⟨i, hi, rfl⟩ := List.getElem_of_mem h1
  obtain ⟨j, hj, rfl⟩ := List.getElem_of_mem h2
  have hb := hL.born
  rw [List.nodup_iff_pairwise_ne, List.pairwise_iff_getElem] at hb
  rcases Nat.lt_trichotomy i j with h' | rfl | h'
  · exact absurd (by rw [List.getElem_map, List.getElem_map]; exact h) (hb i j (by simpa) (by simpa) h')
  · rfl
  · exact absurd (by rw [List.getElem_map, List.getElem_map]; exact h.symm) (hb j i (by simpa) (by simpa) h')
theorem unmet_lt {seen : Array Nat} {t : Nat} {L : Ents α} (he : ∃ e ∈ L, e.2.2 = t) (hs : t ∉ seen) : (L.filter fun x => !(seen.push t).contains x.2.2).length < (L.filter fun x => !seen.contains x.2.2).length := by
  have e : (L.filter fun x => !(seen.push t).contains x.2.2) = (L.filter fun x => !seen.contains x.2.2).filter fun x => !(x.2.2 == t) := by
    rw [List.filter_filter]
    refine List.filter_congr fun x _ => ?_
    rw [Array.contains_push, Bool.not_or, Bool.and_comm]
  rw [e, List.length_filter_lt_length_iff_exists]
  obtain ⟨e, h1, h2⟩ := he
  refine ⟨e, ?_, by simp [h2]⟩
  rw [List.mem_filter]
  exact ⟨h1, by rw [h2]; simpa using hs⟩
end
end Go.EvMap
end

section
namespace Go.Ev
open Go.RowKit (Below)
section
variable {P : Program} {ρ : Rn} {base mark : Nat} {h : Hp} {w w' : World}
theorem own_new (hr : RelH P ρ base h w) (hb : base ≤ w.heap.size) (hm : mark ≤ h.next) (hB : Below w.heap.size w w') {e : TypeId} {i : TypeInfo} (hi : P.info? e = some i) (hs : i.size = 1) {g m cap : Nat} {ts : List Int}
    (ho : w'.ownsRow w.heap.size e 1 (.slice (some ⟨g, 0, none⟩) m cap) m (ts.map (Value.int .i64))) :
    ∃ ρ', VR ρ' (.slice h.next 0 m 0 true) (.slice (some ⟨g, 0, none⟩) m cap) ∧ RelH P ρ' base (h.new (.row e (ts.map (AV.int .i64)) false none)) w' ∧ Post ρ h w mark ρ' (h.new (.row e (ts.map (AV.int .i64)) false none)) w' := by
  obtain ⟨hlen, h0 | ⟨g', cap', cur, hv, hge, hg, hmc, hcm, hsz, htk⟩⟩ := ho
  · exact absurd h0.1 (by simp)
  · simp only [Value.slice.injEq, Option.some.injEq, Addr.mk.injEq, and_true, true_and] at hv
    obtain ⟨rfl, rfl⟩ := hv
    have hno := hr.noName (Nat.le_refl h.next)
    have hr' := hr.below hB
    have hgs : g < w'.heap.size := (Array.getElem?_eq_some_iff.1 hg).1
    simp only [List.length_map, Nat.mul_one] at hlen htk hsz
    refine ⟨upd ρ h.next ⟨g, 0, cap, 1⟩, VR.rest (off := 0) (upd_same _ _ _) (by simpa using hmc), ?_, ?_⟩
    · have := hr'.add (q := ⟨g, 0, cap, 1⟩) (ob := .row e (ts.map (AV.int .i64)) false none) (by simp only; omega) hgs ?_ (fun s o p _ _ e3 => .inl (by have := (hr.dom s p e3).2.2; simp only; omega)) (GLe.refl h.grps) (fun x hx => by cases hx)
      · exact this
      · refine ⟨cur, hg, fun j a ha => ?_, fun _ => ⟨⟨i, hi, hs⟩, ?_, ?_⟩, fun h => by cases h⟩
        · rw [List.getElem?_map] at ha
          cases hj : ts[j]? with
          | none => rw [hj] at ha; cases ha
          | some x =>
            rw [hj] at ha
            cases ha
            refine ⟨.int .i64 x, ?_, .int _ _⟩
            have h1 : (ts.map (Value.int .i64))[j]? = some (.int .i64 x) := by rw [List.getElem?_map, hj]; rfl
            rw [← htk, List.getElem?_take] at h1
            simp only [Nat.zero_add]
            split at h1
            · simpa using h1
            · cases h1
        · simp only [Nat.zero_add, Nat.mul_one]; omega
        · simp only [List.length_map, Nat.mul_one]; omega
    · exact (Post.below' hB).add hm hno (.inl hge) _ h.grps
end
end Go.Ev
end

