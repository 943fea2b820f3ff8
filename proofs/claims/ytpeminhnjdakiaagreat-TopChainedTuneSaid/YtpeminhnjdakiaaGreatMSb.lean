/- Merged texts: the kind of a want; no condition. -/
import Derived.Test.YtpeminhnjdakiaaGreatMSa
import Derived.Test.YtpeminhnjdakiaaGreatMBa
section
namespace Go.Proofs.YtpeminhnjdakiaaGreat.M9
open Go.RowKit Go.Shelf Go.Instr

theorem size3 (w : World) : (sizeOf 3).run Tryz.prog w = .ok 1 w := by kernel_rfl
theorem eqKey (w : World) (a b : List Int) (ha : a.length = 9) (hb : b.length = 9) : (Op.equal 194 (.agg (arrI a)) (.agg (arrI b))).run Tryz.prog w = .ok (decide (a = b)) w := by
  obtain ⟨i3, hi3, _⟩ := info_parts num3
  unfold Op.equal Op.maxDepth
  exact run_eq_arr (P := Tryz.prog) w 9998 194 3 9 .i64 i3 Tryz.underlying194 hi3 (by kernel_rfl) Tryz.underlying3 a b ha hb
theorem checkLane (w : World) (e : Bool) (n : Nat) (a : List Int) (ha : a.length = 9) : (checkKey e (n + 2) 194 (.agg (arrI a))).run Tryz.prog w = .ok () w := by
  rw [checkKey]
  simp only [Sem.run_bind, run_underlying Tryz.underlying194, Result.andThen_ok, Std.Legacy.Range.forIn_eq_forIn_range', Std.Legacy.Range.size, Nat.sub_zero, Nat.add_sub_cancel, Nat.div_one]
  have hl : ∀ i ∈ List.range' 0 9 1, i < 9 := fun i hi => by simpa using (List.mem_range'_1.1 hi).2
  generalize List.range' 0 9 1 = l at hl
  induction l with
  | nil => simp
  | cons i l ih =>
    have hi := hl i (by simp)
    have px : (part 3 (arrI a) (i * 1)).run Tryz.prog w = .ok (.int .i64 (a[i]?.getD 0)) w := by
      simp [part, isAgg, run_underlying Tryz.underlying3, arrI, show i < a.length by omega]
    have pc : ∀ x, (checkKey e (n + 1) 3 (.int .i64 x)).run Tryz.prog w = .ok () w := by
      intro x; rw [checkKey]; simp [run_underlying Tryz.underlying3]
    simp only [List.forIn_cons, Sem.run_bind, size3, Result.andThen_ok, px, pc, Sem.run_pure]
    exact ih fun j hj => hl j (by simp [hj])

theorem checkStruct (w : World) (e : Bool) (a : List Int) (ha : a.length = 9) : (checkKey e 10000 194 (.agg (arrI a))).run Tryz.prog w = .ok () w := checkLane w e 9998 a ha
/-- The entries of a map from benches to ints: the key, the element, the stamp. -/
abbrev Ents := List (List Int × Int × Nat)
def entsOf (L : Ents) : Array MapEntry := (L.map fun e => { key := .agg (arrI e.1), val := .int .i64 e.2.1, born := e.2.2 }).toArray
def findL (a : List Int) : List (List Int × Int × Nat) → Nat → Option (Nat × Value)
  | [], _ => none
  | e :: L, i => if a = e.1 then some (i, .int .i64 e.2.1) else findL a L (i + 1)

theorem run_findAsking (w : World) (a : List Int) (ha : a.length = 9) : ∀ (L : List (List Int × Int × Nat)) (i : Nat), (∀ e ∈ L, e.1.length = 9) → (findAsking 194 (.agg (arrI a)) (entsOf L).toList i).run Tryz.prog w = .ok (findL a L i) w
  | [], i, _ => by simp [entsOf, findAsking, findL]
  | e :: L, i, h => by
    have ih := run_findAsking w a ha L (i + 1) (fun x hx => h x (List.mem_cons_of_mem _ hx))
    have he := eqKey w a e.1 ha (h e (by simp))
    simp only [entsOf, List.map_cons, findAsking, findL] at ih ⊢
    simp only [Sem.run_bind, Sem.run_ite, he, Result.andThen_ok]
    by_cases hq : a = e.1
    · simp [hq]
    · simp only [hq, decide_false, if_false, Bool.false_eq_true]
      simpa using ih

theorem run_findKey (w : World) (a : List Int) (ha : a.length = 9) (L : List (List Int × Int × Nat)) (h : ∀ e ∈ L, e.1.length = 9) : (findKey 194 (.agg (arrI a)) (entsOf L).toList).run Tryz.prog w = .ok (findL a L 0) w := by
  unfold findKey
  simp only [Sem.run_bind, run_underlying Tryz.underlying194, Result.andThen_ok]
  cases L with
  | nil => simp [entsOf, findNow, findL]
  | cons e L =>
    have : findNow (.array 9 3) (.agg (arrI a)) (entsOf (e :: L)).toList 0 = none := by
      simp [entsOf, findNow, sameNow]
    rw [this]
    exact run_findAsking w a ha (e :: L) 0 h

theorem findL_none {a : List Int} : ∀ {L : List (List Int × Int × Nat)} {i : Nat}, findL a L i = none → a ∉ L.map (·.1)
  | [], _, _ => by simp
  | e :: L, i, h => by
    simp only [findL] at h
    split at h
    · cases h
    · rename_i hne
      have := findL_none h
      simp only [List.map_cons, List.mem_cons, not_or]
      exact ⟨hne, this⟩
theorem findL_some {a : List Int} : ∀ {L : List (List Int × Int × Nat)} {i j : Nat} {v : Value}, findL a L i = some (j, v) → ∃ k e, j = i + k ∧ L[k]? = some e ∧ e.1 = a ∧ v = .int .i64 e.2.1
  | [], _, _, _, h => by simp [findL] at h
  | e :: L, i, j, v, h => by
    simp only [findL] at h
    split at h
    · rename_i he
      simp only [Option.some.injEq, Prod.mk.injEq] at h
      exact ⟨0, e, by omega, by simp, he.symm, h.2.symm⟩
    · obtain ⟨k, e', h1, h2, h3, h4⟩ := findL_some h
      exact ⟨k + 1, e', by omega, by simpa using h2, h3, h4⟩

/-- What may be asked of the list of a map. -/
structure OkL (L : List (List Int × Int × Nat)) (clock : Nat) : Prop where
  len : ∀ e ∈ L, e.1.length = 9
  keys : (L.map (·.1)).Nodup
  born : (L.map (·.2.2)).Nodup
  old : ∀ e ∈ L, e.2.2 < clock

theorem sameBits_arr (a : List Int) : sameBits 10000 (.agg (arrI a)) (.agg (arrI a)) = true := by
  simp only [sameBits, arrI, beq_self_eq_true, Bool.true_and, List.all_eq_true]
  intro p hp
  rw [List.zip_map'] at hp
  simp only [List.mem_map] at hp
  obtain ⟨x, _, rfl⟩ := hp
  simp [sameBits]

theorem modify_put (L : List (List Int × Int × Nat)) (k : Nat) (e : List Int × Int × Nat) (h : L[k]? = some e) (a : List Int) (n : Int) :
    (entsOf L).modify k (fun x => { x with key := (.agg (arrI a)), val := .int .i64 n }) = entsOf (L.set k (a, n, e.2.2)) := by
  apply Array.ext
  · simp [entsOf]
  · intro i h1 h2
    rw [Array.getElem_modify]
    simp only [entsOf, List.getElem_toArray, List.getElem_map, List.getElem_set]
    split
    · rename_i hk
      subst hk
      have he : L[k]'((List.getElem?_eq_some_iff.1 h).1) = e := (List.getElem?_eq_some_iff.1 h).2
      simp [he]
    · rfl

/-- 'm[a] = n'. -/
theorem run_putL {W : World} {b : Nat} {L : List (List Int × Int × Nat)} {c : Nat} (hb : W.heap[b]? = some (.map (entsOf L) c)) (hL : OkL L c) (a : List Int) (ha : a.length = 9) (n : Int) :
    ∃ L1 c1, (mapUpdate 263 (.map (some b)) (.agg (arrI a)) (.int .i64 n)).run Tryz.prog W = .ok () (W.putObj b (.map (entsOf L1) c1)) ∧ OkL L1 c1 ∧ (∀ x m, (∃ t, (x, m, t) ∈ L1) ↔ (x = a ∧ m = n) ∨ (x ≠ a ∧ ∃ t, (x, m, t) ∈ L)) := by
  have hf := run_findKey W a ha L hL.len
  cases hr : findL a L 0 with
  | none =>
    rw [hr] at hf
    have hno := findL_none hr
    refine ⟨L ++ [(a, n, c)], c + 1, ?_, ⟨fun e he => (by simp at he; rcases he with he | rfl; exact hL.len e he; exact ha), ?_, ?_, ?_⟩, ?_⟩
    · have e : (entsOf L).push { key := (.agg (arrI a)), val := .int .i64 n, born := c } = entsOf (L ++ [(a, n, c)]) := by simp [entsOf]
      simp only [mapUpdate, Sem.run_bind, run_underlying Tryz.underlying263, Result.andThen_ok, run_getMap hb, checkStruct W false a ha, hf, run_setMap hb, e]
    · rw [List.map_append, List.nodup_append]
      refine ⟨hL.keys, by simp, ?_⟩
      intro x hx y hy e; simp at hy; subst hy; subst e; exact hno hx
    · rw [List.map_append, List.nodup_append]
      refine ⟨hL.born, by simp, ?_⟩
      intro x hx y hy e; simp at hy; subst hy; subst e
      obtain ⟨q, hq, hq2⟩ := List.mem_map.1 hx
      have := hL.old q hq
      omega
    · intro e he; simp at he; rcases he with he | rfl
      · exact Nat.lt_succ_of_lt (hL.old e he)
      · exact Nat.lt_succ_self _
    · intro x m
      constructor
      · rintro ⟨t, ht⟩
        rw [List.mem_append, List.mem_singleton] at ht
        rcases ht with ht | ht
        · exact .inr ⟨fun e => hno (List.mem_map.2 ⟨_, ht, e⟩), t, ht⟩
        · simp only [Prod.mk.injEq] at ht; exact .inl ⟨ht.1, ht.2.1⟩
      · rintro (⟨rfl, rfl⟩ | ⟨_, t, ht⟩)
        · exact ⟨c, by simp⟩
        · exact ⟨t, by simp [ht]⟩
  | some q =>
    obtain ⟨j, v⟩ := q
    rw [hr] at hf
    obtain ⟨k, e, hk, he, hea, hv⟩ := findL_some hr
    obtain rfl : j = k := by omega
    have hj : j < L.length := (List.getElem?_eq_some_iff.1 he).1
    have hje : L[j] = e := (List.getElem?_eq_some_iff.1 he).2
    refine ⟨L.set j (a, n, e.2.2), c, ?_, ⟨fun x hx => (by rcases List.mem_or_eq_of_mem_set hx with h | rfl; exact hL.len x h; exact ha), ?_, ?_, ?_⟩, ?_⟩
    · have hk1 : ((entsOf L)[j]?.map (·.key)).getD (.agg (arrI a)) = .agg (arrI a) := by simp [entsOf, he, hea]
      simp only [mapUpdate, Sem.run_bind, run_underlying Tryz.underlying263, Result.andThen_ok, run_getMap hb, checkStruct W false a ha, hf, keyThatStays, hk1, sameBits_arr, if_true, Sem.run_pure, run_setMap hb, modify_put L j e he a n]
    · rw [YtpeminhnjdakiaaGreat.map_set_same (·.1) L j _ (fun _ => by simp [hje, hea])]; exact hL.keys
    · rw [YtpeminhnjdakiaaGreat.map_set_same (·.2.2) L j _ (fun _ => by simp [hje])]; exact hL.born
    · intro x hx
      rcases List.mem_or_eq_of_mem_set hx with h | rfl
      · exact hL.old x h
      · exact hL.old e (List.mem_of_getElem? he)
    · intro x m
      constructor
      · rintro ⟨t, ht⟩
        obtain ⟨i, hi, hie⟩ := List.getElem_of_mem ht
        rw [List.getElem_set] at hie
        split at hie
        · simp only [Prod.mk.injEq] at hie; exact .inl ⟨hie.1.symm, hie.2.1.symm⟩
        · rename_i hne
          have hi' : i < L.length := by simpa using hi
          refine .inr ⟨fun hxa => ?_, t, by rw [← hie]; exact List.getElem_mem _⟩
          have hnd := hL.keys
          rw [List.nodup_iff_pairwise_ne, List.pairwise_iff_getElem] at hnd
          have e1 : L[i].1 = a := by rw [hie]; exact hxa
          rcases Nat.lt_or_gt_of_ne hne with h | h
          · have := hnd j i (by simpa using hj) (by simpa using hi') h
            simp only [List.getElem_map, hje, hea, e1] at this; exact this rfl
          · have := hnd i j (by simpa using hi') (by simpa using hj) h
            simp only [List.getElem_map, hje, hea, e1] at this; exact this rfl
      · rintro (⟨rfl, rfl⟩ | ⟨hxa, t, ht⟩)
        · exact ⟨e.2.2, by rw [List.mem_iff_getElem]; exact ⟨j, by simpa using hj, by simp⟩⟩
        · obtain ⟨i, hi, hie⟩ := List.getElem_of_mem ht
          refine ⟨t, List.mem_iff_getElem.2 ⟨i, by simpa using hi, ?_⟩⟩
          rw [List.getElem_set, if_neg, hie]
          rintro rfl
          rw [hje] at hie; rw [hie] at hea; exact hxa hea

/-- 'm[a]', with or without whether it is there. -/
theorem run_lookupL {W : World} {b : Nat} {L : Ents} {c : Nat} (hb : W.heap[b]? = some (.map (entsOf L) c)) (hL : OkL L c) (a : List Int) (ha : a.length = 9) :
    (Instr.lookup 263 (.map (some b)) (.agg (arrI a)) true).run Tryz.prog W = .ok (.tuple #[((findL a L 0).map (·.2)).getD (.int .i64 0), .bool (findL a L 0).isSome]) W := by
  have hf := run_findKey W a ha L hL.len
  have hz : (zeroValue 3).run Tryz.prog W = .ok (.int .i64 0) W := by kernel_rfl
  cases hr : findL a L 0 with
  | none =>
    rw [hr] at hf
    simp [Instr.lookup, Sem.run_bind, run_underlying Tryz.underlying263, Result.andThen_ok, run_getMap hb, checkStruct W _ a ha, hf, hz]
  | some q =>
    rw [hr] at hf
    simp [Instr.lookup, Sem.run_bind, run_underlying Tryz.underlying263, Result.andThen_ok, run_getMap hb, checkStruct W _ a ha, hf]

/-- A range over the map under way, its iterator in block r: what has been met are the stamps in 'seen'. -/
theorem run_nextL {W : World} {b r : Nat} {L : Ents} {c : Nat} {seen : Array Nat} (hb : W.heap[b]? = some (.map (entsOf L) c)) (hL : OkL L c) (hr : W.heap[r]? = some (.mapIter (some b) c seen c)) :
    ((∀ e ∈ L, e.2.2 ∈ seen) ∧ ∀ t, (Instr.next (.pointer (some ⟨r, 0, none⟩)) false t).run Tryz.prog W = .ok (.tuple #[.bool false]) W) ∨
    ∃ e ∈ L, e.2.2 ∉ seen ∧ ∃ n, ∀ t, (Instr.next (.pointer (some ⟨r, 0, none⟩)) false t).run Tryz.prog W = .ok (.tuple #[.bool true, .agg (arrI e.1), .int .i64 e.2.1]) ((W.drewN n).putObj r (.mapIter (some b) c (seen.push e.2.2) c)) := by
  have hgr : (getObj r).run Tryz.prog W = .ok (.mapIter (some b) c seen c) W := by simp [getObj, Sem.run, hr]
  have hodd : (!seen.isEmpty && !(entsOf L).isEmpty && (entsOf L).all (fun x => decide (x.born ≥ c))) = false := by
    cases L with
    | nil => simp [entsOf]
    | cons e L =>
      have := hL.old e (by simp)
      simp [entsOf, show ¬ c ≤ e.2.2 by omega]
  have hleft : (entsOf L).filter (fun x => !seen.contains x.born) = entsOf (L.filter fun e => !seen.contains e.2.2) := by
    simp [entsOf, List.filter_map, Function.comp_def]
  have hold : (entsOf (L.filter fun e => !seen.contains e.2.2)).filter (fun x => decide (x.born < c)) = entsOf (L.filter fun e => !seen.contains e.2.2) := by
    rw [Array.filter_eq_self]
    intro x hx
    simp only [entsOf, List.mem_toArray, List.mem_map] at hx
    obtain ⟨e, he, rfl⟩ := hx
    simpa using hL.old e (List.mem_filter.1 he).1
  have hnew : (entsOf (L.filter fun e => !seen.contains e.2.2)).filter (fun x => decide (x.born ≥ c)) = #[] := by
    rw [Array.filter_eq_empty_iff]
    intro x hx
    simp only [entsOf, List.mem_toArray, List.mem_map] at hx
    obtain ⟨e, he, rfl⟩ := hx
    have := hL.old e (List.mem_filter.1 he).1
    simp; omega
  have hM : ∀ e, e ∈ L.filter (fun e => !seen.contains e.2.2) ↔ e ∈ L ∧ e.2.2 ∉ seen := by
    intro e; rw [List.mem_filter]; simp
  generalize L.filter (fun e => !seen.contains e.2.2) = M at *
  cases M with
  | nil =>
    refine .inl ⟨?_, fun t => ?_⟩
    · intro e he
      refine Classical.byContradiction fun h => ?_
      have := (hM e).2 ⟨he, h⟩
      cases this
    · have hd : ((entsOf []).filter fun x => decide (x.born < c)) = #[] ∧ ((entsOf []).filter fun x => decide (x.born ≥ c)) = #[] := by simp [entsOf]
      simp only [Instr.next, Sem.run_bind, hgr, Result.andThen_ok, run_getMap hb, hodd, hleft, hd.1, hd.2]
      simp [choose, Sem.run, Question.forced]
  | cons m M =>
    right
    obtain ⟨i, k, hi, hch⟩ := run_choose_map (P := Tryz.prog) W (m :: M).length (by simp)
    have hne : (entsOf (m :: M)).isEmpty = false := by simp [entsOf]
    obtain ⟨h1, h2⟩ := (hM _).1 (List.getElem_mem hi)
    refine ⟨_, h1, h2, k, fun t => ?_⟩
    have hsz : (#[] ++ (entsOf (m :: M) ++ #[]).map some).size = (m :: M).length := by simp [entsOf]
    have hcand : (#[] ++ (entsOf (m :: M) ++ #[]).map some)[i]? = some (some { key := .agg (arrI (m :: M)[i].1), val := .int .i64 (m :: M)[i].2.1, born := (m :: M)[i].2.2 }) := by
      rw [Array.empty_append, Array.append_empty, Array.getElem?_map]
      unfold entsOf
      rw [List.getElem?_toArray, List.getElem?_map, List.getElem?_eq_getElem hi]
      rfl
    have hr' : (W.drewN k).heap[r]? = some (.mapIter (some b) c seen c) := hr
    simp only [Instr.next, Sem.run_bind, hgr, Result.andThen_ok, run_getMap hb, hodd, hleft, hold, hnew, hne, Bool.false_eq_true, if_false, hsz, hch, hcand, run_setMap hr', Sem.run_pure]
/-- The entry that was met last. -/
theorem run_entryL {W : World} {b r : Nat} {L : Ents} {c : Nat} {seen : Array Nat} {e : List Int × Int × Nat} (hb : W.heap[b]? = some (.map (entsOf L) c)) (hL : OkL L c) (he : e ∈ L) (hr : W.heap[r]? = some (.mapIter (some b) c (seen.push e.2.2) c)) :
    (Instr.entry (.pointer (some ⟨r, 0, none⟩))).run Tryz.prog W = .ok (.tuple #[.agg (arrI e.1), .int .i64 e.2.1]) W := by
  have hgr : (getObj r).run Tryz.prog W = .ok (.mapIter (some b) c (seen.push e.2.2) c) W := by simp [getObj, Sem.run, hr]
  have hf : (entsOf L).find? (fun x => x.born == e.2.2) = some { key := .agg (arrI e.1), val := .int .i64 e.2.1, born := e.2.2 } := by
    obtain ⟨k, hk, rfl⟩ := List.getElem_of_mem he
    have hnd := hL.born
    rw [List.nodup_iff_pairwise_ne, List.pairwise_iff_getElem] at hnd
    simp only [entsOf, List.find?_toArray]
    rw [List.find?_eq_some_iff_getElem]
    refine ⟨by simp, k, by simpa using hk, by simp, fun j hj => ?_⟩
    have := hnd j k (by simp; omega) (by simpa using hk) hj
    simpa using this
  simp [Instr.entry, Sem.run_bind, hgr, Result.andThen_ok, run_getMap hb, hf]
end Go.Proofs.YtpeminhnjdakiaaGreat.M9
end

section
namespace Go.Proofs.YtpeminhnjdakiaaGreat
open Go.RowKit Go.Shelf

/-- What a map says of a bench. -/
def valM (L : M9.Ents) (x : List Int) : Option Int := (L.find? fun e => decide (x = e.1)).map (·.2.1)
theorem find_val (x : List Int) : ∀ (L : M9.Ents) (i : Nat), (M9.findL x L i).map (·.2) = (valM L x).map (Value.int .i64)
  | [], _ => rfl
  | e :: L, i => by
    have ih := find_val x L (i + 1)
    unfold M9.findL valM
    by_cases h : x = e.1
    · simp [h]
    · rw [if_neg h, ih]
      unfold valM
      rw [List.find?_cons_of_neg (by simpa using h)]
theorem val_some {L : M9.Ents} {c : Nat} (h : M9.OkL L c) (x : List Int) (m : Int) : valM L x = some m ↔ ∃ t, (x, m, t) ∈ L := by
  unfold valM
  constructor
  · intro hv
    rw [Option.map_eq_some_iff] at hv
    obtain ⟨⟨y, n, t⟩, hf, hn⟩ := hv
    have hy := List.find?_some hf
    simp only [decide_eq_true_eq] at hy hn
    subst hy; subst hn
    exact ⟨t, List.mem_of_find?_eq_some hf⟩
  · rintro ⟨t, ht⟩
    cases hf : L.find? fun e => decide (x = e.1) with
    | none => rw [List.find?_eq_none] at hf; exact absurd (hf _ ht) (by simp)
    | some e =>
      obtain ⟨y, n, s⟩ := e
      have hy := List.find?_some hf
      simp only [decide_eq_true_eq] at hy
      subst hy
      have hm := List.mem_of_find?_eq_some hf
      obtain ⟨i, hi, e1⟩ := List.getElem_of_mem ht
      obtain ⟨j, hj, e2⟩ := List.getElem_of_mem hm
      have hnd := h.keys
      rw [List.nodup_iff_pairwise_ne, List.pairwise_iff_getElem] at hnd
      have : i = j := by
        rcases Nat.lt_trichotomy i j with g | g | g
        · have := hnd i j (by simpa using hi) (by simpa using hj) g
          simp only [List.getElem_map, e1, e2] at this; exact absurd rfl this
        · exact g
        · have := hnd j i (by simpa using hj) (by simpa using hi) g
          simp only [List.getElem_map, e1, e2] at this; exact absurd rfl this
      subst this
      rw [e1] at e2
      simp only [Prod.mk.injEq] at e2
      simp [e2.2.1]
theorem val_iff {L L1 : M9.Ents} {c c1 : Nat} (h : M9.OkL L c) (h1 : M9.OkL L1 c1) (a : List Int) (n : Int) (hk : ∀ x m, (∃ t, (x, m, t) ∈ L1) ↔ (x = a ∧ m = n) ∨ (x ≠ a ∧ ∃ t, (x, m, t) ∈ L)) : valM L1 = fun x => if x = a then some n else valM L x := by
  funext x
  by_cases hx : x = a
  · rw [if_pos hx, val_some h1, hk]; exact .inl ⟨hx, rfl⟩
  · rw [if_neg hx]
    apply Option.ext
    intro m
    rw [val_some h1, val_some h, hk]
    constructor
    · rintro (h | h)
      · exact absurd h.1 hx
      · exact h.2
    · intro h; exact .inr ⟨hx, h⟩
/-- keep: the lesser value stays. -/
def keepF (f : List Int → Option Int) (s : List Int) (n : Int) : List Int → Option Int := fun x => if x = s then some (match f s with | none => n | some o => if n < o then n else o) else f x
/-- A function that is the least of what is said. -/
def IsMin (S : List Int → Int → Prop) (f : List Int → Option Int) : Prop := ∀ x m, f x = some m ↔ S x m ∧ ∀ m', S x m' → m ≤ m'
theorem IsMin.none {S : List Int → Int → Prop} {f : List Int → Option Int} (h : IsMin S f) (hp : ∀ x m, S x m → 0 ≤ m) {x : List Int} (hx : f x = none) : ∀ m, ¬ S x m := by
  intro m hm
  have key : ∀ k : Nat, ∀ m, S x m → m ≤ (k : Int) → False := by
    intro k
    induction k with
    | zero =>
      intro m hm hk
      have := hp x m hm
      have := (h x m).2 ⟨hm, fun m' hm' => by have := hp x m' hm'; omega⟩
      rw [hx] at this; cases this
    | succ k ih =>
      intro m hm hk
      by_cases he : ∃ m', S x m' ∧ m' < m
      · obtain ⟨m', h1, h2⟩ := he
        exact ih m' h1 (by omega)
      · have := (h x m).2 ⟨hm, fun m' hm' => by
          rcases Int.lt_or_le m' m with g | g
          · exact absurd ⟨m', hm', g⟩ he
          · exact g⟩
        rw [hx] at this; cases this
  exact key m.toNat m hm (by have := hp x m hm; omega)
theorem IsMin.keep {S : List Int → Int → Prop} {f : List Int → Option Int} (h : IsMin S f) (hp : ∀ x m, S x m → 0 ≤ m) (s : List Int) (n : Int) : IsMin (fun x m => S x m ∨ (x = s ∧ m = n)) (keepF f s n) := by
  intro x m
  unfold keepF
  by_cases hx : x = s
  · subst hx
    rw [if_pos rfl]
    cases hf : f x with
    | none =>
      have hno := h.none hp hf
      simp only [Option.some.injEq]
      constructor
      · rintro rfl
        exact ⟨.inr ⟨trivial, rfl⟩, fun m' hm' => by rcases hm' with h | h; exact absurd h (hno _); omega⟩
      · rintro ⟨h1, _⟩
        rcases h1 with h1 | h1
        · exact absurd h1 (hno _)
        · exact h1.2.symm
    | some o =>
      obtain ⟨ho, hmin⟩ := (h x o).1 hf
      simp only [Option.some.injEq]
      constructor
      · rintro rfl
        split
        · exact ⟨.inr ⟨trivial, rfl⟩, fun m' hm' => by rcases hm' with h | h; have := hmin _ h; omega; omega⟩
        · exact ⟨.inl ho, fun m' hm' => by rcases hm' with h | h; exact hmin _ h; omega⟩
      · rintro ⟨h1, h2⟩
        have a1 := h2 o (.inl ho)
        have a2 := h2 n (.inr ⟨trivial, rfl⟩)
        rcases h1 with h1 | h1
        · have := hmin _ h1
          split <;> omega
        · split <;> omega
  · rw [if_neg hx, h x m]
    constructor
    · rintro ⟨h1, h2⟩
      exact ⟨.inl h1, fun m' hm' => by rcases hm' with h | h; exact h2 _ h; exact absurd h.1 hx⟩
    · rintro ⟨h1, h2⟩
      refine ⟨?_, fun m' hm' => h2 m' (.inl hm')⟩
      rcases h1 with h | h
      · exact h
      · exact absurd h.1 hx
theorem IsMin.congr {S T : List Int → Int → Prop} {f : List Int → Option Int} (h : IsMin S f) (e : ∀ x m, S x m ↔ T x m) : IsMin T f := by
  have : S = T := by funext x m; exact propext (e x m)
  rwa [this] at h
/-- A map at a block. -/
structure MapM (w : World) (mb : Nat) (L : M9.Ents) (c : Nat) : Prop where
  at_ : w.heap[mb]? = some (.map (M9.entsOf L) c)
  ok : M9.OkL L c
theorem MapM.lt {w : World} {mb c : Nat} {L : M9.Ents} (h : MapM w mb L c) : mb < w.heap.size := (Array.getElem?_eq_some_iff.1 h.at_).1
theorem MapM.up {w w' : World} {mb c : Nat} {L : M9.Ents} (h : MapM w mb L c) (hb : Below w.heap.size w w') : MapM w' mb L c := ⟨(hb.block _ h.lt).trans h.at_, h.ok⟩
theorem MapM.grown {w w' : World} {mb c : Nat} {L : M9.Ents} {row : Option Nat} (h : MapM w mb L c) (hg : w.grownBy w' row) (hr : some mb ≠ row) : MapM w' mb L c := ⟨(hg.block _ h.lt hr).trans h.at_, h.ok⟩
def KeepOk (f : List Int → Option Int) (s : List Int) (n : Int) (mb : Nat) (w : World) (e : Ending) (w' : World) : Prop :=
  (∃ v, e = .returned v) ∧ (∃ L c, MapM w' mb L c ∧ valM L = keepF f s n) ∧ w.grownBy w' (some mb)
theorem load_fresh (w : World) (s : List Int) (hs : s.length = 9) : (loadVar 194 ⟨w.heap.size, 0, none⟩).run Tryz.prog (w.alloc (.cells (arrI s) 194)) = .ok (.agg (arrI s)) (w.alloc (.cells (arrI s) 194)) := by
  have hi : (Tryz.prog.info? 194).map (·.size) = some 9 := by kernel_rfl
  exact run_loadVar_row _ w.heap.size 194 194 (arrI s) (0, 0) _ (heap_alloc_new _ _) Tryz.underlying194 rfl (by rw [arrI_size, hs]; exact hi)
theorem grown_put {w w' : World} {r : Nat} {o : Obj} (h : w.grownBy w' (some r)) : w.grownBy (w'.putObj r o) (some r) :=
  ⟨h.os, h.tape, h.output, by rw [World.putObj_size]; exact h.size, fun k hk hne => by rw [World.putObj_heap_other (fun e => hne (by rw [e]))]; exact h.block k hk hne⟩
set_option maxRecDepth 100000 in
set_option maxHeartbeats 2000000 in
theorem keep_any (s : List Int) (n : Int) (pb mb : Nat) (L : M9.Ents) (c : Nat) (w : World) (hs : s.length = 9) (hp : w.cell? ⟨pb, 0, none⟩ = some (.map (some mb))) (hM : MapM w mb L c) :
    Calls Tryz.prog 244 #[.agg (arrI s), .int .i64 n, .pointer (some ⟨pb, 0, none⟩)] w (KeepOk (valM L) s n mb w) := by
  have hMA := hM.up (bal (bz w) (.cells (arrI s) 194))
  have hlk := M9.run_lookupL hMA.at_ hMA.ok s hs
  have hld := load_fresh w s hs
  have hpz := World.block_lt_of_cell? w _ hp
  have hpA := (bal (bz w) (.cells (arrI s) 194)).cell (p := ⟨pb, 0, none⟩) hpz |>.trans hp
  have hgA : w.grownBy (w.alloc (.cells (arrI s) 194)) (some mb) := World.grownBy_alloc _ _ _
  have hfv := find_val s L 0
  have hfs : (M9.findL s L 0).isSome = (valM L s).isSome := by
    have := congrArg Option.isSome hfv
    simpa using this
  rw [hfs, hfv] at hlk
  obtain ⟨L1, c1, hput, hok1, hk1⟩ := M9.run_putL hMA.at_ hMA.ok s hs n
  have hv1 := val_iff hMA.ok hok1 s n hk1
  have hM1 : MapM ((w.alloc (.cells (arrI s) 194)).putObj mb (.map (M9.entsOf L1) c1)) mb L1 c1 := ⟨World.putObj_heap_same hMA.lt, hok1⟩
  have hg1 := grown_put (o := .map (M9.entsOf L1) c1) hgA
  have HM1 := Lib.hid hM1; have HG1 := Lib.hid hg1; have HV1 := Lib.hid hv1; have HGA := Lib.hid hgA; have HMA := Lib.hid hMA
  clear hM1 hg1 hv1 hgA hMA hfv hfs hk1 hok1 hM hp
  cases hv : valM L s with
  | none =>
    have HV := Lib.hid hv
    rw [hv] at hlk
    simp only [Option.map_none, Option.getD_none, Option.isSome_none] at hlk
    clear hv
    go_enter Tryz.func244, Tryz.ntmps244
    go_upto_region 1 with fail
    generalize hwA : (w.alloc (.cells (arrI s) 194)) = wA at *
    clear hwA
    go_wp2_with (refine wpList_load_var rfl 194 _ rfl _ rfl _ hld ?_)
    exact bodyPost_end (results_none rfl _ _ _) rfl ⟨⟨_, rfl⟩, ⟨L1, c1, HM1.out, by rw [HV1.out]; funext x; unfold keepF; rw [HV.out]⟩, HG1.out⟩
  | some o =>
    have HV := Lib.hid hv
    rw [hv] at hlk
    simp only [Option.map_some, Option.getD_some, Option.isSome_some] at hlk
    clear hv
    by_cases hno : n < o
    · have d1 : decide (n < o) = true := decide_eq_true hno
      have HNO := Lib.hid hno
      clear hno
      go_enter Tryz.func244, Tryz.ntmps244
      go_upto_region 1 with fail
      generalize hwA : (w.alloc (.cells (arrI s) 194)) = wA at *
      clear hwA
      go_wp2_with (refine wpList_load_var rfl 194 _ rfl _ rfl _ hld ?_)
      exact bodyPost_end (results_none rfl _ _ _) rfl ⟨⟨_, rfl⟩, ⟨L1, c1, HM1.out, by rw [HV1.out]; funext x; unfold keepF; rw [HV.out]; simp only; rw [if_pos HNO.out]⟩, HG1.out⟩
    · have d1 : decide (n < o) = false := decide_eq_false hno
      have HNO := Lib.hid hno
      clear hno
      go_enter Tryz.func244, Tryz.ntmps244
      go_upto_region 1 with fail
      generalize hwA : (w.alloc (.cells (arrI s) 194)) = wA at *
      clear hwA
      go_wp2_with (refine wpList_load_var rfl 194 _ rfl _ rfl _ hld ?_)
      exact bodyPost_end (results_none rfl _ _ _) rfl ⟨⟨_, rfl⟩, ⟨L, c, HMA.out, by
        funext x; unfold keepF; rw [HV.out]; simp only
        by_cases hx : x = s
        · rw [if_pos hx, if_neg (by have := HNO.out; omega), hx, HV.out]
        · rw [if_neg hx]⟩, HGA.out⟩
end Go.Proofs.YtpeminhnjdakiaaGreat
end

section
namespace Go.Proofs.YtpeminhnjdakiaaGreat
open Go.RowKit Go.Shelf

theorem nine {s : List Int} (h : s.length = 9) : ∃ a b c d e f g i j, s = [a, b, c, d, e, f, g, i, j] := by
  match s, h with
  | [a, b, c, d, e, f, g, i, j], _ => exact ⟨a, b, c, d, e, f, g, i, j, rfl⟩
theorem built2 (R : Int) (x : Value) (s : List Int) (hs : s.length = 9) : Tryz.prog.built 197 [(0, .agg #[.int .i64 R, x]), (1, .agg (arrI s))] = some (benchC R x s (.map none)) := by
  obtain ⟨a, b, c, d, e, f, g, i, j, rfl⟩ := nine hs
  kernel_rfl
theorem built1 (s : List Int) (hs : s.length = 9) : Tryz.prog.built 197 [(1, .agg (arrI s))] = some (benchC 0 (.slice none 0 0) s (.map none)) := by
  obtain ⟨a, b, c, d, e, f, g, i, j, rfl⟩ := nine hs
  kernel_rfl
theorem BenchAt.load24 {w : World} {b : Nat} {R : Int} {x : Value} {on : List Int} {m : Value} (h : BenchAt w b R x on m) : (loadVar 126 ⟨b, 0, none⟩).run Tryz.prog w = .ok (.agg #[.int .i64 R, x]) w := by
  obtain ⟨c0, c1, _⟩ := h.cells
  have hl : (loadCells ⟨b, 0, none⟩ 2).run Tryz.prog w = .ok #[.int .i64 R, x] w :=
    run_loadCells_list (P := Tryz.prog) w ⟨b, 0, none⟩ [.int .i64 R, x] (fun j v hv => by
      have hadd : (⟨b, 0, none⟩ : Addr).add j = ⟨b, 0 + j, none⟩ := by unfold Addr.add; split <;> simp_all
      rw [hadd]
      match j, hv with
      | 0, hv => simp at hv; subst hv; exact c0
      | 1, hv => simp at hv; subst hv; exact c1
      | j + 2, hv => simp at hv)
  have hi : (Tryz.prog.info? 126).map (·.size) = some 2 := by kernel_rfl
  have hagg : (isAgg 126).run Tryz.prog w = .ok true w := by kernel_rfl
  cases hq : Tryz.prog.info? 126 with
  | none => simp [hq] at hi
  | some i =>
    have hs : i.size = 2 := by simpa [hq] using hi
    unfold loadVar
    simp [Sem.run_bind, hagg, sizeOf, typeInfo, hq, hs, hl]
theorem wpQuiet_build2 {P : Program} {ops : Array Oper} {Q : Act → Prop} {a : Act} {C : World → Prop} {rest : List Oper} {o : Oper} (hgd : o.guard = none) (t : TypeId) (i j : Nat) (x y : Operand) (ho : o.op = .build t #[(i, x), (j, y)]) (v u : Value) (hx : a.eval x = v) (hy : a.eval y = u) (cells : Array Value)
    (hb : P.built t [(i, v), (j, u)] = some cells)
    (h : wpQuiet P ops C Q rest (a.put o.dst (.agg cells))) : wpQuiet P ops C Q (o :: rest) a := by
  unfold wpQuiet
  rw [if_pos (by simp [Region.wanted, hgd])]
  refine ⟨.agg cells, fun w _ => ?_, h⟩
  unfold Oper.quietAt execOp
  have hp : (#[(i, x), (j, y)].map fun (p : Nat × Operand) => (p.1, a.eval p.2)).toList = [(i, v), (j, u)] := by simp [hx, hy]
  simp only [ho, Sem.run_bind, run_build w t _ cells (by rw [hp]; exact hb), Result.andThen_ok, Sem.run_pure, Oper.quietUpon, and_self]

/-- The benches behind a want, and how many fetches there are. -/
def emitK (q : Int) (s : List Int) (n : Int) (k : Nat) : List (List Int × Int) := ((List.range' 1 k).filter fun (a : Nat) => hasB s (a : Int)).map fun (a : Nat) => (stepOn s (a : Int) q, n + 1)
def emitS (R q : Int) (s : List Int) (n : Int) : List (List Int × Int) := if hasB s q then [(s, n)] else if sumL s < R then [(stepOn s 0 q, n + 1)] else emitK q s n 8
theorem emitK_succ (q : Int) (s : List Int) (n : Int) (k : Nat) : emitK q s n (k + 1) = if hasB s (((1 + k : Nat)) : Int) then emitK q s n k ++ [(stepOn s (((1 + k : Nat)) : Int) q, n + 1)] else emitK q s n k := by
  unfold emitK
  rw [List.range'_concat, List.filter_append, List.map_append]
  simp only [Nat.one_mul]
  by_cases h : hasB s (((1 + k : Nat)) : Int) = true
  · rw [if_pos h, List.filter_cons_of_pos (by simpa using h)]; rfl
  · rw [if_neg h, List.filter_cons_of_neg (by simpa using h)]; simp
theorem mem_emitK {q : Int} {s : List Int} {n : Int} {k : Nat} {x : List Int} {m : Int} : (x, m) ∈ emitK q s n k ↔ ∃ a : Nat, 1 ≤ a ∧ a < 1 + k ∧ hasB s (a : Int) = true ∧ x = stepOn s (a : Int) q ∧ m = n + 1 := by
  unfold emitK
  simp only [List.mem_map, List.mem_filter, List.mem_range'_1, Prod.mk.injEq]
  constructor
  · rintro ⟨a, ⟨⟨h1, h2⟩, h3⟩, rfl, rfl⟩; exact ⟨a, h1, h2, h3, rfl, rfl⟩
  · rintro ⟨a, h1, h2, h3, rfl, rfl⟩; exact ⟨a, ⟨⟨h1, h2⟩, h3⟩, rfl, rfl⟩
theorem emitS_ok {R q : Int} {s : List Int} {n B : Int} (h : OnOk s) (q1 : 1 ≤ q) (q8 : q ≤ 8) (n0 : 0 ≤ n) (nB : n ≤ B) {x : List Int} {m : Int} (hm : (x, m) ∈ emitS R q s n) : OnOk x ∧ 0 ≤ m ∧ m ≤ B + 1 := by
  unfold emitS at hm
  split at hm
  · simp only [List.mem_singleton, Prod.mk.injEq] at hm
    obtain ⟨rfl, rfl⟩ := hm
    exact ⟨h, n0, by omega⟩
  · split at hm
    · simp only [List.mem_singleton, Prod.mk.injEq] at hm
      obtain ⟨rfl, rfl⟩ := hm
      exact ⟨h.step (by omega) (by omega) q1 q8, by omega, by omega⟩
    · obtain ⟨a, a1, a2, _, rfl, rfl⟩ := mem_emitK.1 hm
      exact ⟨h.step (by omega) (by omega) q1 q8, by omega, by omega⟩
theorem set_zero_on {s : List Int} (h : OnOk s) (q : Int) : s.set q.toNat 1 = stepOn s 0 q := by
  unfold stepOn
  congr 1
  have hz := h.zero
  have hl := h.len
  apply List.ext_getElem
  · simp
  · intro i h1 h2
    rw [List.getElem_set]
    split
    · rename_i e
      have : i = 0 := by simpa using e.symm
      subst this
      simp [show 0 < s.length by omega] at hz
      exact hz
    · rfl
/-- Emitted from the entries that are met. -/
def EmS (R q : Int) (L : M9.Ents) (seen : Array Nat) (x : List Int) (m : Int) : Prop := ∃ e ∈ L, e.2.2 ∈ seen ∧ (x, m) ∈ emitS R q e.1 e.2.1
def ValOk (L : M9.Ents) (B : Int) : Prop := ∀ e ∈ L, OnOk e.1 ∧ 0 ≤ e.2.1 ∧ e.2.1 ≤ B
theorem EmS.pos {R q : Int} {L : M9.Ents} {B : Int} (hv : ValOk L B) (q1 : 1 ≤ q) (q8 : q ≤ 8) {seen : Array Nat} {x : List Int} {m : Int} (h : EmS R q L seen x m) : 0 ≤ m := by
  obtain ⟨e, he, _, hm⟩ := h
  exact (emitS_ok (hv e he).1 q1 q8 (hv e he).2.1 (hv e he).2.2 hm).2.1
theorem born_inj9 {L : M9.Ents} {c : Nat} (hL : M9.OkL L c) {e e' : List Int × Int × Nat} (h1 : e ∈ L) (h2 : e' ∈ L) (h : e.2.2 = e'.2.2) : e = e' := by
  obtain ⟨i, hi, rfl⟩ := List.getElem_of_mem h1
  obtain ⟨j, hj, rfl⟩ := List.getElem_of_mem h2
  have hnd := hL.born
  rw [List.nodup_iff_pairwise_ne, List.pairwise_iff_getElem] at hnd
  rcases Nat.lt_trichotomy i j with g | g | g
  · have := hnd i j (by simpa using hi) (by simpa using hj) g
    simp only [List.getElem_map] at this; exact absurd h this
  · subst g; rfl
  · have := hnd j i (by simpa using hj) (by simpa using hi) g
    simp only [List.getElem_map] at this; exact absurd h.symm this
theorem unmet_eq9 (L : M9.Ents) (c : Nat) (seen : Array Nat) (m : Option Nat) (s l : Nat) : unmet (some (.map (M9.entsOf L) c)) (some (.mapIter m s seen l)) = (L.filter fun e => !seen.contains e.2.2).length := by
  simp [unmet, M9.entsOf, List.filter_map, Function.comp_def]
theorem unmet_lt9 {seen : Array Nat} {t : Nat} {L : M9.Ents} (he : ∃ e ∈ L, e.2.2 = t) (hs : t ∉ seen) : (L.filter fun x => !(seen.push t).contains x.2.2).length < (L.filter fun x => !seen.contains x.2.2).length := by
  have e : (L.filter fun x => !(seen.push t).contains x.2.2) = (L.filter fun x => !seen.contains x.2.2).filter fun x => !(x.2.2 == t) := by
    rw [List.filter_filter]
    refine List.filter_congr fun x _ => ?_
    rw [Array.contains_push, Bool.not_or, Bool.and_comm]
  rw [e, List.length_filter_lt_length_iff_exists]
  obtain ⟨e, h1, h2⟩ := he
  refine ⟨e, ?_, by simp [h2]⟩
  rw [List.mem_filter]
  exact ⟨h1, by rw [h2]; simpa using hs⟩
theorem EmS.push {R q : Int} {L : M9.Ents} {c : Nat} (hL : M9.OkL L c) {seen : Array Nat} {e : List Int × Int × Nat} (he : e ∈ L) (x : List Int) (m : Int) : EmS R q L (seen.push e.2.2) x m ↔ EmS R q L seen x m ∨ (x, m) ∈ emitS R q e.1 e.2.1 := by
  unfold EmS
  constructor
  · rintro ⟨e', h1, h2, h3⟩
    rw [Array.mem_push] at h2
    rcases h2 with h2 | h2
    · exact .inl ⟨e', h1, h2, h3⟩
    · rw [born_inj9 hL h1 he h2] at h3; exact .inr h3
  · rintro (⟨e', h1, h2, h3⟩ | h)
    · exact ⟨e', h1, by rw [Array.mem_push]; exact .inl h2, h3⟩
    · exact ⟨e, he, by rw [Array.mem_push]; exact .inr rfl, h⟩
/-- step under way. -/
structure StM (w wr : World) (pb nb bi bm : Nat) (Lo : M9.Ents) (c co : Nat) (seen : Array Nat) : Prop where
  B : Below w.heap.size w wr
  P : wr.cell? ⟨pb, 0, none⟩ = some (.map (some nb))
  O : MapM wr nb Lo co
  I : wr.heap[bi]? = some (.mapIter (some bm) c seen c)
theorem StM.up {w wr w' : World} {pb nb bi bm c co : Nat} {Lo : M9.Ents} {seen : Array Nat} (h : StM w wr pb nb bi bm Lo c co seen) (hb : Below wr.heap.size wr w') : StM w w' pb nb bi bm Lo c co seen :=
  ⟨btr h.B hb, (hb.cell (p := ⟨pb, 0, none⟩) (World.block_lt_of_cell? wr _ h.P)).trans h.P, h.O.up hb, (hb.block _ (Array.getElem?_eq_some_iff.1 h.I).1).trans h.I⟩
theorem StM.keep {w wr w' : World} {pb nb bi bm c co co' : Nat} {Lo Lo' : M9.Ents} {seen : Array Nat} (h : StM w wr pb nb bi bm Lo c co seen) (hg : wr.grownBy w' (some nb)) (hO : MapM w' nb Lo' co') (h1 : w.heap.size ≤ nb) (h2 : pb ≠ nb) (h3 : bi ≠ nb) : StM w w' pb nb bi bm Lo' c co' seen :=
  ⟨bgr h.B hg (fun k e => by have := Option.some.inj e; omega), hg.cell h.P (fun e => h2 (Option.some.inj e)), hO, (hg.block _ (Array.getElem?_eq_some_iff.1 h.I).1 (fun e => h3 (Option.some.inj e))).trans h.I⟩
theorem StM.set {w wr : World} {pb nb bi bm c co r i : Nat} {Lo : M9.Ents} {seen : Array Nat} (h : StM w wr pb nb bi bm Lo c co seen) (u : Value) (h1 : w.heap.size ≤ r) (h2 : pb ≠ r) (h3 : bi ≠ r) (h4 : nb ≠ r) : StM w (wr.setCell ⟨r, i, none⟩ u) pb nb bi bm Lo c co seen :=
  ⟨bset h.B h1 u, by rw [World.cell?_setCell_other _ _ _ _ (by intro e; exact h2 (congrArg Addr.block e).symm)]; exact h.P,
    ⟨(Go.Deep.blk_setCell_other wr ⟨r, i, none⟩ u nb h4).trans h.O.at_, h.O.ok⟩, (Go.Deep.blk_setCell_other wr ⟨r, i, none⟩ u bi h3).trans h.I⟩
theorem StM.next {w wr : World} {pb nb bi bm c co n t : Nat} {Lo : M9.Ents} {seen : Array Nat} (h : StM w wr pb nb bi bm Lo c co seen) (h1 : w.heap.size ≤ bi) (h2 : pb ≠ bi) (h3 : nb ≠ bi) : StM w ((wr.drewN n).putObj bi (.mapIter (some bm) c (seen.push t) c)) pb nb bi bm Lo c co (seen.push t) :=
  ⟨below_put (Below.drewN' n h.B) _ h1, cell_put _ _ h.P h2, ⟨(World.putObj_heap_other h3).trans h.O.at_, h.O.ok⟩, World.putObj_heap_same (Array.getElem?_eq_some_iff.1 h.I).1⟩
end Go.Proofs.YtpeminhnjdakiaaGreat
end

section
namespace Go.Proofs.YtpeminhnjdakiaaGreat
open Go.RowKit Go.Shelf

/-- A bench in memory, whatever its pauses. -/
def IsB (w : World) (b : Nat) (R : Int) (W : List Int) (on : List Int) : Prop := ∃ x M, BenchAt w b R x on (.map (some M)) ∧ RdI w .i64 x W
theorem IsB.mono {w w' : World} {b : Nat} {R : Int} {W on : List Int} (h : IsB w b R W on) (hb : Below w.heap.size w w') : IsB w' b R W on := by
  obtain ⟨x, M, h1, h2⟩ := h
  exact ⟨x, M, h1.up hb, h2.mono hb⟩
theorem IsB.lt {w : World} {b : Nat} {R : Int} {W on : List Int} (h : IsB w b R W on) : b < w.heap.size := by
  obtain ⟨x, M, h1, _⟩ := h; exact h1.lt

theorem wpList_build_at {P : Program} {ops : Array Oper} {rest : List Oper} {o : Oper} {a : Act} {w : World} {Q : Exit → Act → World → Prop} (hg : o.guard = none) (t : TypeId) (i : Nat) (x : Operand) (ho : o.op = .build t #[(i, x)]) (v : Value) (hx : a.eval x = v) (cells : Array Value)
    (hb : P.built t [(i, v)] = some cells) (h : wpList P ops Q rest (a.put o.dst (.agg cells)) w) : wpList P ops Q (o :: rest) a w := by
  have e : (#[(i, x)].map fun (p : Nat × Operand) => (p.1, a.eval p.2)).toList = [(i, v)] := by simp [hx]
  refine wpList_build hg t #[(i, x)] ho ?_ ?_
  · have : P.built t (#[(i, x)].map fun (p : Nat × Operand) => (p.1, a.eval p.2)).toList = some cells := by rw [e]; exact hb
    exact (congrArg Option.isSome this).trans rfl
  · have : P.built t (#[(i, x)].map fun (p : Nat × Operand) => (p.1, a.eval p.2)).toList = some cells := by rw [e]; exact hb
    have h2 : (P.built t (#[(i, x)].map fun (p : Nat × Operand) => (p.1, a.eval p.2)).toList).getD #[] = cells := by rw [this]; rfl
    rw [h2]; exact h
/-- What step returns. -/
def StepOk (R q : Int) (L : M9.Ents) (w : World) (e : Ending) (w' : World) : Prop :=
  ∃ nb L' c', e = .returned (.map (some nb)) ∧ w.heap.size ≤ nb ∧ MapM w' nb L' c' ∧ IsMin (fun x m => ∃ e ∈ L, (x, m) ∈ emitS R q e.1 e.2.1) (valM L') ∧ Below w.heap.size w w'
set_option maxRecDepth 100000 in
set_option maxHeartbeats 8000000 in
theorem step_map (b bm : Nat) (R : Int) (W on : List Int) (L : M9.Ents) (c i : Nat) (B : Int) (w : World) (hI : IsB w b R W on) (hd : OkD R W) (hi : i < W.length) (hM : MapM w bm L c) (hv : ValOk L B) (hB : B ≤ 1000) :
    Calls Tryz.prog 223 #[.pointer (some ⟨b, 0, none⟩), .map (some bm), .int .i64 i] w (StepOk R (want W i) L w) := by
  have hr6 := hd.r6
  have hr1 := hd.r1
  obtain ⟨q1, q8⟩ := hd.at hi
  obtain ⟨x, M, hD, hx0⟩ := hI
  obtain ⟨a, ca, rfl, _, hcm, hx⟩ := hx0.form
  obtain ⟨bx, ox, rfl, hbx, hcx⟩ := hx (by omega)
  have c0 := hD.cells.1
  have c1 := hD.cells.2.1
  have hz := hD.lt
  have gq : w.cell? ⟨bx, ox + i, none⟩ = some (.int .i64 (want W i)) := hcx i hi
  have HD := Lib.hid hD; have HM := Lib.hid hM; have HV := Lib.hid hv
  have hmm := @run_makeMap Tryz.prog
  clear hx hcx hD hM hcm hx0 hv
  generalize want W i = q at *
  have hMO0 : ((w.alloc (.map #[] 0)).alloc (.cells #[.map (some w.heap.size)] 263)).heap[w.heap.size]? = some (.map (M9.entsOf []) 0) := by
    rw [Below.heap_alloc _ _ _ (by simp)]
    exact heap_alloc_new _ _
  have hP0 : ((w.alloc (.map #[] 0)).alloc (.cells #[.map (some w.heap.size)] 263)).cell? ⟨w.heap.size + 1, 0, none⟩ = some (.map (some w.heap.size)) := cnew (by simp) rfl
  have hB0 : Below w.heap.size w ((w.alloc (.map #[] 0)).alloc (.cells #[.map (some w.heap.size)] 263)) := bal (bal (bz w) _) _
  have hs0 : ((w.alloc (.map #[] 0)).alloc (.cells #[.map (some w.heap.size)] 263)).heap.size = w.heap.size + 2 := by simp
  have HMO0 := Lib.hid hMO0; have HP0 := Lib.hid hP0; have HB0 := Lib.hid hB0; have HS0 := Lib.hid hs0
  clear hMO0 hP0 hB0 hs0
  go_enter Tryz.func223, Tryz.ntmps223
  go_upto_region 2 with fail
  obtain ⟨nb, hnb⟩ : ∃ nb, w.heap.size = nb := ⟨_, rfl⟩
  obtain ⟨pb, hpb⟩ : ∃ pb, w.heap.size + 1 = pb := ⟨_, rfl⟩
  obtain ⟨wA, hwA⟩ : ∃ wA, ((w.alloc (.map #[] 0)).alloc (.cells #[.map (some w.heap.size)] 263)) = wA := ⟨_, rfl⟩
  rw [hwA, hpb, hnb]
  rw [hwA, hnb] at HMO0
  rw [hwA, hpb, hnb] at HP0
  rw [hwA] at HB0 HS0
  have hn1 : w.heap.size ≤ nb := by omega
  have hp1 : w.heap.size ≤ pb := by omega
  have hpn : pb ≠ nb := by omega
  have hnA : nb < wA.heap.size := by have := HS0.out; omega
  have hpA : pb < wA.heap.size := by have := HS0.out; omega
  clear hnb hpb hwA HS0
  have e1 := (HB0.out.cell (p := ⟨b, 1, none⟩) hz).trans c1
  have eq' := (HB0.out.cell (p := ⟨bx, ox + i, none⟩) hbx).trans gq
  have ez := Nat.lt_of_lt_of_le hz HB0.out.size
  have ex := Nat.lt_of_lt_of_le hbx HB0.out.size
  have HMA := Lib.hid (HM.out.up HB0.out)
  have hrg : (Instr.range 263 (.map (some bm))).run Tryz.prog wA = .ok (.pointer (some ⟨wA.heap.size, 0, none⟩)) (wA.alloc (.mapIter (some bm) c #[] c)) := by
    simp [Instr.range, Sem.run_bind, run_underlying Tryz.underlying263, Result.andThen_ok, run_getMap HMA.out.at_]
  clear hmm
  go_upto_region 5 with fail
  clear hrg
  have HST := Lib.hid (show StM w (wA.alloc (.mapIter (some bm) c #[] c)) pb nb wA.heap.size bm [] c 0 #[] from
    ⟨bal HB0.out _, (Below.alloc (Below.refl _ _) (Nat.le_refl _) _ |>.cell (p := ⟨pb, 0, none⟩) hpA).trans HP0.out, ⟨(Below.heap_alloc _ _ _ hnA).trans HMO0.out, ⟨by simp, by simp, by simp, by simp⟩⟩, heap_alloc_new _ _⟩)
  have hib : w.heap.size ≤ wA.heap.size := HB0.out.size
  obtain ⟨bi, hbi⟩ : ∃ bi, wA.heap.size = bi := ⟨_, rfl⟩
  rw [hbi] at HST hib
  rw [hbi]
  have hpi : pb ≠ bi := by omega
  have hni : nb ≠ bi := by omega
  generalize (wA.alloc (.mapIter (some bm) c #[] c)) = wB at *
  clear hnA hpA e1 eq' ez ex HMA HB0 HP0 HMO0 hbi
  go_loopw [10, 11, 12, 13, 14, 39, 47] (fun _ _ _ _ _ _ _ wr => ∃ Lo co seen, StM w wr pb nb bi bm Lo c co seen ∧ Hid (IsMin (EmS R q L seen) (valM Lo))) (fun _ _ _ _ _ _ _ wr => unmet (wr.heap[bm]?) (wr.heap[bi]?))
  case atStart => exact ⟨[], 0, #[], HST.out, Lib.hid (fun x m => by simp [valM, EmS])⟩
  case round =>
    clear HST
    obtain ⟨Lo, co, seen, hst, HMN⟩ := hrel
    have HST := Lib.hid hst
    have HMR := Lib.hid (HM.out.up hst.B)
    rcases M9.run_nextL HMR.out.at_ HMR.out.ok hst.I with ⟨hall, hnx⟩ | ⟨e, he, hes, n, hnx⟩
    · have HA := Lib.hid hall
      have hp := hst.P
      clear hall hst
      go_wp2_with fail
      go_ret
      refine ⟨nb, Lo, co, rfl, hn1, HST.out.O, HMN.out.congr fun x m => ?_, HST.out.B⟩
      exact ⟨fun ⟨e, h1, _, h3⟩ => ⟨e, h1, h3⟩, fun ⟨e, h1, h3⟩ => ⟨e, h1, HA.out e h1, h3⟩⟩
    · have HSN := Lib.hid hes; have HE := Lib.hid he
      obtain ⟨s, nv, t⟩ := e
      simp only at hnx HSN
      have HSB := Lib.hid (HST.out.next (n := n) (t := t) hib hpi hni)
      have hzn : ((wr.drewN n).putObj bi (.mapIter (some bm) c (seen.push t) c)).heap.size = wr.heap.size := by simp [World.drewN]
      have HZN := Lib.hid hzn
      have HIR := Lib.hid hst.I
      clear hes he hst hzn
      go_upto_region 6 with fail
      clear hnx
      have HMN2 := Lib.hid (HM.out.up HSB.out.B)
      have hen := M9.run_entryL HMN2.out.at_ HMN2.out.ok HE.out HSB.out.I
      simp only at hen
      obtain ⟨hon, hv0, hvB⟩ := HV.out _ HE.out
      simp only at hon hv0 hvB
      have HEM := Lib.hid (fun x m => EmS.push (R := R) (q := q) HMR.out.ok (seen := seen) HE.out x m)
      simp only at HEM
      have HON := Lib.hid hon
      have hs9 := hon.len
      have HS9 := Lib.hid hs9
      have hsn : w.heap.size ≤ ((wr.drewN n).putObj bi (.mapIter (some bm) c (seen.push t) c)).heap.size := HSB.out.B.size
      have hpn2 := World.block_lt_of_cell? _ _ HSB.out.P
      have hbn2 := (Array.getElem?_eq_some_iff.1 HSB.out.I).1
      have hnn2 := HSB.out.O.lt
      simp only at hpn2
      have HUN := Lib.hid (fun wz Lo' co' (h : StM w wz pb nb bi bm Lo' c co' (seen.push t)) => (show unmet (wz.heap[bm]?) (wz.heap[bi]?) < unmet (wr.heap[bm]?) (wr.heap[bi]?) from by
        rw [(HM.out.up h.B).at_, h.I, HMR.out.at_, HIR.out, unmet_eq9, unmet_eq9]
        exact unmet_lt9 ⟨_, HE.out, rfl⟩ HSN.out))
      clear hon hs9 HZN HIR
      generalize ((wr.drewN n).putObj bi (.mapIter (some bm) c (seen.push t) c)) = wn at *
      have hi60 : (Tryz.prog.info? 194).map (·.size) = some 9 := by kernel_rfl
      have HI60 := Lib.hid hi60; clear hi60
      have hB5 := below_box wn #[Value.int IntKind.i64 0, Value.int IntKind.i64 0, Value.int IntKind.i64 0, Value.int IntKind.i64 0, Value.int IntKind.i64 0, Value.int IntKind.i64 0, Value.int IntKind.i64 0, Value.int IntKind.i64 0, Value.int IntKind.i64 0] (arrI s) 194
      have HS5 := Lib.hid (HSB.out.up hB5); have HG5 := Lib.hid (heap_box wn #[Value.int IntKind.i64 0, Value.int IntKind.i64 0, Value.int IntKind.i64 0, Value.int IntKind.i64 0, Value.int IntKind.i64 0, Value.int IntKind.i64 0, Value.int IntKind.i64 0, Value.int IntKind.i64 0, Value.int IntKind.i64 0] (arrI s) 194)
      clear hB5
      go_upto_region 7 with (refine wpList_store_row rfl 194 (.tmp 10) (.tmp 30) rfl wn.heap.size (arrI s) rfl rfl 194 _ (heap_alloc_new _ _) (by rw [arrI_size, HS9.out]; exact HI60.out) (by rw [arrI_size, HS9.out]; rfl) (one_arr _) ?_)
      obtain ⟨w5, hw5⟩ : ∃ w5, ((wn.alloc (.cells #[Value.int IntKind.i64 0, Value.int IntKind.i64 0, Value.int IntKind.i64 0, Value.int IntKind.i64 0, Value.int IntKind.i64 0, Value.int IntKind.i64 0, Value.int IntKind.i64 0, Value.int IntKind.i64 0, Value.int IntKind.i64 0] 194)).setRow wn.heap.size (arrI s)) = w5 := ⟨_, rfl⟩
      rw [hw5] at HS5 HG5
      rw [hw5]
      obtain ⟨sb, hsb⟩ : ∃ sb, wn.heap.size = sb := ⟨_, rfl⟩
      rw [hsb] at HG5 hsn hpn2 hbn2 hnn2
      rw [hsb]
      clear hw5 hsb HSB HMN2 hen
      refine wp_region_flow [] [([0, 1, 2, 3, 4, 5], 6, true)] [7] (by kernel_rfl) (by kernel_rfl) ?_
      intro wc hBc hh
      clear hh
      have HSC := Lib.hid (HS5.out.up hBc)
      have HDC := Lib.hid (HD.out.far HSC.out.B hz)
      have HGC := Lib.hid ((hBc.block _ (Array.getElem?_eq_some_iff.1 HG5.out).1).trans HG5.out)
      have HL24 := Lib.hid (fun l : Later wc => (HDC.out.up l.le).load24)
      have hL := @Later.cell wc
      have dzc := HDC.out.lt
      clear hBc HS5 HG5
      simp only [flowP, flow, pickL, List.getElem?_cons_succ, List.getElem?_cons_zero]
      refine wpQuiet_nil ?_
      repeat (first
        | (refine wpQuiet_load_row rfl 194 (.tmp 10) rfl sb rfl 194 (arrI s) (0, 0) _ HGC.out Tryz.underlying194 rfl (by rw [arrI_size, HS9.out]; exact HI60.out) ?_)
        | (refine wpQuiet_load_part rfl 126 (.tmp 34) rfl ⟨b, 0, none⟩ rfl _ HL24.out ?_)
        | (refine wpQuiet_build2 rfl 197 0 1 (.tmp 35) (.tmp 36) rfl _ _ rfl rfl _ (built2 R _ s HS9.out) ?_)
        | (quiet_step (fail)))
      refine wpQuiet_nil ?_
      go_wp2_with fail
      refine seg_grow ⟨⟨_, bal (bz _) _⟩, rfl⟩ ?_
      repeat (go_big_quiet_step (fail))
      refine wpQuiet_nil ?_
      refine only_done ?_
      have HS6 := Lib.hid (HSC.out.up (bal (bz wc) (.cells (benchC R (.slice (some ⟨bx, ox, none⟩) W.length ca) s (.map none)) 197)))
      have HX6 := Lib.hid (show BenchAt (wc.alloc (.cells (benchC R (.slice (some ⟨bx, ox, none⟩) W.length ca) s (.map none)) 197)) wc.heap.size R (.slice (some ⟨bx, ox, none⟩) W.length ca) s (.map none) from ⟨heap_alloc_new _ _, HS9.out⟩)
      have HG6 := Lib.hid ((Below.heap_alloc wc (.cells (benchC R (.slice (some ⟨bx, ox, none⟩) W.length ca) s (.map none)) 197) sb (Array.getElem?_eq_some_iff.1 HGC.out).1).trans HGC.out)
      have hcs := (Array.getElem?_eq_some_iff.1 HGC.out).1
      have hcp := World.block_lt_of_cell? _ _ HSC.out.P
      have hcb := (Array.getElem?_eq_some_iff.1 HSC.out.I).1
      have hcn := HSC.out.O.lt
      simp only at hcp
      obtain ⟨xb, hxb⟩ : ∃ xb, wc.heap.size = xb := ⟨_, rfl⟩
      rw [hxb] at HX6 hcs hcp hcb hcn
      rw [hxb]
      generalize (wc.alloc (.cells (benchC R (.slice (some ⟨bx, ox, none⟩) W.length ca) s (.map none)) 197)) = w6 at *
      clear hxb HSC HDC HGC HL24 hL dzc
      have HD6 := Lib.hid (HD.out.far HS6.out.B hz)
      have hld := run_loadVar_row w6 sb 194 194 (arrI s) (0, 0) _ HG6.out Tryz.underlying194 rfl (by rw [arrI_size, HS9.out]; exact HI60.out)
      have HLD := Lib.hid hld
      clear hld
      have HPOS := Lib.hid (fun x m (h : EmS R q L seen x m) => h.pos HV.out q1 q8)
      have HHS := Lib.hid (has_any xb R _ s _ q w6 HX6.out (by omega) q8)
      change Hid (Calls Tryz.prog 157 _ w6 fun e w' => e = .returned (.bool (hasB s q)) ∧ w6 = w') at HHS
      rcases hth : hasB s q with _ | _
      · rw [hth] at HHS
        have HTH := Lib.hid hth
        clear hth
        have HSL := Lib.hid (show w.heap.size ≤ sb ∧ sb < xb from ⟨hsn, hcs⟩)
        by_cases hlt : sumL s < R
        · have DLT := Lib.hid (show decide (sumL s < R) = true from decide_eq_true hlt)
          have HEE := Lib.hid (show emitS R q s nv = [(s.set q.toNat 1, nv + 1)] by unfold emitS; rw [if_neg (by rw [HTH.out]; simp), if_pos hlt, set_zero_on HON.out])
          clear hlt
          go_wp2_with fail
          refine HHS.out.mono ?_
          rintro e w' ⟨rfl, rfl⟩
          go_wp2_with fail
          refine wp_region_flow [] [([0, 2, 3, 4, 5, 6], 1, true)] [7, 8] (by kernel_rfl) (by kernel_rfl) ?_
          intro wd hBd hh
          clear hh
          have HS8 := Lib.hid (HS6.out.up hBd)
          have HX8 := Lib.hid (HX6.out.up hBd)
          have HD8 := Lib.hid (HD6.out.up hBd)
          have HG8 := Lib.hid ((hBd.block _ (Array.getElem?_eq_some_iff.1 HG6.out).1).trans HG6.out)
          have r0 := HD8.out.cells.1
          have rz := HD8.out.lt
          have hL := @Later.cell wd
          clear hBd HS6 HX6 HD6 HG6 HLD
          simp only [flowP, flow, pickL, List.getElem?_cons_succ, List.getElem?_cons_zero]
          refine wpQuiet_nil ?_
          repeat (go_big_quiet_step (fail))
          refine wpQuiet_nil ?_
          go_wp2_with fail
          refine (many_any xb R _ s _ wd HX8.out HON.out.bit).mono ?_
          rintro e w' ⟨rfl, rfl⟩
          obtain ⟨su, hsu⟩ : ∃ su, sumL s = su := ⟨_, rfl⟩
          rw [hsu]
          have hdl : decide (su < R) = true := by rw [← hsu]; exact DLT.out
          clear hsu
          go_wp2
          refine seg_grow ⟨⟨_, bz _⟩, rfl⟩ ?_
          repeat (go_big_quiet_step (fail))
          refine wpQuiet_nil ?_
          refine only_done ?_
          clear hdl r0 rz hL
          have hsx : w.heap.size ≤ xb := by have := HSL.out; omega
          go_wp2_with fail
          refine (take_any xb R _ s _ q wd HX8.out (by omega) q8).mono ?_
          rintro e w9 ⟨⟨v9, rfl⟩, hw9⟩
          have HX9 := Lib.hid (show BenchAt w9 xb R (.slice (some ⟨bx, ox, none⟩) W.length ca) (s.set q.toNat 1) (.map none) by rw [hw9]; exact HX8.out.set (by omega) 1)
          have HS9' := Lib.hid (show StM w w9 pb nb bi bm Lo c co (seen.push t) by rw [hw9]; exact HS8.out.set _ hsx (by omega) (by omega) (by omega))
          clear hw9 HS8 HX8 HD8 HG8
          have hld := HX9.out.load
          have zx := HX9.out.lt
          have hnv : IntKind.i64.wrap (nv + 1) = nv + 1 := IntWalk.i64_in _ (by omega)
          go_wp2_with (refine wpList_load_var rfl 194 _ rfl _ rfl _ hld ?_)
          refine (keep_any (s.set q.toNat 1) (nv + 1) pb nb Lo co w9 (by rw [List.length_set]; exact HS9.out) HS9'.out.P HS9'.out.O).mono ?_
          rintro e w7 ⟨⟨v7, rfl⟩, ⟨L7, c7, hM7, hv7⟩, hg7⟩
          have HS7 := Lib.hid (HS9'.out.keep hg7 hM7 hn1 hpn (Ne.symm hni))
          have HV7 := Lib.hid hv7
          clear hM7 hv7 hg7 hld hnv zx
          go_wp2_with fail
          go_roundw
          case rel => exact ⟨L7, c7, seen.push t, HS7.out, Lib.hid (by rw [HV7.out]; exact (HMN.out.keep HPOS.out _ _).congr fun x m => by rw [HEM.out, HEE.out]; simp)⟩
          case measure => exact HUN.out _ _ _ HS7.out
        · have DLT := Lib.hid (show decide (sumL s < R) = false from decide_eq_false hlt)
          have HEE := Lib.hid (show emitS R q s nv = emitK q s nv 8 by unfold emitS; rw [if_neg (by rw [HTH.out]; simp), if_neg hlt])
          clear hlt
          go_wp2_with fail
          refine HHS.out.mono ?_
          rintro e w' ⟨rfl, rfl⟩
          go_wp2_with fail
          refine wp_region_flow [] [([0, 2, 3, 4, 5, 6], 1, true)] [7, 8] (by kernel_rfl) (by kernel_rfl) ?_
          intro wd hBd hh
          clear hh
          have HS8 := Lib.hid (HS6.out.up hBd)
          have HX8 := Lib.hid (HX6.out.up hBd)
          have HD8 := Lib.hid (HD6.out.up hBd)
          have HG8 := Lib.hid ((hBd.block _ (Array.getElem?_eq_some_iff.1 HG6.out).1).trans HG6.out)
          have r0 := HD8.out.cells.1
          have rz := HD8.out.lt
          have hL := @Later.cell wd
          clear hBd HS6 HX6 HD6 HG6 HLD
          simp only [flowP, flow, pickL, List.getElem?_cons_succ, List.getElem?_cons_zero]
          refine wpQuiet_nil ?_
          repeat (go_big_quiet_step (fail))
          refine wpQuiet_nil ?_
          go_wp2_with fail
          refine (many_any xb R _ s _ wd HX8.out HON.out.bit).mono ?_
          rintro e w' ⟨rfl, rfl⟩
          obtain ⟨su, hsu⟩ : ∃ su, sumL s = su := ⟨_, rfl⟩
          rw [hsu]
          have hdl : decide (su < R) = false := by rw [← hsu]; exact DLT.out
          clear hsu
          go_wp2
          refine seg_grow ⟨⟨_, bz _⟩, rfl⟩ ?_
          repeat (go_big_quiet_step (fail))
          refine wpQuiet_nil ?_
          refine only_done ?_
          clear hdl r0 rz hL
          have hsx : w.heap.size ≤ xb := by have := HSL.out; omega
          go_wp2_with fail
          clear HHS HX8
          go_loopw [13, 14] (fun iv _ wz => ∃ (k : Nat) (Lz : M9.Ents) (cz : Nat), k ≤ 8 ∧ iv = .int .i64 ((k : Int) + 1) ∧ StM w wz pb nb bi bm Lz c cz (seen.push t) ∧ Hid (IsMin (fun x m => EmS R q L seen x m ∨ (x, m) ∈ emitK q s nv k) (valM Lz)) ∧ wz.heap[sb]? = some (.cells (arrI s) 194 (0, 0))) (fun iv _ _ => 9 - (intOf iv).toNat)
          case atStart => exact ⟨0, Lo, co, by omega, rfl, HS8.out, Lib.hid (HMN.out.congr fun x m => by simp [emitK]), HG8.out⟩
          case round =>
            clear HS8 HD8 HG8
            obtain ⟨k, Lz, cz, hk, rfl, hst, HMZ, hgz⟩ := hrel
            rename World => wz
            have HST := Lib.hid hst; have HGZ := Lib.hid hgz
            clear hst hgz
            by_cases hk8 : k < 8
            · have gk : wz.cell? ⟨sb, k + 1, none⟩ = some (.int .i64 (s[k + 1]?.getD 0)) := by
                rw [cell_of_row _ _ _ _ _ _ HGZ.out]; exact arrI_get s (k + 1) (by have := HS9.out; omega)
              have HSK := Lib.hid (show hasB s (((1 + k : Nat)) : Int) = decide (0 < s[k + 1]?.getD 0) by unfold hasB bitV; rw [Int.toNat_natCast, Nat.add_comm])
              have HES := Lib.hid (emitK_succ q s nv k)
              have szz : sb < wz.heap.size := World.block_lt_of_cell? wz _ gk
              have hld := run_loadVar_row wz sb 194 194 (arrI s) (0, 0) _ HGZ.out Tryz.underlying194 rfl (by rw [arrI_size, HS9.out]; exact HI60.out)
              have HLD := Lib.hid hld
              clear hld
              generalize s[k + 1]?.getD 0 = sk at *
              by_cases hsk : 0 < sk
              · have d1 : decide (0 < sk) = true := decide_eq_true hsk
                rw [HSK.out, d1, if_pos rfl] at HES
                clear hsk
                have hnv : IntKind.i64.wrap (nv + 1) = nv + 1 := IntWalk.i64_in _ (by omega)
                have HNV := Lib.hid hnv
                clear hnv
                go_upto_region 17 with fail
                clear d1 gk
                have hld := HLD.out
                go_upto_region 18 with (first
                  | (refine wpList_load_var rfl 194 _ rfl _ rfl _ hld ?_)
                  | (refine wpList_build_at rfl 197 1 (.tmp 75) rfl _ rfl _ (built1 s HS9.out) ?_))
                clear hld
                have HS1 := Lib.hid (HST.out.up (bal (bz wz) (.cells (benchC 0 (.slice none 0 0) s (.map none)) 197)))
                have HX1 := Lib.hid (show BenchAt (wz.alloc (.cells (benchC 0 (.slice none 0 0) s (.map none)) 197)) wz.heap.size 0 (.slice none 0 0) s (.map none) from ⟨heap_alloc_new _ _, HS9.out⟩)
                have HG1 := Lib.hid ((Below.heap_alloc wz (.cells (benchC 0 (.slice none 0 0) s (.map none)) 197) sb szz).trans HGZ.out)
                have ycp := World.block_lt_of_cell? _ _ HST.out.P
                have ycb := (Array.getElem?_eq_some_iff.1 HST.out.I).1
                have ycn := HST.out.O.lt
                have ywz := HST.out.B.size
                simp only at ycp
                obtain ⟨yb, hyb⟩ : ∃ yb, wz.heap.size = yb := ⟨_, rfl⟩
                rw [hyb] at HX1 ycp ycb ycn szz ywz
                rw [hyb]
                generalize (wz.alloc (.cells (benchC 0 (.slice none 0 0) s (.map none)) 197)) = w1 at *
                clear hyb HLD HST HGZ
                have HP1 := Lib.hid (put_any yb 0 _ s _ ((k : Int) + 1) w1 HX1.out (by omega) (by omega))
                go_wp2_with fail
                refine HP1.out.mono ?_
                rintro e w2 ⟨⟨v2, rfl⟩, hw2⟩
                have HX2 := Lib.hid (show BenchAt w2 yb 0 (.slice none 0 0) (s.set ((k : Int) + 1).toNat 0) (.map none) by rw [hw2]; exact HX1.out.set (by omega) 0)
                have HS2 := Lib.hid (show StM w w2 pb nb bi bm Lz c cz (seen.push t) by rw [hw2]; exact HS1.out.set _ ywz (by omega) (by omega) (by omega))
                have HG2 := Lib.hid (show w2.heap[sb]? = some (.cells (arrI s) 194 (0, 0)) by rw [hw2, Go.Deep.blk_setCell_other _ _ _ _ (by simp; omega)]; exact HG1.out)
                clear hw2 HX1 HS1 HG1 HP1
                have HT2 := Lib.hid (take_any yb 0 _ (s.set ((k : Int) + 1).toNat 0) _ q w2 HX2.out (by omega) q8)
                go_wp2_with fail
                refine HT2.out.mono ?_
                rintro e w3 ⟨⟨v3, rfl⟩, hw3⟩
                have HX3 := Lib.hid (show BenchAt w3 yb 0 (.slice none 0 0) (stepOn s ((k : Int) + 1) q) (.map none) by rw [hw3]; exact HX2.out.set (by omega) 1)
                have HS3 := Lib.hid (show StM w w3 pb nb bi bm Lz c cz (seen.push t) by rw [hw3]; exact HS2.out.set _ ywz (by omega) (by omega) (by omega))
                have HG3 := Lib.hid (show w3.heap[sb]? = some (.cells (arrI s) 194 (0, 0)) by rw [hw3, Go.Deep.blk_setCell_other _ _ _ _ (by simp; omega)]; exact HG2.out)
                clear hw3 HX2 HS2 HG2 HT2
                have hld := HX3.out.load
                have zx := HX3.out.lt
                have hnv := HNV.out
                go_wp2_with (refine wpList_load_var rfl 194 _ rfl _ rfl _ hld ?_)
                refine (keep_any (stepOn s ((k : Int) + 1) q) (nv + 1) pb nb Lz cz w3 HX3.out.len HS3.out.P HS3.out.O).mono ?_
                rintro e w7 ⟨⟨v7, rfl⟩, ⟨L7, c7, hM7, hv7⟩, hg7⟩
                have HS7 := Lib.hid (HS3.out.keep hg7 hM7 hn1 hpn (Ne.symm hni))
                have HG7 := Lib.hid ((hg7.block sb (Array.getElem?_eq_some_iff.1 HG3.out).1 (fun e => by have := Option.some.inj e; omega)).trans HG3.out)
                have HV7 := Lib.hid hv7
                clear hM7 hv7 hg7 hld hnv zx
                go_wp2_with fail
                go_roundw
                case rel => exact ⟨k + 1, L7, c7, by omega, by go_num, HS7.out, Lib.hid (by
                  rw [HV7.out, HES.out]
                  refine (HMZ.out.keep ?_ _ _).congr fun x m => ?_
                  · rintro x m (h | h)
                    · exact HPOS.out x m h
                    · obtain ⟨_, _, _, _, _, rfl⟩ := mem_emitK.1 h; omega
                  · rw [List.mem_append, List.mem_singleton, Prod.mk.injEq, show (((1 + k : Nat)) : Int) = (k : Int) + 1 by omega, or_assoc]), HG7.out⟩
                case measure => simp [intOf]; omega
              · have d1 : decide (0 < sk) = false := decide_eq_false hsk
                rw [HSK.out, d1, if_neg (by simp)] at HES
                clear hsk
                go_wp2_with fail
                go_roundw
                case rel => exact ⟨k + 1, Lz, cz, by omega, by go_num, HST.out, Lib.hid (by rw [HES.out]; exact HMZ.out), HGZ.out⟩
                case measure => simp [intOf]; omega
            · have hk9 : k = 8 := by omega
              subst hk9
              go_wp2_with fail
              go_roundw
              case rel => exact ⟨Lz, cz, seen.push t, HST.out, Lib.hid (HMZ.out.congr fun x m => by rw [HEM.out, HEE.out])⟩
              case measure => exact HUN.out _ _ _ HST.out
      · rw [hth] at HHS
        have HEE := Lib.hid (show emitS R q s nv = [(s, nv)] by unfold emitS; rw [if_pos hth])
        clear hth
        go_wp2_with fail
        refine HHS.out.mono ?_
        rintro e w' ⟨rfl, rfl⟩
        have hld := HLD.out
        go_wp2_with (refine wpList_load_var rfl 194 _ rfl _ rfl _ hld ?_)
        refine (keep_any s nv pb nb Lo co w6 HS9.out HS6.out.P HS6.out.O).mono ?_
        rintro e w7 ⟨⟨v7, rfl⟩, ⟨L7, c7, hM7, hv7⟩, hg7⟩
        have HS7 := Lib.hid (HS6.out.keep hg7 hM7 hn1 hpn (Ne.symm hni))
        have HV7 := Lib.hid hv7
        clear hM7 hv7 hg7 hld
        go_wp2_with fail
        go_roundw
        case rel => exact ⟨L7, c7, seen.push t, HS7.out, Lib.hid (by rw [HV7.out]; exact (HMN.out.keep HPOS.out s nv).congr fun x m => by rw [HEM.out, HEE.out]; simp)⟩
        case measure => exact HUN.out _ _ _ HS7.out
end Go.Proofs.YtpeminhnjdakiaaGreat
end

section
namespace Go.Proofs.YtpeminhnjdakiaaGreat
open Go.RowKit Go.Shelf

set_option maxRecDepth 100000 in
set_option maxHeartbeats 4000000 in
theorem step_none (b : Nat) (R : Int) (W on : List Int) (i : Nat) (w : World) (hI : IsB w b R W on) (hd : OkD R W) (hi : i < W.length) :
    Calls Tryz.prog 223 #[.pointer (some ⟨b, 0, none⟩), .map none, .int .i64 i] w (StepOk R (want W i) [] w) := by
  obtain ⟨q1, q8⟩ := hd.at hi
  have h16 := hd.l16
  obtain ⟨x, M, hD, hx0⟩ := hI
  obtain ⟨a, ca, rfl, _, hcm, hx⟩ := hx0.form
  obtain ⟨bx, ox, rfl, hbx, hcx⟩ := hx (by omega)
  have c1 := hD.cells.2.1
  have hz := hD.lt
  have gq : w.cell? ⟨bx, ox + i, none⟩ = some (.int .i64 (want W i)) := hcx i hi
  have hmm := @run_makeMap Tryz.prog
  clear hx hcx hD hcm hx0
  generalize want W i = q at *
  have hMO0 : ((w.alloc (.map #[] 0)).alloc (.cells #[.map (some w.heap.size)] 263)).heap[w.heap.size]? = some (.map (M9.entsOf []) 0) := by
    rw [Below.heap_alloc _ _ _ (by simp)]
    exact heap_alloc_new _ _
  have hP0 : ((w.alloc (.map #[] 0)).alloc (.cells #[.map (some w.heap.size)] 263)).cell? ⟨w.heap.size + 1, 0, none⟩ = some (.map (some w.heap.size)) := cnew (by simp) rfl
  have hB0 : Below w.heap.size w ((w.alloc (.map #[] 0)).alloc (.cells #[.map (some w.heap.size)] 263)) := bal (bal (bz w) _) _
  have hs0 : ((w.alloc (.map #[] 0)).alloc (.cells #[.map (some w.heap.size)] 263)).heap.size = w.heap.size + 2 := by simp
  have HMO0 := Lib.hid hMO0; have HP0 := Lib.hid hP0; have HB0 := Lib.hid hB0; have HS0 := Lib.hid hs0
  clear hMO0 hP0 hB0 hs0
  go_enter Tryz.func223, Tryz.ntmps223
  go_upto_region 2 with fail
  obtain ⟨nb, hnb⟩ : ∃ nb, w.heap.size = nb := ⟨_, rfl⟩
  obtain ⟨pb, hpb⟩ : ∃ pb, w.heap.size + 1 = pb := ⟨_, rfl⟩
  obtain ⟨wA, hwA⟩ : ∃ wA, ((w.alloc (.map #[] 0)).alloc (.cells #[.map (some w.heap.size)] 263)) = wA := ⟨_, rfl⟩
  rw [hwA, hpb, hnb]
  rw [hwA, hnb] at HMO0
  rw [hwA, hpb, hnb] at HP0
  rw [hwA] at HB0 HS0
  have hn1 : w.heap.size ≤ nb := by omega
  have hnA : nb < wA.heap.size := by have := HS0.out; omega
  have hpA : pb < wA.heap.size := by have := HS0.out; omega
  clear hnb hpb hwA HS0
  have e1 := (HB0.out.cell (p := ⟨b, 1, none⟩) hz).trans c1
  have eq' := (HB0.out.cell (p := ⟨bx, ox + i, none⟩) hbx).trans gq
  have ez := Nat.lt_of_lt_of_le hz HB0.out.size
  have ex := Nat.lt_of_lt_of_le hbx HB0.out.size
  have hrg : (Instr.range 263 (.map none)).run Tryz.prog wA = .ok (.pointer (some ⟨wA.heap.size, 0, none⟩)) (wA.alloc (.mapIter none 0 #[] 0)) := by
    simp [Instr.range, Sem.run_bind, run_underlying Tryz.underlying263, Result.andThen_ok]
  clear hmm
  go_upto_region 5 with fail
  clear hrg
  have HB := Lib.hid (bal HB0.out (.mapIter none 0 #[] 0))
  have HP := Lib.hid ((Below.alloc (Below.refl wA.heap.size wA) (Nat.le_refl _) (.mapIter none 0 #[] 0) |>.cell (p := ⟨pb, 0, none⟩) hpA).trans HP0.out)
  have HMO := Lib.hid ((Below.heap_alloc wA (.mapIter none 0 #[] 0) _ hnA).trans HMO0.out)
  have HIT := Lib.hid (heap_alloc_new wA (.mapIter none 0 #[] 0))
  obtain ⟨bi, hbi⟩ : ∃ bi, wA.heap.size = bi := ⟨_, rfl⟩
  rw [hbi] at HIT
  rw [hbi]
  generalize (wA.alloc (.mapIter none 0 #[] 0)) = wB at *
  clear hbi hnA hpA e1 eq' ez ex HB0 HP0 HMO0
  go_loopw [10, 11, 12, 13, 14, 39, 47] (fun _ _ _ _ _ _ _ wr => wr = wB) (fun _ _ _ _ _ _ _ _ => 0)
  case atStart => rfl
  case round =>
    subst hrel
    have hnx : ∀ t, (Instr.next (.pointer (some ⟨bi, 0, none⟩)) false t).run Tryz.prog wr = .ok (.tuple #[.bool false]) wr := fun t => by
      have hgr : (getObj bi).run Tryz.prog wr = .ok (.mapIter none 0 #[] 0) wr := by simp [getObj, Sem.run, HIT.out]
      simp [Instr.next, Sem.run_bind, hgr, Result.andThen_ok, choose]
    have hp := HP.out
    go_wp2_with fail
    go_ret
    exact ⟨nb, [], 0, rfl, hn1, ⟨HMO.out, by simp, by simp, by simp, by simp⟩, fun x m => by simp [valM], HB.out⟩
/-- A map's value: none, or a block. -/
def MapV (w : World) (v : Value) (L : M9.Ents) : Prop := (v = .map none ∧ L = []) ∨ ∃ mb c, v = .map (some mb) ∧ MapM w mb L c
theorem MapV.up {w w' : World} {v : Value} {L : M9.Ents} (h : MapV w v L) (hb : Below w.heap.size w w') : MapV w' v L := by
  rcases h with h | ⟨mb, c, rfl, h⟩
  · exact .inl h
  · exact .inr ⟨mb, c, rfl, h.up hb⟩
theorem val_ok {L : M9.Ents} {c : Nat} {S : List Int → Int → Prop} {B : Int} (h : M9.OkL L c) (hm : IsMin S (valM L)) (hs : ∀ x m, S x m → OnOk x ∧ 0 ≤ m ∧ m ≤ B) : ValOk L B := by
  rintro ⟨x, m, t⟩ he
  exact hs x m ((hm x m).1 ((val_some h x m).2 ⟨t, he⟩)).1
def StepV (R q : Int) (L : M9.Ents) (B : Int) (w : World) (e : Ending) (w' : World) : Prop :=
  ∃ nb L' c', e = .returned (.map (some nb)) ∧ MapM w' nb L' c' ∧ IsMin (fun x m => ∃ e ∈ L, (x, m) ∈ emitS R q e.1 e.2.1) (valM L') ∧ ValOk L' (B + 1) ∧ Below w.heap.size w w'
theorem step_v (b : Nat) (R : Int) (W on : List Int) (L : M9.Ents) (i : Nat) (v : Value) (B : Int) (w : World) (hI : IsB w b R W on) (hd : OkD R W) (hi : i < W.length) (hM : MapV w v L) (hv : ValOk L B) (hB : B ≤ 1000) :
    Calls Tryz.prog 223 #[.pointer (some ⟨b, 0, none⟩), v, .int .i64 i] w (StepV R (want W i) L B w) := by
  obtain ⟨q1, q8⟩ := hd.at hi
  have fin : ∀ e w', StepOk R (want W i) L w e w' → StepV R (want W i) L B w e w' := by
    rintro e w' ⟨nb, L', c', h1, _, h3, h4, h5⟩
    exact ⟨nb, L', c', h1, h3, h4, val_ok h3.ok h4 (by
      rintro x m ⟨e, he, hm⟩
      obtain ⟨o1, o2, o3⟩ := hv e he
      exact emitS_ok o1 q1 q8 o2 o3 hm), h5⟩
  rcases hM with ⟨rfl, rfl⟩ | ⟨mb, c, rfl, hM⟩
  · exact (step_none b R W on i w hI hd hi).mono fun e w' h => fin e w' h
  · exact (step_map b mb R W on L c i B w hI hd hi hM hv hB).mono fun e w' h => fin e w' h
theorem emitS_shift {R q : Int} {s : List Int} {n d : Int} {x : List Int} {m : Int} (h : (x, m) ∈ emitS R q s n) : (x, m + d) ∈ emitS R q s (n + d) := by
  unfold emitS at h ⊢
  split at h
  · rename_i h1
    rw [if_pos h1]
    simp only [List.mem_singleton, Prod.mk.injEq] at h ⊢
    exact ⟨h.1, by omega⟩
  · rename_i h1
    rw [if_neg h1]
    split at h
    · rename_i h2
      rw [if_pos h2]
      simp only [List.mem_singleton, Prod.mk.injEq] at h ⊢
      exact ⟨h.1, by omega⟩
    · rename_i h2
      rw [if_neg h2]
      obtain ⟨a, a1, a2, a3, a4, a5⟩ := mem_emitK.1 h
      exact mem_emitK.2 ⟨a, a1, a2, a3, a4, by omega⟩
theorem IsMin.some {S : List Int → Int → Prop} {f : List Int → Option Int} (h : IsMin S f) (hp : ∀ x m, S x m → 0 ≤ m) {x : List Int} {m : Int} (hm : S x m) : ∃ o, f x = Option.some o ∧ o ≤ m := by
  cases hf : f x with
  | none => exact absurd hm (h.none hp hf m)
  | some o => exact ⟨o, rfl, ((h x o).1 hf).2 m hm⟩
/-- The least of a step is that of a step from the least. -/
theorem IsMin.step {R q : Int} {C : List Int → Int → Prop} {L : M9.Ents} {c : Nat} (hL : M9.OkL L c) (hp : ∀ x m, C x m → 0 ≤ m) (h : IsMin C (valM L)) {g : List Int → Option Int} (hg : IsMin (fun x m => ∃ e ∈ L, (x, m) ∈ emitS R q e.1 e.2.1) g) :
    IsMin (fun x m => ∃ s n, C s n ∧ (x, m) ∈ emitS R q s n) g := by
  have down : ∀ x m, (∃ s n, C s n ∧ (x, m) ∈ emitS R q s n) → ∃ m', m' ≤ m ∧ ∃ e ∈ L, (x, m') ∈ emitS R q e.1 e.2.1 := by
    rintro x m ⟨s, n, h1, h2⟩
    obtain ⟨o, ho, hn⟩ := h.some hp h1
    obtain ⟨t, ht⟩ := (val_some hL s o).1 ho
    have := emitS_shift (d := o - n) h2
    rw [show n + (o - n) = o by omega] at this
    exact ⟨m + (o - n), by omega, (s, o, t), ht, this⟩
  have up : ∀ x m, (∃ e ∈ L, (x, m) ∈ emitS R q e.1 e.2.1) → ∃ s n, C s n ∧ (x, m) ∈ emitS R q s n := by
    rintro x m ⟨⟨s, n, t⟩, he, hm⟩
    exact ⟨s, n, ((h s n).1 ((val_some hL s n).2 ⟨t, he⟩)).1, hm⟩
  intro x m
  rw [hg x m]
  constructor
  · rintro ⟨h1, h2⟩
    refine ⟨up x m h1, fun m' hm' => ?_⟩
    obtain ⟨m2, h3, h4⟩ := down x m' hm'
    have := h2 m2 h4
    omega
  · rintro ⟨h1, h2⟩
    refine ⟨?_, fun m' hm' => h2 m' (up x m' hm')⟩
    obtain ⟨m2, h3, h4⟩ := down x m h1
    have := h2 m2 (up x m2 h4)
    rw [show m = m2 by omega]; exact h4
/-- Ways of benches, with what they cost; the want p is not fetched (false), or fetched (true). -/
def CostK (R : Int) (W : List Int) (p : Nat) (fl : Bool) : Nat → List Int → Int → Prop
  | 0, x, m => x = zeros ∧ m = 0
  | i + 1, x, m => ∃ s n, (CostK R W p fl i s n ∧ (i = p → hasB s (want W i) = !fl)) ∧ (x, m) ∈ emitS R (want W i) s n
theorem costK_ok {R : Int} {W : List Int} (hd : OkD R W) {p : Nat} {fl : Bool} : ∀ i, i ≤ W.length → ∀ x m, CostK R W p fl i x m → OnOk x ∧ 0 ≤ m ∧ m ≤ (i : Int)
  | 0, _, x, m, h => by
    obtain ⟨rfl, rfl⟩ := h
    exact ⟨zeros_ok, by omega, by omega⟩
  | i + 1, hi, x, m, h => by
    obtain ⟨s, n, ⟨h1, _⟩, h2⟩ := h
    obtain ⟨a, b, c⟩ := costK_ok hd i (by omega) s n h1
    obtain ⟨q1, q8⟩ := hd.at (show i < W.length by omega)
    have := emitS_ok a q1 q8 b c h2
    exact ⟨this.1, this.2.1, by have := this.2.2; omega⟩
/-- The entries of a bench that has, or has not, a reamer, of those that are met. -/
def PartS (q : Int) (fl : Bool) (L : M9.Ents) (seen : Array Nat) (x : List Int) (m : Int) : Prop := ∃ t, (x, m, t) ∈ L ∧ t ∈ seen ∧ hasB x q = fl
def PartM (q : Int) (fl : Bool) (L : M9.Ents) (seen : Array Nat) (Lh : M9.Ents) : Prop := ∀ x m, (∃ t, (x, m, t) ∈ Lh) ↔ PartS q fl L seen x m
theorem keys_inj9 {L : M9.Ents} {c : Nat} (h : M9.OkL L c) {x : List Int} {m m' : Int} {t t' : Nat} (h1 : (x, m, t) ∈ L) (h2 : (x, m', t') ∈ L) : m = m' ∧ t = t' := by
  obtain ⟨i, hi, e1⟩ := List.getElem_of_mem h1
  obtain ⟨j, hj, e2⟩ := List.getElem_of_mem h2
  have hnd := h.keys
  rw [List.nodup_iff_pairwise_ne, List.pairwise_iff_getElem] at hnd
  rcases Nat.lt_trichotomy i j with g | g | g
  · have := hnd i j (by simpa using hi) (by simpa using hj) g
    simp only [List.getElem_map, e1, e2] at this; exact absurd rfl this
  · subst g
    rw [e1] at e2
    simp only [Prod.mk.injEq, true_and] at e2
    exact e2
  · have := hnd j i (by simpa using hj) (by simpa using hi) g
    simp only [List.getElem_map, e1, e2] at this; exact absurd rfl this
theorem PartM.put {q : Int} {fl : Bool} {L Lh Lh' : M9.Ents} {c : Nat} {seen : Array Nat} {s : List Int} {n : Int} {t : Nat} (hL : M9.OkL L c) (h : PartM q fl L seen Lh) (he : (s, n, t) ∈ L) (hs : hasB s q = fl)
    (hk : ∀ x m, (∃ t, (x, m, t) ∈ Lh') ↔ (x = s ∧ m = n) ∨ (x ≠ s ∧ ∃ t, (x, m, t) ∈ Lh)) : PartM q fl L (seen.push t) Lh' := by
  intro x m
  rw [hk, h x m]
  unfold PartS
  constructor
  · rintro (⟨rfl, rfl⟩ | ⟨_, t', h1, h2, h3⟩)
    · exact ⟨t, he, by simp, hs⟩
    · exact ⟨t', h1, by simp [h2], h3⟩
  · rintro ⟨t', h1, h2, h3⟩
    by_cases hx : x = s
    · subst hx
      exact .inl ⟨rfl, (keys_inj9 hL h1 he).1⟩
    · refine .inr ⟨hx, t', h1, ?_, h3⟩
      rw [Array.mem_push] at h2
      rcases h2 with h2 | h2
      · exact h2
      · subst h2
        have := born_inj9 hL h1 he rfl
        simp only [Prod.mk.injEq] at this
        exact absurd this.1 hx
theorem PartM.skip {q : Int} {fl : Bool} {L Lh : M9.Ents} {c : Nat} {seen : Array Nat} {s : List Int} {n : Int} {t : Nat} (hL : M9.OkL L c) (h : PartM q fl L seen Lh) (he : (s, n, t) ∈ L) (hs : hasB s q ≠ fl) : PartM q fl L (seen.push t) Lh := by
  intro x m
  rw [h x m]
  unfold PartS
  constructor
  · rintro ⟨t', h1, h2, h3⟩; exact ⟨t', h1, by simp [h2], h3⟩
  · rintro ⟨t', h1, h2, h3⟩
    refine ⟨t', h1, ?_, h3⟩
    rw [Array.mem_push] at h2
    rcases h2 with h2 | h2
    · exact h2
    · subst h2
      have := born_inj9 hL h1 he rfl
      simp only [Prod.mk.injEq] at this
      rw [this.1] at h3
      exact absurd h3 hs
theorem PartM.done {q : Int} {fl : Bool} {L Lh : M9.Ents} {c ch : Nat} {seen : Array Nat} {C : List Int → Int → Prop} (hL : M9.OkL L c) (hLh : M9.OkL Lh ch) (h : PartM q fl L seen Lh) (ha : ∀ e ∈ L, e.2.2 ∈ seen) (hm : IsMin C (valM L)) : IsMin (fun x m => C x m ∧ hasB x q = fl) (valM Lh) := by
  intro x m
  rw [val_some hLh, h x m]
  unfold PartS
  have hx := hm x m
  rw [val_some hL] at hx
  constructor
  · rintro ⟨t, h1, _, h3⟩
    obtain ⟨g1, g2⟩ := hx.1 ⟨t, h1⟩
    exact ⟨⟨g1, h3⟩, fun m' hm' => g2 m' hm'.1⟩
  · rintro ⟨⟨g1, g2⟩, g3⟩
    obtain ⟨t, ht⟩ := hx.2 ⟨g1, fun m' hm' => g3 m' ⟨hm', g2⟩⟩
    exact ⟨t, ht, ha _ ht, g2⟩
/-- The least value, or 1000. -/
def Least (C : List Int → Int → Prop) (v : Int) : Prop := v ≤ 1000 ∧ (v = 1000 ∨ ∃ s, C s v) ∧ ∀ s n, C s n → v ≤ n
/-- The least value of the entries that are met. -/
structure MinE (L : M9.Ents) (seen : Array Nat) (v : Int) : Prop where
  le : v ≤ 1000
  at_ : v = 1000 ∨ ∃ e ∈ L, e.2.1 = v
  all : ∀ e ∈ L, e.2.2 ∈ seen → v ≤ e.2.1
theorem MinE.push {L : M9.Ents} {c : Nat} {seen : Array Nat} {v : Int} {e : List Int × Int × Nat} (hL : M9.OkL L c) (h : MinE L seen v) (he : e ∈ L) (h0 : e.2.1 ≤ 1000) : MinE L (seen.push e.2.2) (if e.2.1 < v then e.2.1 else v) := by
  refine ⟨by have := h.le; split <;> omega, ?_, fun x hx hs => ?_⟩
  · split
    · exact .inr ⟨e, he, rfl⟩
    · exact h.at_
  · rw [Array.mem_push] at hs
    rcases hs with hs | hs
    · have := h.all x hx hs; split <;> omega
    · rw [born_inj9 hL hx he hs]; split <;> omega
theorem MinE.done {L : M9.Ents} {c : Nat} {seen : Array Nat} {v : Int} {C : List Int → Int → Prop} (hL : M9.OkL L c) (h : MinE L seen v) (ha : ∀ e ∈ L, e.2.2 ∈ seen) (hp : ∀ x m, C x m → 0 ≤ m) (hm : IsMin C (valM L)) : Least C v := by
  refine ⟨h.le, ?_, fun s n hs => ?_⟩
  · rcases h.at_ with h1 | ⟨⟨s, n, t⟩, he, rfl⟩
    · exact .inl h1
    · exact .inr ⟨s, ((hm s n).1 ((val_some hL s n).2 ⟨t, he⟩)).1⟩
  · obtain ⟨o, ho, hn⟩ := hm.some hp hs
    obtain ⟨t, ht⟩ := (val_some hL s o).1 ho
    have := h.all _ ht (ha _ ht)
    simp only at this
    omega
end Go.Proofs.YtpeminhnjdakiaaGreat
end

section
namespace Go.Proofs.YtpeminhnjdakiaaGreat
open Go.RowKit Go.Shelf

def kindP (a b : Int) : Int := if a < b then 0 else if b < a then 2 else 1
/-- What kind returns. -/
def KindOk (R : Int) (W : List Int) (p : Nat) (w : World) (e : Ending) (w' : World) : Prop :=
  ∃ a0 a1, e = .returned (.int .i64 (kindP a0 a1)) ∧ Least (CostK R W p false W.length) a0 ∧ Least (CostK R W p true W.length) a1 ∧ Below w.heap.size w w'
/-- kind under way. -/
structure KS (R : Int) (W : List Int) (p : Nat) (w wr : World) (kb : Nat) (mv fv : Value) (L F : M9.Ents) (i : Nat) : Prop where
  B : Below w.heap.size w wr
  K : wr.heap[kb]? = some (.cells #[.int .i64 1000, .int .i64 1000] 25 (0, 0))
  cm : ∃ mb c, mv = .map (some mb) ∧ MapM wr mb L c
  fm : MapV wr fv F
  m : IsMin (CostK R W p false i) (valM L)
  f : IsMin (fun x m => p < i ∧ CostK R W p true i x m) (valM F)
  vL : ValOk L i
  vF : ValOk F i
  fs : 0 < i → ∃ fb c, fv = .map (some fb) ∧ MapM wr fb F c
theorem KS.MV {R : Int} {W : List Int} {p : Nat} {w wr : World} {kb : Nat} {mv fv : Value} {L F : M9.Ents} {i : Nat} (h : KS R W p w wr kb mv fv L F i) : MapV wr mv L := by
  obtain ⟨mb, c, rfl, hm⟩ := h.cm
  exact .inr ⟨mb, c, rfl, hm⟩
theorem MapV.min_step {w : World} {v : Value} {L : M9.Ents} (h : MapV w v L) {R q : Int} {C : List Int → Int → Prop} (hp : ∀ x m, C x m → 0 ≤ m) (hm : IsMin C (valM L)) {g : List Int → Option Int} (hg : IsMin (fun x m => ∃ e ∈ L, (x, m) ∈ emitS R q e.1 e.2.1) g) :
    IsMin (fun x m => ∃ s n, C s n ∧ (x, m) ∈ emitS R q s n) g := by
  rcases h with ⟨_, rfl⟩ | ⟨mb, c, _, hM⟩
  · exact IsMin.step (c := 0) ⟨by simp, by simp, by simp, by simp⟩ hp hm hg
  · exact IsMin.step hM.ok hp hm hg
/-- A step at another want than p. -/
theorem KS.next {R : Int} {W : List Int} {p : Nat} {w wr w' : World} {kb : Nat} {mv fv : Value} {L F L' F' : M9.Ents} {i nb fb c' cf : Nat} (h : KS R W p w wr kb mv fv L F i) (hd : OkD R W) (hi : i < W.length) (hip : i ≠ p) (hB : Below wr.heap.size wr w')
    (hL : MapM w' nb L' c') (hF : MapM w' fb F' cf) (mL : IsMin (fun x m => ∃ e ∈ L, (x, m) ∈ emitS R (want W i) e.1 e.2.1) (valM L')) (mF : IsMin (fun x m => ∃ e ∈ F, (x, m) ∈ emitS R (want W i) e.1 e.2.1) (valM F')) (vL : ValOk L' (i + 1)) (vF : ValOk F' (i + 1)) :
    KS R W p w w' kb (.map (some nb)) (.map (some fb)) L' F' (i + 1) := by
  refine ⟨btr h.B hB, (hB.block _ (Array.getElem?_eq_some_iff.1 h.K).1).trans h.K, ⟨nb, c', rfl, hL⟩, .inr ⟨fb, cf, rfl, hF⟩, ?_, ?_, by simpa using vL, by simpa using vF, fun _ => ⟨fb, cf, rfl, hF⟩⟩
  · refine (h.MV.min_step (fun x m hc => (costK_ok hd i (by omega) x m hc).2.1) h.m mL).congr fun x m => ?_
    constructor
    · rintro ⟨s, n, h1, h2⟩; exact ⟨s, n, ⟨h1, fun e => absurd e hip⟩, h2⟩
    · rintro ⟨s, n, ⟨h1, _⟩, h2⟩; exact ⟨s, n, h1, h2⟩
  · refine (h.fm.min_step (fun x m hc => (costK_ok hd i (by omega) x m hc.2).2.1) h.f mF).congr fun x m => ?_
    constructor
    · rintro ⟨s, n, ⟨h0, h1⟩, h2⟩; exact ⟨by omega, s, n, ⟨h1, fun e => absurd e hip⟩, h2⟩
    · rintro ⟨h0, s, n, ⟨h1, _⟩, h2⟩; exact ⟨s, n, ⟨by omega, h1⟩, h2⟩
/-- The step at the want p, from the benches that have it and those that have not. -/
theorem KS.at_p {R : Int} {W : List Int} {p : Nat} {w wr w' : World} {kb : Nat} {mv fv : Value} {L F Lh Lg L' F' : M9.Ents} {nb fb c' cf ch cg : Nat} (h : KS R W p w wr kb mv fv L F p) (hd : OkD R W) (hi : p < W.length) (hB : Below wr.heap.size wr w')
    (hh : M9.OkL Lh ch) (hg : M9.OkL Lg cg) (mh : IsMin (fun x m => CostK R W p false p x m ∧ hasB x (want W p) = true) (valM Lh)) (mg : IsMin (fun x m => CostK R W p false p x m ∧ hasB x (want W p) = false) (valM Lg))
    (hL : MapM w' nb L' c') (hF : MapM w' fb F' cf) (mL : IsMin (fun x m => ∃ e ∈ Lh, (x, m) ∈ emitS R (want W p) e.1 e.2.1) (valM L')) (mF : IsMin (fun x m => ∃ e ∈ Lg, (x, m) ∈ emitS R (want W p) e.1 e.2.1) (valM F')) (vL : ValOk L' (p + 1)) (vF : ValOk F' (p + 1)) :
    KS R W p w w' kb (.map (some nb)) (.map (some fb)) L' F' (p + 1) := by
  have same : ∀ i, i ≤ p → ∀ x m, CostK R W p false i x m ↔ CostK R W p true i x m := by
    intro i
    induction i with
    | zero => intro _ x m; exact Iff.rfl
    | succ i ih =>
      intro hip x m
      constructor
      · rintro ⟨s, n, ⟨h1, _⟩, h2⟩; exact ⟨s, n, ⟨(ih (by omega) s n).1 h1, fun e => by omega⟩, h2⟩
      · rintro ⟨s, n, ⟨h1, _⟩, h2⟩; exact ⟨s, n, ⟨(ih (by omega) s n).2 h1, fun e => by omega⟩, h2⟩
  refine ⟨btr h.B hB, (hB.block _ (Array.getElem?_eq_some_iff.1 h.K).1).trans h.K, ⟨nb, c', rfl, hL⟩, .inr ⟨fb, cf, rfl, hF⟩, ?_, ?_, by simpa using vL, by simpa using vF, fun _ => ⟨fb, cf, rfl, hF⟩⟩
  · refine (IsMin.step hh (fun x m hc => (costK_ok hd p (by omega) x m hc.1).2.1) mh mL).congr fun x m => ?_
    constructor
    · rintro ⟨s, n, ⟨h1, h3⟩, h2⟩; exact ⟨s, n, ⟨h1, fun _ => h3⟩, h2⟩
    · rintro ⟨s, n, ⟨h1, h3⟩, h2⟩; exact ⟨s, n, ⟨h1, h3 rfl⟩, h2⟩
  · refine (IsMin.step hg (fun x m hc => (costK_ok hd p (by omega) x m hc.1).2.1) mg mF).congr fun x m => ?_
    constructor
    · rintro ⟨s, n, ⟨h1, h3⟩, h2⟩; exact ⟨by omega, s, n, ⟨(same p (Nat.le_refl _) s n).1 h1, fun _ => h3⟩, h2⟩
    · rintro ⟨_, s, n, ⟨h1, h3⟩, h2⟩; exact ⟨s, n, ⟨(same p (Nat.le_refl _) s n).2 h1, h3 rfl⟩, h2⟩
set_option maxRecDepth 100000 in
set_option maxHeartbeats 8000000 in
theorem kind_any (b : Nat) (R : Int) (W : List Int) (p : Nat) (w : World) (hI : IsB w b R W zeros) (hd : OkD R W) (hp : p < W.length) :
    Calls Tryz.prog 163 #[.pointer (some ⟨b, 0, none⟩), .int .i64 p] w (KindOk R W p w) := by
  have h16 := hd.l16
  have HI := Lib.hid hI
  obtain ⟨x, M, hD, hx0⟩ := hI
  obtain ⟨a, ca, rfl, _, hcm, hx⟩ := hx0.form
  have c1 := hD.cells.2.1
  have hz := hD.lt
  have HD := Lib.hid hD
  have HX := Lib.hid hx
  have hmm := @run_makeMap Tryz.prog
  have hB1 : Below w.heap.size w ((w.alloc (.cells #[.int .i64 1000, .int .i64 1000] 25)).alloc (.map #[] 0)) := bal (bal (bz w) _) _
  have hM1 : MapM ((w.alloc (.cells #[.int .i64 1000, .int .i64 1000] 25)).alloc (.map #[] 0)) (w.heap.size + 1) [] 0 := ⟨by have := heap_alloc_new (w.alloc (.cells #[.int .i64 1000, .int .i64 1000] 25)) (.map #[] 0); rw [World.size_alloc] at this; exact this, ⟨by simp, by simp, by simp, by simp⟩⟩
  obtain ⟨L1, c1', hput, hok1, hk1⟩ := M9.run_putL hM1.at_ hM1.ok zeros rfl 0
  have hld := (HD.out.up hB1).load
  clear hD hx0 hx hcm
  go_enter Tryz.func163, Tryz.ntmps163
  go_upto_region 4 with (refine wpList_load_var rfl 194 _ rfl _ rfl _ hld ?_)
  have HK4 := Lib.hid (show KS R W p w ((((w.alloc (.cells #[.int .i64 1000, .int .i64 1000] 25)).alloc (.map #[] 0)).putObj (w.heap.size + 1) (.map (M9.entsOf L1) c1'))) w.heap.size (.map (some (w.heap.size + 1))) (.map none) L1 [] 0 from by
    refine ⟨below_put hB1 _ (by omega), ?_, ⟨_, c1', rfl, World.putObj_heap_same hM1.lt, hok1⟩, .inl ⟨rfl, rfl⟩, ?_, fun x m => by simp [valM], ?_, fun e he => by simp at he, fun h => by omega⟩
    · rw [World.putObj_heap_other (by omega), Below.heap_alloc _ _ _ (by simp)]
      exact heap_alloc_new _ _
    · intro x m
      rw [val_some hok1, hk1]
      constructor
      · rintro (⟨rfl, rfl⟩ | ⟨_, t, ht⟩)
        · exact ⟨⟨rfl, rfl⟩, fun m' hm' => by have := hm'.2; omega⟩
        · simp at ht
      · rintro ⟨⟨rfl, rfl⟩, _⟩
        exact .inl ⟨rfl, rfl⟩
    · rintro ⟨x, m, t⟩ he
      rcases (hk1 x m).1 ⟨t, he⟩ with ⟨rfl, rfl⟩ | ⟨_, t', ht⟩
      · exact ⟨zeros_ok, by simp, by simp⟩
      · simp at ht)
  obtain ⟨kb, hkb⟩ : ∃ kb, w.heap.size = kb := ⟨_, rfl⟩
  have HKB : Hid (w.heap.size ≤ kb) := Lib.hid (by omega)
  rw [hkb] at HK4
  rw [hkb]
  generalize (((w.alloc (.cells #[.int .i64 1000, .int .i64 1000] 25)).alloc (.map #[] 0)).putObj (kb + 1) (.map (M9.entsOf L1) c1')) = w4 at *
  have d1 := (HK4.out.B.cell (p := ⟨b, 1, none⟩) hz).trans c1
  have dz := Nat.lt_of_lt_of_le hz HK4.out.B.size
  clear hmm hB1 hM1 hput hok1 hk1 hld hkb
  go_wp2_with fail
  go_loopw [6, 7, 8, 9, 10, 11, 12, 30] (fun s6 s7 _ _ _ _ _ iv wr => ∃ (i : Nat) (mv fv : Value) (L F : M9.Ents), i ≤ W.length ∧ mv = s6 ∧ fv = s7 ∧ iv = .int .i64 i ∧ KS R W p w wr kb mv fv L F i) (fun _ _ _ _ _ _ _ iv _ => W.length - (intOf iv).toNat)
  case atStart => exact ⟨0, _, _, L1, [], Nat.zero_le _, rfl, rfl, rfl, HK4.out⟩
  case round =>
    clear HK4 d1 dz
    obtain ⟨i, mv, fv, L, F, hi, rfl, rfl, rfl, hks⟩ := hrel
    have HKS := Lib.hid hks
    clear hks
    by_cases hlt : i < W.length
    · by_cases hip : i = p
      · have HKP := Lib.hid (show KS R W p w wr kb mv fv L F p from by have h := HKS.out; rw [hip] at h; exact h)
        rw [hip]
        clear HKS hip hlt
        obtain ⟨mb, cc, hmv, hMb⟩ := HKP.out.cm
        subst hmv
        have HMB := Lib.hid hMb
        clear hMb
        obtain ⟨bx, ox, rfl, hbx, hcx⟩ := HX.out (by omega)
        obtain ⟨q1, q8⟩ := hd.at hp
        obtain ⟨qn, hqn⟩ := Int.eq_ofNat_of_zero_le (show 0 ≤ want W p by omega)
        have hgw0 := hcx p hp
        change w.cell? _ = some (.int .i64 (want W p)) at hgw0
        rw [hqn] at hgw0
        have HQ := Lib.hid hqn
        have hqn9 : qn < 9 := by omega
        have HGW := Lib.hid hgw0
        clear hcx hgw0 hqn
        have hmm := @run_makeMap Tryz.prog
        have hBv : Below wr.heap.size wr (((wr.alloc (.map #[] 0)).alloc (.map #[] 0)).alloc (.mapIter (some mb) cc #[] cc)) := bal (bal (bal (bz wr) _) _) _
        have hrg : (Instr.range 263 (.map (some mb))).run Tryz.prog ((wr.alloc (.map #[] 0)).alloc (.map #[] 0)) = .ok (.pointer (some ⟨wr.heap.size + 1 + 1, 0, none⟩)) (((wr.alloc (.map #[] 0)).alloc (.map #[] 0)).alloc (.mapIter (some mb) cc #[] cc)) := by
          have := HMB.out.up (bal (bal (bz wr) (.map #[] 0)) (.map #[] 0))
          simp [Instr.range, Sem.run_bind, run_underlying Tryz.underlying263, Result.andThen_ok, run_getMap this.at_]
        have hh1 : (((wr.alloc (.map #[] 0)).alloc (.map #[] 0)).alloc (.mapIter (some mb) cc #[] cc)).heap[wr.heap.size]? = some (.map (M9.entsOf []) 0) := by
          rw [Below.heap_alloc _ _ _ (by simp; omega), Below.heap_alloc _ _ _ (by simp)]
          exact heap_alloc_new _ _
        have hh2 : (((wr.alloc (.map #[] 0)).alloc (.map #[] 0)).alloc (.mapIter (some mb) cc #[] cc)).heap[wr.heap.size + 1]? = some (.map (M9.entsOf []) 0) := by
          rw [Below.heap_alloc _ _ _ (by simp)]
          have := heap_alloc_new (wr.alloc (.map #[] 0)) (.map #[] 0)
          rwa [World.size_alloc] at this
        have hh3 : (((wr.alloc (.map #[] 0)).alloc (.map #[] 0)).alloc (.mapIter (some mb) cc #[] cc)).heap[wr.heap.size + 1 + 1]? = some (.mapIter (some mb) cc #[] cc) := by
          have := heap_alloc_new ((wr.alloc (.map #[] 0)).alloc (.map #[] 0)) (.mapIter (some mb) cc #[] cc)
          rwa [World.size_alloc, World.size_alloc] at this
        go_wp2_with fail
        clear hrg hmm
        obtain ⟨wv, hwv⟩ : ∃ wv, (((wr.alloc (.map #[] 0)).alloc (.map #[] 0)).alloc (.mapIter (some mb) cc #[] cc)) = wv := ⟨_, rfl⟩
        obtain ⟨hb, hhb⟩ : ∃ hb, wr.heap.size = hb := ⟨_, rfl⟩
        obtain ⟨gb, hgb⟩ : ∃ gb, wr.heap.size + 1 = gb := ⟨_, rfl⟩
        obtain ⟨bi, hbi⟩ : ∃ bi, wr.heap.size + 1 + 1 = bi := ⟨_, rfl⟩
        rw [hwv] at hBv hh1 hh2 hh3
        rw [hhb] at hh1
        rw [hgb] at hh2
        rw [hbi] at hh3
        rw [hwv, hbi, hgb, hhb]
        have l1 : wr.heap.size ≤ hb := by omega
        have l2 : wr.heap.size ≤ gb := by omega
        have l3 : wr.heap.size ≤ bi := by omega
        have n1 : hb ≠ gb := by omega
        have n2 : hb ≠ bi := by omega
        have n3 : gb ≠ bi := by omega
        have HBv := Lib.hid hBv; have HH1 := Lib.hid hh1; have HH2 := Lib.hid hh2; have HH3 := Lib.hid hh3
        have hws := HKP.out.B.size
        clear hBv hh1 hh2 hh3 hwv hhb hgb hbi
        rename World => wv
        go_loopw [11, 12] (fun _ _ wz => ∃ (Lh Lg : M9.Ents) (ch cg : Nat) (seen : Array Nat), Below wr.heap.size wr wz ∧ MapM wz hb Lh ch ∧ MapM wz gb Lg cg ∧ wz.heap[bi]? = some (.mapIter (some mb) cc seen cc) ∧ PartM (want W p) true L seen Lh ∧ PartM (want W p) false L seen Lg) (fun _ _ wz => unmet (wz.heap[mb]?) (wz.heap[bi]?))
        case atStart => exact ⟨[], [], 0, 0, #[], HBv.out, ⟨HH1.out, by simp, by simp, by simp, by simp⟩, ⟨HH2.out, by simp, by simp, by simp, by simp⟩, HH3.out, fun x m => by simp [PartS], fun x m => by simp [PartS]⟩
        case round =>
          clear HBv HH1 HH2 HH3
          obtain ⟨Lh, Lg, ch, cg, seen, hB, hMh, hMg, hit, hPh, hPg⟩ := hrel
          rename World => wz
          have HMR := Lib.hid (HMB.out.up hB)
          have HB := Lib.hid hB; have HMH := Lib.hid hMh; have HMG := Lib.hid hMg; have HIT := Lib.hid hit; have HPH := Lib.hid hPh; have HPG := Lib.hid hPg
          clear hB hMh hMg hPh hPg
          rcases M9.run_nextL HMR.out.at_ HMR.out.ok hit with ⟨hall, hnx⟩ | ⟨e, he, hes, n, hnx⟩
          · have HA := Lib.hid hall
            clear hall hit
            have HQH := Lib.hid (HPH.out.done HMR.out.ok HMH.out.ok HA.out HKP.out.m)
            have HQG := Lib.hid (HPG.out.done HMR.out.ok HMG.out.ok HA.out HKP.out.m)
            have HVH := Lib.hid (val_ok (B := (p : Int)) HMH.out.ok HQH.out (fun x m h => costK_ok hd p (by omega) x m h.1))
            have HVG := Lib.hid (val_ok (B := (p : Int)) HMG.out.ok HQG.out (fun x m h => costK_ok hd p (by omega) x m h.1))
            have HS1 := Lib.hid (step_v b R W zeros Lh p (.map (some hb)) (p : Int) wz (HI.out.mono (btr HKP.out.B HB.out)) hd hp (.inr ⟨hb, ch, rfl, HMH.out⟩) HVH.out (by omega))
            go_wp2_with fail
            refine HS1.out.mono ?_
            rintro e w5 ⟨nb, L', c', rfl, hM5, hm5, hv5, hb5⟩
            have HM5 := Lib.hid hM5; have HMI5 := Lib.hid hm5; have HV5 := Lib.hid hv5; have HB5 := Lib.hid hb5
            clear hM5 hm5 hv5 hb5 HS1 hnx
            have HS2 := Lib.hid (step_v b R W zeros Lg p (.map (some gb)) (p : Int) w5 (HI.out.mono (btr (btr HKP.out.B HB.out) HB5.out)) hd hp (.inr ⟨gb, cg, rfl, HMG.out.up HB5.out⟩) HVG.out (by omega))
            go_wp2_with fail
            refine HS2.out.mono ?_
            rintro e w6 ⟨fb, F', cf, rfl, hM6, hm6, hv6, hb6⟩
            have HKN := Lib.hid (HKP.out.at_p hd hp (btr (btr HB.out HB5.out) hb6) HMH.out.ok HMG.out.ok HQH.out HQG.out (HM5.out.up hb6) hM6 HMI5.out hm6 HV5.out hv6)
            clear hM6 hm6 hv6 hb6 HS2 HM5 HMI5 HV5 HB5
            go_wp2_with fail
            go_roundw
            case rel => exact ⟨p + 1, _, _, L', F', by omega, rfl, rfl, by go_num, HKN.out⟩
            case measure => simp [intOf]; omega
          · have HSN := Lib.hid hes; have HE := Lib.hid he
            obtain ⟨s, nv, t⟩ := e
            simp only at hnx HSN
            have hbz := (Array.getElem?_eq_some_iff.1 hit).1
            have HBN := Lib.hid (below_put (Below.drewN' n HB.out) (.mapIter (some mb) cc (seen.push t) cc) l3)
            have HIN := Lib.hid (show ((wz.drewN n).putObj bi (.mapIter (some mb) cc (seen.push t) cc)).heap[bi]? = some (.mapIter (some mb) cc (seen.push t) cc) from World.putObj_heap_same hbz)
            have HHN := Lib.hid (show MapM ((wz.drewN n).putObj bi (.mapIter (some mb) cc (seen.push t) cc)) hb Lh ch from ⟨(World.putObj_heap_other n2).trans HMH.out.at_, HMH.out.ok⟩)
            have HGN := Lib.hid (show MapM ((wz.drewN n).putObj bi (.mapIter (some mb) cc (seen.push t) cc)) gb Lg cg from ⟨(World.putObj_heap_other n3).trans HMG.out.at_, HMG.out.ok⟩)
            have HMN := Lib.hid (HMB.out.up HBN.out)
            have hen := M9.run_entryL HMN.out.at_ HMN.out.ok HE.out HIN.out
            simp only at hen
            have HUN := Lib.hid (fun wy (h1 : Below wr.heap.size wr wy) (h2 : wy.heap[bi]? = some (.mapIter (some mb) cc (seen.push t) cc)) => (show unmet (wy.heap[mb]?) (wy.heap[bi]?) < unmet (wz.heap[mb]?) (wz.heap[bi]?) from by
              rw [(HMB.out.up h1).at_, h2, HMR.out.at_, HIT.out, unmet_eq9, unmet_eq9]
              exact unmet_lt9 ⟨_, HE.out, rfl⟩ HSN.out))
            clear hes he hit HMH HMG HB
            go_upto_region 12 with fail
            clear hnx
            generalize ((wz.drewN n).putObj bi (.mapIter (some mb) cc (seen.push t) cc)) = wn at *
            obtain ⟨hon, hv0, hvB⟩ := HKP.out.vL _ HE.out
            simp only at hon hv0 hvB
            have HS9 := Lib.hid hon.len
            have hi60 : (Tryz.prog.info? 194).map (·.size) = some 9 := by kernel_rfl
            have HI60 := Lib.hid hi60; clear hi60
            have hB5 := below_box wn #[Value.int IntKind.i64 0, Value.int IntKind.i64 0, Value.int IntKind.i64 0, Value.int IntKind.i64 0, Value.int IntKind.i64 0, Value.int IntKind.i64 0, Value.int IntKind.i64 0, Value.int IntKind.i64 0, Value.int IntKind.i64 0] (arrI s) 194
            have HB5 := Lib.hid (btr HBN.out hB5)
            have HG5 := Lib.hid (heap_box wn #[Value.int IntKind.i64 0, Value.int IntKind.i64 0, Value.int IntKind.i64 0, Value.int IntKind.i64 0, Value.int IntKind.i64 0, Value.int IntKind.i64 0, Value.int IntKind.i64 0, Value.int IntKind.i64 0, Value.int IntKind.i64 0] (arrI s) 194)
            have HI5 := Lib.hid ((hB5.block _ (Array.getElem?_eq_some_iff.1 HIN.out).1).trans HIN.out)
            have HH5 := Lib.hid (HHN.out.up hB5)
            have HGG5 := Lib.hid (HGN.out.up hB5)
            clear hB5 hon
            go_upto_region 13 with (refine wpList_store_row rfl 194 (.tmp 11) (.tmp 43) rfl wn.heap.size (arrI s) rfl rfl 194 _ (heap_alloc_new _ _) (by rw [arrI_size, HS9.out]; exact HI60.out) (by rw [arrI_size, HS9.out]; rfl) (one_arr _) ?_)
            obtain ⟨w5, hw5⟩ : ∃ w5, ((wn.alloc (.cells #[Value.int IntKind.i64 0, Value.int IntKind.i64 0, Value.int IntKind.i64 0, Value.int IntKind.i64 0, Value.int IntKind.i64 0, Value.int IntKind.i64 0, Value.int IntKind.i64 0, Value.int IntKind.i64 0, Value.int IntKind.i64 0] 194)).setRow wn.heap.size (arrI s)) = w5 := ⟨_, rfl⟩
            rw [hw5] at HB5 HG5 HI5 HH5 HGG5
            rw [hw5]
            obtain ⟨sb, hsb⟩ : ∃ sb, wn.heap.size = sb := ⟨_, rfl⟩
            rw [hsb] at HG5
            rw [hsb]
            clear hw5 hsb hen HBN HIN HHN HGN HMN
            have d1 := ((btr HKP.out.B HB5.out).cell (p := ⟨b, 1, none⟩) hz).trans c1
            have dz := Nat.lt_of_lt_of_le hz (btr HKP.out.B HB5.out).size
            have dx := Nat.lt_of_lt_of_le hbx (btr HKP.out.B HB5.out).size
            have gw := ((btr HKP.out.B HB5.out).cell (p := ⟨bx, ox + p, none⟩) hbx).trans HGW.out
            have gk : w5.cell? ⟨sb, qn, none⟩ = some (.int .i64 (s[qn]?.getD 0)) := by
              rw [cell_of_row _ _ _ _ _ _ HG5.out]; exact arrI_get s qn (by have := HS9.out; omega)
            have szz : sb < w5.heap.size := World.block_lt_of_cell? w5 _ gk
            have HSK := Lib.hid (show hasB s (want W p) = decide (0 < s[qn]?.getD 0) by rw [HQ.out]; unfold hasB bitV; rw [Int.toNat_natCast])
            have HLD := Lib.hid (run_loadVar_row w5 sb 194 194 (arrI s) (0, 0) _ HG5.out Tryz.underlying194 rfl (by rw [arrI_size, HS9.out]; exact HI60.out))
            generalize s[qn]?.getD 0 = sk at *
            by_cases hsk : 0 < sk
            · have dk : decide (0 < sk) = true := decide_eq_true hsk
              have HSB := Lib.hid (HSK.out.trans dk)
              clear hsk
              obtain ⟨L9, c9, hput, hok9, hk9⟩ := M9.run_putL HH5.out.at_ HH5.out.ok s HS9.out nv
              have HN9 := Lib.hid (show MapM (w5.putObj hb (.map (M9.entsOf L9) c9)) hb L9 c9 from ⟨World.putObj_heap_same HH5.out.lt, hok9⟩)
              have HK9 := Lib.hid hk9
              clear hok9 hk9
              have hld := HLD.out
              go_wp2_with (refine wpList_load_var rfl 194 _ rfl _ rfl _ hld ?_)
              clear hput hld
              go_roundw
              case rel => exact ⟨L9, Lg, c9, cg, seen.push t, below_put HB5.out _ l1, HN9.out, ⟨(World.putObj_heap_other (Ne.symm n1)).trans HGG5.out.at_, HGG5.out.ok⟩, (World.putObj_heap_other (Ne.symm n2)).trans HI5.out, HPH.out.put HMR.out.ok HE.out HSB.out HK9.out, HPG.out.skip HMR.out.ok HE.out (by rw [HSB.out]; simp)⟩
              case measure => exact HUN.out _ (below_put HB5.out _ l1) ((World.putObj_heap_other (Ne.symm n2)).trans HI5.out)
            · have dk : decide (0 < sk) = false := decide_eq_false hsk
              have HSB := Lib.hid (HSK.out.trans dk)
              clear hsk
              obtain ⟨L9, c9, hput, hok9, hk9⟩ := M9.run_putL HGG5.out.at_ HGG5.out.ok s HS9.out nv
              have HN9 := Lib.hid (show MapM (w5.putObj gb (.map (M9.entsOf L9) c9)) gb L9 c9 from ⟨World.putObj_heap_same HGG5.out.lt, hok9⟩)
              have HK9 := Lib.hid hk9
              clear hok9 hk9
              have hld := HLD.out
              go_wp2_with (refine wpList_load_var rfl 194 _ rfl _ rfl _ hld ?_)
              clear hput hld
              go_roundw
              case rel => exact ⟨Lh, L9, ch, c9, seen.push t, below_put HB5.out _ l2, ⟨(World.putObj_heap_other n1).trans HH5.out.at_, HH5.out.ok⟩, HN9.out, (World.putObj_heap_other (Ne.symm n3)).trans HI5.out, HPH.out.skip HMR.out.ok HE.out (by rw [HSB.out]; simp), HPG.out.put HMR.out.ok HE.out HSB.out HK9.out⟩
              case measure => exact HUN.out _ (below_put HB5.out _ l2) ((World.putObj_heap_other (Ne.symm n3)).trans HI5.out)
      · have t1 : ((i : Int) == (p : Int)) = false := by simp; omega
        have t2 : (i == p) = false := by simpa using hip
        have HIP := Lib.hid hip
        clear hip
        have HS1 := Lib.hid (step_v b R W zeros L i mv (i : Int) wr (HI.out.mono HKS.out.B) hd hlt HKS.out.MV HKS.out.vL (by omega))
        go_wp2_with fail
        refine HS1.out.mono ?_
        rintro e w5 ⟨nb, L', c', rfl, hM5, hm5, hv5, hb5⟩
        have HM5 := Lib.hid hM5; have HMI5 := Lib.hid hm5; have HV5 := Lib.hid hv5; have HB5 := Lib.hid hb5
        clear hM5 hm5 hv5 hb5 HS1
        have HS2 := Lib.hid (step_v b R W zeros F i fv (i : Int) w5 (HI.out.mono (btr HKS.out.B HB5.out)) hd hlt (HKS.out.fm.up HB5.out) HKS.out.vF (by omega))
        go_wp2_with fail
        refine HS2.out.mono ?_
        rintro e w6 ⟨fb, F', cf, rfl, hM6, hm6, hv6, hb6⟩
        have HKN := Lib.hid (HKS.out.next hd hlt HIP.out (btr HB5.out hb6) (HM5.out.up hb6) hM6 HMI5.out hm6 HV5.out hv6)
        clear hM6 hm6 hv6 hb6 HS2 HM5 HMI5 HV5 HB5
        go_wp2_with fail
        go_roundw
        case rel => exact ⟨i + 1, _, _, L', F', by omega, rfl, rfl, by go_num, HKN.out⟩
        case measure => simp [intOf]; omega
    · have hin : i = W.length := by omega
      subst hin
      obtain ⟨mb, cc, hmv, hMb⟩ := HKS.out.cm
      obtain ⟨fb, cf, hfv, hFb⟩ := HKS.out.fs (by omega)
      subst hmv; subst hfv
      have HMB := Lib.hid hMb; have HFB := Lib.hid hFb
      clear hMb hFb
      have hrg : (Instr.range 263 (.map (some mb))).run Tryz.prog wr = .ok (.pointer (some ⟨wr.heap.size, 0, none⟩)) (wr.alloc (.mapIter (some mb) cc #[] cc)) := by
        simp [Instr.range, Sem.run_bind, run_underlying Tryz.underlying263, Result.andThen_ok, run_getMap HMB.out.at_]
      have hkz := (Array.getElem?_eq_some_iff.1 HKS.out.K).1
      have hrz := HKS.out.B.size
      have hmz := HMB.out.lt
      have hfz := HFB.out.lt
      have hmk : mb ≠ kb := by
        intro e; subst e; have := HMB.out.at_; rw [HKS.out.K] at this; cases this
      have hfk : fb ≠ kb := by
        intro e; subst e; have := HFB.out.at_; rw [HKS.out.K] at this; cases this
      have hkw := HKB.out
      go_wp2_with fail
      clear hrg
      have HBV := Lib.hid (bal HKS.out.B (.mapIter (some mb) cc #[] cc))
      have HMV := Lib.hid (HMB.out.up (bal (bz wr) (.mapIter (some mb) cc #[] cc)))
      have HFV := Lib.hid (HFB.out.up (bal (bz wr) (.mapIter (some mb) cc #[] cc)))
      have HKV := Lib.hid ((Below.heap_alloc wr (.mapIter (some mb) cc #[] cc) kb hkz).trans HKS.out.K)
      have HIV := Lib.hid (heap_alloc_new wr (.mapIter (some mb) cc #[] cc))
      obtain ⟨bi, hbi⟩ : ∃ bi, wr.heap.size = bi := ⟨_, rfl⟩
      rw [hbi] at HIV hkz hrz hmz hfz
      rw [hbi]
      have hik : bi ≠ kb := by omega
      generalize (wr.alloc (.mapIter (some mb) cc #[] cc)) = wv at *
      clear hbi
      go_loopw [14] (fun _ wz => ∃ (v0 : Int) (seen : Array Nat), Below w.heap.size w wz ∧ MapM wz mb L cc ∧ MapM wz fb F cf ∧ wz.heap[kb]? = some (.cells #[.int .i64 v0, .int .i64 1000] 25 (0, 0)) ∧ wz.heap[bi]? = some (.mapIter (some mb) cc seen cc) ∧ MinE L seen v0) (fun _ wz => unmet (wz.heap[mb]?) (wz.heap[bi]?))
      case atStart => exact ⟨1000, #[], HBV.out, HMV.out, HFV.out, HKV.out, HIV.out, ⟨by omega, .inl rfl, by simp⟩⟩
      case round =>
        clear HBV HMV HFV HKV HIV
        obtain ⟨v0, seen, hB, hM, hF, hK, hit, hmin⟩ := hrel
        rename World => wz
        have HB := Lib.hid hB; have HM := Lib.hid hM; have HF := Lib.hid hF; have HK := Lib.hid hK; have HIT := Lib.hid hit; have HMN := Lib.hid hmin
        clear hB hM hF hK hmin
        rcases M9.run_nextL HM.out.at_ HM.out.ok hit with ⟨hall, hnx⟩ | ⟨e, he, hes, n, hnx⟩
        · have HA := Lib.hid hall
          clear hall hit
          have HLE := Lib.hid (HMN.out.done HM.out.ok HA.out (fun x m hc => (costK_ok hd W.length (Nat.le_refl _) x m hc).2.1) HKS.out.m)
          have hv01 := HMN.out.le
          have hrg : (Instr.range 263 (.map (some fb))).run Tryz.prog wz = .ok (.pointer (some ⟨wz.heap.size, 0, none⟩)) (wz.alloc (.mapIter (some fb) cf #[] cf)) := by
            simp [Instr.range, Sem.run_bind, run_underlying Tryz.underlying263, Result.andThen_ok, run_getMap HF.out.at_]
          have hkz3 := (Array.getElem?_eq_some_iff.1 HK.out).1
          have hrz3 := HB.out.size
          have hfz3 := HF.out.lt
          go_wp2_with fail
          clear hrg hnx
          have HBV := Lib.hid (bal HB.out (.mapIter (some fb) cf #[] cf))
          have HFV := Lib.hid (HF.out.up (bal (bz wz) (.mapIter (some fb) cf #[] cf)))
          have HKV := Lib.hid ((Below.heap_alloc wz (.mapIter (some fb) cf #[] cf) kb hkz3).trans HK.out)
          have HIV := Lib.hid (heap_alloc_new wz (.mapIter (some fb) cf #[] cf))
          obtain ⟨bj, hbj⟩ : ∃ bj, wz.heap.size = bj := ⟨_, rfl⟩
          rw [hbj] at HIV hkz3 hrz3 hfz3
          rw [hbj]
          have hjk : bj ≠ kb := by omega
          generalize (wz.alloc (.mapIter (some fb) cf #[] cf)) = wy at *
          clear hbj HM HF HK HB HMN HIT HA
          go_loopw [16] (fun _ wz => ∃ (v1 : Int) (seen : Array Nat), Below w.heap.size w wz ∧ MapM wz fb F cf ∧ wz.heap[kb]? = some (.cells #[.int .i64 v0, .int .i64 v1] 25 (0, 0)) ∧ wz.heap[bj]? = some (.mapIter (some fb) cf seen cf) ∧ MinE F seen v1) (fun _ wz => unmet (wz.heap[fb]?) (wz.heap[bj]?))
          case atStart => exact ⟨1000, #[], HBV.out, HFV.out, HKV.out, HIV.out, ⟨by omega, .inl rfl, by simp⟩⟩
          case round =>
            clear HBV HFV HKV HIV
            obtain ⟨v1, seen, hB, hF, hK, hit, hmin⟩ := hrel
            rename World => wz
            have HB := Lib.hid hB; have HF := Lib.hid hF; have HK := Lib.hid hK; have HIT := Lib.hid hit; have HMN := Lib.hid hmin
            clear hB hF hK hmin
            rcases M9.run_nextL HF.out.at_ HF.out.ok hit with ⟨hall, hnx⟩ | ⟨e, he, hes, n, hnx⟩
            · have HA := Lib.hid hall
              clear hall hit
              have HL1 := Lib.hid (show Least (CostK R W p true W.length) v1 from by
                have h := HMN.out.done HF.out.ok HA.out (fun x m hc => (costK_ok hd W.length (Nat.le_refl _) x m hc.2).2.1) HKS.out.f
                exact ⟨h.1, h.2.1.imp id (fun ⟨s, hs⟩ => ⟨s, hs.2⟩), fun s n hs => h.2.2 s n ⟨hp, hs⟩⟩)
              have k0 : wz.cell? ⟨kb, 0, none⟩ = some (.int .i64 v0) := by rw [cell_of_row _ _ _ _ _ _ HK.out]; rfl
              have k1 : wz.cell? ⟨kb, 1, none⟩ = some (.int .i64 v1) := by rw [cell_of_row _ _ _ _ _ _ HK.out]; rfl
              have kz := (Array.getElem?_eq_some_iff.1 HK.out).1
              by_cases c1 : v0 < v1
              · have d1 : decide (v0 < v1) = true := decide_eq_true c1
                have HP := Lib.hid (show kindP v0 v1 = 0 by unfold kindP; rw [if_pos c1])
                clear c1
                go_wp2_with fail
                go_ret
                exact ⟨v0, v1, ret_int HP.out.symm, HLE.out, HL1.out, HB.out⟩
              · have d1 : decide (v0 < v1) = false := decide_eq_false c1
                by_cases c2 : v1 < v0
                · have d2 : decide (v1 < v0) = true := decide_eq_true c2
                  have HP := Lib.hid (show kindP v0 v1 = 2 by unfold kindP; rw [if_neg c1, if_pos c2])
                  clear c1 c2
                  go_wp2_with fail
                  go_ret
                  exact ⟨v0, v1, ret_int HP.out.symm, HLE.out, HL1.out, HB.out⟩
                · have d2 : decide (v1 < v0) = false := decide_eq_false c2
                  have HP := Lib.hid (show kindP v0 v1 = 1 by unfold kindP; rw [if_neg c1, if_neg c2])
                  clear c1 c2
                  go_wp2_with fail
                  go_ret
                  exact ⟨v0, v1, ret_int HP.out.symm, HLE.out, HL1.out, HB.out⟩
            · have HSN := Lib.hid hes; have HE := Lib.hid he
              obtain ⟨s, nv, t⟩ := e
              simp only at hnx HSN
              obtain ⟨_, hv0, hvB⟩ := HKS.out.vF _ HE.out
              simp only at hv0 hvB
              have hbz := (Array.getElem?_eq_some_iff.1 hit).1
              have HBN := Lib.hid (below_put (Below.drewN' n HB.out) (.mapIter (some fb) cf (seen.push t) cf) hrz3)
              have HIN := Lib.hid (show ((wz.drewN n).putObj bj (.mapIter (some fb) cf (seen.push t) cf)).heap[bj]? = some (.mapIter (some fb) cf (seen.push t) cf) from World.putObj_heap_same hbz)
              have HFN := Lib.hid (show MapM ((wz.drewN n).putObj bj (.mapIter (some fb) cf (seen.push t) cf)) fb F cf from ⟨(World.putObj_heap_other (by omega)).trans HF.out.at_, HF.out.ok⟩)
              have HKN := Lib.hid (show ((wz.drewN n).putObj bj (.mapIter (some fb) cf (seen.push t) cf)).heap[kb]? = some (.cells #[.int .i64 v0, .int .i64 v1] 25 (0, 0)) from (World.putObj_heap_other (by omega)).trans HK.out)
              have hen := M9.run_entryL HFN.out.at_ HFN.out.ok HE.out HIN.out
              simp only at hen
              have hkc : ((wz.drewN n).putObj bj (.mapIter (some fb) cf (seen.push t) cf)).cell? ⟨kb, 1, none⟩ = some (.int .i64 v1) := by rw [cell_of_row _ _ _ _ _ _ HKN.out]; rfl
              have hkf : ((wz.drewN n).putObj bj (.mapIter (some fb) cf (seen.push t) cf)).frozen? ⟨kb, 1, none⟩ = false := frozen_of_row _ kb _ _ _ HKN.out
              have HUN := Lib.hid (fun wy (h1 : MapM wy fb F cf) (h2 : wy.heap[bj]? = some (.mapIter (some fb) cf (seen.push t) cf)) => (show unmet (wy.heap[fb]?) (wy.heap[bj]?) < unmet (wz.heap[fb]?) (wz.heap[bj]?) from by
                rw [h1.at_, h2, HF.out.at_, HIT.out, unmet_eq9, unmet_eq9]
                exact unmet_lt9 ⟨_, HE.out, rfl⟩ HSN.out))
              clear hes he hit HF HB HK
              go_upto_region 25 with fail
              clear hnx
              generalize ((wz.drewN n).putObj bj (.mapIter (some fb) cf (seen.push t) cf)) = wn at *
              have hkz2 : kb < wn.heap.size := World.block_lt_of_cell? wn _ hkc
              have HPU := Lib.hid (HMN.out.push HFN.out.ok HE.out (show nv ≤ 1000 by omega))
              simp only at HPU
              go_wp2_with fail
              go_roundw
              case rel => exact ⟨_, seen.push t, bset HBN.out hkw _, ⟨(Go.Deep.blk_setCell_other wn ⟨kb, 1, none⟩ _ fb hfk).trans HFN.out.at_, HFN.out.ok⟩, by rw [heap_setCell_same wn kb 1 _ _ _ HKN.out]; rfl, (Go.Deep.blk_setCell_other wn ⟨kb, 1, none⟩ _ bj hjk).trans HIN.out, HPU.out⟩
              case measure => exact HUN.out _ ⟨(Go.Deep.blk_setCell_other wn ⟨kb, 1, none⟩ _ fb hfk).trans HFN.out.at_, HFN.out.ok⟩ ((Go.Deep.blk_setCell_other wn ⟨kb, 1, none⟩ _ bj hjk).trans HIN.out)
        · have HSN := Lib.hid hes; have HE := Lib.hid he
          obtain ⟨s, nv, t⟩ := e
          simp only at hnx HSN
          obtain ⟨_, hv0, hvB⟩ := HKS.out.vL _ HE.out
          simp only at hv0 hvB
          have hbz := (Array.getElem?_eq_some_iff.1 hit).1
          have HBN := Lib.hid (below_put (Below.drewN' n HB.out) (.mapIter (some mb) cc (seen.push t) cc) hrz)
          have HIN := Lib.hid (show ((wz.drewN n).putObj bi (.mapIter (some mb) cc (seen.push t) cc)).heap[bi]? = some (.mapIter (some mb) cc (seen.push t) cc) from World.putObj_heap_same hbz)
          have HMN2 := Lib.hid (show MapM ((wz.drewN n).putObj bi (.mapIter (some mb) cc (seen.push t) cc)) mb L cc from ⟨(World.putObj_heap_other (by omega)).trans HM.out.at_, HM.out.ok⟩)
          have HFN := Lib.hid (show MapM ((wz.drewN n).putObj bi (.mapIter (some mb) cc (seen.push t) cc)) fb F cf from ⟨(World.putObj_heap_other (by omega)).trans HF.out.at_, HF.out.ok⟩)
          have HKN := Lib.hid (show ((wz.drewN n).putObj bi (.mapIter (some mb) cc (seen.push t) cc)).heap[kb]? = some (.cells #[.int .i64 v0, .int .i64 1000] 25 (0, 0)) from (World.putObj_heap_other (by omega)).trans HK.out)
          have hen := M9.run_entryL HMN2.out.at_ HMN2.out.ok HE.out HIN.out
          simp only at hen
          have hkc : ((wz.drewN n).putObj bi (.mapIter (some mb) cc (seen.push t) cc)).cell? ⟨kb, 0, none⟩ = some (.int .i64 v0) := by rw [cell_of_row _ _ _ _ _ _ HKN.out]; rfl
          have hkf : ((wz.drewN n).putObj bi (.mapIter (some mb) cc (seen.push t) cc)).frozen? ⟨kb, 0, none⟩ = false := frozen_of_row _ kb _ _ _ HKN.out
          have HUN := Lib.hid (fun wy (h1 : MapM wy mb L cc) (h2 : wy.heap[bi]? = some (.mapIter (some mb) cc (seen.push t) cc)) => (show unmet (wy.heap[mb]?) (wy.heap[bi]?) < unmet (wz.heap[mb]?) (wz.heap[bi]?) from by
            rw [h1.at_, h2, HM.out.at_, HIT.out, unmet_eq9, unmet_eq9]
            exact unmet_lt9 ⟨_, HE.out, rfl⟩ HSN.out))
          clear hes he hit HM HF HB HK
          go_upto_region 21 with fail
          clear hnx
          generalize ((wz.drewN n).putObj bi (.mapIter (some mb) cc (seen.push t) cc)) = wn at *
          have hkz2 : kb < wn.heap.size := World.block_lt_of_cell? wn _ hkc
          have HPU := Lib.hid (HMN.out.push HMN2.out.ok HE.out (show nv ≤ 1000 by omega))
          simp only at HPU
          go_wp2_with fail
          go_roundw
          case rel => exact ⟨_, seen.push t, bset HBN.out hkw _, ⟨(Go.Deep.blk_setCell_other wn ⟨kb, 0, none⟩ _ mb hmk).trans HMN2.out.at_, HMN2.out.ok⟩, ⟨(Go.Deep.blk_setCell_other wn ⟨kb, 0, none⟩ _ fb hfk).trans HFN.out.at_, HFN.out.ok⟩, by rw [heap_setCell_same wn kb 0 _ _ _ HKN.out]; rfl, (Go.Deep.blk_setCell_other wn ⟨kb, 0, none⟩ _ bi hik).trans HIN.out, HPU.out⟩
          case measure => exact HUN.out _ ⟨(Go.Deep.blk_setCell_other wn ⟨kb, 0, none⟩ _ mb hmk).trans HMN2.out.at_, HMN2.out.ok⟩ ((Go.Deep.blk_setCell_other wn ⟨kb, 0, none⟩ _ bi hik).trans HIN.out)
end Go.Proofs.YtpeminhnjdakiaaGreat
end

section
namespace Go.Proofs.YtpeminhnjdakiaaGreat
open Go.RowKit Go.Shelf

theorem emitS_mono {R q : Int} {s x : List Int} {n n' m : Int} (h : (x, m) ∈ emitS R q s n) : (x, m - n + n') ∈ emitS R q s n' := by
  unfold emitS at h ⊢
  split at h
  · rename_i hh
    rw [if_pos hh]
    simp only [List.mem_singleton, Prod.mk.injEq] at h ⊢
    exact ⟨h.1, by omega⟩
  · rename_i hh
    rw [if_neg hh]
    split at h
    · rename_i h2
      rw [if_pos h2]
      simp only [List.mem_singleton, Prod.mk.injEq] at h ⊢
      exact ⟨h.1, by omega⟩
    · rename_i h2
      rw [if_neg h2]
      rw [mem_emitK] at h ⊢
      obtain ⟨a, h3, h4, h5, h6, h7⟩ := h
      exact ⟨a, h3, h4, h5, h6, by omega⟩
/-- The least cost of each bench. -/
def insM (e : List Int × Int) : List (List Int × Int) → List (List Int × Int)
  | [] => [e]
  | f :: r => if f.1 = e.1 then (if e.2 < f.2 then e :: r else f :: r) else f :: insM e r
def insL (l acc : List (List Int × Int)) : List (List Int × Int) := l.foldl (fun a e => insM e a) acc
theorem insM_mem {e g : List Int × Int} : ∀ {l : List (List Int × Int)}, g ∈ insM e l → g = e ∨ g ∈ l
  | [], h => by simp only [insM, List.mem_singleton] at h; exact .inl h
  | f :: r, h => by
    unfold insM at h
    split at h
    · split at h
      · rcases List.mem_cons.1 h with h | h
        · exact .inl h
        · exact .inr (List.mem_cons_of_mem _ h)
      · exact .inr h
    · rcases List.mem_cons.1 h with h | h
      · exact .inr (h ▸ List.mem_cons_self ..)
      · rcases insM_mem h with h | h
        · exact .inl h
        · exact .inr (List.mem_cons_of_mem _ h)
theorem insM_has (e : List Int × Int) : ∀ l : List (List Int × Int), ∃ m, (e.1, m) ∈ insM e l ∧ m ≤ e.2
  | [] => ⟨e.2, by simp [insM], Int.le_refl _⟩
  | f :: r => by
    unfold insM
    by_cases h : f.1 = e.1
    · rw [if_pos h]
      by_cases h2 : e.2 < f.2
      · rw [if_pos h2]; exact ⟨e.2, List.mem_cons_self .., Int.le_refl _⟩
      · rw [if_neg h2]; exact ⟨f.2, by rw [← h]; exact List.mem_cons_self .., by omega⟩
    · rw [if_neg h]
      obtain ⟨m, h1, h2⟩ := insM_has e r
      exact ⟨m, List.mem_cons_of_mem _ h1, h2⟩
theorem insM_keep (e : List Int × Int) : ∀ (l : List (List Int × Int)) {g : List Int × Int}, g ∈ l → ∃ m, (g.1, m) ∈ insM e l ∧ m ≤ g.2
  | f :: r, g, hg => by
    unfold insM
    by_cases h : f.1 = e.1
    · rw [if_pos h]
      by_cases h2 : e.2 < f.2
      · rw [if_pos h2]
        rcases List.mem_cons.1 hg with rfl | hg
        · exact ⟨e.2, by rw [h]; exact List.mem_cons_self .., by omega⟩
        · exact ⟨g.2, List.mem_cons_of_mem _ hg, Int.le_refl _⟩
      · rw [if_neg h2]; exact ⟨g.2, hg, Int.le_refl _⟩
    · rw [if_neg h]
      rcases List.mem_cons.1 hg with rfl | hg
      · exact ⟨g.2, List.mem_cons_self .., Int.le_refl _⟩
      · obtain ⟨m, h1, h2⟩ := insM_keep e r hg
        exact ⟨m, List.mem_cons_of_mem _ h1, h2⟩
theorem insL_mem {g : List Int × Int} : ∀ {l acc : List (List Int × Int)}, g ∈ insL l acc → g ∈ l ∨ g ∈ acc
  | [], acc, h => .inr h
  | e :: l, acc, h => by
    rcases insL_mem (l := l) (acc := insM e acc) h with h | h
    · exact .inl (List.mem_cons_of_mem _ h)
    · rcases insM_mem h with h | h
      · exact .inl (h ▸ List.mem_cons_self ..)
      · exact .inr h
theorem insL_has {g : List Int × Int} : ∀ {l acc : List (List Int × Int)}, (g ∈ l ∨ g ∈ acc) → ∃ m, (g.1, m) ∈ insL l acc ∧ m ≤ g.2
  | [], acc, h => by
    rcases h with h | h
    · cases h
    · exact ⟨g.2, h, Int.le_refl _⟩
  | e :: l, acc, h => by
    have key : ∀ k : List Int × Int, k ∈ insM e acc → k.1 = g.1 → k.2 ≤ g.2 → ∃ m, (g.1, m) ∈ insL (e :: l) acc ∧ m ≤ g.2 := by
      intro k h1 h2 h3
      obtain ⟨m, h4, h5⟩ := insL_has (l := l) (acc := insM e acc) (g := k) (.inr h1)
      exact ⟨m, h2 ▸ h4, by omega⟩
    rcases h with h | h
    · rcases List.mem_cons.1 h with rfl | h
      · obtain ⟨m, h1, h2⟩ := insM_has g acc
        exact key (g.1, m) h1 rfl h2
      · exact insL_has (l := l) (acc := insM e acc) (.inl h)
    · obtain ⟨m, h1, h2⟩ := insM_keep e acc h
      exact key (g.1, m) h1 rfl h2
def costL (R : Int) (W : List Int) (p : Nat) (fl : Bool) : Nat → List (List Int × Int)
  | 0 => [(zeros, 0)]
  | i + 1 => insL (((costL R W p fl i).filter fun e => (i != p) || (hasB e.1 (want W i) == !fl)).flatMap fun e => emitS R (want W i) e.1 e.2) []
theorem costL_of {R : Int} {W : List Int} {p : Nat} {fl : Bool} : ∀ (i : Nat) (e : List Int × Int), e ∈ costL R W p fl i → CostK R W p fl i e.1 e.2
  | 0, e, h => by
    simp only [costL, List.mem_singleton] at h
    subst h
    exact ⟨rfl, rfl⟩
  | i + 1, e, h => by
    unfold costL at h
    rcases insL_mem h with h | h
    · rw [List.mem_flatMap] at h
      obtain ⟨f, h1, h2⟩ := h
      rw [List.mem_filter] at h1
      refine ⟨f.1, f.2, ⟨costL_of i f h1.1, fun hip => ?_⟩, h2⟩
      have := h1.2
      subst hip
      simpa using this
    · cases h
theorem costL_has {R : Int} {W : List Int} {p : Nat} {fl : Bool} : ∀ (i : Nat) (x : List Int) (m : Int), CostK R W p fl i x m → ∃ m', (x, m') ∈ costL R W p fl i ∧ m' ≤ m
  | 0, x, m, h => by
    obtain ⟨rfl, rfl⟩ := h
    exact ⟨0, by simp [costL], Int.le_refl _⟩
  | i + 1, x, m, h => by
    obtain ⟨s, n, ⟨h1, h2⟩, h3⟩ := h
    obtain ⟨n', h4, h5⟩ := costL_has i s n h1
    unfold costL
    obtain ⟨m', h6, h7⟩ := insL_has (g := (x, m - n + n')) (l := ((costL R W p fl i).filter fun e => (i != p) || (hasB e.1 (want W i) == !fl)).flatMap fun e => emitS R (want W i) e.1 e.2) (acc := []) (.inl (by
      rw [List.mem_flatMap]
      refine ⟨(s, n'), List.mem_filter.2 ⟨h4, ?_⟩, emitS_mono h3⟩
      by_cases hip : i = p
      · simp [hip ▸ h2 hip, hip]
      · simp [hip]))
    exact ⟨m', h6, by simp only at h7; omega⟩
def minL (l : List (List Int × Int)) : Int := l.foldl (fun v e => if e.2 < v then e.2 else v) 1000
theorem minL_le : ∀ (l : List (List Int × Int)) (v : Int), (l.foldl (fun v e => if e.2 < v then e.2 else v) v) ≤ v ∧ (∀ e ∈ l, l.foldl (fun v e => if e.2 < v then e.2 else v) v ≤ e.2) ∧ ((l.foldl (fun v e => if e.2 < v then e.2 else v) v) = v ∨ ∃ e ∈ l, (l.foldl (fun v e => if e.2 < v then e.2 else v) v) = e.2)
  | [], v => ⟨Int.le_refl _, by simp, .inl rfl⟩
  | f :: r, v => by
    simp only [List.foldl_cons]
    by_cases hf : f.2 < v
    · rw [if_pos hf]
      obtain ⟨h1, h2, h3⟩ := minL_le r f.2
      refine ⟨by omega, fun e he => ?_, .inr ?_⟩
      · rcases List.mem_cons.1 he with rfl | he
        · exact h1
        · exact h2 e he
      · rcases h3 with h3 | ⟨e, he, h3⟩
        · exact ⟨f, List.mem_cons_self .., h3⟩
        · exact ⟨e, List.mem_cons_of_mem _ he, h3⟩
    · rw [if_neg hf]
      obtain ⟨h1, h2, h3⟩ := minL_le r v
      refine ⟨h1, fun e he => ?_, ?_⟩
      · rcases List.mem_cons.1 he with rfl | he
        · omega
        · exact h2 e he
      · rcases h3 with h3 | ⟨e, he, h3⟩
        · exact .inl h3
        · exact .inr ⟨e, List.mem_cons_of_mem _ he, h3⟩
theorem least_min {R : Int} {W : List Int} {p : Nat} {fl : Bool} {i : Nat} {a : Int} (h : Least (CostK R W p fl i) a) : a = minL (costL R W p fl i) := by
  obtain ⟨h1, h2, h3⟩ := h
  obtain ⟨m1, m2, m3⟩ := minL_le (costL R W p fl i) 1000
  change minL (costL R W p fl i) ≤ 1000 at m1
  have lo : a ≤ minL (costL R W p fl i) := by
    rcases m3 with m3 | ⟨e, he, m3⟩
    · change minL _ = 1000 at m3; omega
    · change minL _ = e.2 at m3
      rw [m3]; exact h3 _ _ (costL_of i e he)
  have hi : minL (costL R W p fl i) ≤ a := by
    rcases h2 with h2 | ⟨s, h2⟩
    · omega
    · obtain ⟨m', h4, h5⟩ := costL_has i s a h2
      have := m2 _ h4
      change minL _ ≤ m' at this
      omega
  omega
/-- The kind, computed. -/
def kindC (R : Int) (W : List Int) (p : Nat) : Int := kindP (minL (costL R W p false W.length)) (minL (costL R W p true W.length))
theorem kind_c {R : Int} {W : List Int} {p : Nat} {w : World} {e : Ending} {w' : World} (h : KindOk R W p w e w') : e = .returned (.int .i64 (kindC R W p)) ∧ Below w.heap.size w w' := by
  obtain ⟨a0, a1, h1, h2, h3, h4⟩ := h
  rw [least_min h2, least_min h3] at h1
  exact ⟨h1, h4⟩
theorem kind_day : kindC 3 [1, 2, 3, 4, 1, 2, 5, 1, 2, 3, 4, 5] 4 = 0 := by decide +kernel
end Go.Proofs.YtpeminhnjdakiaaGreat
end

section
namespace Go.Proofs.YtpeminhnjdakiaaGreat
open Go.RowKit Go.Shelf Go.Ev

noncomputable def intsOf : List AV → Option (List Int) := List.rec (some []) fun v _ ih => AV.intE v none fun k n => Bool.rec none (oB ih fun r => some (n :: r)) (isI64 k)
theorem intsOf_some : ∀ {l : List AV} {r : List Int}, intsOf l = some r → l = r.map (AV.int .i64)
  | [], r, h => by cases h; rfl
  | v :: l, r, h => by
    have h : (AV.intE v none fun k n => Bool.rec none (oB (intsOf l) fun r => some (n :: r)) (isI64 k)) = some r := h
    obtain ⟨k, m, rfl, h⟩ := AV.intE_some h
    have h : (Bool.rec none (oB (intsOf l) fun r => some (m :: r)) (isI64 k) : Option (List Int)) = some r := h
    cases hk : isI64 k with
    | false => rw [hk] at h; cases h
    | true =>
      rw [hk] at h
      rw [isI64_eq, decide_eq_true_eq] at hk
      subst hk
      obtain ⟨r', h1, h2⟩ := oB_some h
      cases h2
      rw [intsOf_some h1]
      rfl
/-- The bench in a row: its room, its wants, nothing on it. -/
noncomputable def benchOf (h : Hp) (r : Nat) : Option (Int × List Int) :=
  match h.rows.get r with
  | some (.row t [.int .i64 R, .slice s off n c false, .int .i64 (.ofNat 0), .int .i64 (.ofNat 0), .int .i64 (.ofNat 0), .int .i64 (.ofNat 0), .int .i64 (.ofNat 0), .int .i64 (.ofNat 0), .int .i64 (.ofNat 0), .int .i64 (.ofNat 0), .int .i64 (.ofNat 0), .map _] true _) =>
    bif Nat.beq t 197 && Nat.ble c 1000 then (match Ev.loadCells h s off n with | some cs => (match intsOf cs with | some W => some (R, W) | none => none) | none => none) else none
  | _ => none
noncomputable def kindAns (args : List AV) (h : Hp) : Option (AV × Hp) :=
  match args with
  | [.ptr r 0, .int .i64 (.ofNat p)] =>
    (match benchOf h r with
    | some (R, W) => bif checkD R W == 0 && Nat.ble (p + 1) W.length then some (.int .i64 (kindC R W p), h) else none
    | none => none)
  | _ => none
noncomputable def orcK (O : Orc) : Orc := fun k args h => Bool.rec (O k args h) (kindAns args h) (Nat.beq k 163)
theorem has_kind : ∃ fn c, Tryz.prog.funcs[163]? = some fn ∧ fn.body = some c := ⟨Tryz.f163, _, Tryz.func163, rfl⟩
theorem benchOf_some {ρ : Rn} {base : Nat} {h : Hp} {w : World} (hr : RelH Tryz.prog ρ base h w) {r : Nat} {R : Int} {W : List Int} (hb : benchOf h r = some (R, W)) {p : Pl} (hp : ρ r = some p) : p.o = 0 ∧ IsB w p.b R W zeros := by
  unfold benchOf at hb
  split at hb
  · rename_i t R' s off n c m g hrow
    cases ht : (Nat.beq t 197 && Nat.ble c 1000) with
    | false => rw [ht] at hb; cases hb
    | true =>
      rw [ht] at hb
      simp only [Bool.and_eq_true, nat_beq, nat_ble, decide_eq_true_eq] at ht
      obtain ⟨rfl, hc⟩ := ht
      simp only [cond_true] at hb
      split at hb
      · rename_i cs hcs
        split at hb
        · rename_i W' hW
          cases hb
          obtain ⟨p', hp', blk, hblk, hcells, _, hfull⟩ := hr.obj r _ hrow (by simp)
          rw [hp] at hp'; cases hp'
          obtain ⟨h0, hsz⟩ := hfull rfl
          refine ⟨h0, ?_⟩
          rw [h0] at hcells
          simp only [Nat.zero_add] at hcells
          have hints := intsOf_some hW
          obtain ⟨v0, e0, k0⟩ := hcells 0 _ rfl
          obtain ⟨v1, e1, k1⟩ := hcells 1 _ rfl
          obtain ⟨v2, e2, k2⟩ := hcells 2 _ rfl
          obtain ⟨v3, e3, k3⟩ := hcells 3 _ rfl
          obtain ⟨v4, e4, k4⟩ := hcells 4 _ rfl
          obtain ⟨v5, e5, k5⟩ := hcells 5 _ rfl
          obtain ⟨v6, e6, k6⟩ := hcells 6 _ rfl
          obtain ⟨v7, e7, k7⟩ := hcells 7 _ rfl
          obtain ⟨v8, e8, k8⟩ := hcells 8 _ rfl
          obtain ⟨v9, e9, k9⟩ := hcells 9 _ rfl
          obtain ⟨v10, e10, k10⟩ := hcells 10 _ rfl
          obtain ⟨v11, e11, k11⟩ := hcells 11 _ rfl
          cases k0; cases k2; cases k3; cases k4; cases k5; cases k6; cases k7; cases k8; cases k9; cases k10
          cases k11 with
          | map hm =>
          rename_i q
          cases k1 with
          | slice hs hn =>
          rename_i ps
          refine ⟨.slice (some ⟨ps.b, ps.o + off, none⟩) n c, q.b, ⟨?_, rfl⟩, ?_⟩
          · rw [hblk]
            congr 2
            apply Array.ext'
            have hl : blk.toList.length = 12 := by simpa using hsz
            apply List.ext_getElem?
            intro i
            have get : ∀ (j : Nat) (v : Value), blk[j]? = some v → blk.toList[j]? = some v := fun j v h => by simpa using h
            by_cases hi : i < 12
            · have hi : i = 0 ∨ i = 1 ∨ i = 2 ∨ i = 3 ∨ i = 4 ∨ i = 5 ∨ i = 6 ∨ i = 7 ∨ i = 8 ∨ i = 9 ∨ i = 10 ∨ i = 11 := by omega
              rcases hi with rfl | rfl | rfl | rfl | rfl | rfl | rfl | rfl | rfl | rfl | rfl | rfl
              · exact get _ _ e0
              · exact get _ _ e1
              · exact get _ _ e2
              · exact get _ _ e3
              · exact get _ _ e4
              · exact get _ _ e5
              · exact get _ _ e6
              · exact get _ _ e7
              · exact get _ _ e8
              · exact get _ _ e9
              · exact get _ _ e10
              · exact get _ _ e11
            · rw [List.getElem?_eq_none (by omega), List.getElem?_eq_none]
              simp [benchC, zeros]
              omega
          · unfold Ev.loadCells at hcs
            split at hcs
            · rename_i t2 cells2 f2 g2 hrow2
              obtain ⟨l1, l2⟩ := takeAt_some hcs
              have hlen : W.length = n := by rw [← l1, hints, List.length_map]
              obtain ⟨p2, hp2, blk2, hblk2, hcells2, _⟩ := hr.obj s _ hrow2 (by simp)
              rw [hs] at hp2; cases hp2
              refine ⟨_, c, by rw [hlen], by rw [hlen]; exact hn, by unfold maxLen; omega, fun _ => ⟨ps.b, ps.o + off, rfl, (hr.dom s ps hs).2.2, fun j u hu => ?_⟩⟩
              rw [List.getElem?_map] at hu
              cases hj : W[j]? with
              | none => rw [hj] at hu; cases hu
              | some x =>
                rw [hj] at hu
                cases hu
                have hjn : j < n := by rw [← hlen]; exact (List.getElem?_eq_some_iff.1 hj).1
                have h5 : cs[j]? = some (.int .i64 x) := by rw [hints, List.getElem?_map, hj]; rfl
                rw [l2 j hjn] at h5
                obtain ⟨v, h6, h7⟩ := hcells2 _ _ h5
                cases h7
                rw [← Nat.add_assoc] at h6
                exact cell_row hblk2 h6
            · cases hcs
        · cases hb
      · cases hb
  · cases hb
theorem orcK_ok {O : Orc} (hO : OrcOk Tryz.prog O) : OrcOk Tryz.prog (orcK O) := by
  intro k args h v h' he
  unfold orcK at he
  rw [nat_beq] at he
  by_cases hk : k = 163
  · subst hk
    simp only [decide_true] at he
    refine ⟨has_kind, fun mark ρ base w us hr hb hm hus => ?_⟩
    have he : kindAns args h = some (v, h') := he
    unfold kindAns at he
    split at he
    · rename_i r p _
      split at he
      · rename_i R W hbe
        cases hc : (checkD R W == 0 && Nat.ble (p + 1) W.length) with
        | false => rw [hc] at he; cases he
        | true =>
          rw [hc] at he
          simp only [cond_true] at he
          injection he with he
          injection he with h1 h2
          subst h1 h2
          simp only [Bool.and_eq_true, beq_iff_eq, nat_ble, decide_eq_true_eq] at hc
          cases hus with
          | cons u1 hus =>
            cases u1 with
            | ptr hp =>
            rename_i q
            cases hus with
            | cons u2 hus =>
              cases u2
              cases hus
              obtain ⟨h3, h4⟩ := benchOf_some hr hbe hp
              have hcall := kind_any q.b R W p w h4 (okD_of hc.1) hc.2
              have hargs : ([Value.pointer (some ⟨q.b, q.o + 0, none⟩), Value.int .i64 (Int.ofNat p)] : List Value).toArray = #[.pointer (some ⟨q.b, 0, none⟩), .int .i64 p] := by rw [h3]; rfl
              rw [hargs]
              refine hcall.mono fun e w' h => ?_
              obtain ⟨rfl, hB⟩ := kind_c h
              exact ⟨_, ρ, rfl, .int _ _, hr.below hB, .below' hB⟩
      · cases he
    · cases he
  · rw [decide_eq_false hk] at he
    exact hO k args h v h' he
end Go.Proofs.YtpeminhnjdakiaaGreat
end

