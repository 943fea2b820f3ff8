/- Merged texts: covers of the program; no condition. -/
import Derived.Test.YteknehlkdgamjaaGreatMGG
import Derived.Sort.CutIn
namespace Go.Proofs.YteknehlkdgamjaaGreat
open Go.RowKit Go.Shelf

set_option maxRecDepth 100000 in
theorem isnan_any (a : Int) (w : World) : Calls Tryz.prog 125 #[.int .i64 a] w fun e w' => e = .returned (.bool false) ∧ w' = w := by
  go_enter Tryz.func125, Tryz.ntmps125
  go_wp2
  go_ret
  exact ⟨by simp, rfl⟩
set_option maxRecDepth 100000 in
theorem cmp_any (a b : Int) (w : World) : Calls Tryz.prog 111 #[.int .i64 a, .int .i64 b] w fun e w' => (∃ r, e = .returned (.int .i64 r)) ∧ w' = w := by
  have H1 := Lib.hid (isnan_any a w); have H2 := Lib.hid (isnan_any b w)
  have hor : a < b ∨ (¬ a < b ∧ b < a) ∨ (¬ a < b ∧ ¬ b < a) := by omega
  rcases hor with h1 | ⟨h1, h2⟩ | ⟨h1, h2⟩
  all_goals
    go_enter Tryz.func111, Tryz.ntmps111
    go_wp2_with fail
    refine H1.out.mono ?_
    rintro e w' ⟨rfl, rfl⟩
    go_wp2_with fail
    refine H2.out.mono ?_
    rintro e w' ⟨rfl, rfl⟩
    go_wp2
    go_ret
    exact ⟨⟨_, rfl⟩, rfl⟩
set_option maxRecDepth 100000 in
set_option maxHeartbeats 800000 in
theorem compare_any (x y : Value) (xs ys : List Int) (w : World) (hx0 : RdI w .i64 x xs) (hy0 : RdI w .i64 y ys) (hl : xs.length ≤ 1000) (hl2 : ys.length ≤ 1000) :
    Calls Tryz.prog 95 #[x, y] w fun e w' => (∃ r, e = .returned (.int .i64 r)) ∧ w' = w := by
  have HX := Lib.hid hx0; have HY := Lib.hid hy0
  obtain ⟨a, ca, rfl, _⟩ := hx0.form
  obtain ⟨b, cb, rfl, _⟩ := hy0.form
  clear hx0 hy0
  go_enter Tryz.func95, Tryz.ntmps95
  go_wp2_with fail
  go_loopw [11] (fun s11 wr => ∃ k : Nat, k ≤ xs.length ∧ s11 = .int .i64 k ∧ wr = w) (fun s11 _ => xs.length - (intOf s11).toNat)
  case atStart => exact ⟨0, Nat.zero_le _, rfl, rfl⟩
  case round =>
    obtain ⟨k, hk, rfl, hw⟩ := hrel
    subst hw
    by_cases hlt : k < xs.length
    · obtain ⟨bx, ox, e, hbx, hcx⟩ := HX.out.get (by omega)
      subst e
      have gx := hcx k hlt
      by_cases hly : k < ys.length
      · obtain ⟨by', oy, e, hby, hcy⟩ := HY.out.get (by omega)
        subst e
        have gy := hcy k hly
        have hg : decide ((ys.length : Int) ≤ (k : Int)) = false := by simp; omega
        have hg2 : decide (ys.length ≤ k) = false := by simp; omega
        clear hcx hcy
        generalize elt xs k = p at *
        generalize elt ys k = q at *
        go_wp2_with fail
        refine (cmp_any p q wr).mono ?_
        rintro e w' ⟨⟨r, rfl⟩, rfl⟩
        cases hr : (r != 0) with
        | true =>
          go_wp2_with fail
          go_ret
          exact ⟨⟨_, rfl⟩, rfl⟩
        | false =>
          go_wp2_with fail
          go_roundw
          case rel => exact ⟨k + 1, by omega, by go_num, trivial⟩
          case measure => simp [intOf]; omega
      · have hg : decide ((ys.length : Int) ≤ (k : Int)) = true := by simp; omega
        have hg2 : decide (ys.length ≤ k) = true := by simp; omega
        clear hcx
        go_wp2_with fail
        go_ret
        exact ⟨⟨_, rfl⟩, rfl⟩
    · by_cases hxy : xs.length < ys.length
      · go_wp2_with fail
        go_ret
        exact ⟨⟨_, rfl⟩, rfl⟩
      · go_wp2_with fail
        go_ret
        exact ⟨⟨_, rfl⟩, rfl⟩
end Go.Proofs.YteknehlkdgamjaaGreat

namespace Go.Proofs.YteknehlkdgamjaaGreat
open Go.RowKit Go.Shelf

/-- The ends of a chain. -/
def endK (l : List Nat) : Int × Int := (elt (ints l) 0, elt (ints l) (l.length - 1))
/-- After some chains: the map of days, and the map of chains, by ends. -/
structure LgA (D : Nat → Int) (z : Nat) (pre : List (List Nat)) (L1 L2 : List ((Int × Int) × Value × Nat)) (X : World) : Prop where
  all : ∀ l ∈ pre, ∃ n t, (endK l, Value.int .i64 n, t) ∈ L1 ∧ sumN D l ≤ n
  one : ∀ e v t, (e, v, t) ∈ L1 → ∃ l ∈ pre, e = endK l ∧ v = .int .i64 (sumN D l)
  both : ∀ e v t, (e, v, t) ∈ L1 → ∃ u t', (e, u, t') ∈ L2
  two : ∀ e u t, (e, u, t) ∈ L2 → ∃ l ∈ pre, e = endK l ∧ rowI X z u (ints l) ∧ ∃ t', (e, .int .i64 (sumN D l), t') ∈ L1
section
variable {D : Nat → Int} {z : Nat} {pre : List (List Nat)} {L1 L2 K1 K2 : List ((Int × Int) × Value × Nat)} {X X' : World} {l : List Nat} {u : Value}
theorem LgA.start (D : Nat → Int) (z : Nat) (X : World) : LgA D z [] [] [] X :=
  ⟨fun _ h => (by cases h), fun _ _ _ h => (by cases h), fun _ _ _ h => (by cases h), fun _ _ _ h => (by cases h)⟩
theorem LgA.kept (h : LgA D z pre L1 L2 X) (hk : ∀ u xs, rowI X z u xs → rowI X' z u xs) : LgA D z pre L1 L2 X' :=
  ⟨h.all, h.one, h.both, fun e u t hm => by obtain ⟨l, h1, h2, h3, h4⟩ := h.two e u t hm; exact ⟨l, h1, h2, hk _ _ h3, h4⟩⟩
theorem LgA.skip (h : LgA D z pre L1 L2 X) {n : Int} {t : Nat} (hm : (endK l, .int .i64 n, t) ∈ L1) (hn : sumN D l ≤ n) : LgA D z (pre ++ [l]) L1 L2 X := by
  refine ⟨fun m hm' => ?_, fun e v t hm => ?_, h.both, fun e u t hm => ?_⟩
  · rcases List.mem_append.1 hm' with h1 | h1
    · exact h.all m h1
    · rw [List.mem_singleton] at h1; subst h1
      exact ⟨n, t, hm, hn⟩
  · obtain ⟨m, h1, h2⟩ := h.one e v t hm
    exact ⟨m, List.mem_append_left _ h1, h2⟩
  · obtain ⟨m, h1, h2⟩ := h.two e u t hm
    exact ⟨m, List.mem_append_left _ h1, h2⟩
theorem LgA.put (h : LgA D z pre L1 L2 X) (hold : ∀ n t, (endK l, .int .i64 n, t) ∈ L1 → n ≤ sumN D l)
    (h1 : ∀ x m, (∃ t, (x, m, t) ∈ K1) ↔ (x = endK l ∧ m = .int .i64 (sumN D l)) ∨ (x ≠ endK l ∧ ∃ t, (x, m, t) ∈ L1)) (h2 : ∀ x m, (∃ t, (x, m, t) ∈ K2) ↔ (x = endK l ∧ m = u) ∨ (x ≠ endK l ∧ ∃ t, (x, m, t) ∈ L2))
    (hu : rowI X z u (ints l)) : LgA D z (pre ++ [l]) K1 K2 X := by
  have new1 : ∃ t, (endK l, Value.int .i64 (sumN D l), t) ∈ K1 := (h1 _ _).2 (.inl ⟨rfl, rfl⟩)
  have new2 : ∃ t, (endK l, u, t) ∈ K2 := (h2 _ _).2 (.inl ⟨rfl, rfl⟩)
  refine ⟨fun m hm' => ?_, fun e v t hm => ?_, fun e v t hm => ?_, fun e v t hm => ?_⟩
  · rcases List.mem_append.1 hm' with hm | hm
    · obtain ⟨n, t, k1, k2⟩ := h.all m hm
      by_cases he : endK m = endK l
      · obtain ⟨t', k3⟩ := new1
        rw [he] at k1 ⊢
        exact ⟨_, t', k3, by have := hold n t k1; omega⟩
      · obtain ⟨t', k3⟩ := (h1 _ _).2 (.inr ⟨he, t, k1⟩)
        exact ⟨n, t', k3, k2⟩
    · rw [List.mem_singleton] at hm; subst hm
      obtain ⟨t', k3⟩ := new1
      exact ⟨_, t', k3, Int.le_refl _⟩
  · rcases (h1 e v).1 ⟨t, hm⟩ with ⟨k1, k2⟩ | ⟨_, t', k2⟩
    · exact ⟨l, by simp, k1, k2⟩
    · obtain ⟨m, k3, k4⟩ := h.one e v t' k2
      exact ⟨m, List.mem_append_left _ k3, k4⟩
  · rcases (h1 e v).1 ⟨t, hm⟩ with ⟨k1, k2⟩ | ⟨k1, t', k2⟩
    · obtain ⟨t', k3⟩ := new2
      rw [k1]; exact ⟨u, t', k3⟩
    · obtain ⟨u', t2, k3⟩ := h.both e v t' k2
      obtain ⟨t3, k4⟩ := (h2 e u').2 (.inr ⟨k1, t2, k3⟩)
      exact ⟨u', t3, k4⟩
  · rcases (h2 e v).1 ⟨t, hm⟩ with ⟨k1, k2⟩ | ⟨k1, t', k2⟩
    · subst k2
      obtain ⟨t', k3⟩ := new1
      exact ⟨l, by simp, k1, hu, t', by rw [k1]; exact k3⟩
    · obtain ⟨m, k3, k4, k5, t2, k6⟩ := h.two e v t' k2
      obtain ⟨t3, k7⟩ := (h1 e _).2 (.inr ⟨k1, t2, k6⟩)
      exact ⟨m, List.mem_append_left _ k3, k4, k5, t3, k7⟩
end
theorem nodup_key {α β : Type} {f : α → β} {L : List α} (hk : (L.map f).Nodup) {a b : α} (ha : a ∈ L) (hb : b ∈ L) (he : f a = f b) : a = b := by
  obtain ⟨i, hi, ei⟩ := List.getElem_of_mem ha
  obtain ⟨j, hj, ej⟩ := List.getElem_of_mem hb
  have hij : i = j := by
    refine Classical.byContradiction fun hne => ?_
    rw [List.nodup_iff_pairwise_ne, List.pairwise_iff_getElem] at hk
    rcases Nat.lt_or_gt_of_ne hne with hlt | hlt
    · exact hk i j (by simpa using hi) (by simpa using hj) hlt (by simp [ei, ej, he])
    · exact hk j i (by simpa using hj) (by simpa using hi) hlt (by simp [ei, ej, he])
  subst hij
  rw [← ei, ← ej]
/-- The chains that are left when some entries have been met. -/
def LgB (T : Int) (seen : Array Nat) (L1 L2 K2 : List ((Int × Int) × Value × Nat)) : Prop :=
  ∀ x, x ∈ K2 ↔ x ∈ L2 ∧ ¬ ∃ n t, (x.1, Value.int .i64 n, t) ∈ L1 ∧ t ∈ seen ∧ n < T
theorem LgB.start (T : Int) (L1 L2 : List ((Int × Int) × Value × Nat)) : LgB T #[] L1 L2 L2 := fun x => by simp
theorem LgB.keep {T : Int} {seen : Array Nat} {L1 L2 K2 : List ((Int × Int) × Value × Nat)} (h : LgB T seen L1 L2 K2) (hk : (L1.map (·.2.2)).Nodup) {e : Int × Int} {n : Int} {t : Nat} (hm : (e, .int .i64 n, t) ∈ L1) (hn : ¬ n < T) : LgB T (seen.push t) L1 L2 K2 := by
  intro x
  rw [h x]
  refine and_congr_right fun _ => not_congr ⟨fun ⟨n', t', h1, h2, h3⟩ => ⟨n', t', h1, by simp [h2], h3⟩, fun ⟨n', t', h1, h2, h3⟩ => ⟨n', t', h1, ?_, h3⟩⟩
  rcases Array.mem_push.1 h2 with h4 | h4
  · exact h4
  · subst h4
    exfalso
    have := nodup_key hk h1 hm rfl
    simp only [Prod.mk.injEq, Value.int.injEq, true_and, and_true] at this
    omega
theorem LgB.drop {T : Int} {seen : Array Nat} {L1 L2 K2 K3 : List ((Int × Int) × Value × Nat)} (h : LgB T seen L1 L2 K2) (hk : (L1.map (·.2.2)).Nodup) {e : Int × Int} {n : Int} {t : Nat} (hm : (e, .int .i64 n, t) ∈ L1) (hn : n < T) (h3 : ∀ x, x ∈ K3 ↔ x ∈ K2 ∧ x.1 ≠ e) : LgB T (seen.push t) L1 L2 K3 := by
  intro x
  rw [h3 x, h x]
  constructor
  · rintro ⟨⟨h1, h2⟩, h4⟩
    refine ⟨h1, fun ⟨n', t', k1, k2, k3⟩ => ?_⟩
    rcases Array.mem_push.1 k2 with k | k
    · exact h2 ⟨n', t', k1, k, k3⟩
    · subst k
      have ej := nodup_key hk k1 hm rfl
      exact h4 (congrArg Prod.fst ej)
  · rintro ⟨h1, h2⟩
    refine ⟨⟨h1, fun ⟨n', t', k1, k2, k3⟩ => h2 ⟨n', t', k1, by simp [k2], k3⟩⟩, fun he => h2 ⟨n, t, by rw [he]; exact hm, by simp, hn⟩⟩
/-- How many entries a range has not met yet. -/
def unmet : Option Obj → Option Obj → Nat
  | some (.map es _), some (.mapIter _ _ seen _) => (es.filter fun e => !seen.contains e.born).size
  | _, _ => 0
theorem unmet_eq (L : List ((Int × Int) × Value × Nat)) (c : Nat) (seen : Array Nat) (m : Option Nat) (s l : Nat) : unmet (some (.map (entsOf L) c)) (some (.mapIter m s seen l)) = (L.filter fun e => !seen.contains e.2.2).length := by
  simp [unmet, entsOf, List.filter_map, Function.comp_def]
theorem unmet_lt {seen : Array Nat} {t : Nat} {L : List ((Int × Int) × Value × Nat)} (he : ∃ e ∈ L, e.2.2 = t) (hs : t ∉ seen) : (L.filter fun x => !(seen.push t).contains x.2.2).length < (L.filter fun x => !seen.contains x.2.2).length := by
  have e : (L.filter fun x => !(seen.push t).contains x.2.2) = (L.filter fun x => !seen.contains x.2.2).filter fun x => !(x.2.2 == t) := by
    rw [List.filter_filter]
    refine List.filter_congr fun x _ => ?_
    rw [Array.contains_push, Bool.not_or, Bool.and_comm]
  rw [e, List.length_filter_lt_length_iff_exists]
  obtain ⟨e, h1, h2⟩ := he
  refine ⟨e, ?_, by simp [h2]⟩
  rw [List.mem_filter]
  exact ⟨h1, by rw [h2]; simpa using hs⟩
/-- A longest chain, in a row. -/
def LgR (J : List Job) (D : Nat → Int) (z : Nat) (X : World) (u : Value) : Prop := ∃ l, Full J l ∧ sumN D l = takes J D ∧ rowI X z u (ints l)
theorem LgB.done {J : List Job} (hJ : FineJ J) (hc : cir J = false) {D : Nat → Int} (hD : ∀ i, i < J.length → 0 ≤ D i) {z : Nat} {X : World} {seen : Array Nat} {L1 L2 K2 : List ((Int × Int) × Value × Nat)} (hA : LgA D z (chs J) L1 L2 X) (hK : (L1.map (·.1)).Nodup)
    (h : LgB (takes J D) seen L1 L2 K2) (hall : ∀ e ∈ L1, e.2.2 ∈ seen) : (∃ e, e ∈ K2) ∧ ∀ e u t, (e, u, t) ∈ K2 → LgR J D z X u := by
  have bd : ∀ {l}, l ∈ chs J → sumN D l ≤ takes J D := fun {l} hl => ch_takes hJ hc ((chs_mem hJ hc l).1 hl).2.1
  constructor
  · obtain ⟨c, h1, h2⟩ := long_ex hJ hc hD
    obtain ⟨n, t, k1, k2⟩ := hA.all c ((chs_mem hJ hc c).2 h1)
    obtain ⟨u, t', k3⟩ := hA.both _ _ _ k1
    refine ⟨_, (h _).2 ⟨k3, fun ⟨n', t2, m1, m2, m3⟩ => ?_⟩⟩
    have := nodup_key hK k1 m1 rfl
    simp only [Prod.mk.injEq, Value.int.injEq, true_and] at this
    omega
  · intro e u t hm
    obtain ⟨h1, h2⟩ := (h _).1 hm
    obtain ⟨l, k1, k2, k3, t', k4⟩ := hA.two e u t h1
    refine ⟨l, (chs_mem hJ hc l).1 k1, ?_, k3⟩
    have b1 := bd k1
    refine Classical.byContradiction fun hne => h2 ⟨_, t', k4, hall _ k4, by omega⟩
end Go.Proofs.YteknehlkdgamjaaGreat

namespace Go.Proofs.YteknehlkdgamjaaGreat
open Go.RowKit Go.Shelf
attribute [local go_sem] Oper.semAt_some

/-- The two maps of longest, after some chains. -/
def LgI (D : Nat → Int) (w6 : World) (z m1 m2 : Nat) (pre : List (List Nat)) (X : World) : Prop :=
  ∃ L1 c1 L2 c2, X.heap[m1]? = some (.map (entsOf L1) c1) ∧ X.heap[m2]? = some (.map (entsOf L2) c2) ∧ OkL L1 c1 ∧ OkL L2 c2 ∧ LgA D z pre L1 L2 X ∧ Fr w6 X (fun k => k = m1 ∨ k = m2)
theorem LgI.abides {D : Nat → Int} {w6 : World} {z m1 m2 : Nat} (h1 : m1 < w6.heap.size) (h2 : m2 < w6.heap.size) (hz : z = w6.heap.size + 2) (pre : List (List Nat)) : Abides1 w6.heap.size (w6.heap.size + 2) (LgI D w6 z m1 m2 pre) := by
  rintro W W' row ⟨L1, c1, L2, c2, k1, k2, k3, k4, k5, k6⟩ hg hr
  refine ⟨L1, c1, L2, c2, ?_, ?_, k3, k4, k5.kept fun u xs hu => World.ownsRow.kept hu hg ?_, abides_fr (Nat.le_refl _) _ W' _ k6 hg hr⟩
  · exact (hg.block m1 (Array.getElem?_eq_some_iff.1 k1).1 (fun e => by have := hr m1 e.symm; omega)).trans k1
  · exact (hg.block m2 (Array.getElem?_eq_some_iff.1 k2).1 (fun e => by have := hr m2 e.symm; omega)).trans k2
  · cases hub : u.ownBlock with
    | none => exact .inl rfl
    | some k =>
      right
      intro e
      have h3 := (rowI.lt hu hub).1
      have := hr k e.symm
      omega
theorem lg_pre (w : World) (f : Value) (t1 t2 t3 : TypeId) : ∀ w5, (((((w.alloc (.cells #[f] t1)).alloc (.map #[] 0)).alloc (.cells #[.map (some (w.heap.size + 1))] t2)).alloc (.map #[] 0)).alloc (.cells #[.map (some (w.heap.size + 1 + 1 + 1))] t3)) = w5 →
    w5.cell? ⟨w.heap.size, 0, none⟩ = some f ∧ w5.heap[w.heap.size + 1]? = some (.map (entsOf []) 0) ∧ w5.cell? ⟨w.heap.size + 1 + 1, 0, none⟩ = some (.map (some (w.heap.size + 1))) ∧ w5.heap[w.heap.size + 1 + 1 + 1]? = some (.map (entsOf []) 0) ∧
    w5.cell? ⟨w.heap.size + 1 + 1 + 1 + 1, 0, none⟩ = some (.map (some (w.heap.size + 1 + 1 + 1))) ∧ Below w.heap.size w w5 ∧ w5.heap.size = w.heap.size + 5 := by
  rintro _ rfl
  have h1 := heap_alloc_new (w.alloc (.cells #[f] t1)) (.map #[] 0)
  have h2 := heap_alloc_new (((w.alloc (.cells #[f] t1)).alloc (.map #[] 0)).alloc (.cells #[.map (some (w.heap.size + 1))] t2)) (.map #[] 0)
  simp only [World.size_alloc] at h1 h2
  refine ⟨cal _ (cal _ (cal _ (cal _ (cnew rfl rfl)))), ?_, cal _ (cal _ (cnew (by simp) rfl)), ?_, cnew (by simp) rfl, bal (bal (bal (bal (bal (bz w) _) _) _) _) _, by simp⟩
  · rw [Below.heap_alloc _ _ _ (by simp), Below.heap_alloc _ _ _ (by simp), Below.heap_alloc _ _ _ (by simp)]
    exact h1
  · rw [Below.heap_alloc _ _ _ (by simp)]
    exact h2
theorem lg_at (D : Nat → Int) : ∀ (x : List Nat) {q : Nat}, q < x.length → ∃ y : Nat, elt (ints x) q = (y : Int) ∧ y ∈ x ∧ sumN D (x.take (q + 1)) = sumN D (x.take q) + D y
  | [], q, h => by simp at h
  | a :: x, 0, _ => ⟨a, by simp [elt, ints], by simp, by simp [sumN]⟩
  | a :: x, q + 1, h => by
    obtain ⟨y, h1, h2, h3⟩ := lg_at D x (q := q) (by simpa using h)
    refine ⟨y, by rw [← h1]; simp [elt, ints], by simp [h2], ?_⟩
    rw [List.take_succ_cons, List.take_succ_cons, sumN_cons, sumN_cons, h3]; omega
theorem lg_bd {D : Nat → Int} : ∀ (l : List Nat), (∀ i ∈ l, 0 ≤ D i ∧ D i ≤ 1000) → 0 ≤ sumN D l ∧ sumN D l ≤ 1000 * l.length
  | [], _ => by simp [sumN]
  | a :: l, h => by
    have h1 := h a (by simp)
    have h2 := lg_bd l (fun i hi => h i (by simp [hi]))
    rw [sumN_cons, List.length_cons]; omega
theorem eq_nil_nil (w : World) : (binOp .eql 41 (.slice none 0 0) (.slice none 0 0)).run Tryz.prog w = .ok (.bool true) w := by kernel_rfl
theorem eq_some_nil (w : World) (g n c : Nat) : (binOp .eql 41 (.slice (some ⟨g, 0, none⟩) n c) (.slice none 0 0)).run Tryz.prog w = .ok (.bool false) w := by kernel_rfl
/-- What stays while the maps are written. -/
structure LgW (b5 m1 b6 m2 bE : Nat) (ea eb : Int) where
  val : World
  c5 : val.cell? ⟨b5, 0, none⟩ = some (.map (some m1))
  c6 : val.cell? ⟨b6, 0, none⟩ = some (.map (some m2))
  row : val.heap[bE]? = some (.cells #[.int .i64 ea, .int .i64 eb] 124 (0, 0))
theorem wpQuiet_load_by {P : Program} {ops : Array Oper} {Q : Act → Prop} {S : World → Prop} {a : Act} {rest : List Oper} {o : Oper} (hgd : o.guard = none) (ty : TypeId) (x : Operand) (ho : o.op = .load ty x) (ad : Addr) (hx : a.eval x = .pointer (some ad)) (v : Value)
    (hl : ∀ w', S w' → (loadVar ty ad).run P w' = .ok v w') (h : wpQuiet P ops S Q rest (a.put o.dst v)) : wpQuiet P ops S Q (o :: rest) a := by
  unfold wpQuiet
  rw [if_pos (by simp [Region.wanted, hgd])]
  refine ⟨v, fun w' hw => ?_, h⟩
  unfold Oper.quietAt execOp
  simp only [ho, hx, Instr.loadAt, Instr.sureAddr, Sem.run_bind, Sem.run_pure, Result.andThen_ok, hl w' hw, Oper.quietUpon, and_self]
theorem LgW.loadE {b5 m1 b6 m2 bE : Nat} {ea eb : Int} (x : LgW b5 m1 b6 m2 bE ea eb) : (loadVar 124 ⟨bE, 0, none⟩).run Tryz.prog x.val = .ok (.agg #[.int .i64 ea, .int .i64 eb]) x.val :=
  run_loadVar_row x.val bE 124 124 _ (0, 0) _ x.row Tryz.structK rfl (by kernel_rfl)
theorem rowI.putm {X : World} {z m : Nat} {u : Value} {xs : List Int} (h : rowI X z u xs) (o : Obj) (hm : m < z) : rowI (X.putObj m o) z u xs := World.ownsRow.kept h (grownBy_putObj' _ _ _) (by
  cases hub : u.ownBlock with
  | none => exact .inl rfl
  | some k =>
    right
    intro e
    have h1 := (rowI.lt h hub).1
    have := Option.some.inj e
    omega)
theorem KF.putm {lo m : Nat} {A X : World} (h : KF lo A X) (hm : m < lo) (o : Obj) : KF lo A (X.putObj m o) :=
  h.trans ⟨by simp, fun r h1 _ => World.putObj_heap_other (by omega)⟩
theorem LgW.put {b5 m1 b6 m2 bE : Nat} {ea eb : Int} {X : World} (h : ∃ x : LgW b5 m1 b6 m2 bE ea eb, X = x.val) {m : Nat} (o : Obj) (h5 : m ≠ b5) (h6 : m ≠ b6) (hE : m ≠ bE) : ∃ x : LgW b5 m1 b6 m2 bE ea eb, X.putObj m o = x.val := by
  obtain ⟨x, rfl⟩ := h
  exact ⟨⟨_, (World.cell?_of_block (World.putObj_heap_other (fun e => h5 e.symm))).trans x.c5, (World.cell?_of_block (World.putObj_heap_other (fun e => h6 e.symm))).trans x.c6, (World.putObj_heap_other (fun e => hE e.symm)).trans x.row⟩, rfl⟩
/-- What a look into the map of days says. -/
theorem lg_lookup {D : Nat → Int} {z : Nat} {pre : List (List Nat)} {L1 L2 : List ((Int × Int) × Value × Nat)} {X : World} (hA : LgA D z pre L1 L2 X) {m1 c1 : Nat} (p1 : X.heap[m1]? = some (.map (entsOf L1) c1)) (e : Int × Int) :
    ∃ (o : Int) (b : Bool), (Instr.lookup 118 (.map (some m1)) (.agg #[.int .i64 e.1, .int .i64 e.2]) true).run Tryz.prog X = .ok (.tuple #[.int .i64 o, .bool b]) X ∧
      (b = true → ∃ t, (e, .int .i64 o, t) ∈ L1) ∧ (b = false → ∀ v t, (e, v, t) ∉ L1) := by
  have hlk := run_lookupL (t := 118) (v := 2) (z := .int .i64 0) (by kernel_rfl) (fun W => by kernel_rfl) p1 e
  unfold kv at hlk
  cases hfl : findL e L1 0 with
  | none =>
    rw [hfl] at hlk
    exact ⟨0, false, hlk, fun h => (by cases h), fun _ v t hm => findL_none hfl (List.mem_map.2 ⟨(e, v, t), hm, rfl⟩)⟩
  | some q =>
    obtain ⟨j, vo⟩ := q
    rw [hfl] at hlk
    obtain ⟨k, x, _, hx, hx1, hx2⟩ := findL_some hfl
    obtain ⟨xe, xv, xt⟩ := x
    simp only at hx1 hx2
    subst hx1; subst hx2
    have hm := List.mem_of_getElem? hx
    obtain ⟨l0, _, _, hv⟩ := hA.one _ _ _ hm
    subst hv
    exact ⟨_, true, hlk, fun _ => ⟨xt, hm⟩, fun h => (by cases h)⟩
set_option maxRecDepth 100000 in
set_option maxHeartbeats 8000000 in
theorem longest_any (d k : Nat) (lb lc : Array Value) (J : List Job) (D : Nat → Int) (w : World) (hd : DeskAt w d J) (hJ : FineJ J) (hc : cir J = false) (hf : DaysF w k lb lc J.length D) :
    Calls Tryz.prog 68 #[.pointer (some ⟨d, 0, none⟩), .func (.func k) lb lc] w fun e w' => ∃ v l, e = .returned v ∧ Full J l ∧ sumN D l = takes J D ∧ RdI w' .i64 v (ints l) ∧ Below w.heap.size w w' := by
  obtain ⟨a, c, hV⟩ := hd.toV
  have HV := Lib.hid hV
  have HJ := Lib.hid hJ; have HC := Lib.hid hc; have HF := Lib.hid hf
  have eg := hf.1
  clear hd hV hJ hc hf
  refine callsIn_wide (n := 10).1 ?_
  refine callsIn_of_wp_marks Tryz.func68 rfl trivial ?_ rfl
  simp only [Tryz.ntmps68, List.size_toArray, List.length_cons, List.length_nil, Nat.reduceAdd, Nat.reduceSub, Array.replicate_succ, Array.replicate_zero, List.push_toArray, List.append_toArray, List.nil_append, List.cons_append]
  have hmm := @run_makeMap Tryz.prog
  gi_wp2_with fail
  generalize hw5 : World.alloc _ _ = w5
  obtain ⟨e3, p1, e5, p2, e6, hb5, hs5⟩ := lg_pre w _ _ _ _ w5 hw5
  clear hw5 hmm
  obtain ⟨b6, hb6⟩ : ∃ b, w.heap.size + 1 + 1 + 1 + 1 = b := ⟨_, rfl⟩
  obtain ⟨m2, hm2⟩ : ∃ b, w.heap.size + 1 + 1 + 1 = b := ⟨_, rfl⟩
  obtain ⟨b5, hb5'⟩ : ∃ b, w.heap.size + 1 + 1 = b := ⟨_, rfl⟩
  obtain ⟨m1, hm1⟩ : ∃ b, w.heap.size + 1 = b := ⟨_, rfl⟩
  obtain ⟨b3, hb3⟩ : ∃ b, w.heap.size = b := ⟨_, rfl⟩
  rw [hb6, hm2] at e6; rw [hm2] at p2; rw [hb5', hm1] at e5; rw [hm1] at p1; rw [hb3] at e3
  rw [hb6, hm2, hb5', hm1, hb3]
  have HZ := Lib.hid (show b3 < m1 ∧ m1 < b5 ∧ b5 < m2 ∧ m2 < b6 ∧ b6 < w5.heap.size ∧ w.heap.size = b3 by omega)
  have HB5 := Lib.hid hb5
  clear hb5 hs5 hb6 hm2 hb5' hm1 hb3
  refine ⟨trivial, callsIn_wide.2 ((chains_any d _).mono ?_)⟩
  rintro e w6 ⟨rfl, t6, hw6⟩
  obtain ⟨bx, hbx⟩ : ∃ b, w5.heap.size = b := ⟨_, rfl⟩
  have hz := HZ.out
  have r3 : w6.cell? ⟨b3, 0, none⟩ = some (.func (.func k) lb lc) := by rw [← hw6]; exact cal _ e3
  have r5 : w6.cell? ⟨b5, 0, none⟩ = some (.map (some m1)) := by rw [← hw6]; exact cal _ e5
  have r6 : w6.cell? ⟨b6, 0, none⟩ = some (.map (some m2)) := by rw [← hw6]; exact cal _ e6
  have q1 : w6.heap[m1]? = some (.map (entsOf []) 0) := by rw [← hw6, Below.heap_alloc _ _ _ (by omega)]; exact p1
  have q2 : w6.heap[m2]? = some (.map (entsOf []) 0) := by rw [← hw6, Below.heap_alloc _ _ _ (by omega)]; exact p2
  have rx : w6.cell? ⟨bx, 0, none⟩ = some (.pointer (some ⟨d, 0, none⟩)) := by rw [← hw6, ← hbx]; exact cnew rfl rfl
  have HB6 := Lib.hid (show Below w.heap.size w w6 by rw [← hw6]; exact bal HB5.out _)
  have hs6 : w6.heap.size = bx + 1 := by rw [← hw6, ← hbx]; simp
  rw [hbx]
  have HZ6 := Lib.hid (show b3 < m1 ∧ m1 < b5 ∧ b5 < m2 ∧ m2 < b6 ∧ b6 < bx ∧ bx < w6.heap.size ∧ w.heap.size = b3 by omega)
  have HR := Lib.hid (⟨r3, r5, r6, rx⟩ : _ ∧ _ ∧ _ ∧ _)
  have HQ := Lib.hid (⟨q1, q2⟩ : _ ∧ _)
  clear hw6 hbx hz r3 r5 r6 q1 q2 rx e3 p1 e5 p2 e6 HB5 HZ
  gi_wp2
  have HDE := Lib.hid (fun X (h : Fr w6 X (fun k => k = m1 ∨ k = m2)) => show DeskV X d a c J from HV.out.mono (Fr.below h HB6.out (fun j hj => by have := HZ6.out; omega)))
  refine range_lawV (gf := 109) (lb := #[.pointer (some ⟨bx, 0, none⟩)]) rfl (enters_of Tryz.func109 (by kernel_rfl) rfl) (chains_yields _ HJ.out HC.out bx d a c) (fun z x v W h => by obtain ⟨u, rfl, _⟩ := h; rfl)
    (LgI D w6 (w6.heap.size + 2) m1 m2) (fun _ _ _ => False)
    (fun s => LgI.abides (by have := HZ6.out; omega) (by have := HZ6.out; omega) rfl s)
    (fun c s => abides_pure)
    (fun s X h => by
      obtain ⟨L1, c1, L2, c2, k1, k2, k3, k4, k5, k6⟩ := h
      exact ⟨k6.cell1 HR.out.2.2.2 (by have := HZ6.out; omega), HDE.out X k6⟩)
    ⟨[], 0, [], 0, HQ.out.1, HQ.out.2, ⟨List.nodup_nil, List.nodup_nil, fun _ h => by cases h⟩, ⟨List.nodup_nil, List.nodup_nil, fun _ h => by cases h⟩, LgA.start _ _ _, Fr.refl _ _⟩ ?round ?done ?stop
  case round =>
    rintro l pre x v X hI hpx ⟨u, rfl, hu⟩ hsz
    have hxm : x ∈ chs J := hpx.subset (by simp)
    obtain ⟨⟨s0, hs0, _⟩, hich, _⟩ := (chs_mem HJ.out HC.out x).1 hxm
    have HXL := Lib.hid (hich.lt HJ.out)
    have hx12 := chs_ch HJ.out HC.out hxm
    have hx1 : 1 ≤ x.length := by cases x with
      | nil => cases hs0
      | cons y ys => simp
    obtain ⟨g, cap, hue, _⟩ := rowI.toI hu (by rw [ints_len]; omega)
    rw [ints_len] at hue
    subst hue
    have HP := Lib.hid hpx
    have HII := Lib.hid hI
    clear hs0 hich hxm hpx hI
    obtain ⟨nx, hnx⟩ : ∃ n, n = x.length := ⟨_, rfl⟩
    rw [← hnx] at hu hx12 hx1
    rw [← hnx]
    have HNX := Lib.hid hnx
    clear hnx
    gi_wp2
    refine ⟨KF.refl _ _, fun W2 hg2 hs2 => ?_⟩
    have hrow : ∀ r, some (w6.heap.size + 1) = some r → w6.heap.size ≤ r ∧ r < w6.heap.size + 2 := fun r e => by cases e; omega
    have HI2 := Lib.hid (LgI.abides (D := D) (m1 := m1) (m2 := m2) (by have := HZ6.out; omega) (by have := HZ6.out; omega) rfl pre X W2 _ HII.out hg2 hrow)
    have HU2 := Lib.hid (show rowI W2 (w6.heap.size + 2) (.slice (some ⟨g, 0, none⟩) nx cap) (ints x) from World.ownsRow.kept hu hg2 (.inr fun e => by
      have h1 := (rowI.lt hu (k := g) rfl).1
      have h2 : g = w6.heap.size + 1 := Option.some.inj e
      omega))
    have hsx : w6.heap.size + 2 ≤ W2.heap.size := by rw [hs2]; exact hsz
    clear hg2 hs2 hrow hu HII hsz
    have HFR := Lib.hid (show Fr w6 W2 (fun k => k = m1 ∨ k = m2) by obtain ⟨_, _, _, _, _, _, _, _, _, h⟩ := HI2.out; exact h)
    have HBW := Lib.hid (Fr.below HFR.out HB6.out (fun j hj => by have := HZ6.out; omega))
    have n3 := HFR.out.cell1 HR.out.1 (by have := HZ6.out; omega)
    have n5 := HFR.out.cell1 HR.out.2.1 (by have := HZ6.out; omega)
    have n6 := HFR.out.cell1 HR.out.2.2.1 (by have := HZ6.out; omega)
    have z3 := World.block_lt_of_cell? W2 _ n3
    have N56 := Lib.hid (⟨n5, n6⟩ : _ ∧ _)
    clear n5 n6
    gi_wp2_with fail
    gi_loopw [8, 26] (fun s8 s26 wr => ∃ q : Nat, q ≤ nx ∧ s26 = .int .i64 q ∧ s8 = .int .i64 (sumN D (x.take q)) ∧ Below W2.heap.size W2 wr) (fun _ s26 _ => nx - (intOf s26).toNat)
    case atStart => exact ⟨0, Nat.zero_le _, rfl, rfl, bz W2⟩
    case round =>
      obtain ⟨q, hq, rfl, rfl, hB⟩ := hrel
      have HB := Lib.hid hB
      clear hB
      rename World => wr
      by_cases hlt : q < nx
      · obtain ⟨g', c', e, hgb, gc, _⟩ := (show rowI wr (w6.heap.size + 2) _ (ints x) from owns_kept HU2.out HB.out).get q (by rw [ints_len, ← HNX.out]; exact hlt)
        cases e
        obtain ⟨y, hy, hyl, hys⟩ := lg_at D x (q := q) (by rw [← HNX.out]; exact hlt)
        rw [hy] at gc
        have hyJ := HXL.out y hyl
        have HSS := Lib.hid hys
        have b1 := lg_bd (D := D) (x.take q) (fun i hi => HF.out.2.1 i (HXL.out i (List.mem_of_mem_take hi)))
        have b2 := HF.out.2.1 y hyJ
        have hl3 : (x.take q).length ≤ 12 := by rw [List.length_take]; have := HNX.out; omega
        have n3' := (HB.out.cell (p := ⟨b3, 0, none⟩) z3).trans n3
        have HDY := Lib.hid (HF.out.2.2 wr (btr HBW.out HB.out) y hyJ)
        have hzw := Nat.lt_of_lt_of_le z3 HB.out.size
        clear hy hys hyl hyJ
        generalize sumN D (x.take q) = sq at *
        generalize D y = dy at *
        have wr1 : IntKind.i64.wrap (sq + dy) = sq + dy := IntWalk.i64_in _ (by omega)
        clear hl3
        gi_wp2_with fail
        refine ⟨trivial, CallsIn.inRound l (callsIn_wide.2 (HDY.out.mono ?_))⟩
        rintro e w7 ⟨rfl, hB7⟩
        have HB7 := Lib.hid (btr HB.out hB7)
        clear hB7
        gi_wp2
        exact ⟨⟨q + 1, by omega, by go_num, by rw [HSS.out], HB7.out⟩, by simp [intOf]; omega⟩
      · have hqn : q = nx := by omega
        subst hqn
        have hsm : sumN D (x.take q) = sumN D x := by rw [HNX.out, List.take_length]
        rw [hsm]
        clear hsm hlt hq
        have HI3 := Lib.hid (LgI.abides (D := D) (m1 := m1) (m2 := m2) (by have := HZ6.out; omega) (by have := HZ6.out; omega) rfl pre W2 wr none HI2.out (grown_of HB.out) (fun r e => by cases e))
        have HU3 := Lib.hid (show rowI wr (w6.heap.size + 2) (.slice (some ⟨g, 0, none⟩) q cap) (ints x) from owns_kept HU2.out HB.out)
        have HSB := Lib.hid (lg_bd (D := D) x (fun i hi => HF.out.2.1 i (HXL.out i hi)))
        obtain ⟨hgb, gc0, _⟩ := HU3.out.at 0 (by rw [ints_len, ← HNX.out]; omega)
        obtain ⟨_, gcl, _⟩ := HU3.out.at (q - 1) (by rw [ints_len, ← HNX.out]; omega)
        have HEK := Lib.hid (show endK x = (elt (ints x) 0, elt (ints x) (q - 1)) by unfold endK; rw [HNX.out])
        generalize elt (ints x) 0 = ea at *
        generalize elt (ints x) (q - 1) = eb at *
        have hq1 : ((q : Int) - 1) = ((q - 1 : Nat) : Int) := by omega
        have h5 := (HB.out.cell (p := ⟨b5, 0, none⟩) (World.block_lt_of_cell? W2 _ N56.out.1)).trans N56.out.1
        have h6 := (HB.out.cell (p := ⟨b6, 0, none⟩) (World.block_lt_of_cell? W2 _ N56.out.2)).trans N56.out.2
        have H56 := Lib.hid (⟨h5, h6⟩ : _ ∧ _)
        clear h5 h6 n3 z3
        gi_upto_region 11 with fail
        refine in_region_flow (r := some l) [] [([0, 1, 2, 3, 4, 5, 6, 7, 8, 9], 10, true), ([], 11, false)] [] (by kernel_rfl) (by kernel_rfl) (by rfl) ?_
        intro wd hBd hh
        clear hh
        have HBD := Lib.hid hBd
        have k0 := (hBd.cell (p := ⟨g, 0, none⟩) hgb).trans gc0
        have kl := (hBd.cell (p := ⟨g, q - 1, none⟩) hgb).trans gcl
        have zg := Nat.lt_of_lt_of_le hgb hBd.size
        have hL := @Later.cell wd
        clear hBd gc0 gcl hgb
        simp only [flowP, flow, pickL, List.getElem?_cons_succ, List.getElem?_cons_zero]
        refine wpQuiet_nil ?_
        repeat (go_big_quiet_step (fail))
        refine wpQuiet_nil ?_
        clear hL k0 kl zg
        go_wp2
        refine seg_grow ⟨⟨_, bal (bz _) _⟩, rfl⟩ ?_
        refine wpQuiet_nil ?_
        go_wp2
        refine seg_write ?_
        refine wpQuiet_nil ?_
        refine only_done ?_
        have hBE := bal HBD.out (.cells #[.int .i64 ea, .int .i64 eb] 124)
        have hrE : (wd.alloc (.cells #[.int .i64 ea, .int .i64 eb] 124)).heap[wd.heap.size]? = some (.cells #[.int .i64 ea, .int .i64 eb] 124 (0, 0)) := heap_alloc_new _ _
        obtain ⟨bE, hbE⟩ : ∃ b, wd.heap.size = b := ⟨_, rfl⟩
        rw [hbE] at hrE
        rw [hbE]
        generalize wd.alloc (.cells #[.int .i64 ea, .int .i64 eb] 124) = wE at *
        have HBE := Lib.hid hBE
        have HBX := Lib.hid (show bx < bE by have h1 := HBD.out.size; have h2 := HB.out.size; omega)
        have HIE := Lib.hid (LgI.abides (D := D) (m1 := m1) (m2 := m2) (by have := HZ6.out; omega) (by have := HZ6.out; omega) rfl pre wr wE none HI3.out (grown_of hBE) (fun r e => by cases e))
        obtain ⟨L1, c1, L2, c2, p1, p2, o1, o2, hA, hfr⟩ := HIE.out
        obtain ⟨old, ok, hlk, hok1, hok2⟩ := lg_lookup hA p1 (ea, eb)
        have HUE := Lib.hid (show rowI wE (w6.heap.size + 2) (.slice (some ⟨g, 0, none⟩) q cap) (ints x) from owns_kept HU3.out hBE)
        have h5 := (hBE.cell (p := ⟨b5, 0, none⟩) (World.block_lt_of_cell? wr _ H56.out.1)).trans H56.out.1
        have h6 := (hBE.cell (p := ⟨b6, 0, none⟩) (World.block_lt_of_cell? wr _ H56.out.2)).trans H56.out.2
        have qa : wE.cell? ⟨bE, 0, none⟩ = some (.int .i64 ea) := by rw [cell_of_row _ _ _ _ _ _ hrE]; rfl
        have qb : wE.cell? ⟨bE, 1, none⟩ = some (.int .i64 eb) := by rw [cell_of_row _ _ _ _ _ _ hrE]; rfl
        have H56E := Lib.hid (⟨h5, h6⟩ : _ ∧ _)
        have HRE := Lib.hid hrE; have HOK := Lib.hid (⟨o1, o2, hA, hfr, hok1, hok2⟩ : _ ∧ _ ∧ _ ∧ _ ∧ _ ∧ _); have HM12 := Lib.hid (⟨p1, p2⟩ : _ ∧ _)
        clear hBE hrE hbE o1 o2 hA hfr hok1 hok2 p1 p2
        simp only at hlk
        obtain ⟨sx, hsx2⟩ : ∃ s, s = sumN D x := ⟨_, rfl⟩
        have HSX := Lib.hid hsx2
        rw [← hsx2] at HSB
        rw [← hsx2]
        clear hsx2
        gi_upto_region 13 with fail
        gi_cut [58] from 59 (fun v58 wx => v58 = .bool (!ok || decide (old < sx)) ∧ wx = wE)
        case first =>
          clear hlk
          cases ok with
          | true =>
            gi_wp2
            gi_meet
            case rel => exact ⟨rfl, rfl⟩
          | false =>
            gi_wp2
            gi_meet
            case rel => exact ⟨rfl, rfl⟩
        case rest =>
          obtain ⟨rfl, hwx⟩ := hcut
          subst hwx
          clear hlk
          have HBL := Lib.hid (btr HB.out HBE.out)
          obtain ⟨o1, o2, hA, hfr, hok1, hok2⟩ := HOK.out
          cases hup : (!ok || decide (old < sx)) with
          | false =>
            simp only [Bool.or_eq_false_iff, Bool.not_eq_false', decide_eq_false_iff_not] at hup
            obtain ⟨t, ht⟩ := hok1 hup.1
            rw [← HEK.out] at ht
            have HEND := Lib.hid (show LgI D w6 (w6.heap.size + 2) m1 m2 (pre ++ [x]) wc from ⟨L1, c1, L2, c2, HM12.out.1, HM12.out.2, o1, o2, hA.skip ht (by rw [← HSX.out]; omega), hfr⟩)
            clear hup o1 o2 hA hfr hok1 hok2 qa qb h5 h6 ht
            gi_wp2
            exact ⟨KF.of_below HBL.out, HEND.out⟩
          | true =>
            have hle : ∀ n t, (endK x, Value.int .i64 n, t) ∈ L1 → n ≤ sumN D x := by
              intro n t hm
              rw [HEK.out] at hm
              cases hob : ok with
              | false => exact absurd hm (hok2 hob _ _)
              | true =>
                obtain ⟨t', ht'⟩ := hok1 hob
                have := nodup_key o1.keys hm ht' rfl
                simp only [Prod.mk.injEq, Value.int.injEq, true_and] at this
                rw [hob] at hup
                simp only [Bool.not_true, Bool.false_or, decide_eq_true_eq] at hup
                have h8 := HSX.out
                omega
            have HLE := Lib.hid hle
            have CW := Lib.hid (fun wx (h : Below wc.heap.size wc wx) => (show ∃ y : LgW b5 m1 b6 m2 bE ea eb, wx = y.val from ⟨⟨wx, (h.cell (p := ⟨b5, 0, none⟩) (World.block_lt_of_cell? wc _ H56E.out.1)).trans H56E.out.1, (h.cell (p := ⟨b6, 0, none⟩) (World.block_lt_of_cell? wc _ H56E.out.2)).trans H56E.out.2, (h.block bE (Array.getElem?_eq_some_iff.1 HRE.out).1).trans HRE.out⟩, rfl⟩))
            haveI : Nonempty (LgW b5 m1 b6 m2 bE ea eb) := by obtain ⟨y, _⟩ := CW.out wc (bz wc); exact ⟨y⟩
            clear hle hup o1 o2 hA hfr hok1 hok2 qa qb h5 h6
            gi_upto_region 14 with fail
            refine in_region_flowS (r := some l) (fun w2 => ∃ y : LgW b5 m1 b6 m2 bE ea eb, w2 = y.val) [] [([0, 1, 2, 3, 4, 5], 6, true), ([], 7, true)] [] (by kernel_rfl) (by kernel_rfl) (by rfl) (fun wx h _ => CW.out wx h) ?_
            intro wf hBf hh
            clear hh
            obtain ⟨o1, o2, hA, hfr, _, _⟩ := HOK.out
            have p1 := (hBf.block m1 (Array.getElem?_eq_some_iff.1 HM12.out.1).1).trans HM12.out.1
            have p2 := (hBf.block m2 (Array.getElem?_eq_some_iff.1 HM12.out.2).1).trans HM12.out.2
            obtain ⟨K1, d1, hput1, oK1, hk1⟩ := run_putL (t := 118) (v := 2) (by kernel_rfl) p1 o1 (ea, eb) (.int .i64 sx)
            have hz6 := HZ6.out
            have p2' : (wf.putObj m1 (.map (entsOf K1) d1)).heap[m2]? = some (.map (entsOf L2) c2) := (World.putObj_heap_other (by omega)).trans p2
            obtain ⟨K2, d2, hput2, oK2, hk2⟩ := run_putL (t := 119) (v := 41) (by kernel_rfl) p2' o2 (ea, eb) (.slice (some ⟨g, 0, none⟩) q cap)
            have CW6 := Lib.hid (LgW.put (CW.out wf hBf) (m := m1) (.map (entsOf K1) d1) (by omega) (by omega) (by have := HBX.out; omega))
            have CW7 := Lib.hid (LgW.put CW6.out (m := m2) (.map (entsOf K2) d2) (by omega) (by omega) (by have := HBX.out; omega))
            have HAF := Lib.hid (show LgI D w6 (w6.heap.size + 2) m1 m2 (pre ++ [x]) ((wf.putObj m1 (.map (entsOf K1) d1)).putObj m2 (.map (entsOf K2) d2)) from by
              have g1 : ((wf.putObj m1 (.map (entsOf K1) d1)).putObj m2 (.map (entsOf K2) d2)).heap[m1]? = some (.map (entsOf K1) d1) :=
                (World.putObj_heap_other (by omega)).trans (World.putObj_heap_same (Array.getElem?_eq_some_iff.1 p1).1)
              have g2 : ((wf.putObj m1 (.map (entsOf K1) d1)).putObj m2 (.map (entsOf K2) d2)).heap[m2]? = some (.map (entsOf K2) d2) := World.putObj_heap_same (Array.getElem?_eq_some_iff.1 p2').1
              refine ⟨K1, d1, K2, d2, g1, g2, oK1, oK2, ?_, ((hfr.trans (Fr.of_below hBf)).trans (Fr.put (.inl rfl) _)).trans (Fr.put (.inr rfl) _)⟩
              refine (hA.kept (X' := (wf.putObj m1 (.map (entsOf K1) d1)).putObj m2 (.map (entsOf K2) d2)) fun u xs hu => ((show rowI wf _ u xs from owns_kept hu hBf).putm _ (by omega)).putm _ (by omega)).put (u := .slice (some ⟨g, 0, none⟩) q cap) HLE.out ?_ ?_ ?_
              · rw [HEK.out, ← HSX.out]; exact hk1
              · rw [HEK.out]; exact hk2
              · exact ((show rowI wf _ _ (ints x) from owns_kept HUE.out hBf).putm _ (by omega)).putm _ (by omega))
            have HKF := Lib.hid (show KF w6.heap.size W2 ((wf.putObj m1 (.map (entsOf K1) d1)).putObj m2 (.map (entsOf K2) d2)) from ((KF.of_below (btr HBL.out hBf)).putm (by omega) _).putm (by omega) _)
            unfold kv at hput1 hput2
            simp only at hput1 hput2
            have hx5 := fun y : LgW b5 m1 b6 m2 bE ea eb => y.c5
            have hx6 := fun y : LgW b5 m1 b6 m2 bE ea eb => y.c6
            have hy5 := fun y : LgW b5 m1 b6 m2 bE ea eb => World.block_lt_of_cell? y.val _ y.c5
            have hy6 := fun y : LgW b5 m1 b6 m2 bE ea eb => World.block_lt_of_cell? y.val _ y.c6
            clear o1 o2 hA hfr p1 p2 p2' oK1 oK2 hk1 hk2 hz6 hBf
            simp only [flowP, flow, pickL, List.getElem?_cons_succ, List.getElem?_cons_zero]
            refine wpQuiet_nil ?_
            repeat (first
              | (refine wpQuiet_load_by rfl 124 (.tmp 11) rfl ⟨bE, 0, none⟩ rfl _ (fun w' hw => by obtain ⟨y, rfl⟩ := hw; exact y.loadE) ?_)
              | (quiet_step (fail)))
            refine wpQuiet_nil ?_
            clear hx5 hx6 hy5 hy6
            go_wp2
            refine seg_grow CW6.out ?_
            refine wpQuiet_nil ?_
            go_wp2
            refine seg_grow CW7.out ?_
            refine wpQuiet_nil ?_
            refine only_done ?_
            clear hput1 hput2
            generalize World.putObj _ _ _ = w9 at *
            gi_wp2
            exact ⟨HKF.out, HAF.out⟩
  case done =>
    rintro X hI hDD
    clear hs6
    obtain ⟨L1, c1, L2, c2, p1, p2, o1, o2, hA, hfr⟩ := hI
    have HD := Lib.hid hDD
    have HAL := Lib.hid (⟨o1, o2, hA, hfr⟩ : _ ∧ _ ∧ _ ∧ _)
    have hz6 := HZ6.out
    have h3 := hfr.cell1 HR.out.1 (by omega)
    have h5 := hfr.cell1 HR.out.2.1 (by omega)
    have h6 := hfr.cell1 HR.out.2.2.1 (by omega)
    have HH := Lib.hid (⟨h3, h5, h6⟩ : _ ∧ _ ∧ _)
    have HBX := Lib.hid (Fr.below hfr HB6.out (fun j hj => by omega))
    have HDX := Lib.hid (HDE.out X hfr)
    have hrg : (Instr.range 118 (.map (some m1))).run Tryz.prog X = .ok (.pointer (some ⟨X.heap.size, 0, none⟩)) (X.alloc (.mapIter (some m1) c1 #[] c1)) := by
      simp [Instr.range, Sem.run_bind, run_underlying (show Tryz.prog.underlying 118 = some (.map 124 2) by kernel_rfl), Result.andThen_ok, run_getMap p1]
    have HP := Lib.hid (⟨p1, p2⟩ : _ ∧ _)
    have HB1 := Lib.hid (bal (bz X) (.mapIter (some m1) c1 #[] c1))
    have HIT := Lib.hid (heap_alloc_new X (.mapIter (some m1) c1 #[] c1))
    have HM12 := Lib.hid (show m1 < X.heap.size ∧ m2 < X.heap.size ∧ m1 ≠ m2 from ⟨(Array.getElem?_eq_some_iff.1 p1).1, (Array.getElem?_eq_some_iff.1 p2).1, by omega⟩)
    clear o1 o2 hA hfr hDD h3 h6 p1 p2 hz6
    gi_wp2_with fail
    clear hrg
    generalize X.alloc (.mapIter (some m1) c1 #[] c1) = X1 at *
    obtain ⟨it, hit⟩ : ∃ b, X.heap.size = b := ⟨_, rfl⟩
    rw [hit] at HIT HM12
    rw [hit]
    have HX := Lib.hid hit
    obtain ⟨T, hT⟩ : ∃ T, T = takes J D := ⟨_, rfl⟩
    have HT := Lib.hid hT
    clear hit h5 hT
    gi_loopw [15] (fun _ wr => ∃ seen K2, wr.heap[it]? = some (.mapIter (some m1) c1 seen c1) ∧ wr.heap[m2]? = some (.map (entsOf K2) c2) ∧ OkL K2 c2 ∧ LgB T seen L1 L2 K2 ∧ Fr X wr (fun k => k = m2)) (fun _ wr => unmet (wr.heap[m1]?) (wr.heap[it]?))
    case atStart => exact ⟨#[], L2, HIT.out, (HB1.out.block m2 (by have h := HM12.out.2.1; have h2 := HX.out; omega)).trans HP.out.2, HAL.out.2.1, LgB.start _ _ _, Fr.of_below HB1.out⟩
    case round =>
      obtain ⟨seen, K2, hi, hm2, ok2, hlb, hfx⟩ := hrel
      rename World => wr
      have hm1 := (hfx.block m1 (by have h := HM12.out.1; have h2 := HX.out; omega) (fun e => HM12.out.2.2 e)).trans HP.out.1
      have HI := Lib.hid hi; have HK := Lib.hid (⟨hm2, ok2, hlb, hfx⟩ : _ ∧ _ ∧ _ ∧ _); have HMM := Lib.hid hm1
      rcases run_nextL hm1 HAL.out.1 hi with ⟨hall, hnx⟩ | ⟨e, he, hes, n, hnx⟩
      · have HDONE := Lib.hid hall
        have q6 := hfx.cell1 HH.out.2.2 (by have := HZ6.out; omega)
        have hrg : (Instr.range 119 (.map (some m2))).run Tryz.prog wr = .ok (.pointer (some ⟨wr.heap.size, 0, none⟩)) (wr.alloc (.mapIter (some m2) c2 #[] c2)) := by
          simp [Instr.range, Sem.run_bind, run_underlying (show Tryz.prog.underlying 119 = some (.map 124 41) by kernel_rfl), Result.andThen_ok, run_getMap hm2]
        clear hall hm1 hi hm2 ok2 hlb hfx
        gi_wp2_with fail
        clear hnx hrg q6
        have HFX := Lib.hid HK.out.2.2.2
        have HAW := Lib.hid (show LgA D (w6.heap.size + 2) (chs J) L1 L2 wr from HAL.out.2.2.1.kept fun u xs hu => owns_fr hu HFX.out (fun k hk e => by
          have h1 := (rowI.lt hu hk).1
          have := HZ6.out
          omega))
        have hdn := HK.out.2.2.1
        rw [HT.out] at hdn
        have HLB := Lib.hid (LgB.done HJ.out HC.out (fun i hi => (HF.out.2.1 i hi).1) HAW.out HAL.out.1.keys hdn HDONE.out)
        have HBR := Lib.hid (Fr.below HFX.out HBX.out (fun j hj => by have := HZ6.out; omega))
        have HD2 := Lib.hid ((HFX.out.block w6.heap.size (Array.getElem?_eq_some_iff.1 HD.out).1 (by have := HZ6.out; omega)).trans HD.out)
        have HM2 := Lib.hid (⟨HK.out.1, HK.out.2.1⟩ : _ ∧ _)
        have HB1' := Lib.hid (bal (bz wr) (.mapIter (some m2) c2 #[] c2))
        have HIT2 := Lib.hid (heap_alloc_new wr (.mapIter (some m2) c2 #[] c2))
        generalize wr.alloc (.mapIter (some m2) c2 #[] c2) = wS at *
        obtain ⟨jt, hjt⟩ : ∃ b, wr.heap.size = b := ⟨_, rfl⟩
        rw [hjt] at HIT2
        rw [hjt]
        have HJT := Lib.hid hjt
        have HM2z := Lib.hid (show m2 < wr.heap.size from (Array.getElem?_eq_some_iff.1 HM2.out.1).1)
        clear hdn hjt
        gi_loopw [16] (fun s16 wy => ∃ seen2, wy.heap[jt]? = some (.mapIter (some m2) c2 seen2 c2) ∧ Below wr.heap.size wr wy ∧ ((s16 = .slice none 0 0 ∧ ∀ e ∈ K2, e.2.2 ∉ seen2) ∨ LgR J D (w6.heap.size + 2) wr s16)) (fun _ wy => unmet (wy.heap[m2]?) (wy.heap[jt]?))
        case atStart => exact ⟨#[], HIT2.out, HB1'.out, .inl ⟨rfl, fun e _ => by simp⟩⟩
        case round =>
          obtain ⟨seen2, hi2, hb2, hor⟩ := hrel
          rename World => wy
          have hmy := (hb2.block m2 HM2z.out).trans HM2.out.1
          have HI2 := Lib.hid hi2; have HB2 := Lib.hid hb2; have HMY := Lib.hid hmy
          rcases run_nextL hmy HM2.out.2 hi2 with ⟨hall, hnx⟩ | ⟨e, he, hes, n, hnx⟩
          · rcases hor with ⟨_, hno⟩ | hlg
            · obtain ⟨e0, he0⟩ := HLB.out.1
              exact absurd (hall e0 he0) (hno e0 he0)
            · obtain ⟨lx, hx1, hx2, hx3⟩ := hlg
              have HLX := Lib.hid (⟨hx1, hx2, hx3⟩ : _ ∧ _ ∧ _)
              clear hx1 hx2 hx3 hall hi2 hb2 hmy
              gi_wp2_with fail
              have hdy := (HB2.out.block w6.heap.size (Array.getElem?_eq_some_iff.1 HD2.out).1).trans HD2.out
              refine ⟨by simp, .inl ⟨_, _, rfl, run_takeDeferred hdy, ?_⟩⟩
              have hrd : RdI (wy.putObj w6.heap.size (.deferred none)) .i64 u16 (ints lx) := RdI.of_owns (rowI.putm (m := w6.heap.size) (z := w6.heap.size + 2) (show rowI wy (w6.heap.size + 2) u16 (ints lx) from owns_kept HLX.out.2.2 HB2.out) (.deferred none) (by omega))
              exact ⟨_, results_tmp rfl _ _ _, u16, lx, rfl, HLX.out.1, HLX.out.2.1, hrd, below_put (btr HBR.out HB2.out) (.deferred none) HB6.out.size⟩
          · obtain ⟨⟨ea, eb⟩, u, t⟩ := e
            have hlu := HLB.out.2 _ _ _ he
            have HLU := Lib.hid hlu
            obtain ⟨lu, hu1, hu2, hu3⟩ := hlu
            have hlu1 : 0 < (ints lu).length := by
              rw [ints_len]
              obtain ⟨⟨s0, hs0, _⟩, _⟩ := hu1
              cases lu with
              | nil => cases hs0
              | cons y ys => simp
            have hlu12 := chs_ch HJ.out HC.out ((chs_mem HJ.out HC.out lu).2 hu1)
            obtain ⟨gu, cu, hue, _⟩ := rowI.toI hu3 hlu1
            subst hue
            have HU3 := Lib.hid hu3
            generalize hnu : (ints lu).length = nu at *
            have HNU := Lib.hid hnu
            have HE := Lib.hid he; have HS := Lib.hid hes
            clear he hu1 hu2 hu3 hlu1 hnu
            unfold kv at hnx
            simp only at hnx
            have hitz := (Array.getElem?_eq_some_iff.1 hi2).1
            have g2 : ((wy.drewN n).putObj jt (.mapIter (some m2) c2 (seen2.push t) c2)).heap[m2]? = some (.map (entsOf K2) c2) := (World.putObj_heap_other (by have h := HM2z.out; have h2 := HJT.out; omega)).trans hmy
            have gi : ((wy.drewN n).putObj jt (.mapIter (some m2) c2 (seen2.push t) c2)).heap[jt]? = some (.mapIter (some m2) c2 (seen2.push t) c2) := World.putObj_heap_same hitz
            have hen := run_entryL g2 HM2.out.2 HE.out gi
            have hbn : Below wr.heap.size wr ((wy.drewN n).putObj jt (.mapIter (some m2) c2 (seen2.push t) c2)) := below_put (btr HB2.out (Below.drewN' n (bz wy))) _ (by have := HJT.out; omega)
            have HUN := Lib.hid (show unmet (((wy.drewN n).putObj jt (.mapIter (some m2) c2 (seen2.push t) c2)).heap[m2]?) (((wy.drewN n).putObj jt (.mapIter (some m2) c2 (seen2.push t) c2)).heap[jt]?) < unmet (wy.heap[m2]?) (wy.heap[jt]?) from by
              rw [g2, gi, HMY.out, HI2.out, unmet_eq, unmet_eq]
              exact unmet_lt ⟨_, HE.out, rfl⟩ HS.out)
            unfold kv at hen
            simp only at hen
            have HG := Lib.hid (⟨gi, hbn⟩ : _ ∧ _)
            clear g2 gi hbn hmy hi2 hb2 hitz hes
            gi_upto_region 23 with fail
            clear hnx
            generalize (wy.drewN n).putObj jt (.mapIter (some m2) c2 (seen2.push t) c2) = wn at *
            gi_upto_region 24 with fail
            clear hen
            rcases hor with ⟨rfl, _⟩ | hlg
            · have heq := eq_nil_nil wn
              gi_wp2
              refine ⟨trivial, ?_⟩
              gi_wp2
              exact ⟨⟨seen2.push t, HG.out.1, HG.out.2, .inr HLU.out⟩, HUN.out⟩
            · have HLG := Lib.hid hlg
              obtain ⟨lx, hx1, hx2, hx3⟩ := hlg
              have hlx1 : 0 < (ints lx).length := by
                rw [ints_len]
                obtain ⟨⟨s0, hs0, _⟩, _⟩ := hx1
                cases lx with
                | nil => cases hs0
                | cons y ys => simp
              have hlx12 := chs_ch HJ.out HC.out ((chs_mem HJ.out HC.out lx).2 hx1)
              obtain ⟨gx, cx, hxe, _⟩ := rowI.toI hx3 hlx1
              subst hxe
              have HX3 := Lib.hid hx3
              generalize hnx : (ints lx).length = nx at *
              have HNX := Lib.hid hnx
              have HCM := Lib.hid (compare_any (.slice (some ⟨gu, 0, none⟩) nu cu) (.slice (some ⟨gx, 0, none⟩) nx cx) (ints lu) (ints lx) wn (RdI.of_owns (owns_kept HU3.out HG.out.2)) (RdI.of_owns (owns_kept HX3.out HG.out.2)) (by rw [ints_len]; omega) (by rw [ints_len]; omega))
              have heq := eq_some_nil wn gx nx cx
              clear hx1 hx2 hx3 hlx1 hnx
              gi_wp2_with fail
              refine ⟨trivial, callsIn_wide.2 (HCM.out.mono ?_)⟩
              rintro e w9 ⟨⟨r, rfl⟩, rfl⟩
              by_cases hr0 : r < 0
              · gi_wp2
                exact ⟨⟨seen2.push t, HG.out.1, HG.out.2, .inr HLU.out⟩, HUN.out⟩
              · gi_wp2
                exact ⟨⟨seen2.push t, HG.out.1, HG.out.2, .inr HLG.out⟩, HUN.out⟩
      · obtain ⟨⟨ea, eb⟩, ev, t⟩ := e
        obtain ⟨l0, hl0, _, hev⟩ := HAL.out.2.2.1.one _ _ _ he
        subst hev
        have HE := Lib.hid he; have HS := Lib.hid hes
        have hl0J := ((chs_mem HJ.out HC.out l0).1 hl0).2.1.lt HJ.out
        obtain ⟨nv, hnv⟩ : ∃ v, v = sumN D l0 := ⟨_, rfl⟩
        rw [← hnv] at hnx HE
        clear he hes hl0 hl0J hnv
        unfold kv at hnx
        simp only at hnx
        have hitz := (Array.getElem?_eq_some_iff.1 hi).1
        have g1 : ((wr.drewN n).putObj it (.mapIter (some m1) c1 (seen.push t) c1)).heap[m1]? = some (.map (entsOf L1) c1) := (World.putObj_heap_other (by have h := HM12.out.1; omega)).trans hm1
        have g2 : ((wr.drewN n).putObj it (.mapIter (some m1) c1 (seen.push t) c1)).heap[m2]? = some (.map (entsOf K2) c2) := (World.putObj_heap_other (by have h := HM12.out.2.1; omega)).trans hm2
        have gi : ((wr.drewN n).putObj it (.mapIter (some m1) c1 (seen.push t) c1)).heap[it]? = some (.mapIter (some m1) c1 (seen.push t) c1) := World.putObj_heap_same hitz
        have hen := run_entryL g1 HAL.out.1 HE.out gi
        have hfn : Fr X ((wr.drewN n).putObj it (.mapIter (some m1) c1 (seen.push t) c1)) (fun k => k = m2) :=
          (((hfx.trans (Fr.drew n)).mono (C := fun k => k = m2 ∨ k = it) (fun _ _ h => .inl h)).trans (Fr.put (.inr rfl) _)).mono (fun j hj h => h.elim id (fun e => by have := HX.out; omega))
        unfold kv at hen
        simp only at hen
        have HG := Lib.hid (⟨g1, g2, gi, hfn⟩ : _ ∧ _ ∧ _ ∧ _)
        clear g1 g2 gi hfn hm1 hi hm2 ok2 hlb hfx hitz
        gi_upto_region 17 with fail
        clear hnx
        generalize (wr.drewN n).putObj it (.mapIter (some m1) c1 (seen.push t) c1) = wn at *
        gi_upto_region 18 with fail
        clear hen
        have hBE := bal (bz wn) (.cells #[.int .i64 ea, .int .i64 eb] 124)
        have hrE : (wn.alloc (.cells #[.int .i64 ea, .int .i64 eb] 124)).heap[wn.heap.size]? = some (.cells #[.int .i64 ea, .int .i64 eb] 124 (0, 0)) := heap_alloc_new _ _
        have HBE := Lib.hid hBE; have HRE := Lib.hid hrE
        obtain ⟨g1, g2, gi, hfn⟩ := HG.out
        have hfe := hfn.trans (Fr.of_below hBE)
        have HBW := Lib.hid (Fr.below hfe HBX.out (fun j hj => by have := HZ6.out; omega))
        have n3 := hfe.cell1 HH.out.1 (by have := HZ6.out; omega)
        have HWN := Lib.hid (show it < wn.heap.size from (Array.getElem?_eq_some_iff.1 gi).1)
        clear g1 g2 gi hfn hfe hBE hrE
        generalize wn.alloc (.cells #[.int .i64 ea, .int .i64 eb] 124) = wE at *
        obtain ⟨bE, hbE⟩ : ∃ b, wn.heap.size = b := ⟨_, rfl⟩
        rw [hbE] at HRE
        rw [hbE]
        clear hbE
        gi_wp2_with fail
        refine ⟨trivial, callsIn_wide.2 ((takes_any d k lb lc J D wE (HV.out.mono HBW.out).2.2 HJ.out HC.out (HF.out.mono HBW.out)).mono ?_)⟩
        rw [← HT.out]
        rintro e w8 ⟨rfl, hB8⟩
        have HB8 := Lib.hid hB8
        have HN := Lib.hid (show w8.heap[m1]? = some (.map (entsOf L1) c1) ∧ w8.heap[m2]? = some (.map (entsOf K2) c2) ∧ w8.heap[it]? = some (.mapIter (some m1) c1 (seen.push t) c1) ∧ Fr X w8 (fun k => k = m2) from by
          obtain ⟨g1, g2, gi, hfn⟩ := HG.out
          have hb := btr HBE.out hB8
          exact ⟨(hb.block m1 (Array.getElem?_eq_some_iff.1 g1).1).trans g1, (hb.block m2 (Array.getElem?_eq_some_iff.1 g2).1).trans g2, (hb.block it (Array.getElem?_eq_some_iff.1 gi).1).trans gi, hfn.trans (Fr.of_below hb)⟩)
        have HR8 := Lib.hid ((hB8.block bE (Array.getElem?_eq_some_iff.1 HRE.out).1).trans HRE.out)
        have HUN := Lib.hid (show unmet (w8.heap[m1]?) (w8.heap[it]?) < unmet (wr.heap[m1]?) (wr.heap[it]?) from by
          rw [HN.out.1, HN.out.2.2.1, HMM.out, HI.out, unmet_eq, unmet_eq]
          exact unmet_lt ⟨_, HE.out, rfl⟩ HS.out)
        clear hB8 n3
        by_cases hlt : nv < T
        · have q6 := HN.out.2.2.2.cell1 HH.out.2.2 (by have := HZ6.out; omega)
          have qa : w8.cell? ⟨bE, 0, none⟩ = some (.int .i64 ea) := by rw [cell_of_row _ _ _ _ _ _ HR8.out]; rfl
          have qb : w8.cell? ⟨bE, 1, none⟩ = some (.int .i64 eb) := by rw [cell_of_row _ _ _ _ _ _ HR8.out]; rfl
          obtain ⟨K3, hdel, ok3, hk3⟩ := run_deleteL (t := 119) (v := 41) (by kernel_rfl) HN.out.2.1 HK.out.2.1 (ea, eb)
          have HK3 := Lib.hid (show LgB T (seen.push t) L1 L2 K3 from HK.out.2.2.1.drop HAL.out.1.born HE.out hlt hk3)
          have HO3 := Lib.hid ok3
          have HLT := Lib.hid hlt
          unfold kv at hdel
          simp only at hdel
          clear ok3 hk3
          have HX9 := Lib.hid (show (w8.putObj m2 (.map (entsOf K3) c2)).heap[m1]? = w8.heap[m1]? ∧ (w8.putObj m2 (.map (entsOf K3) c2)).heap[it]? = w8.heap[it]? ∧ (w8.putObj m2 (.map (entsOf K3) c2)).heap[m2]? = some (.map (entsOf K3) c2) from
            ⟨World.putObj_heap_other HM12.out.2.2, World.putObj_heap_other (by have h := HM12.out.2.1; omega), World.putObj_heap_same (Array.getElem?_eq_some_iff.1 HN.out.2.1).1⟩)
          gi_wp2_with fail
          exact ⟨⟨seen.push t, K3, HX9.out.2.1.trans HN.out.2.2.1, HX9.out.2.2, HO3.out, HK3.out, HN.out.2.2.2.trans (Fr.put (B := fun k => k = m2) rfl _)⟩, by
            show unmet ((w8.putObj m2 (.map (entsOf K3) c2)).heap[m1]?) ((w8.putObj m2 (.map (entsOf K3) c2)).heap[it]?) < _
            rw [HX9.out.1, HX9.out.2.1]; exact HUN.out⟩
        · have HK3 := Lib.hid (show LgB T (seen.push t) L1 L2 K2 from HK.out.2.2.1.keep HAL.out.1.born HE.out hlt)
          gi_wp2
          exact ⟨⟨seen.push t, K2, HN.out.2.2.1, HN.out.2.1, HK.out.2.1, HK3.out, HN.out.2.2.2⟩, HUN.out⟩
  case stop =>
    rintro c pre W _ h _
    exact h.elim
end Go.Proofs.YteknehlkdgamjaaGreat

namespace Go.Proofs.YteknehlkdgamjaaGreat
open Go.RowKit Go.Shelf

/-- What Chain returns: an error; or some chain that takes as long as the work. -/
def ChainOut (J : List Job) (high : Bool) (w : World) (e : Ending) (w' : World) : Prop :=
  ((errC J ≠ 0 ∧ e = .returned (.tuple #[.slice none 0 0, .int .i64 (errC J)])) ∨
    (errC J = 0 ∧ ∃ v l, e = .returned (.tuple #[v, .int .i64 0]) ∧ Full J l ∧ sumN (if high then hiD J else loD J) l = takes J (if high then hiD J else loD J) ∧ RdI w' .i64 v (ints l))) ∧ Below w.heap.size w w'
/-- A whole row is copied into a new one. -/
theorem copy_all {w : World} {base g n : Nat} {zs xs : List Int} {ad : Addr} {c : Nat} (hr : rowI w base (.slice (some ⟨g, 0, none⟩) n n) zs) (_hz : zs.length = n) (hx : xs.length = n) (hc : ∀ j, j < n → w.cell? (ad.add j) = some (.int .i64 (elt xs j))) :
    ∃ w4, (∀ ty, (Builtin.copy_ #[41, 41] ty #[.slice (some ⟨g, 0, none⟩) n n, .slice (some ad) n c]).run Tryz.prog w = .ok (goInt n) w4) ∧ rowI w4 base (.slice (some ⟨g, 0, none⟩) n n) xs ∧ (∀ k, k ≠ g → w4.heap[k]? = w.heap[k]?) ∧ w4.heap.size = w.heap.size ∧ w4.os = w.os ∧ w4.tape = w.tape ∧ w4.output = w.output := by
  rcases hr.2 with ⟨e, _⟩ | ⟨g', cap, cur, e, hb, hg, h1, h2, hs, ht⟩
  · rw [Value.slice.injEq] at e; exact absurd e.1 (by simp)
  · rw [Value.slice.injEq] at e
    have e1 := Option.some.inj e.1
    simp only [Addr.mk.injEq, and_true] at e1
    obtain ⟨_, _, e3⟩ := e
    subst e1; subst e3
    have hcs : (xs.map (Value.int .i64)).length = n := by rw [List.length_map, hx]
    have hrun := fun ty => run_copy_row (P := Tryz.prog) w 41 41 ty 3 g 0 n n ad n c cur 3 (xs.map (Value.int .i64)) Tryz.underlying41 (by kernel_rfl) hg (by rw [hcs]; show n = min n n; omega)
      (fun j v hv => by
        rw [List.getElem?_map] at hv
        cases hj : xs[j]? with
        | none => rw [hj] at hv; cases hv
        | some y =>
          rw [hj] at hv
          have hjl := (List.getElem?_eq_some_iff.1 hj).1
          rw [hc j (by omega)]
          rw [← Option.some.inj hv]
          simp [elt, hj])
      (by rw [hcs, hs]; omega) (fun v hv => by
        obtain ⟨y, _, rfl⟩ := List.mem_map.1 hv; rfl)
    have hst : ((cur.toList.take 0 ++ xs.map (Value.int .i64) ++ cur.toList.drop (0 + (xs.map (Value.int .i64)).length)).toArray : Array Value) = (xs.map (Value.int .i64)).toArray := by
      rw [hcs, List.take_zero, List.nil_append, List.drop_of_length_le (by simp [hs]), List.append_nil]
    rw [hst, hcs] at hrun
    refine ⟨_, hrun, ⟨by rw [hx]; simp [hx], .inr ⟨g, n, (xs.map (Value.int .i64)).toArray, by rw [hx], hb, setRow_heap w g _ _ _ _ hg, by omega, by omega, by simp [hx], ?_⟩⟩, fun k hk => setRow_other _ _ _ _ (fun e => hk e), by simp, rfl, rfl, rfl⟩
    simp only [Nat.mul_one]
    exact List.take_of_length_le (by simp)
set_option maxRecDepth 100000 in
set_option maxHeartbeats 3200000 in
theorem pchain_any (v : Value) (J : List Job) (high : Bool) (w : World) (hx0 : RdJ w v J) (hs : SmJ J) : Calls Tryz.prog 25 #[.agg #[v], .bool high] w (ChainOut J high w) := by
  have HO := Lib.hid (fun wz (h : Below w.heap.size w wz) => open_any v J wz (hx0.mono h) hs)
  obtain ⟨a, c, rfl⟩ := hx0.sl
  clear hx0 hs
  have HB0 := Lib.hid (bal (bz w) (.cells #[.slice a J.length c] 24))
  unfold Opened at HO
  generalize hq0 : errC J = q at HO
  have HQ := Lib.hid hq0
  clear hq0
  obtain ⟨n, hn⟩ : ∃ n, n = J.length := ⟨_, rfl⟩
  have HN := Lib.hid hn
  rw [← hn] at HO HB0 ⊢
  clear hn
  go_enter Tryz.func25, Tryz.ntmps25
  go_wp2_with fail
  refine (HO.out _ HB0.out).mono ?_
  rintro e w4 ⟨hO, hB⟩
  have HB4 := Lib.hid (btr HB0.out hB)
  clear hB
  rcases hO with ⟨hq, rfl⟩ | ⟨rfl, d, rfl, hdk, hdz⟩
  · have t1 : (q != 0) = true := by simp [hq]
    have HQ2 := Lib.hid hq
    clear hq
    go_wp2_with fail
    go_ret2
    exact ⟨.inl ⟨by rw [HQ.out]; exact HQ2.out, by rw [HQ.out]; rfl⟩, HB4.out⟩
  · have HFI := Lib.hid (fine_err HQ.out)
    have HD := Lib.hid hdk
    clear hdk hdz
    obtain ⟨kf, hkf⟩ : ∃ kf, kf = (if high then 61 else 60) := ⟨_, rfl⟩
    obtain ⟨D, hD⟩ : ∃ D, D = (if high then hiD J else loD J) := ⟨_, rfl⟩
    have HDD := Lib.hid hD
    have HLG := Lib.hid (show Calls Tryz.prog 68 #[.pointer (some ⟨d, 0, none⟩), .func (.func kf) #[.pointer (some ⟨d, 0, none⟩)] #[]] w4 _ from longest_any d kf _ _ J D w4 HD.out HFI.out.1 HFI.out.2 (by
      rw [hkf, hD]
      cases high with
      | true => exact days_high HD.out HFI.out.1
      | false => exact days_low HD.out HFI.out.1))
    clear hD
    cases high
    all_goals
      simp only [Bool.false_eq_true, if_false, if_true] at hkf
      subst hkf
      go_wp2_with fail
      refine HLG.out.mono ?_
      rintro e w5 ⟨v5, l, rfl, hf, hsm, hr, hB⟩
      have HB5 := Lib.hid (btr HB4.out hB)
      have HFU := Lib.hid hf; have HSM := Lib.hid hsm
      obtain ⟨m, hm⟩ : ∃ m, m = l.length := ⟨_, rfl⟩
      have hm12 : m ≤ 12 := by rw [hm]; have h1 := hf.2.1.length HFI.out.1 HFI.out.2; have := HFI.out.1.n12; omega
      have hm1 : 0 < m := by
        rw [hm]
        obtain ⟨⟨s0, hs0, _⟩, _⟩ := hf
        cases l with
        | nil => cases hs0
        | cons y ys => simp
      obtain ⟨a5, c5, rfl, _⟩ := hr.form
      rw [ints_len, ← hm] at hr
      rw [ints_len, ← hm]
      have HM := Lib.hid hm
      have HR := Lib.hid hr
      clear hf hsm hr hB hm
      go_upto_region 8 with fail
      go_upto_region 9 with (refine wpList_make_ints rfl _ _ rfl m rfl rfl (by omega) ?_)
      intro w6 hr6 hg6
      have hb6 : Below w5.heap.size w5 w6 := bgr (bz w5) hg6 (fun k e => by cases e)
      obtain ⟨bx, ox, e, hbx, hcx⟩ := (HR.out.mono hb6).get (by rw [ints_len, ← HM.out]; exact hm1)
      subst e
      obtain ⟨w7, hcp, hrow7, hk7, hs7, ho7, ht7, hp7⟩ := copy_all (c := c5) (ad := ⟨bx, ox, none⟩) (xs := ints l) hr6 (by simp [zeros]) (by rw [ints_len, ← HM.out]) (fun j hj => by rw [Go.WideShapes.add_plain]; exact hcx j (by rw [ints_len, ← HM.out]; exact hj))
      have HB7 := Lib.hid (show Below w5.heap.size w5 w7 from ⟨ho7.trans hb6.os, ht7.trans hb6.tape, hp7.trans hb6.output, by rw [hs7]; exact hb6.size, fun r hr => by rw [hk7 r (by omega)]; exact hb6.block r hr⟩)
      have HR7 := Lib.hid (RdI.of_owns hrow7)
      clear hrow7 hk7 hs7 ho7 ht7 hp7 hr6 hg6 hb6 hbx hcx
      go_wp2_with (rw [hcp])
      go_wp2
      clear hcp
      go_ret2
      exact ⟨.inr ⟨HQ.out, _, l, rfl, HFU.out, by have h := HDD.out; simp at h ⊢; rw [← h]; exact HSM.out, HR7.out⟩, btr HB5.out HB7.out⟩
end Go.Proofs.YteknehlkdgamjaaGreat
