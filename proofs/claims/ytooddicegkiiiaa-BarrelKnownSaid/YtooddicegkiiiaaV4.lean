/- newDrum: the pairs of pins that clash; at most 5 valid pins. -/
import Derived.Test.YtooddicegkiiiaaMap
namespace Go.Proofs.Ytooddicegkiiiaa
open Go.RowKit Go.Shelf

/-- The greatest common divisor, as an Int. -/
def gcdI (a b : Int) : Int := ((Int.gcd a b : Nat) : Int)
theorem gcdI_nat (a b : Nat) : gcdI a b = ((Nat.gcd a b : Nat) : Int) := rfl
theorem common_i (a b : Int) (w : World) (h1 : 0 ≤ a) (h2 : a < 4611686018427387904) (h3 : 0 ≤ b) (h4 : b < 4611686018427387904) :
    Calls Try.prog 74 #[.int .i64 a, .int .i64 b] w fun e w' => e = .returned (.int .i64 (gcdI a b)) ∧ w = w' := by
  obtain ⟨m, rfl⟩ := Int.eq_ofNat_of_zero_le h1
  obtain ⟨n, rfl⟩ := Int.eq_ofNat_of_zero_le h3
  exact common_any m n w (by omega) (by omega)
theorem rcommon_i (a b : Int) (w : World) (h1 : 0 ≤ a) (h2 : a < 4611686018427387904) (h3 : 0 ≤ b) (h4 : b < 4611686018427387904) :
    Calls Try.prog 48 #[.int .i64 a, .int .i64 b] w fun e w' => e = .returned (.int .i64 (gcdI a b)) ∧ Below w.heap.size w w' := by
  obtain ⟨m, rfl⟩ := Int.eq_ofNat_of_zero_le h1
  obtain ⟨n, rfl⟩ := Int.eq_ofNat_of_zero_le h3
  exact rcommon_any m n w (by omega) (by omega)
theorem gcdI_pos (a b : Int) (h : 1 ≤ a) : 1 ≤ gcdI a b := by
  have : 0 < Int.gcd a b := by rw [Int.gcd_pos_iff]; omega
  unfold gcdI; omega
theorem gcdI_le (a b : Int) (h : 1 ≤ a) : gcdI a b ≤ a := Int.le_of_dvd (by omega) (Int.gcd_dvd_left a b)

/-- Pin i of a list. -/
def pin (V : List (Int × Int)) (i : Nat) : Int × Int := V[i]?.getD (0, 0)
/-- Two pins clash. -/
def clB (a b : Int × Int) : Bool := decide ((a.2 - b.2) % gcdI a.1 b.1 ≠ 0)
/-- Valid periods and offsets. -/
def OkV (V : List (Int × Int)) : Prop := ∀ v ∈ V, 1 ≤ v.1 ∧ v.1 ≤ 200 ∧ 0 ≤ v.2 ∧ v.2 < v.1
theorem OkV.at {V : List (Int × Int)} (h : OkV V) {i : Nat} (hi : i < V.length) : 1 ≤ (pin V i).1 ∧ (pin V i).1 ≤ 200 ∧ 0 ≤ (pin V i).2 ∧ (pin V i).2 < (pin V i).1 := by
  have : pin V i = V[i] := by simp [pin, hi]
  rw [this]; exact h _ (List.getElem_mem hi)

abbrev Ents := List ((Int × Int) × Int × Nat)
/-- The map bears the pairs up to (i, k). -/
def FillM (V : List (Int × Int)) (L : Ents) (k i : Nat) : Prop :=
  ∀ x m, (∃ t, (x, m, t) ∈ L) ↔ ∃ a b : Nat, a < b ∧ b < V.length ∧ x = ((a : Int), (b : Int)) ∧ m = gcdI (pin V a).1 (pin V b).1 ∧ (b < k ∨ b = k ∧ a < i)
/-- The map bears the pairs that clash. -/
def ClM (V : List (Int × Int)) (L : Ents) : Prop :=
  ∀ x m, (∃ t, (x, m, t) ∈ L) ↔ ∃ a b : Nat, a < b ∧ b < V.length ∧ x = ((a : Int), (b : Int)) ∧ m = gcdI (pin V a).1 (pin V b).1 ∧ clB (pin V a) (pin V b) = true
theorem fill_nil (V : List (Int × Int)) : FillM V [] 0 0 := by
  intro x m
  constructor
  · rintro ⟨t, ht⟩; cases ht
  · rintro ⟨a, b, _, _, _, _, h | h⟩ <;> omega
theorem fill_next {V : List (Int × Int)} {L : Ents} {k : Nat} (h : FillM V L k k) : FillM V L (k + 1) 0 := by
  intro x m
  rw [h x m]
  constructor
  · rintro ⟨a, b, h1, h2, h3, h4, h5⟩; exact ⟨a, b, h1, h2, h3, h4, by omega⟩
  · rintro ⟨a, b, h1, h2, h3, h4, h5⟩; exact ⟨a, b, h1, h2, h3, h4, by omega⟩
theorem fill_put {V : List (Int × Int)} {L L1 : Ents} {k i : Nat} (h : FillM V L k i) (hi : i < k) (hk : k < V.length)
    (hp : ∀ x m, (∃ t, (x, m, t) ∈ L1) ↔ (x = ((i : Int), (k : Int)) ∧ m = gcdI (pin V i).1 (pin V k).1) ∨ (x ≠ ((i : Int), (k : Int)) ∧ ∃ t, (x, m, t) ∈ L)) : FillM V L1 k (i + 1) := by
  intro x m
  rw [hp x m, h x m]
  constructor
  · rintro (⟨rfl, rfl⟩ | ⟨_, a, b, h1, h2, h3, h4, h5⟩)
    · exact ⟨i, k, hi, hk, rfl, rfl, by omega⟩
    · exact ⟨a, b, h1, h2, h3, h4, by omega⟩
  · rintro ⟨a, b, h1, h2, rfl, rfl, h5⟩
    by_cases e : a = i ∧ b = k
    · obtain ⟨rfl, rfl⟩ := e; exact .inl ⟨rfl, rfl⟩
    · refine .inr ⟨fun e' => ?_, a, b, h1, h2, rfl, rfl, by omega⟩
      simp only [Prod.mk.injEq] at e'
      exact e ⟨by omega, by omega⟩
/-- An entry clashes. -/
def clE (V : List (Int × Int)) (e : (Int × Int) × Int × Nat) : Bool := decide (((pin V e.1.1.toNat).2 - (pin V e.1.2.toNat).2) % e.2.1 ≠ 0)
theorem clm_of {V : List (Int × Int)} {L L' : Ents} {seen : Array Nat} (h : FillM V L V.length 0) (h1 : ∀ e ∈ L', e ∈ L) (h2 : ∀ e ∈ L, clE V e = true → e ∈ L') (h3 : ∀ e ∈ L', e.2.2 ∈ seen → clE V e = true) (h4 : ∀ e ∈ L', e.2.2 ∈ seen) : ClM V L' := by
  intro x m
  constructor
  · rintro ⟨t, ht⟩
    obtain ⟨a, b, g1, g2, rfl, rfl, _⟩ := (h x m).1 ⟨t, h1 _ ht⟩
    refine ⟨a, b, g1, g2, rfl, rfl, ?_⟩
    have := h3 _ ht (h4 _ ht)
    simpa [clE, clB] using this
  · rintro ⟨a, b, g1, g2, rfl, rfl, g3⟩
    obtain ⟨t, ht⟩ := (h _ _).2 ⟨a, b, g1, g2, rfl, rfl, .inl g2⟩
    exact ⟨t, h2 _ ht (by simpa [clE, clB] using g3)⟩
theorem fill_at {V : List (Int × Int)} {L : Ents} (h : FillM V L V.length 0) {e : (Int × Int) × Int × Nat} (he : e ∈ L) : ∃ a b : Nat, a < b ∧ b < V.length ∧ e.1 = ((a : Int), (b : Int)) ∧ e.2.1 = gcdI (pin V a).1 (pin V b).1 := by
  obtain ⟨a, b, h1, h2, h3, h4, _⟩ := (h e.1 e.2.1).1 ⟨e.2.2, he⟩
  exact ⟨a, b, h1, h2, h3, h4⟩

/-- Each element of a list without repetition. -/
theorem nodup_le {α : Type} [DecidableEq α] : ∀ (l m : List α), l.Nodup → (∀ x ∈ l, x ∈ m) → l.length ≤ m.length := by
  intro l
  induction l with
  | nil => intro m _ _; simp
  | cons x r ih =>
    intro m hn hs
    rw [List.nodup_cons] at hn
    have hx := hs x (by simp)
    have := ih (m.erase x) hn.2 (fun y hy => by
      rw [List.mem_erase_of_ne]
      · exact hs y (by simp [hy])
      · rintro rfl; exact hn.1 hy)
    rw [List.length_erase_of_mem hx] at this
    have := List.length_pos_of_mem hx
    simp only [List.length_cons]
    omega
theorem nodup_len {α : Type} [DecidableEq α] (l m : List α) (hl : l.Nodup) (hm : m.Nodup) (h : ∀ x, x ∈ l ↔ x ∈ m) : l.length = m.length :=
  Nat.le_antisymm (nodup_le l m hl fun x => (h x).1) (nodup_le m l hm fun x => (h x).2)
/-- How many entries a range has not met yet. -/
def unmet : Option Obj → Option Obj → Nat
  | some (.map es _), some (.mapIter _ _ seen _) => (es.filter fun e => !seen.contains e.born).size
  | _, _ => 0
theorem unmet_eq (L : Ents) (c : Nat) (seen : Array Nat) (m : Option Nat) (s l : Nat) : unmet (some (.map (entsOf L) c)) (some (.mapIter m s seen l)) = (L.filter fun e => !seen.contains e.2.2).length := by
  simp [unmet, entsOf, List.filter_map, Function.comp_def]
theorem born_inj {L : Ents} {c : Nat} (hL : OkL L c) {e e' : (Int × Int) × Int × Nat} (h1 : e ∈ L) (h2 : e' ∈ L) (h : e.2.2 = e'.2.2) : e = e' := by
  obtain ⟨i, hi, rfl⟩ := List.getElem_of_mem h1
  obtain ⟨j, hj, rfl⟩ := List.getElem_of_mem h2
  have hb := hL.born
  rw [List.nodup_iff_pairwise_ne, List.pairwise_iff_getElem] at hb
  rcases Nat.lt_trichotomy i j with h' | rfl | h'
  · exact absurd (by rw [List.getElem_map, List.getElem_map]; exact h) (hb i j (by simpa) (by simpa) h')
  · rfl
  · exact absurd (by rw [List.getElem_map, List.getElem_map]; exact h.symm) (hb j i (by simpa) (by simpa) h')
theorem nodup_ents {L : Ents} {c : Nat} (hL : OkL L c) : L.Nodup := by
  have hb := hL.born
  unfold List.Nodup at hb ⊢
  rw [List.pairwise_map] at hb
  exact hb.imp fun h e => h (by rw [e])
theorem unmet_lt {L L2 : Ents} {c : Nat} {seen : Array Nat} {e : (Int × Int) × Int × Nat} (h2 : OkL L2 c) (hs : ∀ x ∈ L2, x ∈ L) (he : e ∈ L) (hes : e.2.2 ∉ seen) :
    (L2.filter fun x => !(seen.push e.2.2).contains x.2.2).length < (L.filter fun x => !seen.contains x.2.2).length := by
  have hm : e ∈ L.filter fun x => !seen.contains x.2.2 := by
    rw [List.mem_filter]; exact ⟨he, by simpa using hes⟩
  have h := nodup_le (L2.filter fun x => !(seen.push e.2.2).contains x.2.2) ((L.filter fun x => !seen.contains x.2.2).erase e) ((nodup_ents h2).filter _) (fun x hx => by
    rw [List.mem_filter] at hx
    obtain ⟨hx1, hx2⟩ := hx
    simp only [Array.contains_push, Bool.not_or, Bool.and_eq_true] at hx2
    have hne : x ≠ e := by rintro rfl; simp at hx2
    rw [List.mem_erase_of_ne hne, List.mem_filter]
    exact ⟨hs x hx1, by simp at hx2 ⊢; exact hx2.1⟩)
  rw [List.length_erase_of_mem hm] at h
  have := List.length_pos_of_mem hm
  omega

/-- Block b is the drum of the pins V. -/
def IsDrum (w : World) (b : Nat) (V : List (Int × Int)) : Prop :=
  ∃ x M L c, w.heap[b]? = some (.cells #[x, .map (some M)] 84 (0, 0)) ∧ w.heap[M]? = some (.map (entsOf L) c) ∧ OkL L c ∧ ClM V L ∧ RdP w x V
theorem IsDrum.mono {w w' : World} {b : Nat} {V : List (Int × Int)} (h : IsDrum w b V) (hb : Below w.heap.size w w') : IsDrum w' b V := by
  obtain ⟨x, M, L, c, h1, h2, h3, h4, h5⟩ := h
  exact ⟨x, M, L, c, (hb.block _ (Array.getElem?_eq_some_iff.1 h1).1).trans h1, (hb.block _ (Array.getElem?_eq_some_iff.1 h2).1).trans h2, h3, h4, h5.mono hb⟩
end Go.Proofs.Ytooddicegkiiiaa
