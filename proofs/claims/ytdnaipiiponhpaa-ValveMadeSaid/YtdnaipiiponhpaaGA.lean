/- Merged texts: slices read, sorted lists, CheckRow, the bench, RunOf, Patterned. -/
import Derived.Test.YtdnaipiiponhpaaRows
import Derived.WalkKit
import Derived.WalkSpells
import Derived.WalkLawsBesides
import Derived.BigRegion
import Derived.BigQuiet
import Derived.Lib.Hide
import Derived.Deep.QuietTactic
import Derived.RangeFuncBox
import Derived.Deep.Cut
import Derived.Deep.DeepCutAuto
import Derived.Deep.RegionWith
namespace Go.Proofs.Ytdnaipiiponhpaa
open Go.RowKit

/-- The slice value v, of n elements, reads the cells cs. -/
def RdC (w : World) (v : Value) (n : Nat) (cs : List Value) : Prop :=
  ∃ a cap, v = .slice a n cap ∧ n ≤ cap ∧ cap ≤ maxLen ∧ (cs ≠ [] → ∃ b off, a = some ⟨b, off, none⟩ ∧ b < w.heap.size ∧ ∀ j u, cs[j]? = some u → w.cell? ⟨b, off + j, none⟩ = some u)

/-- A slice of integers of one kind. -/
def RdI (w : World) (k : IntKind) (v : Value) (xs : List Int) : Prop := RdC w v xs.length (xs.map (Value.int k))

/-- A slice of pairs of ints. -/
def prs (V : List (Int × Int)) : List Value := V.flatMap fun p => [.int .i64 p.1, .int .i64 p.2]
def RdP (w : World) (v : Value) (V : List (Int × Int)) : Prop := RdC w v V.length (prs V)

theorem RdC.mono {w w' : World} {v : Value} {n : Nat} {cs : List Value} (h : RdC w v n cs) (hb : Below w.heap.size w w') : RdC w' v n cs := by
  obtain ⟨a, cap, rfl, hc1, hc2, h⟩ := h
  refine ⟨a, cap, rfl, hc1, hc2, fun hne => ?_⟩
  obtain ⟨b, off, rfl, h1, h2⟩ := h hne
  exact ⟨b, off, rfl, Nat.lt_of_lt_of_le h1 hb.size, fun j u hu => (hb.cell (p := ⟨b, off + j, none⟩) h1).trans (h2 j u hu)⟩
theorem RdI.mono {w w' : World} {k : IntKind} {v : Value} {xs : List Int} (h : RdI w k v xs) (hb : Below w.heap.size w w') : RdI w' k v xs := RdC.mono h hb
theorem RdP.mono {w w' : World} {v : Value} {V : List (Int × Int)} (h : RdP w v V) (hb : Below w.heap.size w w') : RdP w' v V := RdC.mono h hb

theorem RdI.form {w : World} {k : IntKind} {v : Value} {xs : List Int} (h : RdI w k v xs) :
    ∃ a cap, v = .slice a xs.length cap ∧ xs.length ≤ cap ∧ cap ≤ maxLen ∧ (0 < xs.length → ∃ b off, a = some ⟨b, off, none⟩ ∧ b < w.heap.size ∧ ∀ j, j < xs.length → w.cell? ⟨b, off + j, none⟩ = some (.int k (xs[j]?.getD 0))) := by
  obtain ⟨a, cap, rfl, hc1, hc2, h⟩ := h
  refine ⟨a, cap, rfl, hc1, hc2, fun hne => ?_⟩
  obtain ⟨b, off, rfl, h1, h2⟩ := h (by intro e; simp at e; subst e; simp at hne)
  exact ⟨b, off, rfl, h1, fun j hj => h2 j _ (by simp [hj])⟩

theorem prs_get (V : List (Int × Int)) : ∀ j, j < V.length → (prs V)[j * 2]? = some (.int .i64 ((V[j]?.getD (0, 0)).1)) ∧ (prs V)[j * 2 + 1]? = some (.int .i64 ((V[j]?.getD (0, 0)).2)) := by
  induction V with
  | nil => intro j hj; simp at hj
  | cons p V ih =>
    intro j hj
    cases j with
    | zero => simp [prs]
    | succ j =>
      have := ih j (by simpa using hj)
      have e1 : (j + 1) * 2 = j * 2 + 1 + 1 := by omega
      simp only [prs, List.flatMap_cons, List.cons_append, List.nil_append] at this ⊢
      rw [e1]
      simpa using this
theorem prs_length (V : List (Int × Int)) : (prs V).length = V.length * 2 := by
  induction V with
  | nil => rfl
  | cons p V ih => simp only [prs, List.flatMap_cons, List.length_append, List.length_cons, List.length_nil] at ih ⊢; omega

theorem RdP.form {w : World} {v : Value} {V : List (Int × Int)} (h : RdP w v V) :
    ∃ a cap, v = .slice a V.length cap ∧ V.length ≤ cap ∧ cap ≤ maxLen ∧ (0 < V.length → ∃ b off, a = some ⟨b, off, none⟩ ∧ b < w.heap.size ∧
      ∀ j, j < V.length → w.cell? ⟨b, off + j * 2, none⟩ = some (.int .i64 ((V[j]?.getD (0, 0)).1)) ∧ w.cell? ⟨b, off + j * 2 + 1, none⟩ = some (.int .i64 ((V[j]?.getD (0, 0)).2))) := by
  obtain ⟨a, cap, rfl, hc1, hc2, h⟩ := h
  refine ⟨a, cap, rfl, hc1, hc2, fun hne => ?_⟩
  obtain ⟨b, off, rfl, h1, h2⟩ := h (by intro e; have := prs_length V; rw [e] at this; simp at this; omega)
  refine ⟨b, off, rfl, h1, fun j hj => ?_⟩
  obtain ⟨g1, g2⟩ := prs_get V j hj
  exact ⟨h2 _ _ g1, by have := h2 _ _ g2; rwa [← Nat.add_assoc] at this⟩

/-- What the call owns reads. -/
theorem RdC.of_owns {w : World} {base : Nat} {e : TypeId} {size : Nat} {v : Value} {n : Nat} {cs : List Value} (h : w.ownsRow base e size v n cs) : RdC w v n cs := by
  have hl := h.1
  have h' := h
  rcases h.2 with ⟨rfl, rfl⟩ | ⟨g, cap, cur, rfl, hb, hg, hc1, hc2, _, htake⟩
  · exact ⟨none, 0, rfl, Nat.le_refl _, by unfold maxLen; omega, fun hne => by simp at hl; exact absurd hl hne⟩
  · refine ⟨_, _, rfl, hc1, hc2, fun hne => ⟨g, 0, rfl, (Array.getElem?_eq_some_iff.1 hg).1, fun j u hu => ?_⟩⟩
    rw [Nat.zero_add, h'.cellAt j (by rw [← hl]; exact (List.getElem?_eq_some_iff.1 hu).1)]
    exact hu
theorem RdI.of_owns {w : World} {base : Nat} {e : TypeId} {k : IntKind} {v : Value} {n : Nat} {xs : List Int} (h : w.ownsRow base e 1 v n (xs.map (Value.int k))) : RdI w k v xs := by
  have hl := h.1
  simp at hl
  subst hl
  exact RdC.of_owns h
theorem RdP.of_owns {w : World} {base : Nat} {e : TypeId} {v : Value} {n : Nat} {V : List (Int × Int)} (h : w.ownsRow base e 2 v n (prs V)) : RdP w v V := by
  have hl := h.1
  rw [prs_length] at hl
  obtain rfl : V.length = n := by omega
  exact RdC.of_owns h

theorem bcell {W w1 : World} (hb : Below W.heap.size W w1) : (∀ b o, b < W.heap.size → w1.cell? ⟨b, o, none⟩ = W.cell? ⟨b, o, none⟩) ∧ (∀ b o, b < W.heap.size → w1.frozen? ⟨b, o, none⟩ = W.frozen? ⟨b, o, none⟩) :=
  ⟨fun b o h => hb.cell (p := ⟨b, o, none⟩) h, fun b o h => hb.frozen (p := ⟨b, o, none⟩) h⟩

theorem bz (w : World) : Below w.heap.size w w := Below.refl _ _
theorem bal {a w : World} (h : Below a.heap.size a w) (o : Obj) : Below a.heap.size a (w.alloc o) := h.alloc h.size o
theorem btr {a w w' : World} (h : Below a.heap.size a w) (h2 : Below w.heap.size w w') : Below a.heap.size a w' := h.trans (h2.mono h.size)
theorem bset {a w : World} (h : Below a.heap.size a w) {p : Addr} (hp : a.heap.size ≤ p.block) (u : Value) : Below a.heap.size a (w.setCell p u) := h.setCell hp u
theorem bgr {a w w' : World} {row : Option Nat} (h : Below a.heap.size a w) (hg : w.grownBy w' row) (hr : ∀ k, row = some k → a.heap.size ≤ k) : Below a.heap.size a w' := h.grown hg h.size hr
theorem Below.drewN' {B : Nat} {a w : World} (n : Nat) (h : Below B a w) : Below B a (w.drewN n) := ⟨h.os, h.tape, h.output, h.size, h.block⟩
theorem ret_int {k : IntKind} {a b : Int} (h : a = b) : Ending.returned (.int k a) = .returned (.int k b) := by rw [h]
theorem ret_bool {a b : Bool} (h : a = b) : Ending.returned (.bool a) = .returned (.bool b) := by rw [h]

/-- A world in which all that was there when w was reads as it did. -/
structure Later (w : World) where
  val : World
  le : Below w.heap.size w val
instance (w : World) : Nonempty (Later w) := ⟨⟨w, Below.refl _ _⟩⟩
theorem Later.cell {w : World} (l : Later w) (b o : Nat) (h : b < w.heap.size) : l.val.cell? ⟨b, o, none⟩ = w.cell? ⟨b, o, none⟩ := l.le.cell (p := ⟨b, o, none⟩) h
theorem wp_region_later {P : Program} {id : Nat} {Q : Exit → Act → World → Prop} {a : Act} {w : World} {l : List Oper} (hm : P.follows .mixedOrders = true) (hB : Region.lexB .any l.toArray = true)
    (h : wpQuiet P l.toArray (fun w' => ∃ x : Later w, w' = x.val) (fun a' => ∀ w', (∃ x : Later w, w' = x.val) → Q .normal a' w') l a) : (Code.region id l.toArray true).wp P Q a w :=
  wp_region_quiet (C := fun w' => ∃ x : Later w, w' = x.val) hm hB ⟨⟨_, Below.drew (Below.refl _ _)⟩, rfl⟩ (by simpa using h)
theorem Calls.later {P : Program} {f : FuncId} {args : Array Value} {w : World} {l : Later w} {v : Value}
    (h : Calls P f args l.val fun e w' => e = .returned v ∧ Below l.val.heap.size l.val w') : Calls P f args l.val fun e w'' => e = .returned v ∧ ∃ x : Later w, w'' = x.val :=
  h.mono fun _ w' ⟨he, hb⟩ => ⟨he, ⟨w', btr l.le hb⟩, rfl⟩

end Go.Proofs.Ytdnaipiiponhpaa

namespace Go.Proofs.Ytdnaipiiponhpaa
open Go.RowKit

theorem take_eq_step (xs ys : List Int) (k : Nat) (hx : k < xs.length) (hy : k < ys.length) (h : xs.take k = ys.take k) (he : xs[k]?.getD 0 = ys[k]?.getD 0) : xs.take (k+1) = ys.take (k+1) := by
  rw [List.take_succ_eq_append_getElem hx, List.take_succ_eq_append_getElem hy, h]
  simp [hx, hy] at he
  rw [he]
theorem ne_of_get (xs ys : List Int) (k : Nat) (he : xs[k]?.getD 0 ≠ ys[k]?.getD 0) : xs ≠ ys := by
  intro e; subst e; exact he rfl

set_option maxRecDepth 100000 in
set_option maxHeartbeats 400000 in
theorem longs_any (x y : Value) (xs ys : List Int) (w : World) (hx0 : RdI w .i64 x xs) (hy0 : RdI w .i64 y ys) (hl : xs.length ≤ 1000) (hl2 : ys.length ≤ 1000) :
    Calls Try.prog 22 #[x, y] w fun e w' => e = .returned (.bool (decide (xs = ys))) ∧ Below w.heap.size w w' := by
  obtain ⟨a, ca, rfl, _, _, hx⟩ := hx0.form
  obtain ⟨b, cb, rfl, _, _, hy⟩ := hy0.form
  clear hx0 hy0
  by_cases hll : xs.length = ys.length
  · have h1 : ((xs.length : Int) != (ys.length : Int)) = false := by simp [hll]
    have HL := Lib.hid hll; clear hll
    go_enter Try.func22, Try.ntmps22
    go_wp2
    go_loopw [5] (fun i wr => ∃ k : Nat, k ≤ xs.length ∧ i = .int .i64 k ∧ xs.take k = ys.take k ∧ Below w.heap.size w wr) (fun i _ => xs.length - (intOf i).toNat)
    case atStart => exact ⟨0, Nat.zero_le _, rfl, by simp, Below.refl _ _⟩
    case round =>
      obtain ⟨k, hk, rfl, ht, hB⟩ := hrel
      by_cases hlt : k < xs.length
      · obtain ⟨bx, ox, rfl, hbx, hcx⟩ := hx (by omega)
        obtain ⟨by', oy, rfl, hby, hcy⟩ := hy (by rw [← HL.out]; omega)
        have gx := (hB.cell (p := ⟨bx, ox + k, none⟩) hbx).trans (hcx k hlt)
        have hlt2 : k < ys.length := by rw [← HL.out]; exact hlt
        have gy := (hB.cell (p := ⟨by', oy + k, none⟩) hby).trans (hcy k hlt2)
        have HT := Lib.hid ht; clear ht
        clear hx hy hcx hcy
        by_cases he : xs[k]?.getD 0 = ys[k]?.getD 0
        · have hb1 : (xs[k]?.getD 0 != ys[k]?.getD 0) = false := by simp [he]
          have HE := Lib.hid he; clear he
          have HT2 := Lib.hid (take_eq_step xs ys k hlt hlt2 HT.out HE.out)
          generalize xs[k]?.getD 0 = p at *
          generalize ys[k]?.getD 0 = q at *
          go_wp2
          go_quiet (fail)
          go_wp2
          go_roundw
          case rel => exact ⟨k + 1, by omega, by go_num, HT2.out, Below.drewN' _ hB⟩
          case measure => simp [intOf]; omega
        · have hb1 : (xs[k]?.getD 0 != ys[k]?.getD 0) = true := by simpa using he
          have HE := Lib.hid (ne_of_get xs ys k he); clear he
          generalize xs[k]?.getD 0 = p at *
          generalize ys[k]?.getD 0 = q at *
          go_wp2
          go_quiet (fail)
          go_wp2
          go_ret
          exact ⟨ret_bool (by simp [HE.out]), Below.drewN' _ hB⟩
      · have HT := Lib.hid ht; clear ht
        go_wp2
        go_ret
        refine ⟨ret_bool ?_, hB⟩
        have h1 := HT.out
        rw [List.take_of_length_le (by omega), List.take_of_length_le (by rw [← HL.out]; omega)] at h1
        simp [h1]
  · have h1 : ((xs.length : Int) != (ys.length : Int)) = true := by rw [bne_iff_ne]; omega
    have HL := Lib.hid hll; clear hll
    go_enter Try.func22, Try.ntmps22
    go_wp2
    go_ret
    refine ⟨ret_bool ?_, Below.refl _ _⟩
    have := HL.out
    symm; simp only [decide_eq_false_iff_not]
    intro e; subst e; exact this rfl
set_option maxRecDepth 100000 in
set_option maxHeartbeats 400000 in
theorem ints_any (x y : Value) (xs ys : List Int) (w : World) (hx0 : RdI w .i64 x xs) (hy0 : RdI w .i64 y ys) (hl : xs.length ≤ 1000) (hl2 : ys.length ≤ 1000) :
    Calls Try.prog 31 #[x, y] w fun e w' => e = .returned (.bool (decide (xs = ys))) ∧ Below w.heap.size w w' := by
  obtain ⟨a, ca, rfl, _, _, hx⟩ := hx0.form
  obtain ⟨b, cb, rfl, _, _, hy⟩ := hy0.form
  clear hx0 hy0
  by_cases hll : xs.length = ys.length
  · have h1 : ((xs.length : Int) != (ys.length : Int)) = false := by simp [hll]
    have HL := Lib.hid hll; clear hll
    go_enter Try.func31, Try.ntmps31
    go_wp2
    go_loopw [5] (fun i wr => ∃ k : Nat, k ≤ xs.length ∧ i = .int .i64 k ∧ xs.take k = ys.take k ∧ Below w.heap.size w wr) (fun i _ => xs.length - (intOf i).toNat)
    case atStart => exact ⟨0, Nat.zero_le _, rfl, by simp, Below.refl _ _⟩
    case round =>
      obtain ⟨k, hk, rfl, ht, hB⟩ := hrel
      by_cases hlt : k < xs.length
      · obtain ⟨bx, ox, rfl, hbx, hcx⟩ := hx (by omega)
        obtain ⟨by', oy, rfl, hby, hcy⟩ := hy (by rw [← HL.out]; omega)
        have gx := (hB.cell (p := ⟨bx, ox + k, none⟩) hbx).trans (hcx k hlt)
        have hlt2 : k < ys.length := by rw [← HL.out]; exact hlt
        have gy := (hB.cell (p := ⟨by', oy + k, none⟩) hby).trans (hcy k hlt2)
        have HT := Lib.hid ht; clear ht
        clear hx hy hcx hcy
        by_cases he : xs[k]?.getD 0 = ys[k]?.getD 0
        · have hb1 : (xs[k]?.getD 0 != ys[k]?.getD 0) = false := by simp [he]
          have HE := Lib.hid he; clear he
          have HT2 := Lib.hid (take_eq_step xs ys k hlt hlt2 HT.out HE.out)
          generalize xs[k]?.getD 0 = p at *
          generalize ys[k]?.getD 0 = q at *
          go_wp2
          go_quiet (fail)
          go_wp2
          go_roundw
          case rel => exact ⟨k + 1, by omega, by go_num, HT2.out, Below.drewN' _ hB⟩
          case measure => simp [intOf]; omega
        · have hb1 : (xs[k]?.getD 0 != ys[k]?.getD 0) = true := by simpa using he
          have HE := Lib.hid (ne_of_get xs ys k he); clear he
          generalize xs[k]?.getD 0 = p at *
          generalize ys[k]?.getD 0 = q at *
          go_wp2
          go_quiet (fail)
          go_wp2
          go_ret
          exact ⟨ret_bool (by simp [HE.out]), Below.drewN' _ hB⟩
      · have HT := Lib.hid ht; clear ht
        go_wp2
        go_ret
        refine ⟨ret_bool ?_, hB⟩
        have h1 := HT.out
        rw [List.take_of_length_le (by omega), List.take_of_length_le (by rw [← HL.out]; omega)] at h1
        simp [h1]
  · have h1 : ((xs.length : Int) != (ys.length : Int)) = true := by rw [bne_iff_ne]; omega
    have HL := Lib.hid hll; clear hll
    go_enter Try.func31, Try.ntmps31
    go_wp2
    go_ret
    refine ⟨ret_bool ?_, Below.refl _ _⟩
    have := HL.out
    symm; simp only [decide_eq_false_iff_not]
    intro e; subst e; exact this rfl

def sortedB : List Int → Bool
  | [] => true
  | [_] => true
  | x :: y :: l => decide (x ≤ y) && sortedB (y :: l)

theorem sortedB_iff (l : List Int) : sortedB l = true ↔ ∀ i, 0 < i → i < l.length → l[i-1]?.getD 0 ≤ l[i]?.getD 0 := by
  induction l with
  | nil => simp [sortedB]
  | cons x l ih =>
    cases l with
    | nil => simp [sortedB]; intro i h1 h2; omega
    | cons y l =>
      simp only [sortedB, Bool.and_eq_true, decide_eq_true_eq, ih]
      constructor
      · rintro ⟨h0, h⟩ i h1 h2
        obtain ⟨i, rfl⟩ : ∃ j, i = j + 1 := ⟨i - 1, by omega⟩
        cases i with
        | zero => simpa using h0
        | succ i => have := h (i+1) (by omega) (by simpa using h2); simpa using this
      · intro h
        refine ⟨by simpa using h 1 (by omega) (by simp), fun i h1 h2 => ?_⟩
        obtain ⟨i, rfl⟩ : ∃ j, i = j + 1 := ⟨i - 1, by omega⟩
        have := h (i+1+1) (by omega) (by simpa using h2)
        simpa using this

set_option maxRecDepth 100000 in
set_option maxHeartbeats 400000 in
theorem sorted_any (x : Value) (xs : List Int) (w : World) (hx0 : RdI w .i64 x xs) (hl : xs.length ≤ 1000) :
    Calls Try.prog 50 #[x] w fun e w' => e = .returned (.bool (sortedB xs)) ∧ Below w.heap.size w w' := by
  obtain ⟨a, ca, rfl, _, _, hx⟩ := hx0.form
  clear hx0
  go_enter Try.func50, Try.ntmps50
  go_wp2
  go_loopw [3] (fun i wr => ∃ k : Nat, 0 < k ∧ (k ≤ xs.length ∨ k = 1) ∧ i = .int .i64 k ∧ (∀ i, 0 < i → i < k → xs[i-1]?.getD 0 ≤ xs[i]?.getD 0) ∧ Below w.heap.size w wr) (fun i _ => xs.length - (intOf i).toNat)
  case atStart => exact ⟨1, by omega, .inr rfl, rfl, by intro i h1 h2; omega, Below.refl _ _⟩
  case round =>
    obtain ⟨k, hk0, hk, rfl, ht, hB⟩ := hrel
    have HT := Lib.hid ht; clear ht
    have hk1000 : k ≤ 1000 := by omega
    by_cases hlt : k < xs.length
    · obtain ⟨bx, ox, rfl, hbx, hcx⟩ := hx (by omega)
      have gx := (hB.cell (p := ⟨bx, ox + k, none⟩) hbx).trans (hcx k hlt)
      have gy := (hB.cell (p := ⟨bx, ox + (k - 1), none⟩) hbx).trans (hcx (k - 1) (by omega))
      clear hx hcx
      obtain ⟨j, rfl⟩ : ∃ j, k = j + 1 := ⟨k - 1, by omega⟩
      simp only [Nat.add_sub_cancel] at gy
      clear hk
      by_cases he : xs[j+1]?.getD 0 < xs[j]?.getD 0
      · have HE := Lib.hid he
        generalize hp : xs[j+1]?.getD 0 = p at *
        generalize hq : xs[j]?.getD 0 = q at *
        have HP := Lib.hid hp; have HQ := Lib.hid hq; clear hp hq
        go_wp2
        go_quiet (fail)
        go_wp2
        go_ret
        refine ⟨ret_bool ?_, Below.drewN' _ hB⟩
        symm
        rw [← Bool.not_eq_true, sortedB_iff]
        intro h
        have := h (j+1) (by omega) hlt
        simp only [Nat.add_sub_cancel, HP.out, HQ.out] at this
        omega
      · generalize hp : xs[j+1]?.getD 0 = p at *
        generalize hq : xs[j]?.getD 0 = q at *
        have HP := Lib.hid hp; have HQ := Lib.hid hq; clear hp hq
        go_wp2
        go_quiet (fail)
        go_wp2
        go_roundw
        case rel =>
          refine ⟨j + 1 + 1, by omega, by omega, by go_num, fun i h1 h2 => ?_, Below.drewN' _ hB⟩
          by_cases e : i = j + 1
          · subst e; simp only [Nat.add_sub_cancel, HP.out, HQ.out]; omega
          · exact HT.out i h1 (by omega)
        case measure => simp [intOf]; omega
    · go_wp2
      go_ret
      refine ⟨ret_bool ?_, hB⟩
      symm
      rw [sortedB_iff]
      intro i h1 h2
      exact HT.out i h1 (by omega)

def outB (lo hi x : Int) : Bool := decide (x < lo ∨ hi < x)
set_option maxRecDepth 100000 in
set_option maxHeartbeats 400000 in
theorem withinf_any (x lo hi : Int) (bl bh : Nat) (w : World) (h1 : w.cell? ⟨bl, 0, none⟩ = some (.int .i64 lo)) (h2 : w.cell? ⟨bh, 0, none⟩ = some (.int .i64 hi)) :
    Calls Try.prog 78 #[.int .i64 x, .pointer (some ⟨bl, 0, none⟩), .pointer (some ⟨bh, 0, none⟩)] w fun e w' => e = .returned (.bool (outB lo hi x)) ∧ Below w.heap.size w w' := by
  by_cases hlo : x < lo
  · go_enter Try.func78, Try.ntmps78
    go_wp2
    go_ret
    exact ⟨ret_bool (by simp [outB, hlo]), Below.refl _ _⟩
  · by_cases hhi : hi < x <;>
    · go_enter Try.func78, Try.ntmps78
      go_wp2
      go_ret
      exact ⟨ret_bool (by simp [outB, hlo, hhi]), Below.refl _ _⟩

def idxOf {α : Type} (p : α → Bool) (xs : List α) : Int := match xs.findIdx? p with | some i => i | none => -1
theorem find_none_step {α : Type} {d : α} {p : α → Bool} {xs : List α} {k : Nat} (h : ∀ i, i < k → p (xs[i]?.getD d) = false) (hk : k < xs.length) : p (xs[k]?.getD d) = true → idxOf p xs = k := by
  intro ht
  have : xs.findIdx? p = some k := by
    rw [List.findIdx?_eq_some_iff_getElem]
    refine ⟨hk, by simpa [hk] using ht, fun j hj => ?_⟩
    have := h j hj
    rw [List.getElem?_eq_getElem (by omega)] at this
    simpa using this
  simp [idxOf, this]
theorem find_none {α : Type} {d : α} {p : α → Bool} {xs : List α} (h : ∀ i, i < xs.length → p (xs[i]?.getD d) = false) : idxOf p xs = -1 := by
  have : xs.findIdx? p = none := by
    rw [List.findIdx?_eq_none_iff]
    intro x hx
    obtain ⟨i, hi, rfl⟩ := List.getElem_of_mem hx
    have := h i hi
    simpa [hi] using this
  simp [idxOf, this]

theorem idxOf_any {α : Type} (p : α → Bool) (xs : List α) : decide (0 ≤ idxOf p xs) = xs.any p := by
  cases h : xs.findIdx? p with
  | some i =>
    have : xs.any p = true := by
      rw [List.findIdx?_eq_some_iff_getElem] at h
      obtain ⟨h1, h2, _⟩ := h
      exact List.any_eq_true.2 ⟨_, List.getElem_mem h1, h2⟩
    rw [this]; simp [idxOf, h]
  | none =>
    have : xs.any p = false := by
      rw [List.findIdx?_eq_none_iff] at h
      rw [List.any_eq_false]
      intro x hx; simp [h x hx]
    rw [this]; simp [idxOf, h]

set_option maxRecDepth 100000 in
set_option maxHeartbeats 400000 in
theorem indexf_any (x : Value) (xs : List Int) (lo hi : Int) (bl bh : Nat) (w : World) (hx0 : RdI w .i64 x xs) (hl : xs.length ≤ 1000)
    (h1 : w.cell? ⟨bl, 0, none⟩ = some (.int .i64 lo)) (h2 : w.cell? ⟨bh, 0, none⟩ = some (.int .i64 hi)) (hb1 : bl < w.heap.size) (hb2 : bh < w.heap.size) :
    Calls Try.prog 84 #[x, .func (.func 78) #[] #[.pointer (some ⟨bl, 0, none⟩), .pointer (some ⟨bh, 0, none⟩)]] w fun e w' => e = .returned (.int .i64 (idxOf (outB lo hi) xs)) ∧ Below w.heap.size w w' := by
  obtain ⟨a, ca, rfl, _, _, hx⟩ := hx0.form
  clear hx0
  go_enter Try.func84, Try.ntmps84
  go_wp2
  go_loopw [5, 8] (fun j i wr => ∃ k : Nat, k ≤ xs.length ∧ i = .int .i64 k ∧ (∀ i, i < k → outB lo hi (xs[i]?.getD 0) = false) ∧ Below w.heap.size w wr) (fun _ i _ => xs.length - (intOf i).toNat)
  case atStart => exact ⟨0, Nat.zero_le _, rfl, by intro i h1; omega, Below.refl _ _⟩
  case round =>
    obtain ⟨k, hk, rfl, ht, hB⟩ := hrel
    have HT := Lib.hid ht; clear ht
    by_cases hlt : k < xs.length
    · obtain ⟨bx, ox, rfl, hbx, hcx⟩ := hx (by omega)
      have gx := (hB.cell (p := ⟨bx, ox + k, none⟩) hbx).trans (hcx k hlt)
      have g1 := (hB.cell (p := ⟨bl, 0, none⟩) hb1).trans h1
      have g2 := (hB.cell (p := ⟨bh, 0, none⟩) hb2).trans h2
      clear hx hcx
      generalize hp : xs[k]?.getD 0 = p at *
      have HP := Lib.hid hp; clear hp
      go_wp2_with (go_at_call 78; refine (withinf_any _ _ _ _ _ _ g1 g2).mono ?_)
      rintro e w2 ⟨rfl, hB2⟩
      have hB3 := hB.trans (hB2.mono hB.size)
      cases hb : outB lo hi p
      · go_wp2
        go_roundw
        case rel =>
          refine ⟨k + 1, by omega, by go_num, fun i h1 => ?_, hB3⟩
          by_cases e : i = k
          · subst e; rw [HP.out]; exact hb
          · exact HT.out i (by omega)
        case measure => simp [intOf]; omega
      · go_wp2
        go_ret
        exact ⟨ret_int (find_none_step HT.out hlt (by rw [HP.out]; exact hb)).symm, hB3⟩
    · go_wp2
      go_ret
      exact ⟨ret_int (find_none fun i hi => HT.out i (by omega)).symm, hB⟩

set_option maxRecDepth 100000 in
set_option maxHeartbeats 400000 in
theorem containsf_any (x : Value) (xs : List Int) (lo hi : Int) (bl bh : Nat) (w : World) (hx0 : RdI w .i64 x xs) (hl : xs.length ≤ 1000)
    (h1 : w.cell? ⟨bl, 0, none⟩ = some (.int .i64 lo)) (h2 : w.cell? ⟨bh, 0, none⟩ = some (.int .i64 hi)) (hb1 : bl < w.heap.size) (hb2 : bh < w.heap.size) :
    Calls Try.prog 77 #[x, .func (.func 78) #[] #[.pointer (some ⟨bl, 0, none⟩), .pointer (some ⟨bh, 0, none⟩)]] w fun e w' => e = .returned (.bool (xs.any (outB lo hi))) ∧ Below w.heap.size w w' := by
  go_enter Try.func77, Try.ntmps77
  go_wp2_with (go_at_call 84; refine (indexf_any _ _ _ _ _ _ _ hx0 hl h1 h2 hb1 hb2).mono ?_)
  rintro e w2 ⟨rfl, hB2⟩
  have H := Lib.hid (idxOf_any (outB lo hi) xs)
  go_wp2
  go_ret
  exact ⟨ret_bool H.out, hB2⟩

set_option maxRecDepth 100000 in
set_option maxHeartbeats 400000 in
theorem within_any (x : Value) (xs : List Int) (lo hi : Int) (w : World) (hx0 : RdI w .i64 x xs) (hl : xs.length ≤ 1000) :
    Calls Try.prog 62 #[.int .i64 lo, .int .i64 hi, x] w fun e w' => e = .returned (.bool (!xs.any (outB lo hi))) ∧ Below w.heap.size w w' := by
  go_enter Try.func62, Try.ntmps62
  go_wp2_with (go_at_call 77; refine (containsf_any _ xs lo hi w.heap.size (w.heap.size + 1) _ ?_ hl ?_ ?_ ?_ ?_).mono ?_)
  · exact hx0.mono (((Below.refl _ _).alloc (Nat.le_refl _) _).alloc (by simp) _)
  · simp
  · simp
  · simp; omega
  · simp
  rintro e w2 ⟨rfl, hB2⟩
  go_wp2
  go_ret
  exact ⟨rfl, btr (bal (bal (bz _) _) _) hB2⟩
end Go.Proofs.Ytdnaipiiponhpaa

namespace Go.Proofs.Ytdnaipiiponhpaa
open Go.RowKit

/-- A valve that a row of p places cannot have. -/
def oddV (p : Int) (v : Int × Int) : Bool := outB 0 (p - 1) v.1 || outB 0 (p - 1) v.2 || decide (v.2 ≤ v.1)

set_option maxRecDepth 100000 in
set_option maxHeartbeats 400000 in
theorem oddf_any (x y p : Int) (br : Nat) (w : World) (h1 : w.cell? ⟨br, 0, none⟩ = some (.int .i64 p)) (hbr : br < w.heap.size) (hp1 : 1 ≤ p) (hp2 : p ≤ 8) :
    Calls Try.prog 61 #[.agg #[.int .i64 x, .int .i64 y], .pointer (some ⟨br, 0, none⟩)] w fun e w' => e = .returned (.bool (oddV p (x, y))) ∧ Below w.heap.size w w' := by
  have hW : ∀ w2 : World, Below (w.alloc (.cells #[.int .i64 x, .int .i64 y] 59)).heap.size (w.alloc (.cells #[.int .i64 x, .int .i64 y] 59)) w2 → RdI w2 .i64 (.slice (some ⟨w.heap.size, 0, none⟩) 2 2) [x, y] := by
    intro w2 hb
    refine RdI.mono (w := w.alloc (.cells #[.int .i64 x, .int .i64 y] 59)) ?_ hb
    refine ⟨_, _, rfl, by simp, by unfold maxLen; omega, fun _ => ⟨_, _, rfl, by simp, fun j u hj => ?_⟩⟩
    match j, hj with
    | 0, hj => simp at hj; simp [← hj]
    | 1, hj => simp at hj; simp [← hj]
  cases hw : [x, y].any (outB 0 (p - 1))
  · have e : oddV p (x, y) = decide (y ≤ x) := by simp at hw; simp [oddV, hw]
    rw [e]; clear e
    have HW := Lib.hid hw; clear hw
    have hL := @Later.cell (w.alloc (.cells #[.int .i64 x, .int .i64 y] 59))
    have HC := Lib.hid (fun l : Later (w.alloc (.cells #[.int .i64 x, .int .i64 y] 59)) => Calls.later (l := l) (within_any _ [x, y] 0 (p - 1) _ (hW _ l.le) (by simp)))
    rw [HW.out] at HC
    have hwr : IntKind.i64.wrap (p - 1) = p - 1 := IntWalk.i64_in _ (by omega)
    go_enter Try.func61, Try.ntmps61
    go_wp2
    refine wp_region_later (by kernel_rfl) (by kernel_rfl) ?_
    repeat (quiet_step ((go_at_call 62; exact HC.out _)))
    refine wpQuiet_nil ?_
    rintro _ ⟨⟨w2, hL2⟩, rfl⟩
    go_wp2
    go_ret
    exact ⟨ret_bool (by simp), btr (bal (bz _) _) hL2⟩
  · have e : oddV p (x, y) = true := by simp at hw; simp [oddV]; rcases hw with h | h <;> simp [h]
    rw [e]; clear e
    have HW := Lib.hid hw; clear hw
    have hL := @Later.cell (w.alloc (.cells #[.int .i64 x, .int .i64 y] 59))
    have HC := Lib.hid (fun l : Later (w.alloc (.cells #[.int .i64 x, .int .i64 y] 59)) => Calls.later (l := l) (within_any _ [x, y] 0 (p - 1) _ (hW _ l.le) (by simp)))
    rw [HW.out] at HC
    have hwr : IntKind.i64.wrap (p - 1) = p - 1 := IntWalk.i64_in _ (by omega)
    go_enter Try.func61, Try.ntmps61
    go_wp2
    refine wp_region_later (by kernel_rfl) (by kernel_rfl) ?_
    repeat (quiet_step ((go_at_call 62; exact HC.out _)))
    refine wpQuiet_nil ?_
    rintro _ ⟨⟨w2, hL2⟩, rfl⟩
    go_wp2
    go_ret
    exact ⟨ret_bool (by simp), btr (bal (bz _) _) hL2⟩
end Go.Proofs.Ytdnaipiiponhpaa

namespace Go.Proofs.Ytdnaipiiponhpaa
open Go.RowKit

set_option maxRecDepth 100000 in
set_option maxHeartbeats 400000 in
theorem indexp_any (x : Value) (V : List (Int × Int)) (p : Int) (br : Nat) (w : World) (hx0 : RdP w x V) (hl : V.length ≤ 1000)
    (h1 : w.cell? ⟨br, 0, none⟩ = some (.int .i64 p)) (hbr : br < w.heap.size) (hp1 : 1 ≤ p) (hp2 : p ≤ 8) :
    Calls Try.prog 79 #[x, .func (.func 61) #[] #[.pointer (some ⟨br, 0, none⟩)]] w fun e w' => e = .returned (.int .i64 (idxOf (oddV p) V)) ∧ Below w.heap.size w w' := by
  obtain ⟨a, ca, rfl, _, _, hx⟩ := hx0.form
  clear hx0
  go_enter Try.func79, Try.ntmps79
  go_wp2
  go_loopw [5, 8] (fun j i wr => ∃ k : Nat, k ≤ V.length ∧ i = .int .i64 k ∧ (∀ i, i < k → oddV p (V[i]?.getD (0, 0)) = false) ∧ Below w.heap.size w wr) (fun _ i _ => V.length - (intOf i).toNat)
  case atStart => exact ⟨0, Nat.zero_le _, rfl, by intro i h1; omega, bz _⟩
  case round =>
    obtain ⟨k, hk, rfl, ht, hB⟩ := hrel
    have HT := Lib.hid ht; clear ht
    by_cases hlt : k < V.length
    · obtain ⟨bx, ox, rfl, hbx, hcx⟩ := hx (by omega)
      have gx := (hB.cell (p := ⟨bx, ox + k * 2, none⟩) hbx).trans (hcx k hlt).1
      have gy := (hB.cell (p := ⟨bx, ox + k * 2 + 1, none⟩) hbx).trans (hcx k hlt).2
      have g1 := (hB.cell (p := ⟨br, 0, none⟩) hbr).trans h1
      have hbr' : br < wr.heap.size := Nat.lt_of_lt_of_le hbr hB.size
      clear hx hcx
      generalize hp : V[k]?.getD (0, 0) = q at *
      have HP := Lib.hid hp; clear hp
      obtain ⟨q1, q2⟩ := q
      go_wp2_with fail
      refine (oddf_any _ _ _ _ _ g1 hbr' hp1 hp2).mono ?_
      rintro e w2 ⟨rfl, hB2⟩
      have hB3 := btr hB hB2
      cases hb : oddV p (q1, q2)
      · go_wp2
        go_roundw
        case rel =>
          refine ⟨k + 1, by omega, by go_num, fun i h1 => ?_, hB3⟩
          by_cases e : i = k
          · subst e; rw [HP.out]; exact hb
          · exact HT.out i (by omega)
        case measure => simp [intOf]; omega
      · go_wp2
        go_ret
        exact ⟨ret_int (find_none_step HT.out hlt (by rw [HP.out]; exact hb)).symm, hB3⟩
    · go_wp2
      go_ret
      exact ⟨ret_int (find_none fun i hi => HT.out i (by omega)).symm, hB⟩

set_option maxRecDepth 100000 in
set_option maxHeartbeats 400000 in
theorem containsp_any (x : Value) (V : List (Int × Int)) (p : Int) (br : Nat) (w : World) (hx0 : RdP w x V) (hl : V.length ≤ 1000)
    (h1 : w.cell? ⟨br, 0, none⟩ = some (.int .i64 p)) (hbr : br < w.heap.size) (hp1 : 1 ≤ p) (hp2 : p ≤ 8) :
    Calls Try.prog 63 #[x, .func (.func 61) #[] #[.pointer (some ⟨br, 0, none⟩)]] w fun e w' => e = .returned (.bool (V.any (oddV p))) ∧ Below w.heap.size w w' := by
  go_enter Try.func63, Try.ntmps63
  go_wp2_with (go_at_call 79; refine (indexp_any _ _ _ _ _ hx0 hl h1 hbr hp1 hp2).mono ?_)
  rintro e w2 ⟨rfl, hB2⟩
  have H := Lib.hid (idxOf_any (oddV p) V)
  go_wp2
  go_ret
  exact ⟨ret_bool H.out, hB2⟩

/-- What CheckRow returns. -/
def checkR (p : Int) (V : List (Int × Int)) : Int := if p < 1 ∨ 8 < p ∨ 40 < V.length then 6 else if V.any (oddV p) then 2 else 0

theorem one_slice {w : World} {p : Int} {b : Nat} (h : w.cell? ⟨b, 0, none⟩ = some (.int .i64 p)) (hb : b < w.heap.size) : RdI w .i64 (.slice (some ⟨b, 0, none⟩) 1 1) [p] := by
  refine ⟨_, _, rfl, by simp, by unfold maxLen; omega, fun _ => ⟨_, _, rfl, hb, fun j u hj => ?_⟩⟩
  match j, hj with
  | 0, hj => simp at hj; subst hj; exact h

set_option maxRecDepth 100000 in
set_option maxHeartbeats 400000 in
theorem checkrow_any (p : Int) (x : Value) (V : List (Int × Int)) (w : World) (hx0 : RdP w x V) (hl : V.length ≤ 1000) :
    Calls Try.prog 20 #[.agg #[.int .i64 p, x]] w fun e w' => e = .returned (.int .i64 (checkR p V)) ∧ Below w.heap.size w w' := by
  obtain ⟨a, ca, rfl, _, _, hx⟩ := hx0.form
  by_cases hp : p < 1 ∨ 8 < p
  · have e : checkR p V = 6 := by unfold checkR; rw [if_pos (by omega)]
    rw [e]; clear e
    have hw : [p].any (outB 1 8) = true := by simp [outB]; omega
    have HW := Lib.hid hw; clear hw
    go_enter Try.func20, Try.ntmps20
    go_wp2_with fail
    refine (within_any _ [p] _ _ _ (one_slice (by simp) (by simp)) (by simp)).mono ?_
    rintro e w2 ⟨rfl, hB2⟩
    rw [HW.out]
    go_wp2
    go_ret
    exact ⟨rfl, btr (bal (bal (bz _) _) _) hB2⟩
  · have hw : [p].any (outB 1 8) = false := by simp [outB]; omega
    have HW := Lib.hid hw; clear hw
    by_cases hn : 40 < V.length
    · have e : checkR p V = 6 := by unfold checkR; rw [if_pos (by omega)]
      rw [e]; clear e
      go_enter Try.func20, Try.ntmps20
      go_wp2_with fail
      refine (within_any _ [p] _ _ _ (one_slice (by simp) (by simp)) (by simp)).mono ?_
      rintro e w2 ⟨rfl, hB2⟩
      rw [HW.out]
      obtain ⟨hc, hf⟩ := bcell hB2
      go_wp2
      go_ret
      exact ⟨rfl, btr (bal (bal (bz _) _) _) hB2⟩
    · cases hb : V.any (oddV p)
      all_goals
        have e : checkR p V = if V.any (oddV p) then 2 else 0 := by unfold checkR; rw [if_neg (by omega)]
        rw [e, hb]; clear e
        have HV := Lib.hid hb; clear hb
        go_enter Try.func20, Try.ntmps20
        go_wp2_with fail
        refine (within_any _ [p] _ _ _ (one_slice (by simp) (by simp)) (by simp)).mono ?_
        rintro e w2 ⟨rfl, hB2⟩
        rw [HW.out]
        obtain ⟨hc, hf⟩ := bcell hB2
        have hz := hB2.size
        simp only [World.size_alloc] at hz
        go_wp2_with fail
        have hB1 := btr (bal (bal (bz w) _) _) hB2
        refine (containsp_any _ V p w.heap.size _ (hx0.mono hB1) (by omega) ?_ (by omega) (by omega) (by omega)).mono ?_
        · rw [hc _ _ (by simp; omega)]; simp
        rintro e w3 ⟨rfl, hB3⟩
        rw [HV.out]
        go_wp2
        go_ret
        exact ⟨rfl, btr hB1 hB3⟩

/-- A valid row. -/
structure OkRow (p : Int) (V : List (Int × Int)) : Prop where
  p1 : 1 ≤ p
  p8 : p ≤ 8
  len : V.length ≤ 40
  ok : ∀ v ∈ V, 0 ≤ v.1 ∧ v.1 < v.2 ∧ v.2 < p

theorem okRow_of {p : Int} {V : List (Int × Int)} (h : checkR p V = 0) : OkRow p V := by
  unfold checkR at h
  split at h
  · omega
  · split at h
    · omega
    · rename_i h1 h2
      refine ⟨by omega, by omega, by omega, fun v hv => ?_⟩
      simp only [Bool.not_eq_true, List.any_eq_false] at h2
      have := h2 v hv
      simp [oddV, outB] at this
      omega
theorem check_of_ok {p : Int} {V : List (Int × Int)} (h : OkRow p V) : checkR p V = 0 := by
  have h1 := h.p1; have h2 := h.p8; have h3 := h.len
  unfold checkR
  rw [if_neg (by omega), if_neg]
  simp only [Bool.not_eq_true, List.any_eq_false]
  intro v hv
  have := h.ok v hv
  simp [oddV, outB]
  omega

/-- What open returns: the bench, a box with the row in it. -/
def IsBench (w : World) (b : Nat) (p : Int) (x : Value) : Prop := b < w.heap.size ∧ w.cell? ⟨b, 0, none⟩ = some (.int .i64 p) ∧ w.cell? ⟨b, 1, none⟩ = some x
theorem IsBench.mono {w w' : World} {b : Nat} {p : Int} {x : Value} (h : IsBench w b p x) (hb : Below w.heap.size w w') : IsBench w' b p x :=
  ⟨Nat.lt_of_lt_of_le h.1 hb.size, (hb.cell (p := ⟨b, 0, none⟩) h.1).trans h.2.1, (hb.cell (p := ⟨b, 1, none⟩) h.1).trans h.2.2⟩

def OpenOk (w : World) (p : Int) (x : Value) (e : Ending) (w' : World) : Prop := ∃ b, e = .returned (.tuple #[.pointer (some ⟨b, 0, none⟩), .int .i64 0]) ∧ w.heap.size ≤ b ∧ IsBench w' b p x ∧ Below w.heap.size w w'

set_option maxRecDepth 100000 in
set_option maxHeartbeats 400000 in
theorem open_no (p : Int) (x : Value) (V : List (Int × Int)) (w : World) (hx0 : RdP w x V) (hl : V.length ≤ 1000) (h : checkR p V ≠ 0) :
    Calls Try.prog 57 #[.agg #[.int .i64 p, x]] w fun e w' => e = .returned (.tuple #[.pointer none, .int .i64 (checkR p V)]) ∧ Below w.heap.size w w' := by
  obtain ⟨a, ca, rfl, _, _, _⟩ := hx0.form
  generalize hc : checkR p V = c at *
  have HC := Lib.hid hc; clear hc
  have hcb : (c != 0) = true := by simpa using h
  have hce : (c == 0) = false := by simpa using h
  clear h
  go_enter Try.func57, Try.ntmps57
  go_wp2_with fail
  refine (checkrow_any _ _ V _ (hx0.mono (bal (bz _) _)) hl).mono ?_
  rintro e w2 ⟨rfl, hB2⟩
  rw [HC.out]
  go_wp2
  go_ret2
  exact ⟨rfl, btr (bal (bz _) _) hB2⟩

set_option maxRecDepth 100000 in
set_option maxHeartbeats 400000 in
theorem open_ok (p : Int) (x : Value) (V : List (Int × Int)) (w : World) (hx0 : RdP w x V) (h : OkRow p V) :
    Calls Try.prog 57 #[.agg #[.int .i64 p, x]] w (OpenOk w p x) := by
  have hl := h.len
  obtain ⟨a, ca, rfl, _, _, _⟩ := hx0.form
  have HC := Lib.hid (check_of_ok h)
  go_enter Try.func57, Try.ntmps57
  go_wp2_with fail
  refine (checkrow_any _ _ V _ (hx0.mono (bal (bz _) _)) (by omega)).mono ?_
  rintro e w2 ⟨rfl, hB2⟩
  rw [HC.out]
  obtain ⟨hcc, hf⟩ := bcell hB2
  have hz := hB2.size
  simp only [World.size_alloc] at hz
  go_wp2
  go_ret2
  refine ⟨_, rfl, ?_, ⟨?_, ?_, ?_⟩, bal (btr (bal (bz _) _) hB2) _⟩
  · omega
  · simp
  · simp
  · simp
end Go.Proofs.Ytdnaipiiponhpaa

namespace Go.Proofs.Ytdnaipiiponhpaa
open Go.RowKit

theorem oddV_iff {p : Int} {v : Int × Int} : oddV p v = decide (v.1 < 0 ∨ v.2 ≤ v.1 ∨ p ≤ v.2) := by
  rw [Bool.eq_iff_iff]; simp [oddV, outB]; omega

set_option maxRecDepth 100000 in
set_option maxHeartbeats 400000 in
theorem rcheck_any (p : Int) (x : Value) (V : List (Int × Int)) (w : World) (hx0 : RdP w x V) (hl : V.length ≤ 1000) :
    Calls Try.prog 21 #[.agg #[.int .i64 p, x]] w fun e w' => e = .returned (.int .i64 (checkR p V)) ∧ Below w.heap.size w w' := by
  obtain ⟨a, ca, rfl, _, _, hx⟩ := hx0.form
  clear hx0
  by_cases hp : p < 1 ∨ 8 < p ∨ 40 < V.length
  · have e : checkR p V = 6 := by unfold checkR; rw [if_pos (by omega)]
    rw [e]; clear e
    by_cases h1 : p < 1
    · go_enter Try.func21, Try.ntmps21
      go_wp2
      go_ret
      exact ⟨rfl, bal (bz _) _⟩
    · by_cases h2 : 8 < p
      · go_enter Try.func21, Try.ntmps21
        go_wp2
        go_ret
        exact ⟨rfl, bal (bz _) _⟩
      · have h3 : 40 < V.length := by omega
        go_enter Try.func21, Try.ntmps21
        go_wp2
        go_ret
        exact ⟨rfl, bal (bz _) _⟩
  · have e : checkR p V = if V.any (oddV p) then 2 else 0 := by unfold checkR; rw [if_neg (by omega)]
    rw [e]; clear e
    have hp1 : 1 ≤ p := by omega
    have hp2 : p ≤ 8 := by omega
    have hp3 : V.length ≤ 40 := by omega
    clear hp
    have d1 : decide (p < 1) = false := by simp; omega
    have d2 : decide (8 < p) = false := by simp; omega
    have d3 : decide ((40 : Int) < V.length) = false := by simp; omega
    generalize hr : (if V.any (oddV p) then (2 : Int) else 0) = r
    have HR := Lib.hid hr; clear hr
    go_enter Try.func21, Try.ntmps21
    go_wp2
    go_loopw [3, 4] (fun i v wr => ∃ k : Nat, k ≤ V.length ∧ i = .int .i64 k ∧ (∀ i, i < k → oddV p (V[i]?.getD (0, 0)) = false) ∧ Below w.heap.size w wr ∧ wr.cell? ⟨w.heap.size, 0, none⟩ = some (.int .i64 p) ∧ wr.cell? ⟨w.heap.size, 1, none⟩ = some (.slice a V.length ca) ∧ w.heap.size < wr.heap.size) (fun i _ _ => V.length - (intOf i).toNat)
    case atStart => exact ⟨0, Nat.zero_le _, rfl, by intro i h1; omega, bal (bz _) _, by simp, by simp, by simp⟩
    case round =>
      obtain ⟨k, hk, rfl, ht, hB, hc0, hc1, hwz⟩ := hrel
      have HT := Lib.hid ht; clear ht
      by_cases hlt : k < V.length
      · obtain ⟨bx, ox, rfl, hbx, hcx⟩ := hx (by omega)
        have gx := (hB.cell (p := ⟨bx, ox + k * 2, none⟩) hbx).trans (hcx k hlt).1
        have gy := (hB.cell (p := ⟨bx, ox + k * 2 + 1, none⟩) hbx).trans (hcx k hlt).2
        clear hx hcx
        generalize hp : V[k]?.getD (0, 0) = q at *
        have HP := Lib.hid hp; clear hp
        obtain ⟨q1, q2⟩ := q
        have HO := Lib.hid (oddV_iff (p := p) (v := (q1, q2)))
        have fin : oddV p (q1, q2) = true → (2 : Int) = r := fun h => by
          rw [← HR.out, if_pos]
          rw [List.any_eq_true]
          exact ⟨_, List.getElem_mem hlt, by have := HP.out; simp [hlt] at this; rw [this]; exact h⟩
        have FIN := Lib.hid fin; clear fin
        by_cases b1 : q1 < 0
        · go_wp2
          go_ret
          exact ⟨ret_int (FIN.out (by rw [HO.out]; simp; omega)), bal hB _⟩
        · by_cases b2 : q2 ≤ q1
          · go_wp2
            go_ret
            exact ⟨ret_int (FIN.out (by rw [HO.out]; simp; omega)), bal hB _⟩
          · by_cases b3 : p ≤ q2
            · go_wp2
              go_ret
              exact ⟨ret_int (FIN.out (by rw [HO.out]; simp; omega)), bal hB _⟩
            · go_wp2
              go_roundw
              case rel =>
                refine ⟨k + 1, by omega, by go_num, fun i h1 => ?_, bal hB _, ?_, ?_, ?_⟩
                · by_cases e : i = k
                  · subst e; rw [HP.out, HO.out]; simp; omega
                  · exact HT.out i (by omega)
                · exact (World.cell?_of_block (w := wr) (Below.heap_alloc wr _ _ hwz)).trans hc0
                · exact (World.cell?_of_block (w := wr) (Below.heap_alloc wr _ _ hwz)).trans hc1
                · simp; omega
              case measure => simp [intOf]; omega
      · go_wp2
        go_ret
        refine ⟨ret_int ?_, hB⟩
        rw [← HR.out, if_neg]
        rw [Bool.not_eq_true, List.any_eq_false]
        intro v hv
        obtain ⟨i, hi, rfl⟩ := List.getElem_of_mem hv
        have := HT.out i (by omega)
        simpa [hi] using this
end Go.Proofs.Ytdnaipiiponhpaa

namespace Go.Proofs.Ytdnaipiiponhpaa
open Go.RowKit

/-- What a valve does to the values. -/
def stepV (l : List Int) (v : Int × Int) : List Int :=
  if l[v.2.toNat]?.getD 0 < l[v.1.toNat]?.getD 0 then (l.set v.1.toNat (l[v.2.toNat]?.getD 0)).set v.2.toNat (l[v.1.toNat]?.getD 0) else l
/-- .. and a row. -/
def runV (V : List (Int × Int)) (l : List Int) : List Int := V.foldl stepV l
theorem stepV_length (l : List Int) (v : Int × Int) : (stepV l v).length = l.length := by unfold stepV; split <;> simp
theorem runV_length (V : List (Int × Int)) : ∀ l : List Int, (runV V l).length = l.length := by
  induction V with
  | nil => intro l; rfl
  | cons v V ih => intro l; simp only [runV, List.foldl_cons] at ih ⊢; rw [ih, stepV_length]
theorem runV_snoc (V : List (Int × Int)) (k : Nat) (hk : k < V.length) (l : List Int) : runV (V.take (k + 1)) l = stepV (runV (V.take k) l) (V[k]?.getD (0, 0)) := by
  rw [List.take_succ_eq_append_getElem hk]; simp only [runV, List.foldl_append, List.foldl_cons, List.foldl_nil, hk, List.getElem?_eq_getElem, Option.getD_some]

def arrI (l : List Int) : Array Value := (l.map (Value.int .i64)).toArray
theorem arrI_size (l : List Int) : (arrI l).size = l.length := by simp [arrI]
theorem arrI_get (l : List Int) (i : Nat) (h : i < l.length) : (arrI l)[i]? = some (.int .i64 (l[i]?.getD 0)) := by simp [arrI, h]
theorem arrI_set (l : List Int) (i : Nat) (x : Int) : (arrI l).setIfInBounds i (.int .i64 x) = arrI (l.set i x) := by simp [arrI, List.map_set]

set_option maxRecDepth 100000 in
set_option maxHeartbeats 800000 in
theorem run_any (bb : Nat) (p : Int) (x : Value) (V : List (Int × Int)) (l : List Int) (n : Nat) (w : World) (hb : IsBench w bb p x) (hx0 : RdP w x V) (hn : n ≤ V.length) (hV : OkRow p V) (hl : l.length = 8) :
    Calls Try.prog 58 #[.pointer (some ⟨bb, 0, none⟩), .agg (arrI l), .int .i64 n] w fun e w' => e = .returned (.agg (arrI (runV (V.take n) l))) ∧ Below w.heap.size w w' := by
  obtain ⟨a, ca, rfl, hca, hca2, hx⟩ := hx0.form
  obtain ⟨hb0, hb1, hb2⟩ := hb
  have h40 := hV.len
  have HL := Lib.hid hl; clear hl
  have hsl : n ≤ ca := by omega
  clear hx0
  go_enter Try.func58, Try.ntmps58
  go_wp2
  go_loopw [8, 17] (fun v i wr => ∃ k : Nat, k ≤ n ∧ i = .int .i64 k ∧ wr.heap[w.heap.size]? = some (.cells (arrI (runV (V.take k) l)) 75 (0, 0)) ∧
      wr.heap[w.heap.size + 1]? = some (.cells (arrI [0,0,0,0,0,0,0,0]) 75 (0, 0)) ∧ Below w.heap.size w wr) (fun _ i _ => n - (intOf i).toNat)
  case atStart => exact ⟨0, Nat.zero_le _, rfl, by rw [Below.heap_alloc _ _ _ (by simp)]; exact heap_alloc_new w _, heap_alloc2_new w _ _, bal (bal (bz _) _) _⟩
  case round =>
    obtain ⟨k, hk, rfl, hr, hr2, hB⟩ := hrel
    have hwz : w.heap.size + 1 < wr.heap.size := (Array.getElem?_eq_some_iff.1 hr2).1
    have hwz0 : w.heap.size < wr.heap.size := by omega
    by_cases hlt : k < n
    · obtain ⟨bx, ox, rfl, hbx, hcx⟩ := hx (by omega)
      have gx := (hB.cell (p := ⟨bx, ox + k * 2, none⟩) hbx).trans (hcx k (by omega)).1
      have gy := (hB.cell (p := ⟨bx, ox + k * 2 + 1, none⟩) hbx).trans (hcx k (by omega)).2
      have hbx' : bx < wr.heap.size := by omega
      clear hx hcx
      have hs := runV_snoc V k (by omega) l
      have hm : V[k]?.getD (0, 0) ∈ V := by rw [List.getElem?_eq_getElem (by omega)]; exact List.getElem_mem _
      have hrl : (runV (V.take k) l).length = 8 := by rw [runV_length]; exact HL.out
      generalize V[k]?.getD (0, 0) = q at *
      generalize runV (V.take k) l = r at *
      obtain ⟨q1, q2⟩ := q
      obtain ⟨o1, o2, o3⟩ := hV.ok _ hm
      have o4 := hV.p8
      simp only at o1 o2 o3
      obtain ⟨i, rfl⟩ : ∃ i : Nat, q1 = i := ⟨q1.toNat, by omega⟩
      obtain ⟨j, rfl⟩ : ∃ j : Nat, q2 = j := ⟨q2.toNat, by omega⟩
      have ci := (cell_of_row wr w.heap.size i _ _ _ hr).trans (arrI_get r i (by omega))
      have cj := (cell_of_row wr w.heap.size j _ _ _ hr).trans (arrI_get r j (by omega))
      have fi := frozen_of_row wr w.heap.size i _ _ hr
      have fj := frozen_of_row wr w.heap.size j _ _ hr
      have hs2 : runV (V.take (k+1)) l = if r[j]?.getD 0 < r[i]?.getD 0 then (r.set i (r[j]?.getD 0)).set j (r[i]?.getD 0) else r := by rw [hs]; rfl
      generalize hxv : r[i]?.getD 0 = x at *
      generalize hyv : r[j]?.getD 0 = y at *
      have H1 := Lib.hid hs2; have H2 := Lib.hid hr; have H3 := Lib.hid hr2; have H4 := Lib.hid hrl
      clear hs hs2 hr hr2 hrl hm hxv hyv
      have hi8 : (i : Int) < 8 := by omega
      have hj8 : (j : Int) < 8 := by omega
      by_cases hxy : y < x
      · go_wp2
        go_quiet (fail)
        go_wp2
        go_region
        go_wp2
        go_roundw
        case rel =>
          have hx0 : (((wr.alloc (.cells #[.int .i64 (i : Int), .int .i64 (j : Int)] 59)).drewN (nq + 1)).heap)[w.heap.size]? = some (.cells (arrI r) 75 (0, 0)) := (Below.heap_alloc wr _ _ hwz0).trans H2.out
          have hx1 := heap_setCell_same _ _ i _ _ (.int .i64 y) hx0
          have hx2 := heap_setCell_same _ _ j _ _ (.int .i64 x) hx1
          rw [arrI_set, arrI_set] at hx2
          refine ⟨k + 1, by omega, by go_num, ?_, ?_, bset (bset (Below.drewN' _ (bal hB _)) (Nat.le_refl _) _) (Nat.le_refl _) _⟩
          · rw [H1.out, if_pos hxy]; exact hx2
          · rw [heap_setCell_other _ _ _ _ (by simp), heap_setCell_other _ _ _ _ (by simp)]; exact (Below.heap_alloc wr _ _ hwz).trans H3.out
        case measure => simp [intOf]; omega
      · go_wp2
        go_quiet (fail)
        go_wp2
        go_roundw
        case rel =>
          refine ⟨k + 1, by omega, by go_num, ?_, ?_, Below.drewN' _ (bal hB _)⟩
          · rw [H1.out, if_neg (by omega)]; exact (Below.heap_alloc _ _ _ (by omega)).trans H2.out
          · exact (Below.heap_alloc _ _ _ (by omega)).trans H3.out
        case measure => simp [intOf]; omega
    · obtain rfl : k = n := by omega
      generalize hrr : runV (V.take k) l = r at *
      have hrl : r.length = 8 := by rw [← hrr, runV_length]; exact HL.out
      have HRL := Lib.hid hrl
      have hz : (Try.prog.info? 75).map (·.size) = some 8 := by kernel_rfl
      have HZ := Lib.hid hz; clear hz
      have hone : (arrI r).all (·.oneCell') = true := by simp [arrI, Value.oneCell']
      have HONE := Lib.hid hone; clear hone hrl
      have HR := Lib.hid hr; have HR2 := Lib.hid hr2
      clear hr hr2
      go_wp2_with (first
        | (refine wpList_load_row rfl 75 (.tmp 4) rfl w.heap.size rfl 75 (arrI r) (0, 0) _ HR.out Try.underlying75 rfl (by rw [arrI_size, HRL.out]; exact HZ.out) ?_)
        | (refine wpList_store_row rfl 75 (.tmp 6) (.tmp 45) rfl (w.heap.size + 1) (arrI r) rfl rfl 75 _ HR2.out (by rw [arrI_size, HRL.out]; exact HZ.out) (by rw [arrI_size, arrI_size, HRL.out]; rfl) HONE.out ?_))
      refine bodyPost_ret (results_cell_row rfl _ _ (w.heap.size + 1) 75 (arrI r) (0, 0) _ rfl (setRow_heap _ _ _ _ _ _ HR2.out) Try.underlying75 rfl (by rw [arrI_size, HRL.out]; exact HZ.out)) rfl ⟨by rw [hrr], ?_⟩
      exact hB.trans ⟨rfl, rfl, rfl, by simp, fun t ht => setRow_other _ _ _ _ (by omega)⟩
end Go.Proofs.Ytdnaipiiponhpaa

namespace Go.Proofs.Ytdnaipiiponhpaa
open Go.RowKit

theorem Try.info2 : (Try.prog.info? 2).map (fun i => (i.zero, i.size, i.bytes)) = some (some (.int .i64 0), 1, 8) := by kernel_rfl

theorem RdC.news {w : World} {a : Option Addr} {cap n : Nat} {cs : List Value} (h : RdC w (.slice a n cap) n cs) (hne : cs ≠ []) :
    ∃ ad : Addr, a = some ad ∧ ad.spot = none ∧ ad.block < w.heap.size ∧ ∀ j u, cs[j]? = some u → w.cell? (ad.add j) = some u := by
  obtain ⟨a', cap', e, _, _, h⟩ := h
  simp only [Value.slice.injEq] at e
  obtain ⟨rfl, -, rfl⟩ := e
  obtain ⟨b, off, rfl, hb, hc⟩ := h hne
  refine ⟨_, rfl, rfl, hb, fun j u hj => ?_⟩
  have := hc j u hj
  have e : (⟨b, off, none⟩ : Addr).add j = ⟨b, off + j, none⟩ := by unfold Addr.add; split <;> simp_all
  rw [e]; exact this

theorem stepV_minmax (l : List Int) (i j : Nat) (hij : i < j) (hj : j < l.length) :
    (l.set i (if l[j]?.getD 0 < l[i]?.getD 0 then l[j]?.getD 0 else l[i]?.getD 0)).set j (if l[i]?.getD 0 < l[j]?.getD 0 then l[j]?.getD 0 else l[i]?.getD 0) = stepV l ((i : Int), (j : Int)) := by
  unfold stepV
  simp only [Int.toNat_natCast]
  split
  · rw [if_neg (by omega)]
  · rename_i h
    have hi : i < l.length := by omega
    simp only [hi, hj, List.getElem?_eq_getElem, Option.getD_some] at h ⊢
    have e : (if l[i] < l[j] then l[j] else l[i]) = l[j] := by split <;> omega
    rw [e, List.set_getElem_self, List.set_getElem_self]

set_option maxRecDepth 100000 in
set_option maxHeartbeats 1000000 in
theorem runof_any (x y : Value) (V : List (Int × Int)) (l : List Int) (w : World) (hx0 : RdP w x V) (hy0 : RdI w .i64 y l) (hn : 0 < l.length) (hn' : l.length ≤ 1000) (hvn : V.length ≤ 1000)
   (hV : ∀ v ∈ V, 0 ≤ v.1 ∧ v.1 < v.2 ∧ v.2 < l.length) :
    Calls Try.prog 60 #[x, y] w fun e w' => ∃ v, e = .returned v ∧ w'.ownsRow w.heap.size 2 1 v l.length ((runV V l).map (Value.int .i64)) ∧ Below w.heap.size w w' := by
  obtain ⟨a, ca, rfl, hca, hca2, hx⟩ := hx0.form
  obtain ⟨b, cb, rfl, hcb, hcb2, _⟩ := hy0.form
  obtain ⟨i0, hi, hz0, hz1, hz2⟩ := info_parts Try.info2
  obtain ⟨ad, rfl, hsp, hbd, hnews⟩ := RdC.news hy0 (by intro e; simp at e; subst e; simp at hn)
  have HX := Lib.hid hx0; have HY := Lib.hid hy0; clear hx0 hy0
  have hll : (l.map (Value.int .i64)).length = l.length * 1 := by simp
  have HLL := Lib.hid hll; clear hll
  have hc2 : ∀ u ∈ l.map (Value.int .i64), u.oneCell' = true := by intro u hu; simp at hu; obtain ⟨_, _, rfl⟩ := hu; rfl
  have HC2 := Lib.hid hc2; clear hc2
  have hnw : ∀ j u, (l.map (Value.int .i64))[j]? = some u → (w.alloc (.cells #[] 2)).cell? (ad.add j) = some u := by
    intro j u hj
    have := hnews j u hj
    have e : (ad.add j).block = ad.block := by unfold Addr.add; split <;> rfl
    exact (World.cell?_of_block (w := w) (by rw [e]; exact Below.heap_alloc _ _ _ hbd)).trans this
  have HNW := Lib.hid hnw; clear hnw hnews
  go_enter Try.func60, Try.ntmps60
  go_wp2_with (at_builtin; refine wpList_append_own _ rfl _ _ 25 rfl w.heap.size 2 i0 (.int .i64 0) 1 8 Try.underlying25 hi hz0 hz1 hz2 rfl (by decide) _ 0 [] rfl (World.ownsRow_made w #[] 0 (Nat.le_refl _) (by simp) (by simp)) ad l.length cb (l.map (Value.int .i64)) rfl HLL.out HNW.out HC2.out (by simp only [maxLen]; omega) (by omega) (by simp) ?_)
  intro v' w1 hown hgrow hnil
  clear hnil
  have hB1 : Below w.heap.size w w1 := bgr (bal (bz _) _) hgrow (by intro k h; simp [Value.ownBlock] at h; omega)
  clear hgrow
  obtain ⟨m, hm⟩ : ∃ m, l.length = m + 1 := ⟨l.length - 1, by omega⟩
  rw [hm] at hown
  obtain ⟨g, cap, rfl⟩ := ownsRow_succ hown
  rw [← hm] at hown
  have HM := Lib.hid hm; clear hm
  have hg := hown.lt g rfl
  rw [← HM.out]
  go_wp2
  go_loopw [6, 7, 8] (fun i a b wr => ∃ (k : Nat), k ≤ V.length ∧ i = .int .i64 k ∧ wr.ownsRow w.heap.size 2 1 (.slice (some ⟨g, 0, none⟩) l.length cap) l.length ((runV (V.take k) l).map (Value.int .i64)) ∧ Below w.heap.size w wr) (fun i a b _ => V.length - (intOf i).toNat)
  case atStart => exact ⟨0, Nat.zero_le _, rfl, hown, hB1⟩
  case round =>
    obtain ⟨k, hk, rfl, hown, hB⟩ := hrel
    by_cases hlt : k < V.length
    · obtain ⟨bx, ox, rfl, hbx, hcx⟩ := hx (by omega)
      have gx := (hB.cell (p := ⟨bx, ox + k * 2, none⟩) hbx).trans (hcx k (by omega)).1
      have gy := (hB.cell (p := ⟨bx, ox + k * 2 + 1, none⟩) hbx).trans (hcx k (by omega)).2
      have hbx' : bx < wr.heap.size := Nat.lt_of_lt_of_le hbx hB.size
      clear hx hcx
      have hs := runV_snoc V k (by omega) l
      have hmm : V[k]?.getD (0, 0) ∈ V := by rw [List.getElem?_eq_getElem (by omega)]; exact List.getElem_mem _
      have hrl : (runV (V.take k) l).length = l.length := runV_length _ _
      generalize V[k]?.getD (0, 0) = q at *
      generalize runV (V.take k) l = r at *
      obtain ⟨q1, q2⟩ := q
      obtain ⟨o1, o2, o3⟩ := hV _ hmm
      simp only at o1 o2 o3
      obtain ⟨i, rfl⟩ : ∃ i : Nat, q1 = i := ⟨q1.toNat, by omega⟩
      obtain ⟨j, rfl⟩ : ∃ j : Nat, q2 = j := ⟨q2.toNat, by omega⟩
      have hs2 := stepV_minmax r i j (by omega) (by omega)
      have ci := hown.cellAt i (by omega)
      have cj := hown.cellAt j (by omega)
      rw [List.getElem?_map, List.getElem?_eq_getElem (by omega)] at ci cj
      simp only [Option.map_some] at ci cj
      have e1 : r[i]?.getD 0 = r[i] := by rw [List.getElem?_eq_getElem (by omega)]; rfl
      have e2 : r[j]?.getD 0 = r[j] := by rw [List.getElem?_eq_getElem (by omega)]; rfl
      rw [e1, e2, ← hs] at hs2
      have fi := hown.frozenAt i
      have fj := hown.frozenAt j
      generalize r[i] = x at *
      generalize r[j] = y at *
      have HS := Lib.hid hs2; have HO := Lib.hid hown; have HRL := Lib.hid hrl
      clear hs hs2 hown hrl hmm e1 e2
      go_wp2
      go_quiet (fail)
      go_wp2
      go_region
      go_wp2
      go_roundw
      case rel =>
        have h0 : (wr.drewN (nq + 1)).ownsRow w.heap.size 2 1 (.slice (some ⟨g, 0, none⟩) l.length cap) l.length (r.map (Value.int .i64)) := HO.out
        have h1 := ((h0.stored i (.int .i64 (if y < x then y else x))).1.stored j (.int .i64 (if x < y then y else x))).1
        rw [← List.map_set, ← List.map_set] at h1
        refine ⟨k + 1, by omega, by go_num, ?_, bset (bset (Below.drewN' _ hB) hg.1 _) hg.1 _⟩
        rw [← HS.out]
        exact h1
      case measure => simp [intOf]; omega
    · obtain rfl : k = V.length := by omega
      rw [List.take_length] at hown
      go_wp2
      go_ret
      exact ⟨_, rfl, hown, hB⟩
end Go.Proofs.Ytdnaipiiponhpaa

namespace Go.Proofs.Ytdnaipiiponhpaa
open Go.RowKit

set_option maxRecDepth 100000 in
/-- slices.Clone at []int64, of a slice that is not empty. -/
theorem cloneI_any (y : Value) (l : List Int) (w : World) (hy0 : RdI w .i64 y l) (hn : 0 < l.length) (hn' : l.length ≤ 1000) :
    Calls Try.prog 59 #[y] w fun e w' => ∃ v, e = .returned v ∧ w'.ownsRow w.heap.size 2 1 v l.length (l.map (Value.int .i64)) ∧ Below w.heap.size w w' := by
  obtain ⟨b, cb, rfl, hcb, hcb2, _⟩ := hy0.form
  obtain ⟨i0, hi, hz0, hz1, hz2⟩ := info_parts Try.info2
  obtain ⟨ad, rfl, hsp, hbd, hnews⟩ := RdC.news hy0 (by intro e; simp at e; subst e; simp at hn)
  have HY := Lib.hid hy0; clear hy0
  have hll : (l.map (Value.int .i64)).length = l.length * 1 := by simp
  have HLL := Lib.hid hll; clear hll
  have hc2 : ∀ u ∈ l.map (Value.int .i64), u.oneCell' = true := by intro u hu; simp at hu; obtain ⟨_, _, rfl⟩ := hu; rfl
  have HC2 := Lib.hid hc2; clear hc2
  have hnw : ∀ j u, (l.map (Value.int .i64))[j]? = some u → (w.alloc (.cells #[] 2)).cell? (ad.add j) = some u := by
    intro j u hj
    have := hnews j u hj
    have e : (ad.add j).block = ad.block := by unfold Addr.add; split <;> rfl
    exact (World.cell?_of_block (w := w) (by rw [e]; exact Below.heap_alloc _ _ _ hbd)).trans this
  have HNW := Lib.hid hnw; clear hnw hnews
  have hnl := fun (w : World) (a : Option Addr) (n c : Nat) => Lib.run_eql_slice_nil (P := Try.prog) w 25 2 a n c 0 0 Try.underlying25
  go_enter Try.func59, Try.ntmps59
  go_wp2_with (at_builtin; refine wpList_append_own _ rfl _ _ 25 rfl w.heap.size 2 i0 (.int .i64 0) 1 8 Try.underlying25 hi hz0 hz1 hz2 rfl (by decide) _ 0 [] rfl (World.ownsRow_made w #[] 0 (Nat.le_refl _) (by simp) (by simp)) ad l.length cb (l.map (Value.int .i64)) rfl HLL.out HNW.out HC2.out (by simp only [maxLen]; omega) (by omega) (by simp) ?_)
  intro v' w1 hown hgrow hnil
  clear hnil
  have hB1 : Below w.heap.size w w1 := bgr (bal (bz _) _) hgrow (by intro k h; simp [Value.ownBlock] at h; omega)
  clear hgrow
  go_wp2
  go_ret
  exact ⟨_, rfl, hown, hB1⟩

set_option maxRecDepth 100000 in
set_option maxHeartbeats 400000 in
theorem bsorted_any (bb : Nat) (p : Int) (x : Value) (l : List Int) (w : World) (hb : IsBench w bb p x) (hp1 : 1 ≤ p) (hp2 : p ≤ 8) (hl : l.length = 8) :
    Calls Try.prog 64 #[.pointer (some ⟨bb, 0, none⟩), .agg (l.map (Value.int .i64)).toArray] w fun e w' => e = .returned (.bool (sortedB (l.take p.toNat))) ∧ Below w.heap.size w w' := by
  obtain ⟨hb0, hb1, hb2⟩ := hb
  obtain ⟨n, rfl⟩ : ∃ n : Nat, p = n + 1 := ⟨(p - 1).toNat, by omega⟩
  have e : ((n : Int) + 1).toNat = n + 1 := by omega
  rw [e]; clear e
  have hso := sortedB_iff (l.take (n + 1))
  have HSO := Lib.hid hso; clear hso
  generalize hsb : sortedB (l.take (n + 1)) = sb at *
  have HL := Lib.hid hl; clear hl
  have HSB := Lib.hid hsb; clear hsb
  go_enter Try.func64, Try.ntmps64
  go_wp2
  go_loopw [5, 12] (fun _ i wr => ∃ k : Nat, k ≤ n ∧ i = .int .i64 k ∧ (∀ i, 0 < i → i < k + 1 → l[i-1]?.getD 0 ≤ l[i]?.getD 0) ∧ wr.heap[w.heap.size]? = some (.cells (l.map (Value.int .i64)).toArray 75 (0, 0)) ∧ Below w.heap.size w wr) (fun _ i _ => n - (intOf i).toNat)
  case atStart => exact ⟨0, Nat.zero_le _, rfl, by intro i h1 h2; omega, heap_alloc_new w _, bal (bz _) _⟩
  case round =>
    obtain ⟨k, hk, rfl, ht, hr, hB⟩ := hrel
    have HT := Lib.hid ht; clear ht
    by_cases hlt : k < n
    · have c1 : wr.cell? ⟨w.heap.size, k, none⟩ = some (.int .i64 (l[k]?.getD 0)) := (cell_of_row wr w.heap.size k _ _ _ hr).trans (by have := HL.out; simp [show k < l.length by omega])
      have c2 : wr.cell? ⟨w.heap.size, k + 1, none⟩ = some (.int .i64 (l[k+1]?.getD 0)) := (cell_of_row wr w.heap.size (k + 1) _ _ _ hr).trans (by have := HL.out; simp [show k + 1 < l.length by omega])
      have hk8 : (k : Int) + 1 < 8 := by omega
      have hk9 : (k : Int) < 8 := by omega
      have hw1 : IntKind.i64.wrap ((k : Int) + 1) = (k : Int) + 1 := IntWalk.i64_in _ (by omega)
      have hw2 : (0 : Int) ≤ (k : Int) + 1 := by omega
      have hw3 : ((k : Int) + 1).toNat = k + 1 := by omega
      have HR := Lib.hid hr; clear hr
      by_cases he : l[k+1]?.getD 0 < l[k]?.getD 0
      · have fin : sb = false := by
          rw [← Bool.not_eq_true, HSO.out]
          intro h
          have hlen := HL.out
          have := h (k+1) (by omega) (by simp; omega)
          simp only [Nat.add_sub_cancel, List.getElem?_take, if_pos (show k < n + 1 by omega), if_pos (show k + 1 < n + 1 by omega)] at this
          omega
        have FIN := Lib.hid fin; clear fin
        generalize l[k+1]?.getD 0 = p at *
        generalize l[k]?.getD 0 = q at *
        go_wp2
        go_quiet (fail)
        clear hw1 hw2 hw3
        go_wp2
        go_ret
        exact ⟨ret_bool FIN.out.symm, Below.drewN' _ hB⟩
      · generalize hp : l[k+1]?.getD 0 = p at *
        generalize hq : l[k]?.getD 0 = q at *
        have HP := Lib.hid hp; have HQ := Lib.hid hq; clear hp hq
        go_wp2
        go_quiet (fail)
        clear hw1 hw2 hw3
        go_wp2
        go_roundw
        case rel =>
          refine ⟨k + 1, by omega, by go_num, fun i h1 h2 => ?_, HR.out, Below.drewN' _ hB⟩
          by_cases e : i = k + 1
          · subst e; simp only [Nat.add_sub_cancel, HP.out, HQ.out]; omega
          · exact HT.out i h1 (by omega)
        case measure => simp [intOf]; omega
    · go_wp2
      go_ret
      refine ⟨ret_bool ?_, hB⟩
      symm
      rw [HSO.out]
      intro i h1 h2
      simp at h2
      simp only [List.getElem?_take, if_pos (show i - 1 < n + 1 by omega), if_pos (show i < n + 1 by omega)]
      exact HT.out i h1 (by omega)
end Go.Proofs.Ytdnaipiiponhpaa

namespace Go.Proofs.Ytdnaipiiponhpaa
open Go.RowKit

theorem Try.info3 : (Try.prog.info? 3).map (fun i => (i.zero, i.size, i.bytes)) = some (some (.int .i64 0), 1, 8) := by kernel_rfl
theorem one_int (k : IntKind) (x : Int) : ∀ u ∈ [Value.int k x], u.oneCell' = true := by intro u hu; simp at hu; subst hu; rfl

set_option maxRecDepth 100000 in
set_option maxHeartbeats 400000 in
theorem rints_any (y : Value) (l : List Int) (w : World) (hy0 : RdI w .i64 y l) (hn' : l.length ≤ 1000) :
    Calls Try.prog 81 #[y] w fun e w' => ∃ v, e = .returned v ∧ w'.ownsRow w.heap.size 3 1 v l.length (l.map (Value.int .i64)) ∧ Below w.heap.size w w' := by
  obtain ⟨b, cb, rfl, hcb, hcb2, hy⟩ := hy0.form
  obtain ⟨i0, hi, hz0, hz1, hz2⟩ := info_parts Try.info3
  clear hy0
  go_enter Try.func81, Try.ntmps81
  go_wp2
  go_loopw [3, 4] (fun v i wr => ∃ k : Nat, k ≤ l.length ∧ i = .int .i64 k ∧ wr.ownsRow w.heap.size 3 1 v k ((l.take k).map (Value.int .i64)) ∧ Below w.heap.size w wr) (fun _ i _ => l.length - (intOf i).toNat)
  case atStart => exact ⟨0, Nat.zero_le _, rfl, World.ownsRow_nil _ _ _ _, bz _⟩
  case round =>
    obtain ⟨k, hk, rfl, hown, hB⟩ := hrel
    by_cases hlt : k < l.length
    · obtain ⟨bx, ox, rfl, hbx, hcx⟩ := hy (by omega)
      have gx := (hB.cell (p := ⟨bx, ox + k, none⟩) hbx).trans (hcx k (by omega))
      have hs : (l.take (k + 1)).map (Value.int .i64) = (l.take k).map (Value.int .i64) ++ [.int .i64 (l[k]?.getD 0)] := by
        rw [List.take_succ_eq_append_getElem hlt, List.map_append]; simp only [hlt, List.getElem?_eq_getElem, Option.getD_some, List.map_cons, List.map_nil]
      generalize l[k]?.getD 0 = x at *
      have HS := Lib.hid hs; clear hs hy hcx
      have hz := hB.size
      go_wp2_with (at_builtin; refine wpList_append_own _ rfl _ _ 34 rfl w.heap.size 3 i0 (.int .i64 0) 1 8 Try.underlying34 hi hz0 hz1 hz2 rfl (by decide) _ _ _ rfl (hown.alloc _) ⟨wr.heap.size, 0, none⟩ 1 1 [.int .i64 x] rfl rfl (cell_one_new _ _ _) (one_int _ _) (by simp only [maxLen]; omega) (by omega) (by simp; omega) ?_)
      intro v' w1 hown' hgrow hnil
      clear hnil
      have hlt' := hown.lt
      have hB1 := bgr (bal hB _) hgrow (fun k h => (hlt' k h).1)
      have HO := Lib.hid hown'; clear hown' hgrow hlt' hown
      go_wp2
      go_roundw
      case rel => exact ⟨k + 1, by omega, by go_num, by rw [HS.out, List.map_take]; exact HO.out, hB1⟩
      case measure => simp [intOf]; omega
    · obtain rfl : k = l.length := by omega
      rw [List.take_length] at hown
      go_wp2
      go_ret
      exact ⟨_, rfl, hown, hB⟩

theorem i64_and1 (n : Int) : bits .and .i64 n 1 = n % 2 := by
  have h1 : (BitVec.ofInt 64 1).toNat = 2 ^ 1 - 1 := by decide
  have key : (BitVec.ofInt 64 n &&& BitVec.ofInt 64 1).toNat = (n % ((2 ^ 64 : Nat) : Int)).toNat % 2 ^ 1 := by
    rw [BitVec.toNat_and, BitVec.toNat_ofInt, h1, Nat.and_two_pow_sub_one_eq_mod]
  show IntKind.i64.wrap ((BitVec.ofInt 64 n &&& BitVec.ofInt 64 1).toNat : Nat) = n % 2
  rw [key, IntKind.wrap_i64]
  omega

/-- The digits of a number by two, in front the greatest. -/
def bitsOf (n : Nat) (t : Nat) : List Int := (List.range n).map fun i => ((t / 2 ^ (n - 1 - i) % 2 : Nat) : Int)

theorem made_zeros (k : IntKind) (n : Nat) : (madeCells #[Value.int k 0] n).toList = (List.replicate n (0 : Int)).map (Value.int k) := by
  apply List.ext_getElem
  · simp [madeCells]
  · intro i h1 h2
    simp [madeCells, Nat.mod_one]

/-- .. of which k are laid, from the end on. -/
def patK (n t k : Nat) : List Int := (List.range n).map fun i => if n - 1 - i < k then ((t / 2 ^ (n - 1 - i) % 2 : Nat) : Int) else 0
theorem patK_zero (n t : Nat) : patK n t 0 = List.replicate n 0 := by
  apply List.ext_getElem
  · simp [patK]
  · intro i h1 h2; simp [patK]
theorem patK_all (n t : Nat) : patK n t n = bitsOf n t := by
  unfold patK bitsOf
  apply List.map_congr_left
  intro i hi
  rw [List.mem_range] at hi
  rw [if_pos (by omega)]
theorem patK_length (n t k : Nat) : (patK n t k).length = n := by simp [patK]
theorem patK_step (n t k : Nat) (hk : k < n) : (patK n t k).set (n - 1 - k) ((t / 2 ^ k % 2 : Nat) : Int) = patK n t (k + 1) := by
  apply List.ext_getElem
  · simp [patK]
  · intro i h1 h2
    simp only [List.getElem_set, patK, List.getElem_map, List.getElem_range]
    have h3 : i < n := by simpa [patK] using h2
    by_cases e : n - 1 - k = i
    · rw [if_pos e, if_pos (by omega)]
      have : n - 1 - i = k := by omega
      rw [this]
    · rw [if_neg e]
      by_cases h4 : n - 1 - i < k
      · rw [if_pos h4, if_pos (by omega)]
      · rw [if_neg h4, if_neg (by omega)]

set_option maxRecDepth 100000 in
set_option maxHeartbeats 400000 in
theorem patterned_any (n t : Nat) (w : World) (hn : n ≤ 8) (_ht : t ≤ 255) :
    Calls Try.prog 74 #[.int .i64 n, .int .i64 t] w fun e w' => ∃ v, e = .returned v ∧ w'.ownsRow w.heap.size 2 1 v n ((bitsOf n t).map (Value.int .i64)) ∧ Below w.heap.size w w' := by
  obtain ⟨i0, hi, hz0, hz1, hz2⟩ := info_parts Try.info2
  go_enter Try.func74, Try.ntmps74
  go_wp2_with (at_make; refine wpList_make_full _ rfl _ _ 25 rfl w.heap.size 2 i0 (.int .i64 0) 1 Try.underlying25 hi hz0 hz1 _ _ _ _ n rfl rfl rfl rfl (by rw [hz2]; omega) (by simp only [maxLen]; omega) (Nat.le_refl _) ?_)
  intro w1 hown hgrow
  have hB1 := bgr (bz _) hgrow (fun k h => by cases h)
  rw [made_zeros, ← patK_zero n t] at hown
  clear hgrow
  go_wp2
  go_loopw [6] (fun i wr => ∃ k : Nat, k ≤ n ∧ i = .int .i64 k ∧ wr.ownsRow w.heap.size 2 1 (.slice (some ⟨w.heap.size, 0, none⟩) n n) n ((patK n t k).map (Value.int .i64)) ∧ Below w.heap.size w wr) (fun i _ => n - (intOf i).toNat)
  case atStart => exact ⟨0, Nat.zero_le _, rfl, hown, hB1⟩
  case round =>
    obtain ⟨k, hk, rfl, hown, hB⟩ := hrel
    by_cases hlt : k < n
    · have cf := hown.frozenAt (n - 1 - k)
      have cc := hown.cellAt (n - 1 - k) (by omega)
      rw [List.getElem?_map, List.getElem?_eq_getElem (by rw [patK_length]; omega), Option.map_some] at cc
      generalize (patK n t k)[n - 1 - k]'(by rw [patK_length]; omega) = old at *
      have HO := Lib.hid hown; clear hown
      go_wp2
      refine ⟨⟨k + 1, by omega, by go_num, ?_, bset hB (Nat.le_refl _) _⟩, by simp [intOf]; omega⟩
      rw [i64_and1, ← patK_step n t k hlt]
      have e : ((t : Int) / 2 ^ k % 2) = ((t / 2 ^ k % 2 : Nat) : Int) := by simp
      rw [e]
      have := (HO.out.stored (n - 1 - k) (.int .i64 ((t / 2 ^ k % 2 : Nat) : Int))).1
      rw [← List.map_set] at this
      exact this
    · obtain rfl : k = n := by omega
      go_wp2
      go_ret
      exact ⟨_, rfl, by rw [← patK_all]; exact hown, hB⟩
end Go.Proofs.Ytdnaipiiponhpaa
