/- Merged texts: same, within, find, all, shapes, increasing, checks of the document. -/
import Derived.Test.YtnnfahdhmodejaaMGA
namespace Go.Proofs.Ytnnfahdhmodejaa
open Go.RowKit

theorem take_eq_step (xs ys : List Int) (k : Nat) (hx : k < xs.length) (hy : k < ys.length) (h : xs.take k = ys.take k) (he : xs[k]?.getD 0 = ys[k]?.getD 0) : xs.take (k+1) = ys.take (k+1) := by
  rw [List.take_succ_eq_append_getElem hx, List.take_succ_eq_append_getElem hy, h]
  simp [hx, hy] at he
  rw [he]
theorem ne_of_get (xs ys : List Int) (k : Nat) (he : xs[k]?.getD 0 ≠ ys[k]?.getD 0) : xs ≠ ys := by
  intro e; subst e; exact he rfl

set_option maxRecDepth 100000 in
set_option maxHeartbeats 400000 in
theorem ints_any (x y : Value) (xs ys : List Int) (w : World) (hx0 : RdI w .i64 x xs) (hy0 : RdI w .i64 y ys) (hl : xs.length ≤ 1000) (hl2 : ys.length ≤ 1000) :
    Calls Try.prog 78 #[x, y] w fun e w' => e = .returned (.bool (decide (xs = ys))) ∧ Below w.heap.size w w' := by
  obtain ⟨a, ca, rfl, _, _, hx⟩ := hx0.form
  obtain ⟨b, cb, rfl, _, _, hy⟩ := hy0.form
  clear hx0 hy0
  by_cases hll : xs.length = ys.length
  · have h1 : ((xs.length : Int) != (ys.length : Int)) = false := by simp [hll]
    have HL := Lib.hid hll; clear hll
    go_enter Try.func78, Try.ntmps78
    go_wp2
    go_loopw [5] (fun i wr => ∃ k : Nat, k ≤ xs.length ∧ i = .int .i64 k ∧ xs.take k = ys.take k ∧ Below w.heap.size w wr) (fun i _ => xs.length - (intOf i).toNat)
    case atStart => exact ⟨0, Nat.zero_le _, rfl, by simp, Below.refl _ _⟩
    case round =>
      obtain ⟨k, hk, rfl, ht, hB⟩ := hrel
      by_cases hlt : k < xs.length
      · obtain ⟨bx, ox, rfl, hbx, hcx⟩ := hx (by omega)
        obtain ⟨by', oy, rfl, hby, hcy⟩ := hy (by rw [← HL.out]; omega)
        have gx := (hB.cell (p := ⟨bx, ox + k, none⟩) hbx).trans (hcx k hlt)
        have hlt2 : k < ys.length := by rw [← HL.out]; exact hlt
        have gy := (hB.cell (p := ⟨by', oy + k, none⟩) hby).trans (hcy k hlt2)
        have HT := Lib.hid ht; clear ht
        clear hx hy hcx hcy
        by_cases he : xs[k]?.getD 0 = ys[k]?.getD 0
        · have hb1 : (xs[k]?.getD 0 != ys[k]?.getD 0) = false := by simp [he]
          have HE := Lib.hid he; clear he
          have HT2 := Lib.hid (take_eq_step xs ys k hlt hlt2 HT.out HE.out)
          generalize xs[k]?.getD 0 = p at *
          generalize ys[k]?.getD 0 = q at *
          go_wp2
          go_quiet (fail)
          go_wp2
          go_roundw
          case rel => exact ⟨k + 1, by omega, by go_num, HT2.out, Below.drewN' _ hB⟩
          case measure => simp [intOf]; omega
        · have hb1 : (xs[k]?.getD 0 != ys[k]?.getD 0) = true := by simpa using he
          have HE := Lib.hid (ne_of_get xs ys k he); clear he
          generalize xs[k]?.getD 0 = p at *
          generalize ys[k]?.getD 0 = q at *
          go_wp2
          go_quiet (fail)
          go_wp2
          go_ret
          exact ⟨ret_bool (by simp [HE.out]), Below.drewN' _ hB⟩
      · have HT := Lib.hid ht; clear ht
        go_wp2
        go_ret
        refine ⟨ret_bool ?_, hB⟩
        have h1 := HT.out
        rw [List.take_of_length_le (by omega), List.take_of_length_le (by rw [← HL.out]; omega)] at h1
        simp [h1]
  · have h1 : ((xs.length : Int) != (ys.length : Int)) = true := by rw [bne_iff_ne]; omega
    have HL := Lib.hid hll; clear hll
    go_enter Try.func78, Try.ntmps78
    go_wp2
    go_ret
    refine ⟨ret_bool ?_, Below.refl _ _⟩
    have := HL.out
    symm; simp only [decide_eq_false_iff_not]
    intro e; subst e; exact this rfl

def outB (lo hi x : Int) : Bool := decide (x < lo ∨ hi < x)
set_option maxRecDepth 100000 in
set_option maxHeartbeats 400000 in
theorem withinf_any (x lo hi : Int) (bl bh : Nat) (w : World) (h1 : w.cell? ⟨bl, 0, none⟩ = some (.int .i64 lo)) (h2 : w.cell? ⟨bh, 0, none⟩ = some (.int .i64 hi)) :
    Calls Try.prog 94 #[.int .i64 x, .pointer (some ⟨bl, 0, none⟩), .pointer (some ⟨bh, 0, none⟩)] w fun e w' => e = .returned (.bool (outB lo hi x)) ∧ Below w.heap.size w w' := by
  by_cases hlo : x < lo
  · go_enter Try.func94, Try.ntmps94
    go_wp2
    go_ret
    exact ⟨ret_bool (by simp [outB, hlo]), Below.refl _ _⟩
  · by_cases hhi : hi < x <;>
    · go_enter Try.func94, Try.ntmps94
      go_wp2
      go_ret
      exact ⟨ret_bool (by simp [outB, hlo, hhi]), Below.refl _ _⟩

def idxOf {α : Type} (p : α → Bool) (xs : List α) : Int := match xs.findIdx? p with | some i => i | none => -1
theorem find_none_step {α : Type} {d : α} {p : α → Bool} {xs : List α} {k : Nat} (h : ∀ i, i < k → p (xs[i]?.getD d) = false) (hk : k < xs.length) : p (xs[k]?.getD d) = true → idxOf p xs = k := by
  intro ht
  have : xs.findIdx? p = some k := by
    rw [List.findIdx?_eq_some_iff_getElem]
    refine ⟨hk, by simpa [hk] using ht, fun j hj => ?_⟩
    have := h j hj
    rw [List.getElem?_eq_getElem (by omega)] at this
    simpa using this
  simp [idxOf, this]
theorem find_none {α : Type} {d : α} {p : α → Bool} {xs : List α} (h : ∀ i, i < xs.length → p (xs[i]?.getD d) = false) : idxOf p xs = -1 := by
  have : xs.findIdx? p = none := by
    rw [List.findIdx?_eq_none_iff]
    intro x hx
    obtain ⟨i, hi, rfl⟩ := List.getElem_of_mem hx
    have := h i hi
    simpa [hi] using this
  simp [idxOf, this]

theorem idxOf_any {α : Type} (p : α → Bool) (xs : List α) : decide (0 ≤ idxOf p xs) = xs.any p := by
  cases h : xs.findIdx? p with
  | some i =>
    have : xs.any p = true := by
      rw [List.findIdx?_eq_some_iff_getElem] at h
      obtain ⟨h1, h2, _⟩ := h
      exact List.any_eq_true.2 ⟨_, List.getElem_mem h1, h2⟩
    rw [this]; simp [idxOf, h]
  | none =>
    have : xs.any p = false := by
      rw [List.findIdx?_eq_none_iff] at h
      rw [List.any_eq_false]
      intro x hx; simp [h x hx]
    rw [this]; simp [idxOf, h]

set_option maxRecDepth 100000 in
set_option maxHeartbeats 400000 in
theorem indexf_any (x : Value) (xs : List Int) (lo hi : Int) (bl bh : Nat) (w : World) (hx0 : RdI w .i64 x xs) (hl : xs.length ≤ 1000)
    (h1 : w.cell? ⟨bl, 0, none⟩ = some (.int .i64 lo)) (h2 : w.cell? ⟨bh, 0, none⟩ = some (.int .i64 hi)) (hb1 : bl < w.heap.size) (hb2 : bh < w.heap.size) :
    Calls Try.prog 104 #[x, .func (.func 94) #[] #[.pointer (some ⟨bl, 0, none⟩), .pointer (some ⟨bh, 0, none⟩)]] w fun e w' => e = .returned (.int .i64 (idxOf (outB lo hi) xs)) ∧ Below w.heap.size w w' := by
  obtain ⟨a, ca, rfl, _, _, hx⟩ := hx0.form
  clear hx0
  go_enter Try.func104, Try.ntmps104
  go_wp2
  go_loopw [5, 8] (fun j i wr => ∃ k : Nat, k ≤ xs.length ∧ i = .int .i64 k ∧ (∀ i, i < k → outB lo hi (xs[i]?.getD 0) = false) ∧ Below w.heap.size w wr) (fun _ i _ => xs.length - (intOf i).toNat)
  case atStart => exact ⟨0, Nat.zero_le _, rfl, by intro i h1; omega, Below.refl _ _⟩
  case round =>
    obtain ⟨k, hk, rfl, ht, hB⟩ := hrel
    have HT := Lib.hid ht; clear ht
    by_cases hlt : k < xs.length
    · obtain ⟨bx, ox, rfl, hbx, hcx⟩ := hx (by omega)
      have gx := (hB.cell (p := ⟨bx, ox + k, none⟩) hbx).trans (hcx k hlt)
      have g1 := (hB.cell (p := ⟨bl, 0, none⟩) hb1).trans h1
      have g2 := (hB.cell (p := ⟨bh, 0, none⟩) hb2).trans h2
      clear hx hcx
      generalize hp : xs[k]?.getD 0 = p at *
      have HP := Lib.hid hp; clear hp
      go_wp2_with (go_at_call 94; refine (withinf_any _ _ _ _ _ _ g1 g2).mono ?_)
      rintro e w2 ⟨rfl, hB2⟩
      have hB3 := hB.trans (hB2.mono hB.size)
      cases hb : outB lo hi p
      · go_wp2
        go_roundw
        case rel =>
          refine ⟨k + 1, by omega, by go_num, fun i h1 => ?_, hB3⟩
          by_cases e : i = k
          · subst e; rw [HP.out]; exact hb
          · exact HT.out i (by omega)
        case measure => simp [intOf]; omega
      · go_wp2
        go_ret
        exact ⟨ret_int (find_none_step HT.out hlt (by rw [HP.out]; exact hb)).symm, hB3⟩
    · go_wp2
      go_ret
      exact ⟨ret_int (find_none fun i hi => HT.out i (by omega)).symm, hB⟩

set_option maxRecDepth 100000 in
set_option maxHeartbeats 400000 in
theorem containsf_any (x : Value) (xs : List Int) (lo hi : Int) (bl bh : Nat) (w : World) (hx0 : RdI w .i64 x xs) (hl : xs.length ≤ 1000)
    (h1 : w.cell? ⟨bl, 0, none⟩ = some (.int .i64 lo)) (h2 : w.cell? ⟨bh, 0, none⟩ = some (.int .i64 hi)) (hb1 : bl < w.heap.size) (hb2 : bh < w.heap.size) :
    Calls Try.prog 93 #[x, .func (.func 94) #[] #[.pointer (some ⟨bl, 0, none⟩), .pointer (some ⟨bh, 0, none⟩)]] w fun e w' => e = .returned (.bool (xs.any (outB lo hi))) ∧ Below w.heap.size w w' := by
  go_enter Try.func93, Try.ntmps93
  go_wp2_with (go_at_call 104; refine (indexf_any _ _ _ _ _ _ _ hx0 hl h1 h2 hb1 hb2).mono ?_)
  rintro e w2 ⟨rfl, hB2⟩
  have H := Lib.hid (idxOf_any (outB lo hi) xs)
  go_wp2
  go_ret
  exact ⟨ret_bool H.out, hB2⟩

set_option maxRecDepth 100000 in
set_option maxHeartbeats 400000 in
theorem within_any (x : Value) (xs : List Int) (lo hi : Int) (w : World) (hx0 : RdI w .i64 x xs) (hl : xs.length ≤ 1000) :
    Calls Try.prog 60 #[.int .i64 lo, .int .i64 hi, x] w fun e w' => e = .returned (.bool (!xs.any (outB lo hi))) ∧ Below w.heap.size w w' := by
  go_enter Try.func60, Try.ntmps60
  go_wp2_with (go_at_call 93; refine (containsf_any _ xs lo hi w.heap.size (w.heap.size + 1) _ ?_ hl ?_ ?_ ?_ ?_).mono ?_)
  · exact hx0.mono (((Below.refl _ _).alloc (Nat.le_refl _) _).alloc (by simp) _)
  · simp
  · simp
  · simp; omega
  · simp
  rintro e w2 ⟨rfl, hB2⟩
  go_wp2
  go_ret
  exact ⟨rfl, btr (bal (bal (bz _) _) _) hB2⟩

set_option maxRecDepth 100000 in
theorem lints_any (x y : Value) (xs ys : List Int) (w : World) (hx0 : RdI w .i64 x xs) (hy0 : RdI w .i64 y ys) (hl : xs.length ≤ 1000) (hl2 : ys.length ≤ 1000) :
    Calls Try.prog 33 #[x, y] w fun e w' => e = .returned (.bool (decide (xs = ys))) ∧ Below w.heap.size w w' := by
  have H := Lib.hid (ints_any x y xs ys w hx0 hy0 hl hl2)
  generalize decide (xs = ys) = b at *
  go_enter Try.func33, Try.ntmps33
  go_wp2_with fail
  refine H.out.mono ?_
  rintro e w2 ⟨rfl, hB⟩
  go_wp2_with fail
  go_ret
  exact ⟨rfl, hB⟩
end Go.Proofs.Ytnnfahdhmodejaa

namespace Go.Proofs.Ytnnfahdhmodejaa
open Go.RowKit

set_option maxRecDepth 100000 in
theorem above_any (x t : Int) (b : Nat) (w : World) (h : w.cell? ⟨b, 0, none⟩ = some (.int .i64 t)) :
    Calls Try.prog 100 #[.int .i64 x, .pointer (some ⟨b, 0, none⟩)] w fun e w' => e = .returned (.bool (decide (t < x))) ∧ w = w' := by
  by_cases hc : t < x
  · go_enter Try.func100, Try.ntmps100
    go_wp2
    go_ret
    exact ⟨ret_bool (by simp [hc]), rfl⟩
  · go_enter Try.func100, Try.ntmps100
    go_wp2
    go_ret
    exact ⟨ret_bool (by simp [hc]), rfl⟩
set_option maxRecDepth 100000 in
theorem least_any (x t : Int) (b : Nat) (w : World) (h : w.cell? ⟨b, 0, none⟩ = some (.int .i64 t)) :
    Calls Try.prog 102 #[.int .i64 x, .pointer (some ⟨b, 0, none⟩)] w fun e w' => e = .returned (.bool (decide (t ≤ x))) ∧ w = w' := by
  by_cases hc : t ≤ x
  · go_enter Try.func102, Try.ntmps102
    go_wp2
    go_ret
    exact ⟨ret_bool (by simp [hc]), rfl⟩
  · go_enter Try.func102, Try.ntmps102
    go_wp2
    go_ret
    exact ⟨ret_bool (by simp [hc]), rfl⟩
theorem find_lo {p : Int → Bool} {l : List Int} {k : Nat} (hk : k ≤ l.length) (h : ∀ i, i < k → p (elt l i) = false) (h2 : k < l.length → p (elt l k) = true) : l.findIdx p = k := by
  rcases Nat.lt_trichotomy (l.findIdx p) k with h3 | h3 | h3
  · have h4 := List.findIdx_getElem (p := p) (w := show l.findIdx p < l.length by omega)
    have := h _ h3
    rw [elt_lt (by omega), h4] at this
    cases this
  · exact h3
  · have hle := List.findIdx_le_length (p := p) (xs := l)
    have h4 := List.not_of_lt_findIdx h3
    have := h2 (by omega)
    rw [elt_lt (by omega)] at this
    rw [this] at h4
    cases h4
set_option maxRecDepth 100000 in
set_option maxHeartbeats 400000 in
theorem find_gen (f : Nat) (p : Int → Bool) (x : Value) (xs : List Int) (b : Nat) (w : World) (hp : ∀ z, Calls Try.prog f #[.int .i64 z, .pointer (some ⟨b, 0, none⟩)] w fun e w' => e = .returned (.bool (p z)) ∧ w = w')
    (eg : ∀ args w, (callFunc f args).run Try.prog w = .ok (.enter f args) w) (hx0 : RdI w .i64 x xs) (hl : xs.length ≤ 1000) :
    Calls Try.prog 99 #[x, .func (.func f) #[] #[.pointer (some ⟨b, 0, none⟩)]] w fun e w' => e = .returned (.int .i64 (xs.findIdx p : Nat)) ∧ w = w' := by
  obtain ⟨a, ca, rfl, _, hcm, hx⟩ := hx0.form
  clear hx0 hcm
  have HP := Lib.hid hp
  clear hp
  go_enter Try.func99, Try.ntmps99
  go_wp2_with fail
  go_loop [5, 6, 9] (fun _ _ i => ∃ k : Nat, k ≤ xs.length ∧ i = .int .i64 k ∧ (∀ i, i < k → p (elt xs i) = false)) (fun _ _ i => xs.length - (intOf i).toNat)
  case atStart => exact ⟨0, Nat.zero_le _, rfl, by intro i h1; omega⟩
  case round =>
    obtain ⟨k, hk, rfl, ht⟩ := hrel
    have HT := Lib.hid ht; clear ht
    by_cases hlt : k < xs.length
    · obtain ⟨bx, ox, rfl, hbx, hcx⟩ := hx (by omega)
      have gx := hcx k hlt
      clear hx hcx
      have HQ : Hid (xs[k]?.getD 0 = elt xs k) := Lib.hid rfl
      generalize xs[k]?.getD 0 = q at *
      go_wp2_with fail
      refine (HP.out q).mono ?_
      rintro e w2 ⟨rfl, rfl⟩
      cases hb : p q
      · go_wp2
        go_round
        case rel =>
          refine ⟨k + 1, by omega, by go_num, fun i h1 => ?_⟩
          by_cases e : i = k
          · subst e; rw [← HQ.out]; exact hb
          · exact HT.out i (by omega)
        case measure => simp [intOf]; omega
      · go_wp2
        go_ret
        exact ⟨ret_int (by rw [find_lo (k := k) (by omega) HT.out (fun _ => by rw [← HQ.out]; exact hb)]), rfl⟩
    · go_wp2
      go_ret
      exact ⟨ret_int (by rw [find_lo (k := xs.length) (Nat.le_refl _) (fun i hi => HT.out i (by omega)) (fun h => by omega)]), rfl⟩
theorem ins_any (x : Value) (xs : List Int) (b : Nat) (t : Int) (w : World) (h : w.cell? ⟨b, 0, none⟩ = some (.int .i64 t)) (hx0 : RdI w .i64 x xs) (hl : xs.length ≤ 1000) :
    Calls Try.prog 99 #[x, .func (.func 100) #[] #[.pointer (some ⟨b, 0, none⟩)]] w fun e w' => e = .returned (.int .i64 (ins xs t : Nat)) ∧ w = w' :=
  find_gen 100 (fun n => decide (t < n)) x xs b w (fun z => above_any z t b w h) (fun args w => by simp [go_sem]) hx0 hl
theorem insL_any (x : Value) (xs : List Int) (b : Nat) (t : Int) (w : World) (h : w.cell? ⟨b, 0, none⟩ = some (.int .i64 t)) (hx0 : RdI w .i64 x xs) (hl : xs.length ≤ 1000) :
    Calls Try.prog 99 #[x, .func (.func 102) #[] #[.pointer (some ⟨b, 0, none⟩)]] w fun e w' => e = .returned (.int .i64 (insL xs t : Nat)) ∧ w = w' :=
  find_gen 102 (fun n => decide (t ≤ n)) x xs b w (fun z => least_any z t b w h) (fun args w => by simp [go_sem]) hx0 hl
end Go.Proofs.Ytnnfahdhmodejaa

namespace Go.Proofs.Ytnnfahdhmodejaa
open Go.RowKit Go.Shelf

theorem rowI_snoc {w : World} {base : Nat} {v : Value} {xs : List Int} {q : Int} (h : w.ownsRow base 3 1 v (xs.length + 1) (xs.map (Value.int .i64) ++ [Value.int .i64 q])) : rowI w base v (xs ++ [q]) := by
  unfold rowI
  rw [List.length_append, List.map_append]; exact h
/-- Rows that are not too many, and not too long. -/
def Sml (R : List (List Int)) : Prop := R.length ≤ 20 ∧ ∀ i, (row R i).length ≤ 20
theorem RdLL.sl {w : World} {v : Value} {R : List (List Int)} (h : RdLL w v R) : ∃ a c, v = .slice a R.length c := by
  obtain ⟨a, c, e, _⟩ := h.form
  exact ⟨a, c, e⟩
theorem RdLL.get {w : World} {a : Option Addr} {n c : Nat} {R : List (List Int)} (h : RdLL w (.slice a n c) R) (i : Nat) (hi : i < R.length) :
    ∃ b off a' c', a = some ⟨b, off, none⟩ ∧ b < w.heap.size ∧ w.cell? ⟨b, off + i, none⟩ = some (.slice a' (row R i).length c') ∧ RdI w .i64 (.slice a' (row R i).length c') (row R i) := by
  obtain ⟨a2, cap, e, _, h2⟩ := h.form
  cases e
  obtain ⟨b, off, rfl, hb, hc⟩ := h2 (by omega)
  obtain ⟨e, h3, h4⟩ := hc i hi
  obtain ⟨a', c', rfl, _⟩ := h4.form
  exact ⟨b, off, a', c', rfl, hb, h3, h4⟩
theorem flat_take (R : List (List Int)) (i : Nat) (h : i < R.length) : (R.take (i + 1)).flatten = (R.take i).flatten ++ row R i := by
  rw [List.take_succ_eq_append_getElem h, List.flatten_append, row_lt h]; simp
theorem flat_len {R : List (List Int)} (h : ∀ i, (row R i).length ≤ 20) : ∀ i, i ≤ R.length → (R.take i).flatten.length ≤ 20 * i
  | 0, _ => by simp
  | i + 1, hi => by
    rw [flat_take R i (by omega), List.length_append]
    have := flat_len h i (by omega)
    have := h i
    omega
set_option maxRecDepth 100000 in
set_option maxHeartbeats 400000 in
theorem all_any (v : Value) (R : List (List Int)) (w : World) (hx0 : RdLL w v R) (hs : Sml R) :
    Calls Try.prog 63 #[v] w fun e w' => ∃ u, e = .returned u ∧ rowI w' w.heap.size u R.flatten ∧ Below w.heap.size w w' := by
  obtain ⟨h20, h21⟩ := hs
  obtain ⟨a, ca, rfl⟩ := hx0.sl
  have HX := Lib.hid hx0; clear hx0
  have H21 := Lib.hid h21; clear h21
  go_enter Try.func63, Try.ntmps63
  go_wp2_with fail
  go_loopw [3, 4] (fun s3 s4 wr => ∃ (i : Nat) (u : Value), i ≤ R.length ∧ u = s3 ∧ s4 = .int .i64 i ∧ rowI wr w.heap.size u (R.take i).flatten ∧ Below w.heap.size w wr) (fun _ i _ => R.length - (intOf i).toNat)
  case atStart => exact ⟨0, _, Nat.zero_le _, rfl, rfl, World.ownsRow_nil _ _ _ _, bz w⟩
  case round =>
    obtain ⟨i, u, hi, rfl, rfl, hO, hB⟩ := hrel
    have HO := Lib.hid hO; have HB := Lib.hid hB; clear hO hB
    by_cases hlt : i < R.length
    · obtain ⟨b, off, a', c', rfl, hb, hc, hr⟩ := HX.out.get i hlt
      have gx := (HB.out.cell (p := ⟨b, off + i, none⟩) hb).trans hc
      have zx := Nat.lt_of_lt_of_le hb HB.out.size
      have HR := Lib.hid (hr.mono HB.out)
      have h1 := H21.out i
      have h2 := flat_len H21.out i (by omega)
      have HF := Lib.hid (flat_take R i hlt)
      clear hc hr hb
      generalize (R.take i).flatten = xs at *
      generalize row R i = ys at *
      go_wp2_with (at_builtin; refine wpList_append_any rfl _ _ rfl HO.out HB.out.size rfl rfl HR.out (by omega) (by omega) ?_)
      intro v' w' hO' hg
      have HO' := Lib.hid hO'
      have HB' := Lib.hid (append_below HB.out HO.out hg (Nat.le_refl _))
      clear hO' hg
      go_wp2_with fail
      go_roundw
      case rel => exact ⟨i + 1, _, by omega, rfl, by go_num, by rw [HF.out]; exact HO'.out, HB'.out⟩
      case measure => simp [intOf]; omega
    · have hie : i = R.length := by omega
      have HO2 : Hid (rowI wr w.heap.size u R.flatten) := by have h := HO.out; rw [hie, List.take_length] at h; exact Lib.hid h
      clear HO
      go_wp2_with fail
      go_ret
      exact ⟨_, rfl, HO2.out, HB.out⟩

theorem take_has {l : List Int} {k : Nat} (n : Int) (h : k < l.length) : (l.take (k + 1)).contains n = ((l.take k).contains n || elt l k == n) := by
  rw [List.take_succ_eq_append_getElem h, List.contains_append, elt_lt h, Bool.eq_iff_iff]
  simp only [Bool.or_eq_true, List.contains_iff_mem, List.mem_singleton, beq_iff_eq]
  exact ⟨fun h => h.imp id Eq.symm, fun h => h.imp id Eq.symm⟩
set_option maxRecDepth 100000 in
set_option maxHeartbeats 400000 in
theorem has_any (x : Value) (xs : List Int) (n : Int) (w : World) (hx0 : RdI w .i64 x xs) (hl : xs.length ≤ 1000) :
    Calls Try.prog 68 #[x, .int .i64 n] w fun e w' => e = .returned (.bool (xs.contains n)) ∧ w = w' := by
  obtain ⟨a, ca, rfl, _, hcm, hx⟩ := hx0.form
  clear hx0 hcm
  go_enter Try.func68, Try.ntmps68
  go_wp2_with fail
  go_loop [5] (fun i => ∃ k : Nat, k ≤ xs.length ∧ i = .int .i64 k ∧ (xs.take k).contains n = false) (fun i => xs.length - (intOf i).toNat)
  case atStart => exact ⟨0, Nat.zero_le _, rfl, by simp⟩
  case round =>
    obtain ⟨k, hk, rfl, ht⟩ := hrel
    have HT := Lib.hid ht; clear ht
    by_cases hlt : k < xs.length
    · obtain ⟨bx, ox, rfl, hbx, hcx⟩ := hx (by omega)
      have gx := hcx k hlt
      have HQ := Lib.hid (take_has n hlt)
      have HE : Hid (elt xs k = xs[k]?.getD 0) := Lib.hid rfl
      clear hx hcx
      generalize xs[k]?.getD 0 = q at *
      by_cases hq : q = n
      · have t1 : (q == n) = true := by simp [hq]
        have HQQ := Lib.hid hq; clear hq
        go_wp2_with fail
        go_ret
        refine ⟨ret_bool ?_, rfl⟩
        have : n ∈ xs := by rw [← HQQ.out, ← HE.out]; exact elt_mem hlt
        simpa using this
      · have t1 : (q == n) = false := by simp [hq]
        have HQQ := Lib.hid hq; clear hq
        go_wp2_with fail
        go_round
        case rel => exact ⟨k + 1, by omega, by go_num, by rw [HQ.out, HT.out, HE.out]; simpa using HQQ.out⟩
        case measure => simp [intOf]; omega
    · go_wp2_with fail
      go_ret
      refine ⟨ret_bool ?_, rfl⟩
      have := HT.out
      rw [List.take_of_length_le (by omega)] at this
      simpa using this

/-- The lengths of rows, as numbers. -/
def shpI (R : List (List Int)) : List Int := R.map fun l => (l.length : Int)
theorem shpI_take (R : List (List Int)) (i : Nat) (h : i < R.length) : shpI (R.take (i + 1)) = shpI (R.take i) ++ [((row R i).length : Int)] := by
  unfold shpI
  rw [List.take_succ_eq_append_getElem h, List.map_append, row_lt h]; rfl
theorem shpI_len (R : List (List Int)) : (shpI R).length = R.length := by simp [shpI]
set_option maxRecDepth 100000 in
set_option maxHeartbeats 400000 in
theorem shape_any (v : Value) (R : List (List Int)) (w : World) (hx0 : RdLL w v R) (hs : Sml R) :
    Calls Try.prog 41 #[v] w fun e w' => ∃ u, e = .returned u ∧ rowI w' w.heap.size u (shpI R) ∧ Below w.heap.size w w' := by
  obtain ⟨h20, h21⟩ := hs
  obtain ⟨a, ca, rfl⟩ := hx0.sl
  have HX := Lib.hid hx0; clear hx0
  have H21 := Lib.hid h21; clear h21
  go_enter Try.func41, Try.ntmps41
  go_wp2_with fail
  go_loopw [3, 4] (fun s3 s4 wr => ∃ (i : Nat) (u : Value), i ≤ R.length ∧ u = s3 ∧ s4 = .int .i64 i ∧ rowI wr w.heap.size u (shpI (R.take i)) ∧ Below w.heap.size w wr) (fun _ i _ => R.length - (intOf i).toNat)
  case atStart => exact ⟨0, _, Nat.zero_le _, rfl, rfl, World.ownsRow_nil _ _ _ _, bz w⟩
  case round =>
    obtain ⟨i, u, hi, rfl, rfl, hO, hB⟩ := hrel
    have HO := Lib.hid hO; have HB := Lib.hid hB; clear hO hB
    by_cases hlt : i < R.length
    · obtain ⟨b, off, a', c', rfl, hb, hc, hr⟩ := HX.out.get i hlt
      have gx := (HB.out.cell (p := ⟨b, off + i, none⟩) hb).trans hc
      have zx := Nat.lt_of_lt_of_le hb HB.out.size
      have h1 := H21.out i
      have h2 : (shpI (R.take i)).length ≤ 20 := by rw [shpI_len, List.length_take]; omega
      have HF := Lib.hid (shpI_take R i hlt)
      clear hc hr hb
      generalize shpI (R.take i) = xs at *
      generalize (row R i).length = n at *
      go_wp2_with (at_builtin; refine wpList_append_num rfl _ _ rfl Try.underlying31 num3 HO.out (n : Int) rfl rfl rfl (by omega) HB.out.size ?_)
      intro v' w' hO' hg
      have HO' := Lib.hid hO'
      have HB' := Lib.hid (append_below (bal HB.out _) (World.ownsRow.alloc HO.out _) hg (Nat.le_refl _))
      clear hO' hg
      go_wp2_with fail
      go_roundw
      case rel => exact ⟨i + 1, _, by omega, rfl, by go_num, by rw [HF.out]; exact rowI_snoc HO'.out, HB'.out⟩
      case measure => simp [intOf]; omega
    · have hie : i = R.length := by omega
      have HO2 : Hid (rowI wr w.heap.size u (shpI R)) := by have h := HO.out; rw [hie, List.take_length] at h; exact Lib.hid h
      clear HO
      go_wp2_with fail
      go_ret
      exact ⟨_, rfl, HO2.out, HB.out⟩

def sumL (l : List Int) : Int := l.foldl (· + ·) 0
theorem sumL_take (l : List Int) (k : Nat) (h : k < l.length) : sumL (l.take (k + 1)) = sumL (l.take k) + elt l k := by
  unfold sumL
  rw [List.take_succ_eq_append_getElem h, List.foldl_append, elt_lt h]; rfl
theorem sumL_bd {l : List Int} {m : Int} (hm : 0 ≤ m) (h : ∀ i, i < l.length → 0 ≤ elt l i ∧ elt l i ≤ m) : ∀ k, k ≤ l.length → 0 ≤ sumL (l.take k) ∧ sumL (l.take k) ≤ m * k
  | 0, _ => by simp [sumL]
  | k + 1, hk => by
    rw [sumL_take l k (by omega)]
    have := sumL_bd hm h k (by omega)
    have := h k (by omega)
    push_cast
    rw [Int.mul_add]
    omega
set_option maxRecDepth 100000 in
set_option maxHeartbeats 400000 in
theorem rsum_any (x : Value) (xs : List Int) (w : World) (hx0 : RdI w .i64 x xs) (hl : xs.length ≤ 1000) (hb : ∀ i, i < xs.length → 0 ≤ elt xs i ∧ elt xs i ≤ 1000) :
    Calls Try.prog 84 #[x] w fun e w' => e = .returned (.int .i64 (sumL xs)) ∧ w = w' := by
  obtain ⟨a, ca, rfl, _, hcm, hx⟩ := hx0.form
  clear hx0 hcm
  have HBD := Lib.hid hb; clear hb
  go_enter Try.func84, Try.ntmps84
  go_wp2_with fail
  go_loop [3, 4] (fun s i => ∃ k : Nat, k ≤ xs.length ∧ i = .int .i64 k ∧ s = .int .i64 (sumL (xs.take k))) (fun _ i => xs.length - (intOf i).toNat)
  case atStart => exact ⟨0, Nat.zero_le _, rfl, rfl⟩
  case round =>
    obtain ⟨k, hk, rfl, rfl⟩ := hrel
    by_cases hlt : k < xs.length
    · obtain ⟨bx, ox, rfl, hbx, hcx⟩ := hx (by omega)
      have gx := hcx k hlt
      have HS := Lib.hid (sumL_take xs k hlt)
      have h1 := HBD.out k hlt
      obtain ⟨h2, h3⟩ := sumL_bd (m := 1000) (by omega) HBD.out k hk
      have HE : Hid (xs[k]?.getD 0 = elt xs k) := Lib.hid rfl
      rw [HE.out] at gx
      clear hx hcx HE
      generalize elt xs k = q at *
      generalize sumL (xs.take k) = s at *
      go_wp2_with fail
      go_round
      case rel => exact ⟨k + 1, by omega, by go_num, by rw [HS.out]⟩
      case measure => simp [intOf]; omega
    · have hie : k = xs.length := by omega
      subst hie
      rw [List.take_length]
      go_wp2_with fail
      go_ret
      exact ⟨rfl, rfl⟩
end Go.Proofs.Ytnnfahdhmodejaa

namespace Go.Proofs.Ytnnfahdhmodejaa
open Go.RowKit Go.Shelf

def mostL (R : List (List Int)) : Nat := R.foldl (fun m l => max m l.length) 0
def greatB (R : List (List Int)) : Bool := decide (20 < R.length) || decide (20 < mostL R)
theorem mostL_take (R : List (List Int)) (k : Nat) (h : k < R.length) : mostL (R.take (k + 1)) = max (mostL (R.take k)) (row R k).length := by
  unfold mostL
  rw [List.take_succ_eq_append_getElem h, List.foldl_append, row_lt h]; rfl
theorem mostL_ge (R : List (List Int)) : ∀ k, k ≤ R.length → ∀ i, i < k → (row R i).length ≤ mostL (R.take k)
  | 0, _, i, h => by omega
  | k + 1, hk, i, h => by
    rw [mostL_take R k (by omega)]
    by_cases e : i = k
    · rw [e]; exact Nat.le_max_right _ _
    · have := mostL_ge R k (by omega) i (by omega); omega
theorem great_sml {R : List (List Int)} (h : greatB R = false) : Sml R := by
  unfold greatB at h
  simp only [Bool.or_eq_false_iff, decide_eq_false_iff_not] at h
  refine ⟨by omega, fun i => ?_⟩
  rcases Nat.lt_or_ge i R.length with hi | hi
  · have := mostL_ge R R.length (Nat.le_refl _) i hi
    rw [List.take_length] at this
    omega
  · rw [row_ge hi]; simp
theorem sml_great {R : List (List Int)} (h : Sml R) : greatB R = false := by
  have hm : ∀ k, k ≤ R.length → mostL (R.take k) ≤ 20 := by
    intro k
    induction k with
    | zero => intro _; simp [mostL]
    | succ k ih =>
      intro hk
      rw [mostL_take R k (by omega)]
      have := ih (by omega)
      have := h.2 k
      omega
  have := hm R.length (Nat.le_refl _)
  rw [List.take_length] at this
  unfold greatB
  rw [decide_eq_false (by have := h.1; omega), decide_eq_false (by omega)]; rfl
set_option maxRecDepth 100000 in
set_option maxHeartbeats 400000 in
theorem great_any (v : Value) (R : List (List Int)) (w : World) (hx0 : RdLL w v R) :
    Calls Try.prog 16 #[v] w fun e w' => e = .returned (.bool (greatB R)) ∧ w = w' := by
  obtain ⟨a, ca, rfl⟩ := hx0.sl
  have HX := Lib.hid hx0; clear hx0
  by_cases h20 : 20 < R.length
  · have t1 : (20 : Int) < (R.length : Int) := by omega
    have HR : Hid (greatB R = true) := Lib.hid (by simp [greatB, h20])
    go_enter Try.func16, Try.ntmps16
    go_wp2_with fail
    go_ret
    exact ⟨ret_bool HR.out.symm, rfl⟩
  · have t1 : ¬ (20 : Int) < (R.length : Int) := by omega
    have HR : Hid (greatB R = decide (20 < mostL R)) := Lib.hid (by simp [greatB, h20])
    generalize greatB R = g at *
    go_enter Try.func16, Try.ntmps16
    go_wp2_with fail
    go_loop [3, 4] (fun s i => ∃ k : Nat, k ≤ R.length ∧ i = .int .i64 k ∧ s = .int .i64 (mostL (R.take k))) (fun _ i => R.length - (intOf i).toNat)
    case atStart => exact ⟨0, Nat.zero_le _, rfl, rfl⟩
    case round =>
      obtain ⟨k, hk, rfl, rfl⟩ := hrel
      by_cases hlt : k < R.length
      · obtain ⟨b, off, a', c', rfl, hb, hc, hr⟩ := HX.out.get k hlt
        have HF := Lib.hid (mostL_take R k hlt)
        clear hr
        generalize mostL (R.take k) = m at *
        generalize (row R k).length = n at *
        by_cases hmn : n ≤ m
        · have t2 : (n : Int) ≤ (m : Int) := by omega
          have HH : Hid (max m n = m) := Lib.hid (by omega)
          go_wp2_with fail
          go_round
          case rel => exact ⟨k + 1, by omega, by go_num, by rw [HF.out, HH.out]⟩
          case measure => simp [intOf]; omega
        · have t2 : ¬ (n : Int) ≤ (m : Int) := by omega
          have t3 : (m : Int) < (n : Int) := by omega
          have HH : Hid (max m n = n) := Lib.hid (by omega)
          go_wp2_with fail
          go_round
          case rel => exact ⟨k + 1, by omega, by go_num, by rw [HF.out, HH.out]⟩
          case measure => simp [intOf]; omega
      · have hie : k = R.length := by omega
        subst hie
        rw [List.take_length]
        generalize mostL R = m at *
        by_cases hm : 20 < m
        · rw [decide_eq_true hm] at HR
          have t2 : (20 : Int) < (m : Int) := by omega
          go_wp2_with fail
          go_ret
          exact ⟨ret_bool HR.out.symm, rfl⟩
        · rw [decide_eq_false hm] at HR
          have t2 : ¬ (20 : Int) < (m : Int) := by omega
          go_wp2_with fail
          go_ret
          exact ⟨ret_bool HR.out.symm, rfl⟩

theorem rows_take_eq {R S : List (List Int)} {k : Nat} (h1 : k < R.length) (h2 : k < S.length) (h : R.take k = S.take k) (he : row R k = row S k) : R.take (k + 1) = S.take (k + 1) := by
  rw [List.take_succ_eq_append_getElem h1, List.take_succ_eq_append_getElem h2, h]
  rw [row_lt h1, row_lt h2] at he
  rw [he]
set_option maxRecDepth 100000 in
set_option maxHeartbeats 400000 in
theorem same_any (x y : Value) (R S : List (List Int)) (w : World) (hx0 : RdLL w x R) (hy0 : RdLL w y S) (hR : Sml R) (hS : Sml S) :
    Calls Try.prog 26 #[x, y] w fun e w' => e = .returned (.bool (decide (R = S))) ∧ Below w.heap.size w w' := by
  obtain ⟨a, ca, rfl⟩ := hx0.sl
  obtain ⟨d, cd, rfl⟩ := hy0.sl
  have HX := Lib.hid hx0; have HY := Lib.hid hy0; clear hx0 hy0
  obtain ⟨r1, r2⟩ := hR
  obtain ⟨s1, s2⟩ := hS
  have HR2 := Lib.hid r2; have HS2 := Lib.hid s2; clear r2 s2
  by_cases hll : R.length = S.length
  · have h1 : ((R.length : Int) != (S.length : Int)) = false := by simp [hll]
    have HL := Lib.hid hll; clear hll
    go_enter Try.func26, Try.ntmps26
    go_wp2_with fail
    go_loopw [5] (fun i wr => ∃ k : Nat, k ≤ R.length ∧ i = .int .i64 k ∧ R.take k = S.take k ∧ Below w.heap.size w wr) (fun i _ => R.length - (intOf i).toNat)
    case atStart => exact ⟨0, Nat.zero_le _, rfl, by simp, bz w⟩
    case round =>
      obtain ⟨k, hk, rfl, ht, hB⟩ := hrel
      have HB := Lib.hid hB; have HT := Lib.hid ht; clear hB ht
      by_cases hlt : k < R.length
      · have hlt2 : k < S.length := by rw [← HL.out]; exact hlt
        obtain ⟨b, off, a', c', rfl, hb, hc, hr⟩ := HX.out.get k hlt
        obtain ⟨b2, off2, a2, c2, rfl, hb2, hc2, hr2⟩ := HY.out.get k hlt2
        have n1 := HR2.out k
        have n2 := HS2.out k
        have HC := Lib.hid hc; have HC2 := Lib.hid hc2; have HRR := Lib.hid hr; have HRS := Lib.hid hr2
        have HCC := Lib.hid (fun x y wz h1 h2 => lints_any x y (row R k) (row S k) wz h1 h2 (Nat.le_trans n1 (by decide)) (Nat.le_trans n2 (by decide)))
        have HEQ := Lib.hid (rows_take_eq hlt hlt2 HT.out)
        have HNE : Hid (R = S → row R k = row S k) := Lib.hid (fun e => by rw [e])
        clear hc hc2 hr hr2 n1 n2
        generalize row R k = p at *
        generalize row S k = q at *
        go_upto_region 6 with fail
        refine wp_region_flow [] [([0, 1, 2, 3, 4, 5, 6, 7], 8, true)] [9] (by kernel_rfl) (by kernel_rfl) ?_
        intro wc hBc hh
        clear hh
        have HBC := Lib.hid (btr HB.out hBc)
        have hL := @Later.cell wc
        have g1 := (HBC.out.cell (p := ⟨b, off + k, none⟩) hb).trans HC.out
        have g2 := (HBC.out.cell (p := ⟨b2, off2 + k, none⟩) hb2).trans HC2.out
        have z1 := Nat.lt_of_lt_of_le hb HBC.out.size
        have z2 := Nat.lt_of_lt_of_le hb2 HBC.out.size
        clear hBc
        simp only [flowP, flow, pickL, List.getElem?_cons_succ, List.getElem?_cons_zero]
        refine wpQuiet_nil ?_
        repeat (go_big_quiet_step (fail))
        refine wpQuiet_nil ?_
        go_wp2_with fail
        refine (HCC.out _ _ wc (HRR.out.mono HBC.out) (HRS.out.mono HBC.out)).mono ?_
        rintro e w5 ⟨rfl, hB5⟩
        have HB5 := Lib.hid (btr HBC.out hB5)
        have HG := Lib.hid hB5
        clear hB5 hL g1 g2 z1 z2
        by_cases hpq : p = q
        · rw [decide_eq_true hpq]
          have HPQ := Lib.hid hpq; clear hpq
          go_wp2
          refine seg_grow ⟨⟨_, HG.out⟩, rfl⟩ ?_
          repeat (go_big_quiet_step (fail))
          refine wpQuiet_nil ?_
          refine only_done ?_
          go_wp2_with fail
          go_roundw
          case rel => exact ⟨k + 1, by omega, by go_num, HEQ.out HPQ.out, HB5.out⟩
          case measure => simp [intOf]; omega
        · rw [decide_eq_false hpq]
          have HPQ := Lib.hid hpq; clear hpq
          go_wp2
          refine seg_grow ⟨⟨_, HG.out⟩, rfl⟩ ?_
          repeat (go_big_quiet_step (fail))
          refine wpQuiet_nil ?_
          refine only_done ?_
          go_wp2_with fail
          go_ret
          exact ⟨ret_bool (by symm; rw [decide_eq_false_iff_not]; exact fun e => HPQ.out (HNE.out e)), HB5.out⟩
      · go_wp2_with fail
        go_ret
        refine ⟨ret_bool ?_, HB.out⟩
        have h1 := HT.out
        rw [List.take_of_length_le (by omega), List.take_of_length_le (by rw [← HL.out]; omega)] at h1
        simp [h1]
  · have h1 : ((R.length : Int) != (S.length : Int)) = true := by rw [bne_iff_ne]; omega
    have HL := Lib.hid hll; clear hll
    go_enter Try.func26, Try.ntmps26
    go_wp2_with fail
    go_ret
    refine ⟨ret_bool ?_, bz w⟩
    have := HL.out
    symm; simp only [decide_eq_false_iff_not]
    intro e; subst e; exact this rfl

/-- Rows have a shape, as far as the first k tell. -/
def ShTo (R : List (List Int)) (k : Nat) : Prop := ∀ i, i < k → (row R i).length ≠ 0 ∧ (0 < i → (row R i).length ≤ (row R (i - 1)).length)
open Classical in
noncomputable def shapedB (R : List (List Int)) : Bool := decide (ShTo R R.length)
theorem shapedB_iff (R : List (List Int)) : shapedB R = true ↔ ShTo R R.length := by unfold shapedB; exact @decide_eq_true_iff _ (Classical.propDecidable _)
theorem shTo_zero (R : List (List Int)) : ShTo R 0 := fun i h => by omega
theorem shTo_succ {R : List (List Int)} {k : Nat} (h : ShTo R k) (h1 : (row R k).length ≠ 0) (h2 : 0 < k → (row R k).length ≤ (row R (k - 1)).length) : ShTo R (k + 1) := fun i hi => by
  by_cases e : i = k
  · subst e; exact ⟨h1, h2⟩
  · exact h i (by omega)
set_option maxRecDepth 100000 in
set_option maxHeartbeats 800000 in
theorem shaped_any (v : Value) (R : List (List Int)) (w : World) (hx0 : RdLL w v R) (hR : Sml R) :
    Calls Try.prog 64 #[v] w fun e w' => e = .returned (.bool (shapedB R)) ∧ Below w.heap.size w w' := by
  obtain ⟨a, ca, rfl⟩ := hx0.sl
  have HX := Lib.hid hx0; clear hx0
  obtain ⟨r1, r2⟩ := hR
  have HS : Hid (shapedB R = true ↔ ShTo R R.length) := Lib.hid (shapedB_iff R)
  generalize shapedB R = sb at *
  go_enter Try.func64, Try.ntmps64
  go_wp2_with fail
  go_loopw [3] (fun i wr => ∃ k : Nat, k ≤ R.length ∧ i = .int .i64 k ∧ ShTo R k ∧ Below w.heap.size w wr) (fun i _ => R.length - (intOf i).toNat)
  case atStart => exact ⟨0, Nat.zero_le _, rfl, shTo_zero R, bz w⟩
  case round =>
    obtain ⟨k, hk, rfl, ht, hB⟩ := hrel
    have HB := Lib.hid hB; have HT := Lib.hid ht; clear hB ht
    by_cases hlt : k < R.length
    · obtain ⟨b, off, a', c', rfl, hb, hc, hr⟩ := HX.out.get k hlt
      have n1 := r2 k
      have gx := (HB.out.cell (p := ⟨b, off + k, none⟩) hb).trans hc
      have zx := Nat.lt_of_lt_of_le hb HB.out.size
      have HNO := Lib.hid (fun hn : ¬ ((row R k).length ≠ 0 ∧ (0 < k → (row R k).length ≤ (row R (k - 1)).length)) => (show false = sb from by
        cases hsb : sb with
        | false => rfl
        | true => exact absurd (HS.out.1 hsb k hlt) hn))
      have HYES := Lib.hid (fun h1 h2 => shTo_succ HT.out h1 h2)
      clear hc hr
      by_cases e0 : (row R k).length = 0
      · have t0 : (((row R k).length : Int) == 0) = true := by simp [e0]
        have HN2 := Lib.hid (HNO.out (fun h => h.1 e0))
        clear e0 HNO HYES
        generalize (row R k).length = n at *
        go_upto_region 4 with fail
        go_quiet (fail)
        go_wp2_with fail
        go_ret
        exact ⟨ret_bool HN2.out, Below.drewN' _ HB.out⟩
      · have t0 : (((row R k).length : Int) == 0) = false := by rw [beq_eq_false_iff_ne]; omega
        by_cases ek : k = 0
        · have HY2 := Lib.hid (HYES.out e0 (by omega))
          subst ek
          rw [Nat.add_zero] at gx
          clear e0 HNO HYES
          generalize (row R 0).length = n at *
          go_upto_region 4 with fail
          go_quiet (fail)
          go_wp2_with fail
          go_roundw
          case rel => exact ⟨1, by omega, by go_num, HY2.out, Below.drewN' _ HB.out⟩
          case measure => simp [intOf]; omega
        · obtain ⟨j, rfl⟩ : ∃ j, k = j + 1 := ⟨k - 1, by omega⟩
          obtain ⟨b', off', a2, c2, e', hb2, hc2, hr2⟩ := HX.out.get j (by omega)
          cases e'
          have n2 := r2 j
          have gy := (HB.out.cell (p := ⟨b, off + j, none⟩) hb).trans hc2
          have t1 : decide ((0:Int) < (j : Int) + 1) = true := by rw [decide_eq_true_eq]; omega
          have t2 : decide (0 < j + 1) = true := by simp
          clear hc2 hr2 ek
          rw [show j + 1 - 1 = j by omega] at HNO HYES
          by_cases hle : (row R (j + 1)).length ≤ (row R j).length
          · have t3 : decide ((row R j).length < (row R (j + 1)).length) = false := by rw [decide_eq_false_iff_not]; omega
            have t4 : decide (((row R j).length : Int) < ((row R (j + 1)).length : Int)) = false := by rw [decide_eq_false_iff_not]; omega
            have HY2 := Lib.hid (HYES.out e0 (fun _ => hle))
            clear e0 HNO HYES hle
            generalize (row R (j + 1)).length = n at *
            generalize (row R j).length = m at *
            go_upto_region 4 with fail
            go_quiet (fail)
            go_wp2_with fail
            go_roundw
            case rel => exact ⟨j + 1 + 1, by omega, by go_num, HY2.out, Below.drewN' _ HB.out⟩
            case measure => simp [intOf]; omega
          · have t3 : decide ((row R j).length < (row R (j + 1)).length) = true := by rw [decide_eq_true_eq]; omega
            have t4 : decide (((row R j).length : Int) < ((row R (j + 1)).length : Int)) = true := by rw [decide_eq_true_eq]; omega
            have HN2 := Lib.hid (HNO.out (fun h => hle (h.2 (by omega))))
            clear e0 HNO HYES hle
            generalize (row R (j + 1)).length = n at *
            generalize (row R j).length = m at *
            go_upto_region 4 with fail
            go_quiet (fail)
            go_wp2_with fail
            go_ret
            exact ⟨ret_bool HN2.out, Below.drewN' _ HB.out⟩
    · have hke : k = R.length := by omega
      have HY : Hid (sb = true) := Lib.hid (HS.out.2 (by rw [← hke]; exact HT.out))
      go_wp2_with fail
      go_ret
      exact ⟨ret_bool HY.out.symm, HB.out⟩
end Go.Proofs.Ytnnfahdhmodejaa

namespace Go.Proofs.Ytnnfahdhmodejaa
open Go.RowKit Go.Shelf

theorem RdI.get {w : World} {a : Option Addr} {n c : Nat} {xs : List Int} (h : RdI w .i64 (.slice a n c) xs) (hn : 0 < xs.length) : ∃ b o, a = some ⟨b, o, none⟩ ∧ b < w.heap.size ∧ ∀ j, j < xs.length → w.cell? ⟨b, o + j, none⟩ = some (.int .i64 (elt xs j)) := by
  obtain ⟨a', c', e, _, _, h2⟩ := h.form
  cases e
  obtain ⟨b, o, rfl, h3, h4⟩ := h2 hn
  exact ⟨b, o, rfl, h3, h4⟩
/-- The number at a place of rows. -/
def num (R : List (List Int)) (i k : Nat) : Int := elt (row R i) k
def OkAt (R : List (List Int)) (by' : Int) (i k : Nat) : Prop := (0 < k → num R i (k - 1) + by' ≤ num R i k) ∧ (0 < i → num R (i - 1) k < num R i k)
/-- Numbers increase, as far as the rows before i, and the first k numbers of the row i tell. -/
def IncTo (R : List (List Int)) (by' : Int) (i k : Nat) : Prop := (∀ p, p < i → ∀ q, q < (row R p).length → OkAt R by' p q) ∧ ∀ q, q < k → OkAt R by' i q
def Inc (R : List (List Int)) (by' : Int) : Prop := ∀ p, p < R.length → ∀ q, q < (row R p).length → OkAt R by' p q
open Classical in
noncomputable def incB (R : List (List Int)) (by' : Int) : Bool := decide (Inc R by')
theorem incB_iff (R : List (List Int)) (by' : Int) : incB R by' = true ↔ Inc R by' := by unfold incB; exact @decide_eq_true_iff _ (Classical.propDecidable _)
theorem incTo_succ {R : List (List Int)} {by' : Int} {i k : Nat} (h : IncTo R by' i k) (h2 : OkAt R by' i k) : IncTo R by' i (k + 1) :=
  ⟨h.1, fun q hq => by
    by_cases e : q = k
    · subst e; exact h2
    · exact h.2 q (by omega)⟩
theorem incTo_next {R : List (List Int)} {by' : Int} {i : Nat} (h : IncTo R by' i (row R i).length) : IncTo R by' (i + 1) 0 :=
  ⟨fun p hp q hq => by
    by_cases e : p = i
    · subst e; exact h.2 q hq
    · exact h.1 p (by omega) q hq, fun q hq => by omega⟩
theorem incTo_zero (R : List (List Int)) (by' : Int) : IncTo R by' 0 0 := ⟨fun p hp => by omega, fun q hq => by omega⟩
/-- All numbers are from 0 to 1000. -/
def Bd (R : List (List Int)) : Prop := ∀ i k, k < (row R i).length → 0 ≤ num R i k ∧ num R i k ≤ 1000
set_option maxRecDepth 100000 in
set_option maxHeartbeats 4000000 in
theorem increasing_any (v : Value) (R : List (List Int)) (by' : Int) (w : World) (hx0 : RdLL w v R) (hR : Sml R) (hsh : ShTo R R.length) (hbd : Bd R) (hb1 : 0 ≤ by') (hb2 : by' ≤ 1) :
    Calls Try.prog 65 #[v, .int .i64 by'] w fun e w' => e = .returned (.bool (incB R by')) ∧ Below w.heap.size w w' := by
  obtain ⟨a, ca, rfl⟩ := hx0.sl
  have HX := Lib.hid hx0; clear hx0
  obtain ⟨r1, r2⟩ := hR
  have HR2 := Lib.hid r2; clear r2
  have HSH := Lib.hid hsh; clear hsh
  have HBD := Lib.hid hbd; clear hbd
  have HS : Hid (incB R by' = true ↔ Inc R by') := Lib.hid (incB_iff R by')
  generalize incB R by' = sb at *
  go_enter Try.func65, Try.ntmps65
  go_wp2_with fail
  go_loopw [5, 6] (fun i _ wr => ∃ k : Nat, k ≤ R.length ∧ i = .int .i64 k ∧ IncTo R by' k 0 ∧ Below w.heap.size w wr) (fun i _ _ => R.length - (intOf i).toNat)
  case atStart => exact ⟨0, Nat.zero_le _, rfl, incTo_zero R by', bz w⟩
  case round =>
    obtain ⟨i, hi, rfl, ht, hB⟩ := hrel
    have HB := Lib.hid hB; have HT := Lib.hid ht; clear hB ht
    by_cases hlt : i < R.length
    · obtain ⟨b, off, a', c', rfl, hb, hc, hr⟩ := HX.out.get i hlt
      have n1 := HR2.out i
      have GX := Lib.hid (fun wz (hz : Below w.heap.size w wz) => (hz.cell (p := ⟨b, off + i, none⟩) hb).trans hc)
      have ZX := Lib.hid (fun wz (hz : Below w.heap.size w wz) => Nat.lt_of_lt_of_le hb hz.size)
      have HRR := Lib.hid hr
      clear hc hr
      go_wp2_with fail
      rename World => wO
      go_loopw [6] (fun j wr => ∃ k : Nat, k ≤ (row R i).length ∧ j = .int .i64 k ∧ IncTo R by' i k ∧ Below w.heap.size w wr) (fun j _ => (row R i).length - (intOf j).toNat)
      case atStart => exact ⟨0, Nat.zero_le _, rfl, HT.out, HB.out⟩
      case round =>
        clear HB HT
        obtain ⟨k, hk, rfl, ht, hB⟩ := hrel
        have HB := Lib.hid hB; have HT := Lib.hid ht; clear hB ht
        have gx := GX.out _ HB.out
        have zx := ZX.out _ HB.out
        by_cases hkl : k < (row R i).length
        · obtain ⟨bi, oi, rfl, hbi, hci⟩ := HRR.out.get (by omega)
          have gk := (HB.out.cell (p := ⟨bi, oi + k, none⟩) hbi).trans (hci k hkl)
          have zk := Nat.lt_of_lt_of_le hbi HB.out.size
          have HCI := Lib.hid (fun j hj => (HB.out.cell (p := ⟨bi, oi + j, none⟩) hbi).trans (hci j hj))
          clear hci
          have hbk := HBD.out i k hkl
          have HNO := Lib.hid (fun hn : ¬ OkAt R by' i k => (show false = sb from by
            cases hsb : sb with
            | false => rfl
            | true => exact absurd (HS.out.1 hsb i hlt k hkl) hn))
          have HYES := Lib.hid (fun h => incTo_succ HT.out h)
          unfold OkAt at HNO HYES
          rcases Nat.eq_zero_or_pos k with ek | ek
          · subst ek
            rw [Nat.add_zero] at gk
            clear HCI
            rcases Nat.eq_zero_or_pos i with ei | ei
            · subst ei
              rw [Nat.add_zero] at gx
              rw [show elt (row R (0)) (0) = num R (0) (0) from rfl] at gk
              have HY2 := Lib.hid (HYES.out ⟨fun h => absurd h (by omega), fun h => absurd h (by omega)⟩)
              clear HNO HYES
              generalize num R (0) (0) = x at *
              go_upto_region 7 with fail
              go_quiet (fail)
              go_wp2_with fail
              go_roundw
              case rel => exact ⟨1, by omega, by go_num, HY2.out, Below.drewN' _ HB.out⟩
              case measure => simp [intOf]; omega
            · obtain ⟨m, rfl⟩ : ∃ m, i = m + 1 := ⟨i - 1, by omega⟩
              rw [show m + 1 - 1 = m by omega] at HNO HYES
              have d3 : decide ((0:Int) < (m : Int) + 1) = true := by rw [decide_eq_true_eq]; omega
              have d4 : decide (0 < m + 1) = true := by simp
              have hm := (HSH.out (m + 1) hlt).2 (by omega)
              rw [show m + 1 - 1 = m by omega] at hm
              obtain ⟨b', off', a2, c2, e', hb2, hc2, hr2⟩ := HX.out.get m (by omega)
              cases e'
              have n2 := HR2.out m
              have gm := (HB.out.cell (p := ⟨b, off + m, none⟩) hb).trans hc2
              obtain ⟨bm, om, rfl, hbm, hcm⟩ := hr2.get (by omega)
              have gmk := (HB.out.cell (p := ⟨bm, om + (0), none⟩) hbm).trans (hcm (0) (by omega))
              rw [Nat.add_zero] at gmk
              have zm := Nat.lt_of_lt_of_le hbm HB.out.size
              have hbmk := HBD.out m (0) (by omega)
              rw [show elt (row R m) (0) = num R m (0) from rfl] at gmk
              clear hc2 hr2 hcm ei
              rw [show elt (row R (m + 1)) (0) = num R (m + 1) (0) from rfl] at gk
              by_cases c2 : num R m (0) < num R (m + 1) (0)
              · have t3 : decide (num R (m + 1) (0) ≤ num R m (0)) = false := by rw [decide_eq_false_iff_not]; omega
                have HY2 := Lib.hid (HYES.out ⟨fun h => absurd h (by omega), fun _ => c2⟩)
                clear HNO HYES
                generalize num R (m + 1) (0) = x at *
                generalize num R m (0) = z at *
                go_upto_region 7 with fail
                go_quiet (fail)
                go_wp2_with fail
                go_roundw
                case rel => exact ⟨1, by omega, by go_num, HY2.out, Below.drewN' _ HB.out⟩
                case measure => simp [intOf]; omega
              · have t3 : decide (num R (m + 1) (0) ≤ num R m (0)) = true := by rw [decide_eq_true_eq]; omega
                have HN2 := Lib.hid (HNO.out (fun h => c2 (h.2 (by omega))))
                clear HNO HYES
                generalize num R (m + 1) (0) = x at *
                generalize num R m (0) = z at *
                go_upto_region 7 with fail
                go_quiet (fail)
                go_wp2_with fail
                go_ret
                exact ⟨ret_bool HN2.out, Below.drewN' _ HB.out⟩
          · obtain ⟨j, rfl⟩ : ∃ j, k = j + 1 := ⟨k - 1, by omega⟩
            have gj := HCI.out j (by omega)
            have hbj := HBD.out i j (by omega)
            have d1 : decide ((0:Int) < (j : Int) + 1) = true := by rw [decide_eq_true_eq]; omega
            have d2 : decide (0 < j + 1) = true := by simp
            rw [show j + 1 - 1 = j by omega] at HNO HYES
            clear HCI
            rcases Nat.eq_zero_or_pos i with ei | ei
            · subst ei
              rw [Nat.add_zero] at gx
              rw [show elt (row R (0)) (j + 1) = num R (0) (j + 1) from rfl] at gk
              rw [show elt (row R (0)) j = num R (0) j from rfl] at gj
              by_cases c1 : num R (0) j + by' ≤ num R (0) (j + 1)
              · have t2 : decide (num R (0) (j + 1) < num R (0) j + by') = false := by rw [decide_eq_false_iff_not]; omega
                have HY2 := Lib.hid (HYES.out ⟨fun _ => c1, fun h => absurd h (by omega)⟩)
                clear HNO HYES
                generalize num R (0) (j + 1) = x at *
                generalize num R (0) j = y at *
                go_upto_region 7 with fail
                go_quiet (fail)
                go_wp2_with fail
                go_roundw
                case rel => exact ⟨j + 1 + 1, by omega, by go_num, HY2.out, Below.drewN' _ HB.out⟩
                case measure => simp [intOf]; omega
              · have t2 : decide (num R (0) (j + 1) < num R (0) j + by') = true := by rw [decide_eq_true_eq]; omega
                have HN2 := Lib.hid (HNO.out (fun h => c1 (h.1 (by omega))))
                clear HNO HYES
                generalize num R (0) (j + 1) = x at *
                generalize num R (0) j = y at *
                go_upto_region 7 with fail
                go_quiet (fail)
                go_wp2_with fail
                go_ret
                exact ⟨ret_bool HN2.out, Below.drewN' _ HB.out⟩
            · obtain ⟨m, rfl⟩ : ∃ m, i = m + 1 := ⟨i - 1, by omega⟩
              rw [show m + 1 - 1 = m by omega] at HNO HYES
              have d3 : decide ((0:Int) < (m : Int) + 1) = true := by rw [decide_eq_true_eq]; omega
              have d4 : decide (0 < m + 1) = true := by simp
              have hm := (HSH.out (m + 1) hlt).2 (by omega)
              rw [show m + 1 - 1 = m by omega] at hm
              obtain ⟨b', off', a2, c2, e', hb2, hc2, hr2⟩ := HX.out.get m (by omega)
              cases e'
              have n2 := HR2.out m
              have gm := (HB.out.cell (p := ⟨b, off + m, none⟩) hb).trans hc2
              obtain ⟨bm, om, rfl, hbm, hcm⟩ := hr2.get (by omega)
              have gmk := (HB.out.cell (p := ⟨bm, om + (j + 1), none⟩) hbm).trans (hcm (j + 1) (by omega))
              have zm := Nat.lt_of_lt_of_le hbm HB.out.size
              have hbmk := HBD.out m (j + 1) (by omega)
              rw [show elt (row R m) (j + 1) = num R m (j + 1) from rfl] at gmk
              clear hc2 hr2 hcm ei
              rw [show elt (row R (m + 1)) (j + 1) = num R (m + 1) (j + 1) from rfl] at gk
              rw [show elt (row R (m + 1)) j = num R (m + 1) j from rfl] at gj
              by_cases c1 : num R (m + 1) j + by' ≤ num R (m + 1) (j + 1)
              · have t2 : decide (num R (m + 1) (j + 1) < num R (m + 1) j + by') = false := by rw [decide_eq_false_iff_not]; omega
                by_cases c2 : num R m (j + 1) < num R (m + 1) (j + 1)
                · have t3 : decide (num R (m + 1) (j + 1) ≤ num R m (j + 1)) = false := by rw [decide_eq_false_iff_not]; omega
                  have HY2 := Lib.hid (HYES.out ⟨fun _ => c1, fun _ => c2⟩)
                  clear HNO HYES
                  generalize num R (m + 1) (j + 1) = x at *
                  generalize num R (m + 1) j = y at *
                  generalize num R m (j + 1) = z at *
                  go_upto_region 7 with fail
                  go_quiet (fail)
                  go_wp2_with fail
                  go_roundw
                  case rel => exact ⟨j + 1 + 1, by omega, by go_num, HY2.out, Below.drewN' _ HB.out⟩
                  case measure => simp [intOf]; omega
                · have t3 : decide (num R (m + 1) (j + 1) ≤ num R m (j + 1)) = true := by rw [decide_eq_true_eq]; omega
                  have HN2 := Lib.hid (HNO.out (fun h => c2 (h.2 (by omega))))
                  clear HNO HYES
                  generalize num R (m + 1) (j + 1) = x at *
                  generalize num R (m + 1) j = y at *
                  generalize num R m (j + 1) = z at *
                  go_upto_region 7 with fail
                  go_quiet (fail)
                  go_wp2_with fail
                  go_ret
                  exact ⟨ret_bool HN2.out, Below.drewN' _ HB.out⟩
              · have t2 : decide (num R (m + 1) (j + 1) < num R (m + 1) j + by') = true := by rw [decide_eq_true_eq]; omega
                have HN2 := Lib.hid (HNO.out (fun h => c1 (h.1 (by omega))))
                clear HNO HYES
                generalize num R (m + 1) (j + 1) = x at *
                generalize num R (m + 1) j = y at *
                generalize num R m (j + 1) = z at *
                go_upto_region 7 with fail
                go_quiet (fail)
                go_wp2_with fail
                go_ret
                exact ⟨ret_bool HN2.out, Below.drewN' _ HB.out⟩
        · have hke : k = (row R i).length := by omega
          have HN := Lib.hid (incTo_next (by rw [← hke]; exact HT.out))
          go_wp2_with fail
          go_roundw
          case rel => exact ⟨i + 1, by omega, by go_num, HN.out, HB.out⟩
          case measure => simp [intOf]; omega
    · have hke : i = R.length := by omega
      have HY : Hid (sb = true) := Lib.hid (HS.out.2 (by have := HT.out.1; rw [hke] at this; exact this))
      go_wp2_with fail
      go_ret
      exact ⟨ret_bool HY.out.symm, HB.out⟩
end Go.Proofs.Ytnnfahdhmodejaa

namespace Go.Proofs.Ytnnfahdhmodejaa
open Go.RowKit Go.Shelf

theorem run_cutToI (g o n c i : Nat) (h : i ≤ c) (w : World) : (Instr.slice 31 (.slice (some ⟨g, o, none⟩) n c) none (some (.int .i64 (i : Int))) none).run Try.prog w = .ok (.slice (some ⟨g, o, none⟩) i c) w := by
  obtain ⟨i0, hi, hz0, hz1, hz2⟩ := info_parts num3
  have h2 : ¬ ((c : Int) < (i : Int)) := by omega
  simp [Instr.slice, run_underlying Try.underlying31, Sem.run_bind, Instr.sliceBounds, Instr.sliceBound, asIntOf, h, sizeOf, typeInfo, hi, Addr.add]
theorem run_cutToL (g o n c i : Nat) (h : i ≤ c) (w : World) : (Instr.slice 22 (.slice (some ⟨g, o, none⟩) n c) none (some (.int .i64 (i : Int))) none).run Try.prog w = .ok (.slice (some ⟨g, o, none⟩) i c) w := by
  obtain ⟨i0, hi, hz0, hz1, hz2⟩ := info_parts info31
  have h2 : ¬ ((c : Int) < (i : Int)) := by omega
  simp [Instr.slice, run_underlying Try.underlying22, Sem.run_bind, Instr.sliceBounds, Instr.sliceBound, asIntOf, h, sizeOf, typeInfo, hi, Addr.add]
theorem run_cutFromI (g o n c lo : Nat) (h1 : lo ≤ n) (h2 : n ≤ c) : ∃ ad, (∀ w : World, (Instr.slice 31 (.slice (some ⟨g, o, none⟩) n c) (some (.int .i64 (lo : Int))) none none).run Try.prog w = .ok (.slice (some ad) (n - lo) (c - lo)) w) ∧ (lo < n → ad = ⟨g, o + lo, none⟩) := by
  obtain ⟨i0, hi0, hz0, hz1, hz2⟩ := info_parts num3
  have k1 : ¬ ((lo : Int) < 0) := by omega
  have k2 : ¬ ((n : Int) < (lo : Int)) := by omega
  have k3 : ¬ ((c : Int) < (n : Int)) := by omega
  by_cases hq : c = lo
  · have hh : n = lo := by omega
    subst hh; subst hq
    refine ⟨⟨g, o, none⟩, fun w => ?_, fun h => by omega⟩
    simp [Instr.slice, run_underlying Try.underlying31, Sem.run_bind, Instr.sliceBounds, Instr.sliceBound, asIntOf, sizeOf, typeInfo, hi0, Addr.add]
  · refine ⟨⟨g, o + lo, none⟩, fun w => ?_, fun _ => rfl⟩
    simp [Instr.slice, run_underlying Try.underlying31, Sem.run_bind, Instr.sliceBounds, Instr.sliceBound, asIntOf, sizeOf, typeInfo, hi0, hz1, Addr.add, hq, h1]
theorem run_cutMid (g o n c lo hi : Nat) (h1 : lo ≤ hi) (h2 : hi ≤ c) : ∃ ad, (∀ w : World, (Instr.slice 31 (.slice (some ⟨g, o, none⟩) n c) (some (.int .i64 (lo : Int))) (some (.int .i64 (hi : Int))) none).run Try.prog w = .ok (.slice (some ad) (hi - lo) (c - lo)) w) ∧ (lo < hi → ad = ⟨g, o + lo, none⟩) := by
  obtain ⟨i0, hi0, hz0, hz1, hz2⟩ := info_parts num3
  have k1 : ¬ ((lo : Int) < 0) := by omega
  have k2 : ¬ ((hi : Int) < (lo : Int)) := by omega
  have k3 : ¬ ((c : Int) < (hi : Int)) := by omega
  by_cases hq : c = lo
  · have hh : hi = lo := by omega
    subst hh; subst hq
    refine ⟨⟨g, o, none⟩, fun w => ?_, fun h => by omega⟩
    simp [Instr.slice, run_underlying Try.underlying31, Sem.run_bind, Instr.sliceBounds, Instr.sliceBound, asIntOf, sizeOf, typeInfo, hi0, Addr.add]
  · refine ⟨⟨g, o + lo, none⟩, fun w => ?_, fun _ => rfl⟩
    simp [Instr.slice, run_underlying Try.underlying31, Sem.run_bind, Instr.sliceBounds, Instr.sliceBound, asIntOf, sizeOf, typeInfo, hi0, hz1, Addr.add, hq, h1, h2]
theorem rdI_mid {w : World} {g o n c lo hi : Nat} {ad : Addr} {W : List Int} (hn : n = W.length) (h : RdI w .i64 (.slice (some ⟨g, o, none⟩) n c) W) (h1 : lo ≤ hi) (h2 : hi ≤ n) (had : lo < hi → ad = ⟨g, o + lo, none⟩) : RdI w .i64 (.slice (some ad) (hi - lo) (c - lo)) ((W.drop lo).take (hi - lo)) := by
  subst hn
  obtain ⟨_, _, e, k1, k2, hx⟩ := h.form
  cases e
  have hl : ((W.drop lo).take (hi - lo)).length = hi - lo := by rw [List.length_take, List.length_drop]; omega
  refine ⟨_, _, by rw [hl], by omega, by omega, fun hne => ?_⟩
  have hlt : lo < hi := by
    rcases Nat.lt_or_ge lo hi with h | h
    · exact h
    · rw [show hi - lo = 0 by omega] at hne; simp at hne
  obtain ⟨b, off, e, hb, hc⟩ := hx (by omega)
  cases e
  refine ⟨g, o + lo, by rw [had hlt], hb, fun j u hu => ?_⟩
  have hj : j < hi - lo := by have := (List.getElem?_eq_some_iff.1 hu).1; rw [List.length_map, hl] at this; exact this
  have := hc (lo + j) (by omega)
  rw [show o + lo + j = o + (lo + j) by omega, this, ← hu]
  have hj2 : lo + j < W.length := by omega
  simp [hj, List.getElem?_drop, hj2]

theorem rdI_pre {w : World} {g o n c : Nat} {W : List Int} (h : RdI w .i64 (.slice (some ⟨g, o, none⟩) n c) W) {k : Nat} (hk : k ≤ W.length) : RdI w .i64 (.slice (some ⟨g, o, none⟩) k c) (W.take k) := by
  obtain ⟨a, cap, e, h1, h2, h3⟩ := h
  simp only [Value.slice.injEq] at e
  obtain ⟨rfl, rfl, rfl⟩ := e
  have hl : (W.take k).length = k := by rw [List.length_take]; omega
  refine ⟨_, _, by rw [hl], by omega, h2, fun hne => ?_⟩
  have hw : W.map (Value.int .i64) ≠ [] := by intro e; rw [List.map_take, e] at hne; simp at hne
  obtain ⟨b, o', e, h4, h5⟩ := h3 hw
  refine ⟨b, o', e, h4, fun j v hj => h5 j v ?_⟩
  rw [List.map_take] at hj
  have hjk : j < k := by have := (List.getElem?_eq_some_iff.1 hj).1; simp at this; omega
  rw [List.getElem?_take_of_lt hjk] at hj
  exact hj
theorem rdI_nil (w : World) (k : IntKind) : RdI w k (.slice none 0 0) [] := ⟨none, 0, rfl, Nat.le_refl _, by unfold maxLen; omega, fun h => absurd rfl h⟩
theorem rdI_eq {w : World} {v : Value} {xs ys : List Int} (h : RdI w .i64 v xs) (e : xs = ys) : RdI w .i64 v ys := e ▸ h
end Go.Proofs.Ytnnfahdhmodejaa

namespace Go.Proofs.Ytnnfahdhmodejaa
open Go.RowKit Go.Shelf

/-- The error of rows as a rack, of rows as an order, of a sequence. -/
noncomputable def rackC (R : List (List Int)) : Int := if 12 < R.flatten.length then 6 else if R.flatten.any (outB 1 99) then 3 else if shapedB R && incB R 0 then 0 else 22
noncomputable def orderC (R : List (List Int)) : Int := if 12 < R.flatten.length then 6 else if R.flatten.any (outB 1 R.flatten.length) then 3 else if !decide R.flatten.Nodup then 11 else if shapedB R && incB R 1 then 0 else 22
def seqC (s : List Int) : Int := if 12 < s.length then 6 else if s.any (outB 1 99) then 3 else 0

theorem any_true {p : Int → Bool} {l : List Int} {k : Nat} (hk : k < l.length) (h : p (elt l k) = true) : l.any p = true := List.any_eq_true.2 ⟨_, elt_mem hk, h⟩
theorem any_false {p : Int → Bool} {l : List Int} (h : ∀ i, i < l.length → p (elt l i) = false) : l.any p = false := by
  rw [List.any_eq_false]
  intro x hx
  obtain ⟨j, hj, rfl⟩ := mem_row_elt hx
  rw [h j hj]; decide
theorem outB_lo {lo hi x : Int} (h : x < lo) : outB lo hi x = true := by unfold outB; rw [decide_eq_true_eq]; exact .inl h
theorem outB_hi {lo hi x : Int} (h : hi < x) : outB lo hi x = true := by unfold outB; rw [decide_eq_true_eq]; exact .inr h
theorem outB_in {lo hi x : Int} (h : lo ≤ x) (h2 : x ≤ hi) : outB lo hi x = false := by unfold outB; rw [decide_eq_false_iff_not]; omega
theorem outB_bd {lo hi x : Int} (h : outB lo hi x = false) : lo ≤ x ∧ x ≤ hi := by unfold outB at h; rw [decide_eq_false_iff_not] at h; omega
theorem flat_mem {R : List (List Int)} {i : Nat} {x : Int} (h : x ∈ row R i) : x ∈ R.flatten := by
  have hi := row_mem_lt h
  rw [row_lt hi] at h
  exact List.mem_flatten.2 ⟨_, List.getElem_mem hi, h⟩
theorem bd_of {R : List (List Int)} {hi : Int} (h : R.flatten.any (outB 1 hi) = false) (hh : hi ≤ 1000) : Bd R := by
  intro i k hk
  have h1 := List.any_eq_false.1 h (num R i k) (flat_mem (elt_mem hk))
  have := outB_bd (by simpa using h1)
  omega
theorem sml_flat {R : List (List Int)} (h : Sml R) : R.flatten.length ≤ 400 := by
  have := flat_len h.2 R.length (Nat.le_refl _)
  rw [List.take_length] at this
  have := h.1
  omega
theorem nodup_take {l : List Int} {k : Nat} (hk : k < l.length) (h : (l.take k).Nodup) (h2 : (l.take k).contains (elt l k) = false) : (l.take (k + 1)).Nodup := by
  rw [List.take_succ_eq_append_getElem hk, List.nodup_append]
  refine ⟨h, by simp, ?_⟩
  intro x hx y hy e
  simp at hy
  subst hy; subst e
  rw [elt_lt hk] at h2
  have h3 := List.contains_iff_mem.2 hx
  rw [h3] at h2; cases h2
theorem dup_take {l : List Int} {k : Nat} (hk : k < l.length) (h2 : (l.take k).contains (elt l k) = true) : ¬ l.Nodup := by
  intro h
  have h3 : (l.take (k + 1)).Nodup := h.sublist (List.take_sublist _ _)
  rw [List.take_succ_eq_append_getElem hk, List.nodup_append] at h3
  rw [elt_lt hk] at h2
  exact h3.2.2 _ (by simpa using h2) _ (by simp) rfl

set_option maxRecDepth 100000 in
set_option maxHeartbeats 800000 in
theorem rseq_any (x : Value) (xs : List Int) (w : World) (hx0 : RdI w .i64 x xs) (hl : xs.length ≤ 1000) :
    Calls Try.prog 32 #[x] w fun e w' => e = .returned (.int .i64 (seqC xs)) ∧ w = w' := by
  obtain ⟨a, ca, rfl, _, hcm, hx⟩ := hx0.form
  clear hx0 hcm
  by_cases h12 : 12 < xs.length
  · have t1 : (12 : Int) < (xs.length : Int) := by omega
    have HR : Hid (seqC xs = 6) := Lib.hid (by unfold seqC; rw [if_pos h12])
    generalize seqC xs = g at *
    go_enter Try.func32, Try.ntmps32
    go_wp2_with fail
    go_ret
    exact ⟨ret_int HR.out.symm, rfl⟩
  · have t1 : ¬ (12 : Int) < (xs.length : Int) := by omega
    have HR : Hid (seqC xs = if xs.any (outB 1 99) then 3 else 0) := Lib.hid (by unfold seqC; rw [if_neg h12])
    generalize seqC xs = g at *
    go_enter Try.func32, Try.ntmps32
    go_wp2_with fail
    go_loop [3] (fun i => ∃ k : Nat, k ≤ xs.length ∧ i = .int .i64 k ∧ (∀ i, i < k → outB 1 99 (elt xs i) = false)) (fun i => xs.length - (intOf i).toNat)
    case atStart => exact ⟨0, Nat.zero_le _, rfl, fun i h => by omega⟩
    case round =>
      obtain ⟨k, hk, rfl, ht⟩ := hrel
      have HT := Lib.hid ht; clear ht
      by_cases hlt : k < xs.length
      · obtain ⟨bx, ox, rfl, hbx, hcx⟩ := hx (by omega)
        have gx := hcx k hlt
        have HE : Hid (elt xs k = xs[k]?.getD 0) := Lib.hid rfl
        clear hx hcx
        have HN := Lib.hid (fun h => any_true (p := outB 1 99) hlt h)
        rw [HE.out] at HN
        have HST : Hid (outB 1 99 (xs[k]?.getD 0) = false → ∀ i, i < k + 1 → outB 1 99 (elt xs i) = false) := Lib.hid (fun h i hi => by
          by_cases e : i = k
          · subst e; rw [HE.out]; exact h
          · exact HT.out i (by omega))
        generalize xs[k]?.getD 0 = q at *
        by_cases h1 : q < 1
        · have HN2 := Lib.hid (HN.out (outB_lo h1))
          have d1 : decide (q < 1) = true := by rw [decide_eq_true_eq]; exact h1
          go_wp2_with fail
          go_ret
          exact ⟨ret_int (by rw [HR.out, HN2.out]; rfl), rfl⟩
        · have d1 : decide (q < 1) = false := by rw [decide_eq_false_iff_not]; exact h1
          by_cases h2 : 99 < q
          · have HN2 := Lib.hid (HN.out (outB_hi h2))
            have d2 : decide (99 < q) = true := by rw [decide_eq_true_eq]; exact h2
            go_wp2_with fail
            go_ret
            exact ⟨ret_int (by rw [HR.out, HN2.out]; rfl), rfl⟩
          · have d2 : decide (99 < q) = false := by rw [decide_eq_false_iff_not]; exact h2
            have HS2 := Lib.hid (HST.out (outB_in (by omega) (by omega)))
            go_wp2_with fail
            go_round
            case rel => exact ⟨k + 1, by omega, by go_num, HS2.out⟩
            case measure => simp [intOf]; omega
      · have HA : Hid (xs.any (outB 1 99) = false) := Lib.hid (any_false fun i hi => HT.out i (by omega))
        go_wp2_with fail
        go_ret
        exact ⟨ret_int (by rw [HR.out, HA.out]; rfl), rfl⟩

set_option maxRecDepth 100000 in
set_option maxHeartbeats 800000 in
theorem rrack_any (v : Value) (R : List (List Int)) (w : World) (hx0 : RdLL w v R) (hs : Sml R) :
    Calls Try.prog 19 #[v] w fun e w' => e = .returned (.int .i64 (rackC R)) ∧ Below w.heap.size w w' := by
  have hfl := sml_flat hs
  have HALL := Lib.hid (all_any v R w hx0 hs)
  have HX := Lib.hid hx0; have HSM := Lib.hid hs
  obtain ⟨a, ca, rfl⟩ := hx0.sl
  clear hx0 hs
  have HR : Hid (rackC R = if 12 < R.flatten.length then 6 else if R.flatten.any (outB 1 99) then 3 else if shapedB R && incB R 0 then 0 else 22) := Lib.hid rfl
  have HBD := Lib.hid (fun h => bd_of (R := R) (hi := 99) h (by omega))
  generalize rackC R = g at *
  generalize R.flatten = xs at *
  go_enter Try.func19, Try.ntmps19
  go_wp2_with fail
  refine HALL.out.mono ?_
  rintro e w2 ⟨u, rfl, hu, hB⟩
  obtain ⟨au, cu, rfl⟩ := owns_form hu
  obtain ⟨au', cu', e', _, hcm, hx⟩ := (RdI.of_owns hu).form
  cases e'
  have HB := Lib.hid hB
  clear hu hB hcm
  by_cases h12 : 12 < xs.length
  · have t1 : (12 : Int) < (xs.length : Int) := by omega
    rw [if_pos h12] at HR
    go_wp2_with fail
    go_ret
    exact ⟨ret_int HR.out.symm, HB.out⟩
  · have t1 : ¬ (12 : Int) < (xs.length : Int) := by omega
    rw [if_neg h12] at HR
    go_wp2_with fail
    go_loop [4] (fun i => ∃ k : Nat, k ≤ xs.length ∧ i = .int .i64 k ∧ (∀ i, i < k → outB 1 99 (elt xs i) = false)) (fun i => xs.length - (intOf i).toNat)
    case atStart => exact ⟨0, Nat.zero_le _, rfl, fun i h => by omega⟩
    case round =>
      obtain ⟨k, hk, rfl, ht⟩ := hrel
      have HT := Lib.hid ht; clear ht
      by_cases hlt : k < xs.length
      · obtain ⟨bx, ox, rfl, hbx, hcx⟩ := hx (by omega)
        have gx := hcx k hlt
        have HE : Hid (elt xs k = xs[k]?.getD 0) := Lib.hid rfl
        clear hx hcx
        have HN := Lib.hid (fun h => any_true (p := outB 1 99) hlt h)
        rw [HE.out] at HN
        have HST : Hid (outB 1 99 (xs[k]?.getD 0) = false → ∀ i, i < k + 1 → outB 1 99 (elt xs i) = false) := Lib.hid (fun h i hi => by
          by_cases e : i = k
          · subst e; rw [HE.out]; exact h
          · exact HT.out i (by omega))
        generalize xs[k]?.getD 0 = q at *
        by_cases h1 : q < 1
        · have HN2 := Lib.hid (HN.out (outB_lo h1))
          have d1 : decide (q < 1) = true := by rw [decide_eq_true_eq]; exact h1
          go_wp2_with fail
          go_ret
          exact ⟨ret_int (by rw [HR.out, HN2.out]; rfl), HB.out⟩
        · have d1 : decide (q < 1) = false := by rw [decide_eq_false_iff_not]; exact h1
          by_cases h2 : 99 < q
          · have HN2 := Lib.hid (HN.out (outB_hi h2))
            have d2 : decide (99 < q) = true := by rw [decide_eq_true_eq]; exact h2
            go_wp2_with fail
            go_ret
            exact ⟨ret_int (by rw [HR.out, HN2.out]; rfl), HB.out⟩
          · have d2 : decide (99 < q) = false := by rw [decide_eq_false_iff_not]; exact h2
            have HS2 := Lib.hid (HST.out (outB_in (by omega) (by omega)))
            go_wp2_with fail
            go_round
            case rel => exact ⟨k + 1, by omega, by go_num, HS2.out⟩
            case measure => simp [intOf]; omega
      · have hany : xs.any (outB 1 99) = false := any_false fun i hi => HT.out i (by omega)
        rw [hany, if_neg (by simp)] at HR
        have hbd := HBD.out hany
        have HSH := Lib.hid (fun wz h => shaped_any (.slice a R.length ca) R wz h HSM.out)
        have HIN := Lib.hid (fun (hh : shapedB R = true) wz h => increasing_any (.slice a R.length ca) R 0 wz h HSM.out ((shapedB_iff R).1 hh) hbd (by decide) (by decide))
        clear hany hbd HBD HT hx
        generalize shapedB R = sb at *
        generalize incB R 0 = ib at *
        cases sb with
        | false =>
          clear HIN
          go_wp2_with fail
          refine (HSH.out _ (HX.out.mono HB.out)).mono ?_
          rintro e w3 ⟨rfl, hB3⟩
          have HB3 := Lib.hid (btr HB.out hB3)
          clear hB3
          go_wp2_with fail
          go_ret
          exact ⟨ret_int HR.out.symm, HB3.out⟩
        | true =>
          have HIN2 := Lib.hid (HIN.out rfl)
          clear HIN
          go_wp2_with fail
          refine (HSH.out _ (HX.out.mono HB.out)).mono ?_
          rintro e w3 ⟨rfl, hB3⟩
          have HB3 := Lib.hid (btr HB.out hB3)
          clear hB3
          go_wp2_with fail
          refine (HIN2.out _ (HX.out.mono HB3.out)).mono ?_
          rintro e w4 ⟨rfl, hB4⟩
          have HB4 := Lib.hid (btr HB3.out hB4)
          clear hB4
          cases ib with
          | false =>
            go_wp2_with fail
            go_ret
            exact ⟨ret_int HR.out.symm, HB4.out⟩
          | true =>
            go_wp2_with fail
            go_ret
            exact ⟨ret_int HR.out.symm, HB4.out⟩
end Go.Proofs.Ytnnfahdhmodejaa

namespace Go.Proofs.Ytnnfahdhmodejaa
open Go.RowKit Go.Shelf

set_option maxRecDepth 100000 in
set_option maxHeartbeats 800000 in
theorem rorder_any (v : Value) (R : List (List Int)) (w : World) (hx0 : RdLL w v R) (hs : Sml R) :
    Calls Try.prog 21 #[v] w fun e w' => e = .returned (.int .i64 (orderC R)) ∧ Below w.heap.size w w' := by
  have hfl := sml_flat hs
  have HALL := Lib.hid (all_any v R w hx0 hs)
  have HX := Lib.hid hx0; have HSM := Lib.hid hs
  obtain ⟨a, ca, rfl⟩ := hx0.sl
  clear hx0 hs
  have HR : Hid (orderC R = if 12 < R.flatten.length then 6 else if R.flatten.any (outB 1 R.flatten.length) then 3 else if !decide R.flatten.Nodup then 11 else if shapedB R && incB R 1 then 0 else 22) := Lib.hid rfl
  have HBD := Lib.hid (fun h => bd_of (R := R) (hi := R.flatten.length) h (by omega))
  generalize orderC R = g at *
  generalize R.flatten = xs at *
  go_enter Try.func21, Try.ntmps21
  go_wp2_with fail
  refine HALL.out.mono ?_
  rintro e w2 ⟨u, rfl, hu, hB⟩
  obtain ⟨au, cu, rfl⟩ := owns_form hu
  obtain ⟨au', cu', e', _, hcm, hx⟩ := (RdI.of_owns hu).form
  cases e'
  have HB := Lib.hid hB
  have HU0 := Lib.hid (RdI.of_owns hu)
  clear hu hB hcm
  by_cases h12 : 12 < xs.length
  · have t1 : (12 : Int) < (xs.length : Int) := by omega
    rw [if_pos h12] at HR
    go_wp2_with fail
    go_ret
    exact ⟨ret_int HR.out.symm, HB.out⟩
  · have t1 : ¬ (12 : Int) < (xs.length : Int) := by omega
    rw [if_neg h12] at HR
    go_wp2_with fail
    go_loop [4] (fun i => ∃ k : Nat, k ≤ xs.length ∧ i = .int .i64 k ∧ (∀ i, i < k → outB 1 xs.length (elt xs i) = false)) (fun i => xs.length - (intOf i).toNat)
    case atStart => exact ⟨0, Nat.zero_le _, rfl, fun i h => by omega⟩
    case round =>
      obtain ⟨k, hk, rfl, ht⟩ := hrel
      have HT := Lib.hid ht; clear ht
      by_cases hlt : k < xs.length
      · obtain ⟨bx, ox, rfl, hbx, hcx⟩ := hx (by omega)
        have gx := hcx k hlt
        have HE : Hid (elt xs k = xs[k]?.getD 0) := Lib.hid rfl
        clear hx hcx
        have HN := Lib.hid (fun h => any_true (p := outB 1 xs.length) hlt h)
        rw [HE.out] at HN
        have HST : Hid (outB 1 xs.length (xs[k]?.getD 0) = false → ∀ i, i < k + 1 → outB 1 xs.length (elt xs i) = false) := Lib.hid (fun h i hi => by
          by_cases e : i = k
          · subst e; rw [HE.out]; exact h
          · exact HT.out i (by omega))
        generalize xs[k]?.getD 0 = q at *
        by_cases h1 : q < 1
        · have HN2 := Lib.hid (HN.out (outB_lo h1))
          have d1 : decide (q < 1) = true := by rw [decide_eq_true_eq]; exact h1
          go_wp2_with fail
          go_ret
          exact ⟨ret_int (by rw [HR.out, HN2.out]; rfl), HB.out⟩
        · have d1 : decide (q < 1) = false := by rw [decide_eq_false_iff_not]; exact h1
          by_cases h2 : (xs.length : Int) < q
          · have HN2 := Lib.hid (HN.out (outB_hi h2))
            have d2 : decide ((xs.length : Int) < q) = true := by rw [decide_eq_true_eq]; exact h2
            go_wp2_with fail
            go_ret
            exact ⟨ret_int (by rw [HR.out, HN2.out]; rfl), HB.out⟩
          · have d2 : decide ((xs.length : Int) < q) = false := by rw [decide_eq_false_iff_not]; exact h2
            have HS2 := Lib.hid (HST.out (outB_in (by omega) (by omega)))
            go_wp2_with fail
            go_round
            case rel => exact ⟨k + 1, by omega, by go_num, HS2.out⟩
            case measure => simp [intOf]; omega
      · have hany : xs.any (outB 1 xs.length) = false := any_false fun i hi => HT.out i (by omega)
        rw [hany, if_neg (by simp)] at HR
        have hbd := HBD.out hany
        clear hany HBD HT
        have HXX := Lib.hid hx; clear hx
        have HU := HU0
        go_wp2_with fail
        go_loopw [5] (fun i wr => ∃ k : Nat, k ≤ xs.length ∧ i = .int .i64 k ∧ (xs.take k).Nodup ∧ Below w.heap.size w wr ∧ Below w2.heap.size w2 wr) (fun i _ => xs.length - (intOf i).toNat)
        case atStart => exact ⟨0, Nat.zero_le _, rfl, by simp, HB.out, bz _⟩
        case round =>
          obtain ⟨k, hk, rfl, ht, hB1, hB2⟩ := hrel
          have HT := Lib.hid ht
          clear HB
          have HB := Lib.hid hB1
          have HB2 := Lib.hid hB2
          clear hB1 hB2 ht
          by_cases hlt : k < xs.length
          · obtain ⟨bx, ox, rfl, hbx, hcx⟩ := HXX.out (by omega)
            have GX := Lib.hid (fun n => ((Below.drewN' n HB2.out).cell (p := ⟨bx, ox + k, none⟩) hbx).trans (hcx k hlt))
            have gx := (HB2.out.cell (p := ⟨bx, ox + k, none⟩) hbx).trans (hcx k hlt)
            have zx := Nat.lt_of_lt_of_le hbx HB2.out.size
            have hs := run_cutToI bx ox xs.length cu k (by omega)
            have hpl : (xs.take k).length ≤ 1000 := by rw [List.length_take]; omega
            have HHA := Lib.hid (fun q wz h => has_any (.slice (some ⟨bx, ox, none⟩) k cu) (xs.take k) q wz h hpl)
            have HRP := Lib.hid (fun n => rdI_pre (HU.out.mono (Below.drewN' n HB2.out)) hk)
            have HEL : Hid (elt xs k = xs[k]?.getD 0) := Lib.hid rfl
            have HD1 := Lib.hid (fun h => nodup_take hlt HT.out h)
            have HD2 := Lib.hid (fun h => dup_take (l := xs) hlt h)
            rw [HEL.out] at HD1 HD2
            clear hcx hpl HEL
            generalize xs[k]?.getD 0 = q at *
            have HHB := Lib.hid (fun wz h => HHA.out q wz h)
            clear HHA
            generalize (xs.take k).contains q = bb at *
            go_upto_region 12 with fail
            go_quiet ((go_at_call 68; exact Calls.quiet_of_same ((HHB.out _ (HRP.out _)).mono (fun e w' h => ⟨h.1, h.2.symm⟩))))
            cases bb with
            | true =>
              have HDD : Hid (decide xs.Nodup = false) := Lib.hid (decide_eq_false (HD2.out rfl))
              go_wp2_with fail
              go_ret
              exact ⟨ret_int (by rw [HR.out, HDD.out]; rfl), Below.drewN' _ HB.out⟩
            | false =>
              have HDD := Lib.hid (HD1.out rfl)
              go_wp2_with fail
              go_roundw
              case rel => exact ⟨k + 1, by omega, by go_num, HDD.out, Below.drewN' _ HB.out, Below.drewN' _ HB2.out⟩
              case measure => simp [intOf]; omega
          · have hnd : xs.Nodup := by have := HT.out; rw [List.take_of_length_le (by omega)] at this; exact this
            rw [decide_eq_true hnd, if_neg (by simp)] at HR
            clear hnd HT
            have HSH := Lib.hid (fun wz h => shaped_any (.slice a R.length ca) R wz h HSM.out)
            have HIN := Lib.hid (fun (hh : shapedB R = true) wz h => increasing_any (.slice a R.length ca) R 1 wz h HSM.out ((shapedB_iff R).1 hh) hbd (by decide) (by decide))
            clear hbd HXX
            generalize shapedB R = sb at *
            generalize incB R 1 = ib at *
            cases sb with
            | false =>
              clear HIN
              go_wp2_with fail
              refine (HSH.out _ (HX.out.mono HB.out)).mono ?_
              rintro e w3 ⟨rfl, hB3⟩
              have HB3 := Lib.hid (btr HB.out hB3)
              clear hB3
              go_wp2_with fail
              go_ret
              exact ⟨ret_int HR.out.symm, HB3.out⟩
            | true =>
              have HIN2 := Lib.hid (HIN.out rfl)
              clear HIN
              go_wp2_with fail
              refine (HSH.out _ (HX.out.mono HB.out)).mono ?_
              rintro e w3 ⟨rfl, hB3⟩
              have HB3 := Lib.hid (btr HB.out hB3)
              clear hB3
              go_wp2_with fail
              refine (HIN2.out _ (HX.out.mono HB3.out)).mono ?_
              rintro e w4 ⟨rfl, hB4⟩
              have HB4 := Lib.hid (btr HB3.out hB4)
              clear hB4
              cases ib with
              | false =>
                go_wp2_with fail
                go_ret
                exact ⟨ret_int HR.out.symm, HB4.out⟩
              | true =>
                go_wp2_with fail
                go_ret
                exact ⟨ret_int HR.out.symm, HB4.out⟩
end Go.Proofs.Ytnnfahdhmodejaa

namespace Go.Proofs.Ytnnfahdhmodejaa
open Go.RowKit Go.Shelf

theorem apart_fresh {w w1 : World} {B : Nat → Prop} {v e : Value} {R : List (List Int)} {vs : List Value} {xs : List Int} (h : LL w B v R vs) (he : rowI w1 w.heap.size e xs) (j : Nat) (f : Value) (hf : vs[j]? = some f) : apartV f e := by
  unfold apartV
  cases hfb : f.ownBlock with
  | none => exact .inl rfl
  | some k =>
    refine .inr ?_
    intro e'
    have h1 := ((h.el j f hf).lt hfb).2
    have h2 := (he.lt e'.symm).1
    omega
theorem rowI.base {w : World} {b b2 : Nat} {e : Value} {xs : List Int} (h : rowI w b e xs) (hb : b2 ≤ b) : rowI w b2 e xs := owns_base h hb
theorem own_one (w : World) {base nb : Nat} (q : Int) (hnb : nb = w.heap.size) (hb : base ≤ w.heap.size) : rowI (w.alloc (.cells #[.int .i64 q] 3)) base (.slice (some ⟨nb, 0, none⟩) 1 1) [q] := by
  subst hnb
  exact ⟨rfl, .inr ⟨_, 1, #[.int .i64 q], rfl, hb, heap_alloc_new _ _, Nat.le_refl _, by unfold maxLen; omega, rfl, rfl⟩⟩
theorem rows_take (R : List (List Int)) (k : Nat) (h : k < R.length) : R.take (k + 1) = R.take k ++ [row R k] := by
  rw [List.take_succ_eq_append_getElem h, row_lt h]
set_option maxRecDepth 100000 in
set_option maxHeartbeats 800000 in
theorem copy_any (v : Value) (R : List (List Int)) (w : World) (hx0 : RdLL w v R) (hs : Sml R) :
    Calls Try.prog 101 #[v] w fun e w' => ∃ u vs, e = .returned u ∧ LL w' (fun k => w.heap.size ≤ k) u R vs ∧ Below w.heap.size w w' := by
  obtain ⟨h20, h21⟩ := hs
  obtain ⟨a, ca, rfl⟩ := hx0.sl
  have HX := Lib.hid hx0; clear hx0
  have H21 := Lib.hid h21; clear h21
  go_enter Try.func101, Try.ntmps101
  go_wp2_with fail
  go_loopw [3, 4] (fun s3 s4 wr => ∃ (i : Nat) (u : Value) (vs : List Value), i ≤ R.length ∧ u = s3 ∧ s4 = .int .i64 i ∧ LL wr (fun k => w.heap.size ≤ k) u (R.take i) vs ∧ Below w.heap.size w wr) (fun _ i _ => R.length - (intOf i).toNat)
  case atStart => exact ⟨0, _, _, Nat.zero_le _, rfl, rfl, LL.nil _ _, bz w⟩
  case round =>
    obtain ⟨i, u, vs, hi, rfl, rfl, hO, hB⟩ := hrel
    have HO := Lib.hid hO; have HB := Lib.hid hB; clear hO hB
    have hz := HB.out.size
    by_cases hlt : i < R.length
    · obtain ⟨b, off, a', c', rfl, hb, hc, hr⟩ := HX.out.get i hlt
      have gx := (HB.out.cell (p := ⟨b, off + i, none⟩) hb).trans hc
      have zx := Nat.lt_of_lt_of_le hb HB.out.size
      have HR := Lib.hid (hr.mono HB.out)
      have h1 := H21.out i
      have HF := Lib.hid (rows_take R i hlt)
      have hlen : (R.take i).length ≤ 20 := by rw [List.length_take]; omega
      clear hc hr hb
      generalize R.take i = xs at *
      generalize row R i = ys at *
      have HOW := Lib.hid (own_newI wr (nb := wr.heap.size) rfl (Nat.le_refl _))
      go_wp2_with (at_builtin; refine wpList_append_any rfl _ _ rfl HOW.out (by simp) rfl rfl (HR.out.mono (bal (bz wr) _)) (by simp) (by omega) ?_)
      intro v' w' hO' hg
      have hB1 : Below wr.heap.size wr w' := append_below (bal (bz wr) _) HOW.out hg (Nat.le_refl _)
      have HO1 := Lib.hid (HO.out.later hB1)
      have HB1 := Lib.hid (btr HB.out hB1)
      obtain ⟨av, cv, rfl⟩ := owns_form hO'
      have HE := Lib.hid hO'
      have HAP := Lib.hid (fun j f hf => apart_fresh HO.out HE.out j f hf)
      have hz1 := HB1.out.size
      clear hB1 hO' hg HOW HO
      go_wp2_with (at_builtin; refine LL.push HO1.out (HE.out.base (Nat.zero_le _)) (fun k ek => Nat.le_trans hz (HE.out.lt ek).1) HAP.out rfl _ _ rfl rfl rfl rfl (by omega) (fun k hk => Nat.le_trans hz1 hk) ?_)
      intro u2 w3 hO3 hF3
      have HO3 := Lib.hid hO3
      have HB3 := Lib.hid (hF3.below HB1.out (fun _ h => h))
      clear hO3 hF3
      go_wp2_with fail
      go_roundw
      case rel => exact ⟨i + 1, _, _, by omega, rfl, by go_num, by rw [HF.out]; exact HO3.out, HB3.out⟩
      case measure => simp [intOf]; omega
    · have hie : i = R.length := by omega
      have HO2 : Hid (LL wr (fun k => w.heap.size ≤ k) u R vs) := by have h := HO.out; rw [hie, List.take_length] at h; exact Lib.hid h
      clear HO
      go_wp2_with fail
      go_ret
      exact ⟨_, _, rfl, HO2.out, HB.out⟩
end Go.Proofs.Ytnnfahdhmodejaa
