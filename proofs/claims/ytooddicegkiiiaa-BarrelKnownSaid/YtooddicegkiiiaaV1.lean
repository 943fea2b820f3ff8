/- Longs, Ints, Sorted and the tests of bounds: what these functions compute; slices of at most 1000 numbers. -/
import Derived.Test.YtooddicegkiiiaaBase
namespace Go.Proofs.Ytooddicegkiiiaa
open Go.RowKit

theorem take_eq_step (xs ys : List Int) (k : Nat) (hx : k < xs.length) (hy : k < ys.length) (h : xs.take k = ys.take k) (he : xs[k]?.getD 0 = ys[k]?.getD 0) : xs.take (k+1) = ys.take (k+1) := by
  rw [List.take_succ_eq_append_getElem hx, List.take_succ_eq_append_getElem hy, h]
  simp [hx, hy] at he
  rw [he]
theorem ne_of_get (xs ys : List Int) (k : Nat) (he : xs[k]?.getD 0 ≠ ys[k]?.getD 0) : xs ≠ ys := by
  intro e; subst e; exact he rfl

set_option maxRecDepth 100000 in
set_option maxHeartbeats 400000 in
theorem longs_any (x y : Value) (xs ys : List Int) (w : World) (hx0 : RdI w .i64 x xs) (hy0 : RdI w .i64 y ys) (hl : xs.length ≤ 1000) (hl2 : ys.length ≤ 1000) :
    Calls Try.prog 43 #[x, y] w fun e w' => e = .returned (.bool (decide (xs = ys))) ∧ Below w.heap.size w w' := by
  obtain ⟨a, ca, rfl, _, _, hx⟩ := hx0.form
  obtain ⟨b, cb, rfl, _, _, hy⟩ := hy0.form
  clear hx0 hy0
  by_cases hll : xs.length = ys.length
  · have h1 : ((xs.length : Int) != (ys.length : Int)) = false := by simp [hll]
    have HL := Lib.hid hll; clear hll
    go_enter Try.func43, Try.ntmps43
    go_wp2
    go_loopw [5] (fun i wr => ∃ k : Nat, k ≤ xs.length ∧ i = .int .i64 k ∧ xs.take k = ys.take k ∧ Below w.heap.size w wr) (fun i _ => xs.length - (intOf i).toNat)
    case atStart => exact ⟨0, Nat.zero_le _, rfl, by simp, Below.refl _ _⟩
    case round =>
      obtain ⟨k, hk, rfl, ht, hB⟩ := hrel
      by_cases hlt : k < xs.length
      · obtain ⟨bx, ox, rfl, hbx, hcx⟩ := hx (by omega)
        obtain ⟨by', oy, rfl, hby, hcy⟩ := hy (by rw [← HL.out]; omega)
        have gx := (hB.cell (p := ⟨bx, ox + k, none⟩) hbx).trans (hcx k hlt)
        have hlt2 : k < ys.length := by rw [← HL.out]; exact hlt
        have gy := (hB.cell (p := ⟨by', oy + k, none⟩) hby).trans (hcy k hlt2)
        have HT := Lib.hid ht; clear ht
        clear hx hy hcx hcy
        by_cases he : xs[k]?.getD 0 = ys[k]?.getD 0
        · have hb1 : (xs[k]?.getD 0 != ys[k]?.getD 0) = false := by simp [he]
          have HE := Lib.hid he; clear he
          have HT2 := Lib.hid (take_eq_step xs ys k hlt hlt2 HT.out HE.out)
          generalize xs[k]?.getD 0 = p at *
          generalize ys[k]?.getD 0 = q at *
          go_wp2
          go_quiet (fail)
          go_wp2
          go_roundw
          case rel => exact ⟨k + 1, by omega, by go_num, HT2.out, Below.drewN' _ hB⟩
          case measure => simp [intOf]; omega
        · have hb1 : (xs[k]?.getD 0 != ys[k]?.getD 0) = true := by simpa using he
          have HE := Lib.hid (ne_of_get xs ys k he); clear he
          generalize xs[k]?.getD 0 = p at *
          generalize ys[k]?.getD 0 = q at *
          go_wp2
          go_quiet (fail)
          go_wp2
          go_ret
          exact ⟨ret_bool (by simp [HE.out]), Below.drewN' _ hB⟩
      · have HT := Lib.hid ht; clear ht
        go_wp2
        go_ret
        refine ⟨ret_bool ?_, hB⟩
        have h1 := HT.out
        rw [List.take_of_length_le (by omega), List.take_of_length_le (by rw [← HL.out]; omega)] at h1
        simp [h1]
  · have h1 : ((xs.length : Int) != (ys.length : Int)) = true := by rw [bne_iff_ne]; omega
    have HL := Lib.hid hll; clear hll
    go_enter Try.func43, Try.ntmps43
    go_wp2
    go_ret
    refine ⟨ret_bool ?_, Below.refl _ _⟩
    have := HL.out
    symm; simp only [decide_eq_false_iff_not]
    intro e; subst e; exact this rfl
set_option maxRecDepth 100000 in
set_option maxHeartbeats 400000 in
theorem ints_any (x y : Value) (xs ys : List Int) (w : World) (hx0 : RdI w .i64 x xs) (hy0 : RdI w .i64 y ys) (hl : xs.length ≤ 1000) (hl2 : ys.length ≤ 1000) :
    Calls Try.prog 24 #[x, y] w fun e w' => e = .returned (.bool (decide (xs = ys))) ∧ Below w.heap.size w w' := by
  obtain ⟨a, ca, rfl, _, _, hx⟩ := hx0.form
  obtain ⟨b, cb, rfl, _, _, hy⟩ := hy0.form
  clear hx0 hy0
  by_cases hll : xs.length = ys.length
  · have h1 : ((xs.length : Int) != (ys.length : Int)) = false := by simp [hll]
    have HL := Lib.hid hll; clear hll
    go_enter Try.func24, Try.ntmps24
    go_wp2
    go_loopw [5] (fun i wr => ∃ k : Nat, k ≤ xs.length ∧ i = .int .i64 k ∧ xs.take k = ys.take k ∧ Below w.heap.size w wr) (fun i _ => xs.length - (intOf i).toNat)
    case atStart => exact ⟨0, Nat.zero_le _, rfl, by simp, Below.refl _ _⟩
    case round =>
      obtain ⟨k, hk, rfl, ht, hB⟩ := hrel
      by_cases hlt : k < xs.length
      · obtain ⟨bx, ox, rfl, hbx, hcx⟩ := hx (by omega)
        obtain ⟨by', oy, rfl, hby, hcy⟩ := hy (by rw [← HL.out]; omega)
        have gx := (hB.cell (p := ⟨bx, ox + k, none⟩) hbx).trans (hcx k hlt)
        have hlt2 : k < ys.length := by rw [← HL.out]; exact hlt
        have gy := (hB.cell (p := ⟨by', oy + k, none⟩) hby).trans (hcy k hlt2)
        have HT := Lib.hid ht; clear ht
        clear hx hy hcx hcy
        by_cases he : xs[k]?.getD 0 = ys[k]?.getD 0
        · have hb1 : (xs[k]?.getD 0 != ys[k]?.getD 0) = false := by simp [he]
          have HE := Lib.hid he; clear he
          have HT2 := Lib.hid (take_eq_step xs ys k hlt hlt2 HT.out HE.out)
          generalize xs[k]?.getD 0 = p at *
          generalize ys[k]?.getD 0 = q at *
          go_wp2
          go_quiet (fail)
          go_wp2
          go_roundw
          case rel => exact ⟨k + 1, by omega, by go_num, HT2.out, Below.drewN' _ hB⟩
          case measure => simp [intOf]; omega
        · have hb1 : (xs[k]?.getD 0 != ys[k]?.getD 0) = true := by simpa using he
          have HE := Lib.hid (ne_of_get xs ys k he); clear he
          generalize xs[k]?.getD 0 = p at *
          generalize ys[k]?.getD 0 = q at *
          go_wp2
          go_quiet (fail)
          go_wp2
          go_ret
          exact ⟨ret_bool (by simp [HE.out]), Below.drewN' _ hB⟩
      · have HT := Lib.hid ht; clear ht
        go_wp2
        go_ret
        refine ⟨ret_bool ?_, hB⟩
        have h1 := HT.out
        rw [List.take_of_length_le (by omega), List.take_of_length_le (by rw [← HL.out]; omega)] at h1
        simp [h1]
  · have h1 : ((xs.length : Int) != (ys.length : Int)) = true := by rw [bne_iff_ne]; omega
    have HL := Lib.hid hll; clear hll
    go_enter Try.func24, Try.ntmps24
    go_wp2
    go_ret
    refine ⟨ret_bool ?_, Below.refl _ _⟩
    have := HL.out
    symm; simp only [decide_eq_false_iff_not]
    intro e; subst e; exact this rfl

def outB (lo hi x : Int) : Bool := decide (x < lo ∨ hi < x)
set_option maxRecDepth 100000 in
set_option maxHeartbeats 400000 in
theorem withinf_any (x lo hi : Int) (bl bh : Nat) (w : World) (h1 : w.cell? ⟨bl, 0, none⟩ = some (.int .i64 lo)) (h2 : w.cell? ⟨bh, 0, none⟩ = some (.int .i64 hi)) :
    Calls Try.prog 76 #[.int .i64 x, .pointer (some ⟨bl, 0, none⟩), .pointer (some ⟨bh, 0, none⟩)] w fun e w' => e = .returned (.bool (outB lo hi x)) ∧ Below w.heap.size w w' := by
  by_cases hlo : x < lo
  · go_enter Try.func76, Try.ntmps76
    go_wp2
    go_ret
    exact ⟨ret_bool (by simp [outB, hlo]), Below.refl _ _⟩
  · by_cases hhi : hi < x <;>
    · go_enter Try.func76, Try.ntmps76
      go_wp2
      go_ret
      exact ⟨ret_bool (by simp [outB, hlo, hhi]), Below.refl _ _⟩

def idxOf {α : Type} (p : α → Bool) (xs : List α) : Int := match xs.findIdx? p with | some i => i | none => -1
theorem find_none_step {α : Type} {d : α} {p : α → Bool} {xs : List α} {k : Nat} (h : ∀ i, i < k → p (xs[i]?.getD d) = false) (hk : k < xs.length) : p (xs[k]?.getD d) = true → idxOf p xs = k := by
  intro ht
  have : xs.findIdx? p = some k := by
    rw [List.findIdx?_eq_some_iff_getElem]
    refine ⟨hk, by simpa [hk] using ht, fun j hj => ?_⟩
    have := h j hj
    rw [List.getElem?_eq_getElem (by omega)] at this
    simpa using this
  simp [idxOf, this]
theorem find_none {α : Type} {d : α} {p : α → Bool} {xs : List α} (h : ∀ i, i < xs.length → p (xs[i]?.getD d) = false) : idxOf p xs = -1 := by
  have : xs.findIdx? p = none := by
    rw [List.findIdx?_eq_none_iff]
    intro x hx
    obtain ⟨i, hi, rfl⟩ := List.getElem_of_mem hx
    have := h i hi
    simpa [hi] using this
  simp [idxOf, this]

theorem idxOf_any {α : Type} (p : α → Bool) (xs : List α) : decide (0 ≤ idxOf p xs) = xs.any p := by
  cases h : xs.findIdx? p with
  | some i =>
    have : xs.any p = true := by
      rw [List.findIdx?_eq_some_iff_getElem] at h
      obtain ⟨h1, h2, _⟩ := h
      exact List.any_eq_true.2 ⟨_, List.getElem_mem h1, h2⟩
    rw [this]; simp [idxOf, h]
  | none =>
    have : xs.any p = false := by
      rw [List.findIdx?_eq_none_iff] at h
      rw [List.any_eq_false]
      intro x hx; simp [h x hx]
    rw [this]; simp [idxOf, h]

set_option maxRecDepth 100000 in
set_option maxHeartbeats 400000 in
theorem indexf_any (x : Value) (xs : List Int) (lo hi : Int) (bl bh : Nat) (w : World) (hx0 : RdI w .i64 x xs) (hl : xs.length ≤ 1000)
    (h1 : w.cell? ⟨bl, 0, none⟩ = some (.int .i64 lo)) (h2 : w.cell? ⟨bh, 0, none⟩ = some (.int .i64 hi)) (hb1 : bl < w.heap.size) (hb2 : bh < w.heap.size) :
    Calls Try.prog 82 #[x, .func (.func 76) #[] #[.pointer (some ⟨bl, 0, none⟩), .pointer (some ⟨bh, 0, none⟩)]] w fun e w' => e = .returned (.int .i64 (idxOf (outB lo hi) xs)) ∧ Below w.heap.size w w' := by
  obtain ⟨a, ca, rfl, _, _, hx⟩ := hx0.form
  clear hx0
  go_enter Try.func82, Try.ntmps82
  go_wp2
  go_loopw [5, 8] (fun j i wr => ∃ k : Nat, k ≤ xs.length ∧ i = .int .i64 k ∧ (∀ i, i < k → outB lo hi (xs[i]?.getD 0) = false) ∧ Below w.heap.size w wr) (fun _ i _ => xs.length - (intOf i).toNat)
  case atStart => exact ⟨0, Nat.zero_le _, rfl, by intro i h1; omega, Below.refl _ _⟩
  case round =>
    obtain ⟨k, hk, rfl, ht, hB⟩ := hrel
    have HT := Lib.hid ht; clear ht
    by_cases hlt : k < xs.length
    · obtain ⟨bx, ox, rfl, hbx, hcx⟩ := hx (by omega)
      have gx := (hB.cell (p := ⟨bx, ox + k, none⟩) hbx).trans (hcx k hlt)
      have g1 := (hB.cell (p := ⟨bl, 0, none⟩) hb1).trans h1
      have g2 := (hB.cell (p := ⟨bh, 0, none⟩) hb2).trans h2
      clear hx hcx
      generalize hp : xs[k]?.getD 0 = p at *
      have HP := Lib.hid hp; clear hp
      go_wp2_with (go_at_call 76; refine (withinf_any _ _ _ _ _ _ g1 g2).mono ?_)
      rintro e w2 ⟨rfl, hB2⟩
      have hB3 := hB.trans (hB2.mono hB.size)
      cases hb : outB lo hi p
      · go_wp2
        go_roundw
        case rel =>
          refine ⟨k + 1, by omega, by go_num, fun i h1 => ?_, hB3⟩
          by_cases e : i = k
          · subst e; rw [HP.out]; exact hb
          · exact HT.out i (by omega)
        case measure => simp [intOf]; omega
      · go_wp2
        go_ret
        exact ⟨ret_int (find_none_step HT.out hlt (by rw [HP.out]; exact hb)).symm, hB3⟩
    · go_wp2
      go_ret
      exact ⟨ret_int (find_none fun i hi => HT.out i (by omega)).symm, hB⟩

set_option maxRecDepth 100000 in
set_option maxHeartbeats 400000 in
theorem containsf_any (x : Value) (xs : List Int) (lo hi : Int) (bl bh : Nat) (w : World) (hx0 : RdI w .i64 x xs) (hl : xs.length ≤ 1000)
    (h1 : w.cell? ⟨bl, 0, none⟩ = some (.int .i64 lo)) (h2 : w.cell? ⟨bh, 0, none⟩ = some (.int .i64 hi)) (hb1 : bl < w.heap.size) (hb2 : bh < w.heap.size) :
    Calls Try.prog 75 #[x, .func (.func 76) #[] #[.pointer (some ⟨bl, 0, none⟩), .pointer (some ⟨bh, 0, none⟩)]] w fun e w' => e = .returned (.bool (xs.any (outB lo hi))) ∧ Below w.heap.size w w' := by
  go_enter Try.func75, Try.ntmps75
  go_wp2_with (go_at_call 82; refine (indexf_any _ _ _ _ _ _ _ hx0 hl h1 h2 hb1 hb2).mono ?_)
  rintro e w2 ⟨rfl, hB2⟩
  have H := Lib.hid (idxOf_any (outB lo hi) xs)
  go_wp2
  go_ret
  exact ⟨ret_bool H.out, hB2⟩

set_option maxRecDepth 100000 in
set_option maxHeartbeats 400000 in
theorem within_any (x : Value) (xs : List Int) (lo hi : Int) (w : World) (hx0 : RdI w .i64 x xs) (hl : xs.length ≤ 1000) :
    Calls Try.prog 60 #[.int .i64 lo, .int .i64 hi, x] w fun e w' => e = .returned (.bool (!xs.any (outB lo hi))) ∧ Below w.heap.size w w' := by
  go_enter Try.func60, Try.ntmps60
  go_wp2_with (go_at_call 75; refine (containsf_any _ xs lo hi w.heap.size (w.heap.size + 1) _ ?_ hl ?_ ?_ ?_ ?_).mono ?_)
  · exact hx0.mono (((Below.refl _ _).alloc (Nat.le_refl _) _).alloc (by simp) _)
  · simp
  · simp
  · simp; omega
  · simp
  rintro e w2 ⟨rfl, hB2⟩
  go_wp2
  go_ret
  exact ⟨rfl, btr (bal (bal (bz _) _) _) hB2⟩
end Go.Proofs.Ytooddicegkiiiaa
