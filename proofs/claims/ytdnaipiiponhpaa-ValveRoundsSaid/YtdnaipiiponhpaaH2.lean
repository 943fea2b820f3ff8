/- Contracts of the program's functions for a valid row; what opens the laws' arguments. -/
import Derived.Test.YtdnaipiiponhpaaH1
import Derived.Test.YtdnaipiiponhpaaGF
namespace Go.Proofs.Ytdnaipiiponhpaa
open Go.RowKit Go.Shelf

theorem okn {n : Nat} {V : List (Int × Int)} (h : checkR n V = 0) : n ≤ 8 ∧ 1 ≤ n ∧ V.length ≤ 40 ∧ OkV n V := by
  have h1 := okRow_of h
  have h2 := OkV.of h1
  refine ⟨by have := h1.p8; omega, by have := h1.p1; omega, h1.len, by simpa using h2⟩
theorem wf16 {n : Int} (h : (Lit.int .i16 n).wf = true) : -32768 ≤ n ∧ n ≤ 32767 := by
  simp [Lit.wf, IntKind.min, IntKind.max, IntKind.signed, IntKind.bits] at h
  omega
theorem wf8 {n : Int} (h : (Lit.int .u8 n).wf = true) : 0 ≤ n ∧ n ≤ 255 := by
  simp [Lit.wf, IntKind.min, IntKind.max, IntKind.signed, IntKind.bits] at h
  omega
theorem rcheck_zero (p : Int) (x : Value) (V : List (Int × Int)) (w : World) (hx : RdP w x V) (h : checkR p V = 0) : Calls Try.prog 21 #[.agg #[.int .i64 p, x]] w fun e w' => e = .returned (.int .i64 0) ∧ Below w.heap.size w w' := by
  have := rcheck_any p x V w hx (by have := (okRow_of h).len; omega)
  rwa [h] at this
theorem needless_ok (n : Nat) (x : Value) (V : List (Int × Int)) (w : World) (hx : RdP w x V) (h : checkR n V = 0) :
    Calls Try.prog 32 #[.agg #[.int .i64 n, x]] w fun e w' => ∃ v, e = .returned (.tuple #[v, .int .i64 0]) ∧ RdI w' .i64 v (rneedL n V V.length) ∧ Below w.heap.size w w' := by
  have := needless_rd n x V w hx (by have := (okn h).2.2.1; omega)
  rw [needL_eq, h] at this
  unfold rneedR at this
  rwa [if_pos h] at this
theorem cut_ok1 (n : Nat) (x : Value) (V : List (Int × Int)) (w : World) (hx : RdP w x V) (h : checkR n V = 0) :
    Calls Try.prog 34 #[.agg #[.int .i64 n, x]] w fun e w' => ∃ v, e = .returned (.tuple #[.agg #[.int .i64 n, v], .int .i64 0]) ∧ RdP w' v (rcutK n V V.length) ∧ Below w.heap.size w w' := by
  have := cut_any n x V w hx (by have := (okn h).2.2.1; omega)
  rw [cutL_eq, h] at this
  unfold rcutL cutP at this
  rwa [if_pos h, if_pos h] at this
theorem rounds_k (n : Nat) (x : Value) (V : List (Int × Int)) (w : World) (hx : RdP w x V) (h : checkR n V = 0) :
    Calls Try.prog 36 #[.agg #[.int .i64 n, x]] w fun e w' => ∃ v, e = .returned (.tuple #[v, .int .i64 0]) ∧ RdI w' .i64 v (rrL V V.length) ∧ Below w.heap.size w w' := by
  have := rounds_any n x V w hx (by have := (okn h).2.2.1; omega)
  rw [roundsL_eq, h] at this
  unfold rrR at this
  rwa [if_pos h] at this
theorem sorts_k (n : Nat) (x : Value) (V : List (Int × Int)) (c : Int) (w : World) (hx : RdP w x V) (h : checkR n V = 0) (hc : (if (patOf n V).isSome then 23 else 0) = c) :
    Calls Try.prog 27 #[.agg #[.int .i64 n, x]] w fun e w' => e = .returned (.int .i64 c) ∧ Below w.heap.size w w' := by
  subst hc
  have := sorts_any n x V w hx (by have := (okn h).2.2.1; omega)
  rw [sortsE_eq] at this
  unfold rsortsE at this
  rw [if_neg (by simpa using h), show ((n : Nat) : Int).toNat = n by omega] at this
  exact this
theorem images_k (n : Nat) (x : Value) (V : List (Int × Int)) (m : Nat) (w : World) (hx : RdP w x V) (h : checkR n V = 0) (hm : imagesN n V = m) :
    Calls Try.prog 25 #[.agg #[.int .i64 n, x]] w fun e w' => e = .returned (.tuple #[.int .i64 m, .int .i64 0]) ∧ Below w.heap.size w w' := by
  subst hm
  have := images_any n x V w hx (by have := (okn h).2.2.1; omega)
  unfold imgE at this
  rwa [if_pos h, h, show ((n : Nat) : Int).toNat = n by omega] at this
theorem mirror_k (n : Nat) (x : Value) (V : List (Int × Int)) (w : World) (hx : RdP w x V) (h : checkR n V = 0) :
    Calls Try.prog 41 #[.agg #[.int .i64 n, x]] w fun e w' => ∃ v, e = .returned (.tuple #[.agg #[.int .i64 n, v], .int .i64 0]) ∧ RdP w' v (V.map (mirrorOne n)) ∧ Below w.heap.size w w' := by
  have := mirror_any n x V w hx (by have := (okn h).2.2.1; omega)
  unfold cutP mirrorL at this
  rwa [if_pos h, if_pos h, h] at this
theorem pattern_k (n : Nat) (x : Value) (V : List (Int × Int)) (c : Int) (q : List Int) (w : World) (hx : RdP w x V) (h : checkR n V = 0) (hc : (if (patOf n V).isSome then 0 else 5) = c) (hq : patOfL n V = q) :
    Calls Try.prog 23 #[.agg #[.int .i64 n, x]] w fun e w' => ∃ v, e = .returned (.tuple #[v, .int .i64 c]) ∧ RdI w' .i64 v q ∧ Below w.heap.size w w' := by
  subst hc; subst hq
  have := pattern_any n x V w hx (by have := (okn h).2.2.1; omega)
  rw [patL_eq, patE_eq] at this
  unfold rpatL rpatE at this
  have hne : ¬ (checkR n V ≠ 0) := by simpa using h
  simp only [if_neg hne] at this
  rwa [show ((n : Nat) : Int).toNat = n by omega] at this
theorem chkpat_k (n : Nat) (x y : Value) (V : List (Int × Int)) (q : List Int) (c : Int) (w : World) (hx : RdP w x V) (hy : RdI w .i64 y q) (h : checkR n V = 0) (hq : q.length ≤ 1000) (hc : rchkE n V q = c) :
    Calls Try.prog 29 #[.agg #[.int .i64 n, x], y] w fun e w' => e = .returned (.int .i64 c) ∧ Below w.heap.size w w' :=
  chkpat_lit n x y V q c w hx hy (by have := (okn h).2.2.1; omega) hq (by rw [chkPatE_eq]; exact hc)
theorem rchkpat_k (n : Nat) (x y : Value) (V : List (Int × Int)) (q : List Int) (c : Int) (w : World) (hx : RdP w x V) (hy : RdI w .i64 y q) (h : checkR n V = 0) (hq : q.length ≤ 1000) (hc : rchkE n V q = c) :
    Calls Try.prog 30 #[.agg #[.int .i64 n, x], y] w fun e w' => e = .returned (.int .i64 c) ∧ Below w.heap.size w w' := by
  subst hc
  exact rchkpat_any n x y V q w hx hy (by have := (okn h).2.2.1; omega) hq
theorem ends_k (n : Nat) (place : Nat) (x : Value) (V : List (Int × Int)) (w : World) (hx : RdP w x V) (h : checkR n V = 0) (hp : place < n) :
    Calls Try.prog 39 #[.agg #[.int .i64 n, x], .int .i64 place] w fun e w' => ∃ v, e = .returned (.tuple #[v, .int .i64 0]) ∧ RdI w' .i64 v (rendsK n V place n) ∧ Below w.heap.size w w' := by
  have := ends_any n place x V w hx (by have := (okn h).2.2.1; omega)
  rw [endsE_eq, endsL_eq] at this
  unfold rendsE rendsR at this
  have hne : ¬ (checkR n V ≠ 0) := by simpa using h
  have hpl : ¬ ((place : Int) < 0 ∨ (n : Int) ≤ (place : Int)) := by omega
  simp only [if_neg hne, if_neg hpl] at this
  rwa [show ((n : Nat) : Int).toNat = n by omega, show ((place : Nat) : Int).toNat = place by omega] at this
theorem sorted_k (x : Value) (xs : List Int) (w : World) (hx : RdI w .i64 x xs) (hl : xs.length ≤ 1000) (hs : sortedB xs = true) : Calls Try.prog 50 #[x] w fun e w' => e = .returned (.bool true) ∧ Below w.heap.size w w' := by
  have := sorted_any x xs w hx hl
  rwa [hs] at this
end Go.Proofs.Ytdnaipiiponhpaa
