/- times of the program: the walk; valid days. -/
import Derived.Test.YtjajdpggoggoiaaGE
namespace Go.Proofs.Ytjajdpggoggoiaa
open Go.RowKit Go.Shelf
attribute [local go_sem] Oper.semAt_some

theorem made_rows {w : World} {base N : Nat} (hb : base ≤ w.heap.size) (hN : N ≤ 1000) : rowI (w.alloc (.cells (arrI (List.replicate N 0)) 3)) base (.slice (some ⟨w.heap.size, 0, none⟩) N N) (List.replicate N 0) := by
  have h := World.ownsRow_lit w (arrI (List.replicate N 0)) (base := base) (e := 3) (size := 1) N hb (by unfold maxLen; omega) (by rw [arrI_size]; simp)
  unfold rowI
  rw [List.length_replicate]
  have e : (arrI (List.replicate N 0)).toList = (List.replicate N 0).map (Value.int .i64) := by simp [arrI]
  rw [e] at h; exact h
theorem OwnN.swap2 {w : World} {base : Nat} {r s : Value × List Int} (h : OwnN w base [r, s]) : OwnN w base [s, r] :=
  ⟨fun q hq => h.own q (by simp at hq ⊢; exact hq.symm), by
    have := (List.pairwise_cons.1 h.apart).1 s (by simp)
    simp [this.symm]⟩
/-- What a region leaves, where its orders meet. -/
def Meet {α : Type} (T : α → Act → Act) (Rel : α → World → Prop) (a : Act) : Exit → Act → World → Prop := fun e a' w' => e = .normal ∧ ∃ x, a' = T x a ∧ Rel x w'
theorem wpIn_meet {α : Type} {P : Program} {F : Fence} {n : Nat} {c : Code} {Q : Exit → Act → World → Prop} {a : Act} {w : World} (T : α → Act → Act) (Rel : α → World → Prop)
    (h1 : c.wpIn F n P (Meet T Rel a) a w) (h2 : ∀ x w', Rel x w' → Q .normal (T x a) w') : c.wpIn F n P Q a w :=
  Code.wpIn_mono (by rintro e a' w' ⟨rfl, x, rfl, h⟩; exact h2 x w' h) h1

def sndI (e : Int × Nat) : Int := (e.2 : Int)
def fstI (e : Int × Nat) : Int := e.1
/-- Before a round of the outer loop: the cell at u6 holds the next last time, plus 1. -/
def OutR (R : Int) (W : List Int) (N gl gb : Nat) (w : World) (u6 : Value) (D : List Deferred) (wr : World) : Prop := ∃ m q pl : Nat, m + 1 = q ∧ m < N ∧ u6 = .pointer (some ⟨pl, 0, none⟩) ∧
  OwnN wr w.heap.size [(rowV gl N, padL fstI (tabT R W m) N), (rowV gb N, padL sndI (tabT R W m) N), (cellV pl, [(q : Int)])] ∧ Marks D w.heap.size wr.heap.size wr ∧ Below w.heap.size w wr
/-- Before a round of the inner loop. -/
def InR (R : Int) (W : List Int) (N gl gb m q pl : Nat) (w : World) (u34 : Value) (D : List Deferred) (wr : World) : Prop := ∃ k : Nat, k ≤ q ∧ u34 = .int .i64 k ∧
  OwnN wr w.heap.size [(rowV gl N, (padL fstI (tabT R W m) N).set q (minT (lostT R W (tabT R W m) q) k).1), (rowV gb N, (padL sndI (tabT R W m) N).set q ((minT (lostT R W (tabT R W m) q) k).2 : Int)), (cellV pl, [(q : Int)])] ∧ Marks D w.heap.size wr.heap.size wr ∧ Below w.heap.size w wr
def OutI (b : Nat) (R : Int) (W : List Int) (a : Option Addr) (ca N gl gb : Nat) (w : World) (a' : Act) (w' : World) : Prop :=
  OutR R W N gl gb w (a'.tmps.getD 6 undef) a'.defers w' ∧ ∃ g : Nat → Value, a'.tmps = #[.pointer (some ⟨b, 0, none⟩), undef, .slice none 0 0, .int .i64 W.length, .slice (some ⟨gl, 0, none⟩) N N, .slice (some ⟨gb, 0, none⟩) N N, g 6, g 7, g 8, g 9, undef, undef, .pointer (some ⟨b, 0, none⟩), .pointer (some ⟨b, 0, none⟩), .pointer (some ⟨b, 0, none⟩), .pointer (some ⟨b, 1, none⟩), .slice a W.length ca, .int .i64 W.length, .int .i64 W.length, .int .i64 N, .slice (some ⟨gl, 0, none⟩) N N, .int .i64 W.length, .int .i64 N, .slice (some ⟨gb, 0, none⟩) N N, g 24, g 25, g 26, g 27, g 28, g 29, g 30, g 31, g 32, g 33, g 34, g 35, g 36, g 37, g 38, g 39, g 40, g 41, g 42, g 43, g 44, g 45, g 46, g 47, g 48, g 49, g 50, g 51, g 52, g 53, g 54, g 55, g 56, g 57, g 58, g 59, g 60, g 61, g 62, g 63, g 64, g 65, g 66, g 67, g 68, g 69, g 70, g 71, g 72, g 73, g 74, g 75, g 76, g 77, g 78, g 79, g 80, g 81, g 82, g 83, g 84, g 85, g 86, g 87, g 88, g 89, g 90, g 91, g 92, g 93, undef, undef, undef, undef, undef, undef, undef, undef, undef, undef, undef, undef, undef, undef, undef, undef, undef, undef, undef]
def OutM (N : Nat) (a' : Act) (w' : World) : Nat := N - cellM (a'.tmps.getD 6 undef) w'
def InI (b : Nat) (R : Int) (W : List Int) (a : Option Addr) (ca N gl gb m q pl : Nat) (w : World) (f0 : Nat → Value) (a' : Act) (w' : World) : Prop :=
  InR R W N gl gb m q pl w (a'.tmps.getD 34 undef) a'.defers w' ∧ ∃ g : Nat → Value, a'.tmps = #[.pointer (some ⟨b, 0, none⟩), undef, .slice none 0 0, .int .i64 W.length, .slice (some ⟨gl, 0, none⟩) N N, .slice (some ⟨gb, 0, none⟩) N N, .pointer (some ⟨pl, 0, none⟩), g 7, g 8, g 9, undef, undef, .pointer (some ⟨b, 0, none⟩), .pointer (some ⟨b, 0, none⟩), .pointer (some ⟨b, 0, none⟩), .pointer (some ⟨b, 1, none⟩), .slice a W.length ca, .int .i64 W.length, .int .i64 W.length, .int .i64 N, .slice (some ⟨gl, 0, none⟩) N N, .int .i64 W.length, .int .i64 N, .slice (some ⟨gb, 0, none⟩) N N, .int .i64 q, .int .i64 W.length, .int .i64 ((W.length : Int) + 1), .bool true, f0 28, f0 29, .slice (some ⟨gl, 0, none⟩) N N, .int .i64 q, .pointer (some ⟨gl, q, none⟩), .int .i64 q, g 34, g 35, g 36, g 37, g 38, g 39, g 40, g 41, g 42, g 43, g 44, g 45, g 46, g 47, g 48, g 49, g 50, g 51, g 52, g 53, g 54, g 55, g 56, g 57, g 58, g 59, g 60, g 61, g 62, g 63, g 64, g 65, g 66, g 67, g 68, g 69, g 70, g 71, g 72, g 73, g 74, g 75, g 76, g 77, g 78, g 79, g 80, g 81, g 82, g 83, g 84, g 85, g 86, g 87, g 88, g 89, g 90, g 91, g 92, f0 93, undef, undef, undef, undef, undef, undef, undef, undef, undef, undef, undef, undef, undef, undef, undef, undef, undef, undef, undef]
def InM (q : Nat) (a' : Act) (_ : World) : Nat := q - (intOf (a'.tmps.getD 34 undef)).toNat
theorem padL_zero (f : Int × Nat → Int) (tab : List (Int × Nat)) (N : Nat) (h : tab.length < N) : (padL f tab N).set tab.length 0 = padL f tab N := by
  unfold padL
  rw [List.set_append_right _ _ (by simp)]
  simp only [List.length_map, Nat.sub_self]
  congr 1
  obtain ⟨m, hm⟩ : ∃ m, N - tab.length = m + 1 := ⟨N - tab.length - 1, by omega⟩
  rw [hm, List.replicate_succ]; rfl
theorem OwnN.drop {w : World} {base : Nat} {A B : List (Value × List Int)} {x : Value × List Int} (h : OwnN w base (A ++ x :: B)) : OwnN w base (A ++ B) := by
  refine ⟨fun r hr => h.own r ?_, ?_⟩
  · rcases List.mem_append.1 hr with h1 | h1
    · exact List.mem_append_left _ h1
    · exact List.mem_append_right _ (List.mem_cons_of_mem _ h1)
  · exact List.Pairwise.sublist ((List.sublist_cons_self x B).append_left A) h.apart
theorem OwnN.ne2 {w : World} {base g h N : Nat} {xs ys : List Int} {rs : List (Value × List Int)} (ho : OwnN w base ((rowV g N, xs) :: (rowV h N, ys) :: rs)) : g ≠ h := by
  have h1 := (List.pairwise_cons.1 ho.apart).1 (rowV h N, ys) (by simp)
  rcases h1 with h1 | h1
  · simp [rowV, Value.ownBlock] at h1
  · intro e; subst e; exact h1 rfl
/-- A world in which three cells hold numbers. -/
structure CellW (pl po pq q k : Nat) (z : Int) where
  val : World
  c1 : val.cell? ⟨pl, 0, none⟩ = some (.int .i64 (q : Int))
  c2 : val.cell? ⟨po, 0, none⟩ = some (.int .i64 (k : Int))
  c3 : val.cell? ⟨pq, 0, none⟩ = some (.int .i64 z)
  z1 : pl < val.heap.size
  z2 : po < val.heap.size
  z3 : pq < val.heap.size
theorem OwnN.nil3 {w : World} {base : Nat} {r s : Value × List Int} (h : OwnN w base [r, s]) : OwnN w base [r, s, (.slice none 0 0, [])] := by
  refine ⟨fun x hx => ?_, ?_⟩
  · simp only [List.mem_cons, List.not_mem_nil, or_false] at hx
    rcases hx with rfl | rfl | rfl
    · exact h.own _ (by simp)
    · exact h.own _ (by simp)
    · exact World.ownsRow_nil _ _ _ _
  · have h1 := List.pairwise_cons.1 h.apart
    refine List.pairwise_cons.2 ⟨fun x hx => ?_, List.pairwise_cons.2 ⟨fun x hx => ?_, by simp⟩⟩
    · rcases List.mem_cons.1 hx with rfl | hx
      · exact h1.1 _ (by simp)
      · simp at hx; subst hx; exact apartV.symm (.inl rfl)
    · simp at hx; subst hx; exact apartV.symm (.inl rfl)
/-- 'append' of a number to one of them. -/
theorem OwnN.pushG {w : World} {base : Nat} {A B : List (Value × List Int)} {v : Value} {xs : List Int} {ops : Array Oper} {rest : List Oper} {o : Oper} {a : Act} {Q : Exit → Act → World → Prop} (hgd : o.guard = none) (s x : Operand)
    (ho : o.op = .call { callee := .builtin .append, args := #[s, x], argTypes := #[22, 22] })
    (h : OwnN w base (A ++ (v, xs) :: B)) (q : Int) (hs : a.eval s = v) (hx : a.eval x = .slice (some ⟨w.heap.size, 0, none⟩) 1 1) (hl : xs.length ≤ 1000) (hb : base ≤ w.heap.size)
    (H : ∀ v' w', OwnN w' base (A ++ (v', xs ++ [q]) :: B) → (w.alloc (.cells #[.int .i64 q] 3)).grownBy w' v.ownBlock → (∀ z : World, Below z.heap.size z w → z.heap.size ≤ base → Below z.heap.size z w') → wpList Try.prog ops Q rest (a.put o.dst v') w') :
    wpList Try.prog ops Q (o :: rest) a (w.alloc (.cells #[.int .i64 q] 3)) := by
  obtain ⟨i0, hi, hz0, hz1, hz2⟩ := info_parts num3
  have hv := h.at
  have ha := World.ownsRow.alloc hv (.cells #[.int .i64 q] 3)
  refine wpList_append_own_at _ hgd s x 22 ho base 3 i0 (.int .i64 0) 1 8 Try.underlying22 hi hz0 hz1 hz2 rfl (by decide) _ _ _ hs ha ⟨w.heap.size, 0, none⟩ 1 1 [.int .i64 q] hx rfl (fun j u hj => ?_) (fun u hu => by simp at hu; subst hu; rfl)
    (by simp only [maxLen]; omega) (by omega) (by simp; omega) ?_
  · match j, hj with
    | 0, hj => simp at hj; subst hj; rw [Go.WideShapes.add_plain]; simp
  · intro v' w' h1 h2 _ h4
    refine H v' w' ((h.later (bal (bz w) _)).upd h2 ?_ ?_) h2 fun z hz hzb => below_own (bal hz _) (xs := xs) ha hzb h2
    · unfold rowI
      rw [List.map_append, List.length_append]; exact h1
    · rcases h4 with h4 | h4
      · exact .inl h4
      · exact .inr ⟨_, Nat.le_refl _, h4⟩
theorem frame_mk {T : Array Value} {F : (Nat → Value) → Array Value} (h : T = F fun k => T.getD k undef) : ∃ g, T = F g := ⟨_, h⟩
theorem padL_lenT (R : Int) (W : List Int) (f : Int × Nat → Int) {m N : Nat} (h : m < N) : (padL f (tabT R W m) N).length = N := padL_len f _ N (by rw [tabT_len]; omega)
theorem padL_first (f : Int × Nat → Int) (hf : f (0, 0) = 0) (R : Int) (W : List Int) {N : Nat} (h : 0 < N) : padL f (tabT R W 0) N = zeroL N := by
  obtain ⟨k, rfl⟩ : ∃ k, N = k + 1 := ⟨N - 1, by omega⟩
  unfold padL zeroL
  show [f (0, 0)] ++ List.replicate (k + 1 - 1) 0 = _
  rw [hf, List.replicate_succ]; rfl
theorem inR_done {R : Int} {W : List Int} {N gl gb m q pl : Nat} {w wr : World} (hq : m + 1 = q) (h : q < N) (hi : OwnN wr w.heap.size [(rowV gl N, (padL fstI (tabT R W m) N).set q (minT (lostT R W (tabT R W m) q) q).1), (rowV gb N, (padL sndI (tabT R W m) N).set q ((minT (lostT R W (tabT R W m) q) q).2 : Int)), (cellV pl, [(q : Int)])]) :
    OwnN wr w.heap.size [(rowV gl N, padL fstI (tabT R W q) N), (rowV gb N, padL sndI (tabT R W q) N), (cellV pl, [(q : Int)])] := by
  subst hq
  have hl := tabT_len R W m
  have e1 := padL_next fstI (tabT R W m) N (by omega) (minT (lostT R W (tabT R W m) (m + 1)) (m + 1))
  have e2 := padL_next sndI (tabT R W m) N (by omega) (minT (lostT R W (tabT R W m) (m + 1)) (m + 1))
  rw [hl] at e1 e2
  have e3 : tabT R W (m + 1) = tabT R W m ++ [minT (lostT R W (tabT R W m) (m + 1)) (m + 1)] := rfl
  rw [e3, ← e1, ← e2]
  exact hi
set_option maxRecDepth 100000 in
set_option maxHeartbeats 8000000 in
theorem times_any (b : Nat) (R : Int) (W on : List Int) (w : World) (hI : IsBench w b R W on) (hd : OkD R W) :
    Calls Try.prog 56 #[.pointer (some ⟨b, 0, none⟩)] w fun e w' => ∃ u, e = .returned u ∧ RdI w' .i64 u (timesP R W) ∧ Below w.heap.size w w' := by
  have h16 := hd.l16
  have hr6 := hd.r6
  have hr1 := hd.r1
  have HI := Lib.hid hI
  obtain ⟨x, M, L, cl, hD, _, _, _, hx0⟩ := hI
  obtain ⟨a, ca, rfl, _, _, _⟩ := hx0.form
  have c0 := hD.cells.1
  have c1 := hD.cells.2.1
  have hz := hD.lt
  clear hD hx0
  have hw2 : IntKind.i64.wrap ((W.length : Int) + 2) = ((W.length + 2 : Nat) : Int) := by rw [IntWalk.i64_in _ (by omega)]; omega
  refine callsIn_wide (n := 10).1 ?_
  refine callsIn_of_wp_marks Try.func56 rfl trivial ?_ rfl
  simp only [Try.ntmps56, List.size_toArray, List.length_cons, List.length_nil, Nat.reduceAdd, Nat.reduceSub, Array.replicate_succ, Array.replicate_zero, List.push_toArray, List.append_toArray, List.nil_append, List.cons_append]
  gi_wp2_with fail
  obtain ⟨N, hN⟩ : ∃ N, W.length + 2 = N := ⟨_, rfl⟩
  rw [hN] at hw2
  have hN18 : N ≤ 18 := by omega
  have HN := Lib.hid hN
  clear hN
  refine wpIn_meet (fun (g : Nat × Nat) a => ((((((((a.put (some 18) (.int .i64 W.length)).put (some 19) (.int .i64 N)).put (some 20) (rowV g.1 N)).put (some 21) (.int .i64 W.length)).put (some 22) (.int .i64 N)).put (some 23) (rowV g.2 N)).put (some 4) (rowV g.1 N)).put (some 5) (rowV g.2 N)))
    (fun g w' => OwnN w' w.heap.size [(rowV g.1 N, zeroL N), (rowV g.2 N, zeroL N)] ∧ Below w.heap.size w w') ?_ ?_
  · refine in_region_US (r := none) (fun w2 => ∃ x : AnyW w, w2 = x.val) [0, 1, 3, 4, 6, 7] [] (by kernel_rfl) (by kernel_rfl) (by rfl) ?_
    intro wc hBc hh
    clear hh
    have HBc := Lib.hid hBc
    clear hBc
    refine U_heads [0, 1, 3, 4] (by kernel_rfl) (anyW _ _) ?_
    simp only [pickL, List.getElem?_cons_succ, List.getElem?_cons_zero]
    repeat (go_big_quiet_step (rfl))
    refine wpQuiet_nil ?_
    refine U_two 2 5 (by kernel_rfl) ?_ ?_
    · simp only [pickL, List.getElem?_cons_succ, List.getElem?_cons_zero]
      have hmk := make_row N (by omega) wc
      go_wp2
      refine seg_grow (anyW _ _) ?_
      have hO1 := OwnN.more (A := []) ⟨by simp, by simp⟩ (bal (bz wc) _) (made_rows HBc.out.size (show N ≤ 1000 by omega)) ⟨_, Nat.le_refl _, rfl⟩
      have hB1 := bal HBc.out (Obj.cells (arrI (List.replicate N 0)) 3)
      obtain ⟨gl, hgl⟩ : ∃ gl, wc.heap.size = gl := ⟨_, rfl⟩
      rw [hgl] at hO1
      rw [hgl]
      generalize wc.alloc (Obj.cells (arrI (List.replicate N 0)) 3) = w1 at *
      have HO1 := Lib.hid hO1; have HB1 := Lib.hid hB1
      clear hO1 hB1 hgl
      have hmk := make_row N (by omega) w1
      have hO2 := HO1.out.more (bal (bz w1) _) (made_rows HB1.out.size (show N ≤ 1000 by omega)) ⟨_, Nat.le_refl _, rfl⟩
      have hB2 := bal HB1.out (Obj.cells (arrI (List.replicate N 0)) 3)
      refine U_heads [6] (by kernel_rfl) (anyW _ _) ?_
      simp only [pickL, List.getElem?_cons_succ, List.getElem?_cons_zero]
      repeat (go_big_quiet_step (rfl))
      refine wpQuiet_nil ?_
      refine U_one 5 (by kernel_rfl) ?_
      simp only [pickL, List.getElem?_cons_succ, List.getElem?_cons_zero]
      go_wp2
      refine seg_grow (anyW _ _) ?_
      refine U_heads [7] (by kernel_rfl) (anyW _ _) ?_
      simp only [pickL, List.getElem?_cons_succ, List.getElem?_cons_zero]
      repeat (go_big_quiet_step (rfl))
      refine wpQuiet_nil ?_
      refine U_done (by kernel_rfl) ?_
      exact ⟨rfl, (gl, w1.heap.size), rfl, hO2, hB2⟩
    · simp only [pickL, List.getElem?_cons_succ, List.getElem?_cons_zero]
      have hmk := make_row N (by omega) wc
      go_wp2
      refine seg_grow (anyW _ _) ?_
      have hO1 := OwnN.more (A := []) ⟨by simp, by simp⟩ (bal (bz wc) _) (made_rows HBc.out.size (show N ≤ 1000 by omega)) ⟨_, Nat.le_refl _, rfl⟩
      have hB1 := bal HBc.out (Obj.cells (arrI (List.replicate N 0)) 3)
      obtain ⟨gl, hgl⟩ : ∃ gl, wc.heap.size = gl := ⟨_, rfl⟩
      rw [hgl] at hO1
      rw [hgl]
      generalize wc.alloc (Obj.cells (arrI (List.replicate N 0)) 3) = w1 at *
      have HO1 := Lib.hid hO1; have HB1 := Lib.hid hB1
      clear hO1 hB1 hgl
      have hmk := make_row N (by omega) w1
      have hO2 := HO1.out.more (bal (bz w1) _) (made_rows HB1.out.size (show N ≤ 1000 by omega)) ⟨_, Nat.le_refl _, rfl⟩
      have hB2 := bal HB1.out (Obj.cells (arrI (List.replicate N 0)) 3)
      refine U_one 2 (by kernel_rfl) ?_
      simp only [pickL, List.getElem?_cons_succ, List.getElem?_cons_zero]
      go_wp2
      refine seg_grow (anyW _ _) ?_
      refine U_heads [6, 7] (by kernel_rfl) (anyW _ _) ?_
      simp only [pickL, List.getElem?_cons_succ, List.getElem?_cons_zero]
      repeat (go_big_quiet_step (rfl))
      refine wpQuiet_nil ?_
      refine U_done (by kernel_rfl) ?_
      exact ⟨rfl, (w1.heap.size, gl), rfl, hO2.swap2, hB2⟩
  · rintro ⟨gl, gb⟩ w1 ⟨hO, hB⟩
    simp only [Act.put, rowV]
    have hNN := HN.out
    have HO := Lib.hid (show OutR R W N gl gb w (.pointer (some ⟨w1.heap.size, 0, none⟩)) [] (w1.alloc (.cells #[.int .i64 1] 3)) from
      ⟨0, 1, w1.heap.size, rfl, by omega, rfl, by rw [padL_first fstI rfl R W (by omega), padL_first sndI rfl R W (by omega)]; exact OwnN.box (A := [_, _]) hO hB.size 1, Marks.nil _ _ _, bal hB _⟩)
    clear hO hB hNN
    gi_wp2_with fail
    generalize w1.alloc (.cells #[.int .i64 1] 3) = wA at *
    generalize w1.heap.size = p1 at *
    refine wpIn_loop (OutI b R W a ca N gl gb w) (OutM N) ⟨HO.out, frame_mk rfl⟩ ?_
    clear HO
    rintro ⟨tm, D⟩ wr ⟨hrel, f0, hg⟩
    simp only at hrel hg
    subst hg
    simp only [List.getElem?_cons_succ, List.getElem?_cons_zero, Array.getD_eq_getD_getElem?, List.getElem?_toArray, Option.getD_some] at hrel
    generalize hg6 : f0 6 = u6 at *
    obtain ⟨m, q, pl, hq, hm, rfl, hO, hMk, hB⟩ := hrel
    try dsimp only
    have hl1 := padL_lenT R W fstI hm
    have hl2 := padL_lenT R W sndI hm
    have HL1 := Lib.hid hl1; have HL2 := Lib.hid hl2
    clear hl1 hl2
    obtain ⟨cl0, fl0, zl0⟩ := OwnN.cell (A := [_, _]) (B := []) hO
    have hq1 : 1 ≤ q := by omega
    have hq2 : q ≤ N := by omega
    have HQ := Lib.hid hq
    clear hq
    have HO := Lib.hid hO; have HMK := Lib.hid hMk; have HB := Lib.hid hB
    have hNN := HN.out
    clear hO hMk hB
    by_cases hle : (q : Int) ≤ (W.length : Int) + 1
    · have dle : decide ((q : Int) ≤ (W.length : Int) + 1) = true := decide_eq_true hle
      have hqN : q < N := by omega
      have hwn : IntKind.i64.wrap ((W.length : Int) + 1) = (W.length : Int) + 1 := IntWalk.i64_in _ (by omega)
      clear hle hNN
      obtain ⟨cg1, fg1, zg1, bg1⟩ := OwnN.geti (A := []) HO.out HL1.out hqN
      have HO1 := Lib.hid (OwnN.seti (A := []) HO.out HL1.out q 1000)
      have HM1 := Lib.hid (HMK.out.set (u := .int .i64 1000) cg1)
      have HB1 := Lib.hid (bset HB.out (p := ⟨gl, q, none⟩) bg1 (.int .i64 1000))
      generalize (padL fstI (tabT R W m) N)[q]?.getD 0 = ov at *
      have hqI : (q : Int) < N := by omega
      gi_wp2_with fail
      generalize wr.setCell ⟨gl, q, none⟩ (.int .i64 1000) = wB at *
      have hm1 := HQ.out
      have HI0 := Lib.hid (show InR R W N gl gb m q pl w (.int .i64 (0 : Nat)) D wB from ⟨0, by omega, rfl, by
        have e := padL_zero sndI (tabT R W m) N (by rw [tabT_len]; omega)
        rw [tabT_len, hm1] at e
        show OwnN wB w.heap.size [(rowV gl N, (padL fstI (tabT R W m) N).set q 1000), (rowV gb N, (padL sndI (tabT R W m) N).set q 0), (cellV pl, [(q : Int)])]
        rw [e]; exact HO1.out, HM1.out.lt (Nat.le_refl _), HB1.out⟩)
      have HCL := Lib.hid cl0
      clear HO1 HM1 HB1 HO HMK HB cg1 fg1 zg1 bg1 cl0 fl0 zl0 hm1 hqI
      refine wpIn_loop (InI b R W a ca N gl gb m q pl w f0) (InM q) ⟨HI0.out, frame_mk rfl⟩ ?_
      clear HI0
      rintro ⟨tm, D⟩ wz ⟨hrel, g, hg⟩
      simp only at hrel hg
      subst hg
      simp only [List.getElem?_cons_succ, List.getElem?_cons_zero, Array.getD_eq_getD_getElem?, List.getElem?_toArray, Option.getD_some] at hrel
      generalize hg34 : g 34 = u34 at *
      obtain ⟨k, hk, rfl, hO, hMk, hB⟩ := hrel
      try dsimp only
      have hsl1 : ((padL fstI (tabT R W m) N).set q (minT (lostT R W (tabT R W m) q) k).1).length = N := by rw [List.length_set]; exact HL1.out
      have hsl2 : ((padL sndI (tabT R W m) N).set q ((minT (lostT R W (tabT R W m) q) k).2 : Int)).length = N := by rw [List.length_set]; exact HL2.out
      have HS1 := Lib.hid hsl1; have HS2 := Lib.hid hsl2
      clear hsl1 hsl2
      have HO := Lib.hid hO; have HMK := Lib.hid hMk; have HB := Lib.hid hB
      clear hO hMk hB
      have HHG := Lib.hid hg34
      clear hg34
      by_cases hkq : k < q
      · have dkq : decide ((k : Int) < (q : Int)) = true := by simp; exact hkq
        obtain ⟨ck, fk, zk, _⟩ := OwnN.geti (A := []) HO.out HS1.out (show k < N by omega)
        have hvk : ((padL fstI (tabT R W m) N).set q (minT (lostT R W (tabT R W m) q) k).1)[k]?.getD 0 = (tabAt (tabT R W m) k).1 := by
          rw [set_get _ _ _ _ (by rw [HL1.out]; exact hqN), if_neg (by omega), padL_at fstI rfl]; rfl
        rw [hvk] at ck
        have hbk := tabT_bd R W hr1 m k
        have hkI : (k : Int) < N := by omega
        obtain ⟨vk, hvv⟩ : ∃ vk, (tabAt (tabT R W m) k).1 = vk := ⟨_, rfl⟩
        rw [hvv] at ck hbk
        have hv0 : 0 ≤ vk := hbk.1
        have hv1 : vk ≤ 1000 := hbk.2.1
        have HVV := Lib.hid hvv
        clear hvk hbk hvv
        gi_wp2_with fail
        refine ⟨trivial, callsIn_wide.2 ((lasting_any _ _).mono ?_)⟩
        rintro e w4 ⟨rfl, hw4⟩
        have HO3 := Lib.hid (OwnN.box (A := [_, _, _, _]) (OwnN.box (A := [_, _, _]) HO.out HB.out.size (k : Int)) (bal HB.out _).size vk)
        have hB2 := bal (bal HB.out (Obj.cells #[Value.int .i64 (k : Int)] 3)) (Obj.cells #[Value.int .i64 vk] 3)
        have hW2 := bal (bal (bz wz) (Obj.cells #[Value.int .i64 (k : Int)] 3)) (Obj.cells #[Value.int .i64 vk] 3)
        have hB0 : Below wz.heap.size wz w4 := by rw [← hw4]; exact bal hW2 _
        have m3 : w4.cell? ⟨((wz.alloc (Obj.cells #[Value.int .i64 (k : Int)] 3)).alloc (Obj.cells #[Value.int .i64 vk] 3)).heap.size, 0, none⟩ = some (.pointer (some ⟨b, 0, none⟩)) := by rw [← hw4]; exact cnew rfl rfl
        have hO4 : OwnN w4 w.heap.size [(rowV gl N, (padL fstI (tabT R W m) N).set q (minT (lostT R W (tabT R W m) q) k).1), (rowV gb N, (padL sndI (tabT R W m) N).set q ((minT (lostT R W (tabT R W m) q) k).2 : Int)), (cellV pl, [(q : Int)]), (cellV wz.heap.size, [(k : Int)]), (cellV (wz.heap.size + 1), [vk])] := by
          have h := HO3.out.later (bal (bz _) (Obj.cells #[.pointer (some ⟨b, 0, none⟩)] 53))
          rw [hw4, World.size_alloc] at h
          exact h
        simp only [World.size_alloc] at m3
        simp only [World.size_alloc]
        have hs4 : w4.heap.size = wz.heap.size + 1 + 1 + 1 := by rw [← hw4]; simp
        obtain ⟨po, hpo⟩ : ∃ po, wz.heap.size = po := ⟨_, rfl⟩
        obtain ⟨pq, hpq⟩ : ∃ pq, wz.heap.size + 1 = pq := ⟨_, rfl⟩
        obtain ⟨cb, hcb⟩ : ∃ cb, wz.heap.size + 1 + 1 = cb := ⟨_, rfl⟩
        rw [hcb] at m3
        rw [hpq, hpo] at hO4
        rw [hcb, hpq, hpo]
        have hcb4 : cb < w4.heap.size := by omega
        have HO4 := Lib.hid hO4
        have HM4 := Lib.hid ((HMK.out.up hB0).lt (Nat.le_refl _))
        have HB4 := Lib.hid (btr HB.out hB0)
        have HC3 := Lib.hid m3
        have hwb4 : w.heap.size ≤ w4.heap.size := HB4.out.size
        clear hw4 hB2 hW2 hO4 m3 hB0 HO3 hs4 hpo hpq hcb HO HMK HB ck fk zk
        gi_wp2
        have HBK := Lib.hid (show ∀ old last pre, 0 ≤ cntP old last pre ∧ cntP old last pre ≤ (pre.length : Int) from fun old last pre => cntP_bd old last pre)
        have HPRE := Lib.hid (fun pre (h : pre <+: lastL W W.length) => h.length_le)
        have HLL := Lib.hid (lastL_16 h16)
        obtain ⟨mk, hmk⟩ : ∃ mk, (minT (lostT R W (tabT R W m) q) k).1 = mk := ⟨_, rfl⟩
        rw [hmk] at HO4 HS1
        have HMKV := Lib.hid hmk
        have HSQ := Lib.hid (show ((padL fstI (tabT R W m) N).set q mk)[q]?.getD 0 = mk by rw [set_get _ _ _ _ (by rw [HL1.out]; exact hqN), if_pos rfl])
        clear hmk
        refine range_law (gf := 83) (lb := #[.pointer (some ⟨cb, 0, none⟩)]) rfl (enters_of Try.func83 (by kernel_rfl) rfl) (lasting_yields _ cb b R W on (fun i hi => by have := (hd.at hi).1; omega) (by omega)) (fun _ => rfl)
          (fun pre X => Below w.heap.size w X ∧ OwnB X w.heap.size w4.heap.size [(rowV gl N, (padL fstI (tabT R W m) N).set q mk), (rowV gb N, (padL sndI (tabT R W m) N).set q ((minT (lostT R W (tabT R W m) q) k).2 : Int)), (cellV pl, [(q : Int)]), (cellV po, [(k : Int)]), (cellV pq, [vk + cntP k q pre])] ∧ Marks D w.heap.size w4.heap.size X ∧ X.cell? ⟨cb, 0, none⟩ = some (.pointer (some ⟨b, 0, none⟩)))
          (fun _ _ _ => False)
          (fun s => (abides_below hwb4 (Nat.le_refl _)).and (abides_ownB.and (abides_marks.and (abides_cell hcb4))))
          (fun c s => abides_pure)
          (fun s X h => ⟨h.2.2.2, HI.out.mono h.1⟩)
          ⟨HB4.out, (show OwnN w4 w.heap.size _ by have h := HO4.out; rw [show vk = vk + cntP k q [] by simp [cntP]] at h; exact h).toB (Nat.le_refl _), HM4.out, HC3.out⟩ ?round ?done ?stop
        case round =>
          rintro l pre ⟨p0, p1⟩ X ⟨hB, hO, hM, hC⟩ hpx hszX
          have hmem : (p0, p1) ∈ lastL W W.length := by obtain ⟨ys, e⟩ := hpx; rw [← e]; simp
          obtain ⟨k0, k1, hk01, hk1n, _, hpeq⟩ := mem_lastL.1 hmem
          simp only [Prod.mk.injEq] at hpeq
          obtain ⟨rfl, rfl⟩ := hpeq
          have hpl := HPRE.out _ hpx
          rw [List.length_append, List.length_singleton] at hpl
          have hcb := HBK.out k q pre
          have hll := HLL.out
          have HCS := Lib.hid (cntP_snoc k q pre ((k0 : Int), (k1 : Int)))
          have HB := Lib.hid hB; have HO := Lib.hid hO; have HM := Lib.hid hM; have HC := Lib.hid hC
          clear hB hO hM hC hpx hmem
          unfold kv
          gi_wp2
          refine ⟨(KF.refl _ _).alloc _, fun W2 hg2 hs2 => ?_⟩
          have hr2 : ∀ r, some (w4.heap.size + 1) = some r → w4.heap.size ≤ r := fun r e => by have := Option.some.inj e; omega
          have HB2 := Lib.hid (bgr (bal HB.out (Obj.cells #[Value.int .i64 (k0 : Int), Value.int .i64 (k1 : Int)] 96)) hg2 (fun k e => by have := hr2 k e; omega))
          have HO2 := Lib.hid ((HO.out.grown (grown_of (bal (bz X) (Obj.cells #[Value.int .i64 (k0 : Int), Value.int .i64 (k1 : Int)] 96))) (fun r e => by cases e)).grown hg2 hr2)
          have HM2 := Lib.hid ((HM.out.up (bal (bz X) (Obj.cells #[Value.int .i64 (k0 : Int), Value.int .i64 (k1 : Int)] 96))).grown hg2 (fun r e => .inl (hr2 r e)))
          have HC2 := Lib.hid (hg2.cell (cal (Obj.cells #[Value.int .i64 (k0 : Int), Value.int .i64 (k1 : Int)] 96) HC.out) (fun e => by have := Option.some.inj e; simp only at this; omega))
          have hpb2 : W2.heap[X.heap.size]? = some (.cells #[Value.int .i64 (k0 : Int), Value.int .i64 (k1 : Int)] 96 (0, 0)) := (hg2.block _ (by simp) (fun e => by have := Option.some.inj e; omega)).trans (heap_alloc_new _ _)
          have q0 : W2.cell? ⟨X.heap.size, 0, none⟩ = some (.int .i64 (k0 : Int)) := by rw [cell_of_row _ _ _ _ _ _ hpb2]; rfl
          have q1 : W2.cell? ⟨X.heap.size, 1, none⟩ = some (.int .i64 (k1 : Int)) := by rw [cell_of_row _ _ _ _ _ _ hpb2]; rfl
          have qz : X.heap.size < W2.heap.size := by rw [hs2]; simp
          obtain ⟨e3, g3, z3⟩ := OwnN.cell (A := [_, _]) (B := [_, _]) HO2.out.own
          obtain ⟨e4, g4, z4⟩ := OwnN.cell (A := [_, _, _]) (B := [_]) HO2.out.own
          obtain ⟨e5, g5, z5⟩ := OwnN.cell (A := [_, _, _, _]) (B := []) HO2.out.own
          have l5 : pq < w4.heap.size := HO2.out.lt (cellV pq, [vk + cntP k q pre]) (by simp) pq rfl
          have b5 : w.heap.size ≤ pq := by obtain ⟨_, _, _, h⟩ := OwnN.block (A := [_, _, _, _]) (B := []) HO2.out.own (g := pq) rfl; exact h
          obtain ⟨cv, hcv⟩ : ∃ cv, cntP k q pre = cv := ⟨_, rfl⟩
          rw [hcv] at HO2 HCS hcb e5
          clear hg2 hpb2 hs2 hr2 HO HM HC HB hcv
          have wr1 : IntKind.i64.wrap ((k : Int) - 1) = (k : Int) - 1 := IntWalk.i64_in _ (by omega)
          have wr2 : IntKind.i64.wrap ((q : Int) - 1) = (q : Int) - 1 := IntWalk.i64_in _ (by omega)
          have wr3 : IntKind.i64.wrap (vk + cv + 1) = vk + cv + 1 := IntWalk.i64_in _ (by omega)
          have hOS := fun x : Int => OwnN.put (A := [_, _, _, _]) (B := []) HO2.out.own x
          have HOS := Lib.hid hOS
          have HMS := Lib.hid (fun x : Int => HM2.out.set (u := .int .i64 x) e5)
          clear hOS
          by_cases hA : (k : Int) - 1 ≤ (k0 : Int)
          · have dA : decide ((k : Int) - 1 ≤ (k0 : Int)) = true := decide_eq_true hA
            by_cases hBc : (k1 : Int) ≤ (q : Int) - 1
            · have dB : decide ((k1 : Int) ≤ (q : Int) - 1) = true := decide_eq_true hBc
              have HBT := Lib.hid (show betwB k q ((k0 : Int), (k1 : Int)) = true by unfold betwB; rw [Bool.and_eq_true]; exact ⟨dA, dB⟩)
              rw [HBT.out, if_pos rfl] at HCS
              clear hA hBc
              have HFIN := Lib.hid (show KF w4.heap.size W2 (W2.setCell ⟨pq, 0, none⟩ (.int .i64 (vk + cv + 1))) ∧ (Below w.heap.size w (W2.setCell ⟨pq, 0, none⟩ (.int .i64 (vk + cv + 1))) ∧ OwnB (W2.setCell ⟨pq, 0, none⟩ (.int .i64 (vk + cv + 1))) w.heap.size w4.heap.size [(rowV gl N, (padL fstI (tabT R W m) N).set q mk), (rowV gb N, (padL sndI (tabT R W m) N).set q ((minT (lostT R W (tabT R W m) q) k).2 : Int)), (cellV pl, [(q : Int)]), (cellV po, [(k : Int)]), (cellV pq, [vk + cntP k q (pre ++ [((k0 : Int), (k1 : Int))])])] ∧ Marks D w.heap.size w4.heap.size (W2.setCell ⟨pq, 0, none⟩ (.int .i64 (vk + cv + 1))) ∧ (W2.setCell ⟨pq, 0, none⟩ (.int .i64 (vk + cv + 1))).cell? ⟨cb, 0, none⟩ = some (.pointer (some ⟨b, 0, none⟩))) from
                ⟨(KF.refl _ _).set l5 _, bset HB2.out (by show w.heap.size ≤ pq; exact b5) _, ⟨by rw [HCS.out, ← Int.add_assoc]; exact HOS.out _, fun r hr k' e => by
                  simp only [List.mem_cons, List.not_mem_nil, or_false] at hr
                  have h0 := HO2.out.lt
                  rcases hr with rfl | rfl | rfl | rfl | rfl
                  · exact h0 _ (by simp) k' e
                  · exact h0 (rowV gb N, _) (by simp) k' e
                  · exact h0 (cellV pl, _) (by simp) k' e
                  · exact h0 (cellV po, _) (by simp) k' e
                  · exact h0 (cellV pq, [vk + cv]) (by simp) k' e⟩, HMS.out _, by
                  rw [World.cell?_setCell_other _ _ _ _ (by intro e; have := congrArg Addr.block e; simp only at this; subst this; have := HC2.out; rw [e5] at this; cases this)]; exact HC2.out⟩)
              by_cases hk0 : 0 < k
              · have dC : decide ((0 : Int) < (k : Int)) = true := by simp; exact hk0
                have dC2 : decide (0 < k) = true := decide_eq_true hk0
                clear hk0
                gi_wp2
                exact HFIN.out
              · have hkz : k = 0 := by omega
                have dC : decide ((0 : Int) < (k : Int)) = false := by simp; omega
                have dC2 : decide (0 < k) = false := by simp; omega
                have HKZ := Lib.hid hkz
                clear hk0 hkz
                gi_wp2
                exact HFIN.out
            · have dB : decide ((k1 : Int) ≤ (q : Int) - 1) = false := decide_eq_false hBc
              have HBT := Lib.hid (show betwB k q ((k0 : Int), (k1 : Int)) = false by unfold betwB; show (decide ((k : Int) - 1 ≤ (k0 : Int)) && decide ((k1 : Int) ≤ (q : Int) - 1)) = false; rw [dB, Bool.and_false])
              rw [HBT.out, if_neg (by simp), Int.add_zero] at HCS
              clear hA hBc
              gi_wp2
              exact ⟨KF.refl _ _, HB2.out, by rw [HCS.out]; exact HO2.out, HM2.out, HC2.out⟩
          · have dA : decide ((k : Int) - 1 ≤ (k0 : Int)) = false := decide_eq_false hA
            have HBT := Lib.hid (show betwB k q ((k0 : Int), (k1 : Int)) = false by unfold betwB; show (decide ((k : Int) - 1 ≤ (k0 : Int)) && decide ((k1 : Int) ≤ (q : Int) - 1)) = false; rw [dA, Bool.false_and])
            rw [HBT.out, if_neg (by simp), Int.add_zero] at HCS
            clear hA
            gi_wp2
            exact ⟨KF.refl _ _, HB2.out, by rw [HCS.out]; exact HO2.out, HM2.out, HC2.out⟩
        case done =>
          rintro X ⟨hB, hO, hM, hC⟩ hD
          have HD := Lib.hid hD
          have hcb := HBK.out k q (lastL W W.length)
          have hll := HLL.out
          have HOX := Lib.hid hO.own
          have hxz := (Array.getElem?_eq_some_iff.1 hD).1
          have HMX := Lib.hid (hM.cons (Nat.le_refl _) hwb4 (Nat.lt_succ_self _) hD)
          have HBX := Lib.hid hB
          clear hB hO hM hC hD
          obtain ⟨cv, hcv⟩ : ∃ cv, cntP k q (lastL W W.length) = cv := ⟨_, rfl⟩
          rw [hcv] at HOX hcb
          have HCV := Lib.hid hcv
          clear hcv
          generalize ({ target := Target.collected w4.heap.size, args := #[] } : Deferred) :: D = D2 at *
          obtain ⟨x3, y3, u3⟩ := OwnN.cell (A := [_, _]) (B := [_, _]) HOX.out
          obtain ⟨x5, y5, u5⟩ := OwnN.cell (A := [_, _, _, _]) (B := []) HOX.out
          by_cases hqn : (q : Int) ≤ (W.length : Int)
          · have dqn : decide ((q : Int) ≤ (W.length : Int)) = true := decide_eq_true hqn
            have dqn2 : decide (q ≤ W.length) = true := by simp; omega
            obtain ⟨lt, hlt0⟩ : ∃ lt, vk + cv + (R - 1) = lt := ⟨_, rfl⟩
            have HLT := Lib.hid (show lostT R W (tabT R W m) q k = lt by unfold lostT; rw [HVV.out, HCV.out, if_pos (by omega), ← hlt0])
            have wr1 : IntKind.i64.wrap (R - 1) = R - 1 := IntWalk.i64_in _ (by omega)
            have wr2 : IntKind.i64.wrap (vk + cv + (R - 1)) = lt := by rw [IntWalk.i64_in _ (by omega)]; exact hlt0
            have HL0 := Lib.hid hlt0
            clear hqn hlt0
            gi_wp2_with fail
            refine in_region_flow (r := none) [] [([0, 1, 2, 3, 4, 5, 6, 7], 8, false)] [] (by kernel_rfl) (by kernel_rfl) (by rfl) ?_
            intro we hBe hh
            clear hh
            have HOE := Lib.hid (HOX.out.later hBe)
            have HME := Lib.hid (HMX.out.up hBe); have HBE := Lib.hid (btr HBX.out hBe)
            clear x3 y3 u3 x5 y5 u5 hBe
            obtain ⟨x5, y5, u5⟩ := OwnN.cell (A := [_, _, _, _]) (B := []) HOE.out
            have b0 := (HBE.out.cell (p := ⟨b, 0, none⟩) hz).trans c0
            have b0z := Nat.lt_of_lt_of_le hz HBE.out.size
            have b5 : w.heap.size ≤ pq := by obtain ⟨_, _, _, h⟩ := OwnN.block (A := [_, _, _, _]) (B := []) HOE.out (g := pq) rfl; exact h
            have HO5 := Lib.hid (OwnN.put (A := [_, _, _, _]) (B := []) HOE.out lt)
            have HM5 := Lib.hid (HME.out.set (u := .int .i64 lt) x5)
            have HB5 := Lib.hid (bset HBE.out (p := ⟨pq, 0, none⟩) b5 (.int .i64 lt))
            have hL := @Later.cell we
            simp only [flowP, flow, pickL, List.getElem?_cons_succ, List.getElem?_cons_zero]
            refine wpQuiet_nil ?_
            repeat (go_big_quiet_step (fail))
            refine wpQuiet_nil ?_
            go_wp2
            refine seg_write ?_
            refine wpQuiet_nil ?_
            refine only_done ?_
            generalize we.setCell ⟨pq, 0, none⟩ (.int .i64 lt) = w5 at *
            clear hL x5 y5 u5 b0 b0z HOE HME HBE wr1 wr2 dqn dqn2
            gi_wp2_with fail
            refine in_region_flow (r := none) [] [] [0, 1, 2, 3, 4, 5] (by kernel_rfl) (by kernel_rfl) (by rfl) ?_
            intro wc hB hh
            clear hh
            have HO6 := Lib.hid (HO5.out.later hB)
            have HM6 := Lib.hid (HM5.out.up hB); have HB6 := Lib.hid (btr HB5.out hB)
            obtain ⟨e1, g1, z1, b1⟩ := OwnN.geti (A := []) HO6.out HS1.out hqN
            rw [HSQ.out] at e1
            obtain ⟨e2, g2, z2, b2⟩ := OwnN.geti (A := [_]) HO6.out HS2.out hqN
            obtain ⟨e3, g3, z3⟩ := OwnN.cell (A := [_, _]) (B := [_, _]) HO6.out
            obtain ⟨e4, g4, z4⟩ := OwnN.cell (A := [_, _, _]) (B := [_]) HO6.out
            obtain ⟨e5, g5, z5⟩ := OwnN.cell (A := [_, _, _, _]) (B := []) HO6.out
            have hL := @Later.cell wc
            clear hB HO5 HM5 HB5
            simp only [flowP, flow, pickL, List.getElem?_cons_succ, List.getElem?_cons_zero]
            refine wpQuiet_nil ?_
            repeat (go_big_quiet_step (fail))
            refine wpQuiet_nil ?_
            refine only_done ?_
            by_cases hlt : lt < mk
            · have dlt : decide (lt < mk) = true := decide_eq_true hlt
              rw [dlt]
              have HST := Lib.hid (show minT (lostT R W (tabT R W m) q) (k + 1) = (lt, k) by unfold minT; rw [HLT.out, HMKV.out, if_pos hlt])
              clear hlt
              gi_wp2_with fail
              have CW := Lib.hid (fun wx (h : Below wc.heap.size wc wx) => (show ∃ x : CellW pl po pq q k lt, wx = x.val from ⟨⟨wx, (h.cell (p := ⟨pl, 0, none⟩) z3).trans e3, (h.cell (p := ⟨po, 0, none⟩) z4).trans e4, (h.cell (p := ⟨pq, 0, none⟩) z5).trans e5, Nat.lt_of_lt_of_le z3 h.size, Nat.lt_of_lt_of_le z4 h.size, Nat.lt_of_lt_of_le z5 h.size⟩, rfl⟩))
              haveI : Nonempty (CellW pl po pq q k lt) := by obtain ⟨x, _⟩ := CW.out wc (bz wc); exact ⟨x⟩
              refine in_region_flowS (r := none) (fun w2 => ∃ x : CellW pl po pq q k lt, w2 = x.val) [] [([0, 1, 2, 3, 4, 5, 6], 7, true), ([], 8, true), ([], 9, true)] [] (by kernel_rfl) (by kernel_rfl) (by rfl) (fun wx h _ => CW.out wx h) ?_
              intro wd hBd hh
              clear hh
              have HO7 := Lib.hid (HO6.out.later hBd)
              have HM7 := Lib.hid (HM6.out.up hBd); have HB7 := Lib.hid (btr HB6.out hBd)
              clear e1 g1 z1 e2 g2 z2 e3 g3 z3 e4 g4 z4 e5 g5 z5 hL hBd CW
              obtain ⟨e1, g1, z1, b1⟩ := OwnN.geti (A := []) HO7.out HS1.out hqN
              obtain ⟨e2, g2, z2, b2⟩ := OwnN.geti (A := [_]) HO7.out HS2.out hqN
              obtain ⟨e3, g3, z3⟩ := OwnN.cell (A := [_, _]) (B := [_, _]) HO7.out
              obtain ⟨e4, g4, z4⟩ := OwnN.cell (A := [_, _, _]) (B := [_]) HO7.out
              obtain ⟨e5, g5, z5⟩ := OwnN.cell (A := [_, _, _, _]) (B := []) HO7.out
              have HO8 := Lib.hid (OwnN.seti (A := []) HO7.out HS1.out q lt)
              have HO9 := Lib.hid (OwnN.seti (A := [_]) HO8.out HS2.out q (k : Int))
              have hne := OwnN.ne2 HO7.out
              have HM8 := Lib.hid (HM7.out.set (u := .int .i64 lt) e1)
              obtain ⟨c2, f2, _, _⟩ := OwnN.geti (A := [_]) HO8.out HS2.out hqN
              have HM9 := Lib.hid ((HM8.out.set (u := .int .i64 (k : Int)) c2).lt (Nat.le_refl _))
              have HB9 := Lib.hid (bset (bset HB7.out (p := ⟨gl, q, none⟩) b1 (.int .i64 lt)) (p := ⟨gb, q, none⟩) b2 (.int .i64 (k : Int)))
              have CW8 := Lib.hid (show ∃ x : CellW pl po pq q k lt, wd.setCell ⟨gl, q, none⟩ (.int .i64 lt) = x.val from by
                obtain ⟨a3, _, d3⟩ := OwnN.cell (A := [_, _]) (B := [_, _]) HO8.out
                obtain ⟨a4, _, d4⟩ := OwnN.cell (A := [_, _, _]) (B := [_]) HO8.out
                obtain ⟨a5, _, d5⟩ := OwnN.cell (A := [_, _, _, _]) (B := []) HO8.out
                exact ⟨⟨_, a3, a4, a5, d3, d4, d5⟩, rfl⟩)
              have CW9 := Lib.hid (show ∃ x : CellW pl po pq q k lt, (wd.setCell ⟨gl, q, none⟩ (.int .i64 lt)).setCell ⟨gb, q, none⟩ (.int .i64 (k : Int)) = x.val from by
                obtain ⟨a3, _, d3⟩ := OwnN.cell (A := [_, _]) (B := [_, _]) HO9.out
                obtain ⟨a4, _, d4⟩ := OwnN.cell (A := [_, _, _]) (B := [_]) HO9.out
                obtain ⟨a5, _, d5⟩ := OwnN.cell (A := [_, _, _, _]) (B := []) HO9.out
                exact ⟨⟨_, a3, a4, a5, d3, d4, d5⟩, rfl⟩)
              generalize ((padL sndI (tabT R W m) N).set q ((minT (lostT R W (tabT R W m) q) k).2 : Int))[q]?.getD 0 = ov2 at *
              generalize ((padL fstI (tabT R W m) N).set q mk)[q]?.getD 0 = ov1 at *
              have hx1 := fun l : CellW pl po pq q k lt => l.c1
              have hx2 := fun l : CellW pl po pq q k lt => l.c2
              have hx3 := fun l : CellW pl po pq q k lt => l.c3
              have hx4 := fun l : CellW pl po pq q k lt => l.z1
              have hx5 := fun l : CellW pl po pq q k lt => l.z2
              have hx6 := fun l : CellW pl po pq q k lt => l.z3
              clear c2 f2
              simp only [flowP, flow, pickL, List.getElem?_cons_succ, List.getElem?_cons_zero]
              refine wpQuiet_nil ?_
              repeat (go_big_quiet_step (fail))
              refine wpQuiet_nil ?_
              clear hx1 hx2 hx3 hx4 hx5 hx6
              go_wp2
              refine seg_grow CW8.out ?_
              refine wpQuiet_nil ?_
              go_wp2
              refine seg_grow CW8.out ?_
              refine wpQuiet_nil ?_
              go_wp2
              refine seg_grow CW9.out ?_
              refine wpQuiet_nil ?_
              refine only_done ?_
              gi_wp2_with fail
              refine ⟨⟨⟨k + 1, by omega, by go_num, ?_, HM9.out, HB9.out⟩, frame_mk rfl⟩, ?_⟩
              · rw [HST.out]
                have h := OwnN.part (A := [_, _, _]) HO9.out
                simpa [List.set_set] using h
              · show q - (intOf (.int .i64 ((k : Int) + 1))).toNat < q - (intOf (.int .i64 (k : Int))).toNat
                simp [intOf]; omega
            · have dlt : decide (lt < mk) = false := decide_eq_false hlt
              rw [dlt]
              have HST := Lib.hid (show minT (lostT R W (tabT R W m) q) (k + 1) = minT (lostT R W (tabT R W m) q) k by
                show (if lostT R W (tabT R W m) q k < _ then _ else _) = _
                rw [HLT.out, HMKV.out, if_neg hlt])
              have HM9 := Lib.hid (HM6.out.lt (Nat.le_refl _))
              clear hlt e1 g1 z1 e2 g2 z2 e3 g3 z3 e4 g4 z4 e5 g5 z5 hL
              gi_wp2_with fail
              refine ⟨⟨⟨k + 1, by omega, by go_num, ?_, HM9.out, HB6.out⟩, frame_mk rfl⟩, ?_⟩
              · rw [HST.out, HMKV.out]
                exact OwnN.part (A := [_, _, _]) HO6.out
              · show q - (intOf (.int .i64 ((k : Int) + 1))).toNat < q - (intOf (.int .i64 (k : Int))).toNat
                simp [intOf]; omega
          · have dqn : decide ((q : Int) ≤ (W.length : Int)) = false := decide_eq_false hqn
            have dqn2 : decide (q ≤ W.length) = false := by simp; omega
            obtain ⟨lt, hlt0⟩ : ∃ lt, vk + cv = lt := ⟨_, rfl⟩
            have HLT := Lib.hid (show lostT R W (tabT R W m) q k = lt by unfold lostT; rw [HVV.out, HCV.out, if_neg (by omega), ← hlt0, Int.add_zero])
            rw [hlt0] at HOX x5
            have HO5 := HOX; have HM5 := HMX; have HB5 := HBX
            clear hqn hlt0
            gi_wp2_with fail
            clear x3 y3 u3 x5 y5 u5 dqn dqn2
            refine in_region_flow (r := none) [] [] [0, 1, 2, 3, 4, 5] (by kernel_rfl) (by kernel_rfl) (by rfl) ?_
            intro wc hB hh
            clear hh
            have HO6 := Lib.hid (HO5.out.later hB)
            have HM6 := Lib.hid (HM5.out.up hB); have HB6 := Lib.hid (btr HB5.out hB)
            obtain ⟨e1, g1, z1, b1⟩ := OwnN.geti (A := []) HO6.out HS1.out hqN
            rw [HSQ.out] at e1
            obtain ⟨e2, g2, z2, b2⟩ := OwnN.geti (A := [_]) HO6.out HS2.out hqN
            obtain ⟨e3, g3, z3⟩ := OwnN.cell (A := [_, _]) (B := [_, _]) HO6.out
            obtain ⟨e4, g4, z4⟩ := OwnN.cell (A := [_, _, _]) (B := [_]) HO6.out
            obtain ⟨e5, g5, z5⟩ := OwnN.cell (A := [_, _, _, _]) (B := []) HO6.out
            have hL := @Later.cell wc
            clear hB HO5 HM5 HB5
            simp only [flowP, flow, pickL, List.getElem?_cons_succ, List.getElem?_cons_zero]
            refine wpQuiet_nil ?_
            repeat (go_big_quiet_step (fail))
            refine wpQuiet_nil ?_
            refine only_done ?_
            by_cases hlt : lt < mk
            · have dlt : decide (lt < mk) = true := decide_eq_true hlt
              rw [dlt]
              have HST := Lib.hid (show minT (lostT R W (tabT R W m) q) (k + 1) = (lt, k) by unfold minT; rw [HLT.out, HMKV.out, if_pos hlt])
              clear hlt
              gi_wp2_with fail
              have CW := Lib.hid (fun wx (h : Below wc.heap.size wc wx) => (show ∃ x : CellW pl po pq q k lt, wx = x.val from ⟨⟨wx, (h.cell (p := ⟨pl, 0, none⟩) z3).trans e3, (h.cell (p := ⟨po, 0, none⟩) z4).trans e4, (h.cell (p := ⟨pq, 0, none⟩) z5).trans e5, Nat.lt_of_lt_of_le z3 h.size, Nat.lt_of_lt_of_le z4 h.size, Nat.lt_of_lt_of_le z5 h.size⟩, rfl⟩))
              haveI : Nonempty (CellW pl po pq q k lt) := by obtain ⟨x, _⟩ := CW.out wc (bz wc); exact ⟨x⟩
              refine in_region_flowS (r := none) (fun w2 => ∃ x : CellW pl po pq q k lt, w2 = x.val) [] [([0, 1, 2, 3, 4, 5, 6], 7, true), ([], 8, true), ([], 9, true)] [] (by kernel_rfl) (by kernel_rfl) (by rfl) (fun wx h _ => CW.out wx h) ?_
              intro wd hBd hh
              clear hh
              have HO7 := Lib.hid (HO6.out.later hBd)
              have HM7 := Lib.hid (HM6.out.up hBd); have HB7 := Lib.hid (btr HB6.out hBd)
              clear e1 g1 z1 e2 g2 z2 e3 g3 z3 e4 g4 z4 e5 g5 z5 hL hBd CW
              obtain ⟨e1, g1, z1, b1⟩ := OwnN.geti (A := []) HO7.out HS1.out hqN
              obtain ⟨e2, g2, z2, b2⟩ := OwnN.geti (A := [_]) HO7.out HS2.out hqN
              obtain ⟨e3, g3, z3⟩ := OwnN.cell (A := [_, _]) (B := [_, _]) HO7.out
              obtain ⟨e4, g4, z4⟩ := OwnN.cell (A := [_, _, _]) (B := [_]) HO7.out
              obtain ⟨e5, g5, z5⟩ := OwnN.cell (A := [_, _, _, _]) (B := []) HO7.out
              have HO8 := Lib.hid (OwnN.seti (A := []) HO7.out HS1.out q lt)
              have HO9 := Lib.hid (OwnN.seti (A := [_]) HO8.out HS2.out q (k : Int))
              have hne := OwnN.ne2 HO7.out
              have HM8 := Lib.hid (HM7.out.set (u := .int .i64 lt) e1)
              obtain ⟨c2, f2, _, _⟩ := OwnN.geti (A := [_]) HO8.out HS2.out hqN
              have HM9 := Lib.hid ((HM8.out.set (u := .int .i64 (k : Int)) c2).lt (Nat.le_refl _))
              have HB9 := Lib.hid (bset (bset HB7.out (p := ⟨gl, q, none⟩) b1 (.int .i64 lt)) (p := ⟨gb, q, none⟩) b2 (.int .i64 (k : Int)))
              have CW8 := Lib.hid (show ∃ x : CellW pl po pq q k lt, wd.setCell ⟨gl, q, none⟩ (.int .i64 lt) = x.val from by
                obtain ⟨a3, _, d3⟩ := OwnN.cell (A := [_, _]) (B := [_, _]) HO8.out
                obtain ⟨a4, _, d4⟩ := OwnN.cell (A := [_, _, _]) (B := [_]) HO8.out
                obtain ⟨a5, _, d5⟩ := OwnN.cell (A := [_, _, _, _]) (B := []) HO8.out
                exact ⟨⟨_, a3, a4, a5, d3, d4, d5⟩, rfl⟩)
              have CW9 := Lib.hid (show ∃ x : CellW pl po pq q k lt, (wd.setCell ⟨gl, q, none⟩ (.int .i64 lt)).setCell ⟨gb, q, none⟩ (.int .i64 (k : Int)) = x.val from by
                obtain ⟨a3, _, d3⟩ := OwnN.cell (A := [_, _]) (B := [_, _]) HO9.out
                obtain ⟨a4, _, d4⟩ := OwnN.cell (A := [_, _, _]) (B := [_]) HO9.out
                obtain ⟨a5, _, d5⟩ := OwnN.cell (A := [_, _, _, _]) (B := []) HO9.out
                exact ⟨⟨_, a3, a4, a5, d3, d4, d5⟩, rfl⟩)
              generalize ((padL sndI (tabT R W m) N).set q ((minT (lostT R W (tabT R W m) q) k).2 : Int))[q]?.getD 0 = ov2 at *
              generalize ((padL fstI (tabT R W m) N).set q mk)[q]?.getD 0 = ov1 at *
              have hx1 := fun l : CellW pl po pq q k lt => l.c1
              have hx2 := fun l : CellW pl po pq q k lt => l.c2
              have hx3 := fun l : CellW pl po pq q k lt => l.c3
              have hx4 := fun l : CellW pl po pq q k lt => l.z1
              have hx5 := fun l : CellW pl po pq q k lt => l.z2
              have hx6 := fun l : CellW pl po pq q k lt => l.z3
              clear c2 f2
              simp only [flowP, flow, pickL, List.getElem?_cons_succ, List.getElem?_cons_zero]
              refine wpQuiet_nil ?_
              repeat (go_big_quiet_step (fail))
              refine wpQuiet_nil ?_
              clear hx1 hx2 hx3 hx4 hx5 hx6
              go_wp2
              refine seg_grow CW8.out ?_
              refine wpQuiet_nil ?_
              go_wp2
              refine seg_grow CW8.out ?_
              refine wpQuiet_nil ?_
              go_wp2
              refine seg_grow CW9.out ?_
              refine wpQuiet_nil ?_
              refine only_done ?_
              gi_wp2_with fail
              refine ⟨⟨⟨k + 1, by omega, by go_num, ?_, HM9.out, HB9.out⟩, frame_mk rfl⟩, ?_⟩
              · rw [HST.out]
                have h := OwnN.part (A := [_, _, _]) HO9.out
                simpa [List.set_set] using h
              · show q - (intOf (.int .i64 ((k : Int) + 1))).toNat < q - (intOf (.int .i64 (k : Int))).toNat
                simp [intOf]; omega
            · have dlt : decide (lt < mk) = false := decide_eq_false hlt
              rw [dlt]
              have HST := Lib.hid (show minT (lostT R W (tabT R W m) q) (k + 1) = minT (lostT R W (tabT R W m) q) k by
                show (if lostT R W (tabT R W m) q k < _ then _ else _) = _
                rw [HLT.out, HMKV.out, if_neg hlt])
              have HM9 := Lib.hid (HM6.out.lt (Nat.le_refl _))
              clear hlt e1 g1 z1 e2 g2 z2 e3 g3 z3 e4 g4 z4 e5 g5 z5 hL
              gi_wp2_with fail
              refine ⟨⟨⟨k + 1, by omega, by go_num, ?_, HM9.out, HB6.out⟩, frame_mk rfl⟩, ?_⟩
              · rw [HST.out, HMKV.out]
                exact OwnN.part (A := [_, _, _]) HO6.out
              · show q - (intOf (.int .i64 ((k : Int) + 1))).toNat < q - (intOf (.int .i64 (k : Int))).toNat
                simp [intOf]; omega
        case stop =>
          rintro c pre X _ h _
          exact h.elim
      · have hkq' : k = q := by omega
        have dkq : decide ((k : Int) < (q : Int)) = false := by simp; omega
        subst hkq'
        obtain ⟨cl1, fl1, zl1⟩ := OwnN.cell (A := [_, _]) (B := []) HO.out
        clear dle dkq
        have HOA := Lib.hid (OwnN.drop (A := [_, _]) (B := [_]) (OwnN.box (inR_done HQ.out hqN HO.out) HB.out.size ((k : Int) + 1)))
        have HMA := Lib.hid ((HMK.out.up (bal (bz wz) (Obj.cells #[Value.int .i64 ((k : Int) + 1)] 3))).lt (Nat.le_refl _))
        have HBA := Lib.hid (bal HB.out (Obj.cells #[Value.int .i64 ((k : Int) + 1)] 3))
        have HCB := Lib.hid (show (wz.alloc (Obj.cells #[Value.int .i64 ((k : Int) + 1)] 3)).cell? ⟨wz.heap.size, 0, none⟩ = some (.int .i64 ((k : Int) + 1)) from cnew rfl rfl)
        gi_wp2_with fail
        refine ⟨⟨⟨k, k + 1, wz.heap.size, rfl, hqN, rfl, HOA.out, HMA.out, HBA.out⟩, frame_mk rfl⟩, ?_⟩
        show N - cellM (.pointer (some ⟨wz.heap.size, 0, none⟩)) _ < N - cellM (.pointer (some ⟨pl, 0, none⟩)) wr
        rw [cellM_at HCB.out, cellM_at HCL.out]
        omega
    · have hmn : m = W.length + 1 := by have := HQ.out; omega
      have hNe : N = W.length + 2 := hNN.symm
      have dle : decide ((q : Int) ≤ (W.length : Int) + 1) = false := decide_eq_false hle
      have hwn : IntKind.i64.wrap ((W.length : Int) + 1) = ((W.length + 1 : Nat) : Int) := by rw [IntWalk.i64_in _ (by omega)]; omega
      subst hmn
      have HOE := Lib.hid (OwnN.part (A := [_, _]) HO.out)
      obtain ⟨cA, _, zA, _⟩ := OwnN.geti (A := [_]) HO.out HL2.out (show W.length + 1 < N by omega)
      rw [padL_at sndI rfl] at cA
      change wr.cell? ⟨gb, W.length + 1, none⟩ = some (.int .i64 ((befT R W (W.length + 1) : Nat) : Int)) at cA
      have hA0 := (vT_at hd (k := W.length + 1) (by omega) (Nat.le_refl _)).1
      have HBEF := Lib.hid (fun k (h1 : 0 < k) (h2 : k ≤ W.length + 1) => (vT_at hd h1 h2).1)
      have HGB := Lib.hid (fun wz rs (h : OwnN wz w.heap.size ((rowV gl N, padL fstI (tabT R W (W.length + 1)) N) :: (rowV gb N, padL sndI (tabT R W (W.length + 1)) N) :: rs)) k (hk : k < N) => (show wz.cell? ⟨gb, k, none⟩ = some (.int .i64 ((befT R W k : Nat) : Int)) ∧ gb < wz.heap.size from by
        obtain ⟨h1, _, h2, _⟩ := OwnN.geti (A := [_]) h HL2.out hk
        rw [padL_at sndI rfl] at h1
        exact ⟨h1, h2⟩))
      have HTOT := Lib.hid (show (chainF (befT R W) (W.length + 2) (befT R W (W.length + 1))).reverse = timesP R W from rfl)
      have hTL := chainF_len (befT R W) (W.length + 2) (befT R W (W.length + 1))
      obtain ⟨tot, htot⟩ : ∃ tot, chainF (befT R W) (W.length + 2) (befT R W (W.length + 1)) = tot := ⟨_, rfl⟩
      rw [htot] at HTOT hTL
      have HTT := Lib.hid htot
      obtain ⟨a0, ha0⟩ : ∃ a0, befT R W (W.length + 1) = a0 := ⟨_, rfl⟩
      rw [ha0] at cA hA0 HTT
      have ha0N : (a0 : Int) ≤ W.length := by omega
      have HNE := Lib.hid hNe
      have hn1 : W.length + 1 < N := by omega
      have hn1I : ((W.length + 1 : Nat) : Int) < N := by omega
      clear hle hNN hNe htot ha0
      gi_wp2_with fail
      refine wpIn_wide.2 ?_
      go_loopw [10, 11] (fun ov av wz => ∃ (k f : Nat) (acc : List Int), av = .int .i64 k ∧ k ≤ W.length ∧ k < f ∧ acc ++ chainF (befT R W) f k = tot ∧ (acc = [] → ov = .slice none 0 0) ∧
        OwnN wz w.heap.size [(rowV gl N, padL fstI (tabT R W (W.length + 1)) N), (rowV gb N, padL sndI (tabT R W (W.length + 1)) N), (ov, acc)] ∧ Marks D w.heap.size wz.heap.size wz ∧ Below w.heap.size w wz) (fun _ av _ => (intOf av).toNat)
      case atStart => exact ⟨a0, W.length + 2, [], rfl, by omega, by omega, HTT.out, fun _ => rfl, OwnN.nil3 HOE.out, HMK.out, HB.out⟩
      case round =>
        clear HO HOE HMK HB cA cl0 fl0 zl0
        obtain ⟨k, f, acc, rfl, hkn, hkf, hacc, hnil, hO, hM, hB⟩ := hrel
        rename World => wz
        have HO := Lib.hid hO; have HMK := Lib.hid hM; have HB := Lib.hid hB; have HAC := Lib.hid hacc; have HNI := Lib.hid hnil
        have hal : acc.length ≤ 18 := by
          have := congrArg List.length hacc
          rw [List.length_append] at this; omega
        clear hO hM hB hacc hnil
        by_cases hk0 : 0 < k
        · have dk : decide ((0 : Int) < (k : Int)) = true := by simp; exact hk0
          have HB1 := Lib.hid (HBEF.out k hk0 (by omega))
          obtain ⟨f', rfl⟩ : ∃ f', f = f' + 1 := ⟨f - 1, by omega⟩
          have HAC2 := Lib.hid (show (acc ++ [(k : Int) - 1]) ++ chainF (befT R W) f' (befT R W k) = tot from by
            have h := HAC.out
            unfold chainF at h
            rw [if_neg (by omega)] at h
            rw [List.append_assoc]; exact h)
          clear HAC
          obtain ⟨ck, zk⟩ := HGB.out wz _ HO.out k (by omega)
          have HGK := Lib.hid (fun wy rs h => HGB.out wy rs h k (by omega))
          obtain ⟨bk, hbk⟩ : ∃ bk, befT R W k = bk := ⟨_, rfl⟩
          rw [hbk] at ck HB1 HAC2
          have HBK := Lib.hid hbk
          have hkN : k < N := by omega
          have hkI : (k : Int) < N := by omega
          have wr1 : IntKind.i64.wrap ((k : Int) - 1) = (k : Int) - 1 := IntWalk.i64_in _ (by omega)
          clear hbk ck zk
          go_wp2_with (at_builtin; refine OwnN.pushG (A := [_, _]) (B := []) rfl _ _ rfl HO.out ((k : Int) - 1) rfl rfl (by omega) HB.out.size ?_)
          intro v2 w2 hO2 hg2 hB2
          have HM2 := Lib.hid (((HMK.out.up (bal (bz wz) (.cells #[.int .i64 ((k : Int) - 1)] 3))).grown hg2 (fun r e => .inr (by
            obtain ⟨cs, t, h1, _⟩ := OwnN.block (A := [_, _]) (B := []) HO.out (g := r) e
            exact ⟨cs, t, (0, 0), (Below.heap_alloc wz _ r (Array.getElem?_eq_some_iff.1 h1).1).trans h1⟩))).lt (Nat.le_refl _))
          have HO2 := Lib.hid hO2
          have HB2 := Lib.hid (hB2 w HB.out (Nat.le_refl _))
          obtain ⟨ck, zk⟩ := HGK.out w2 _ hO2
          rw [HBK.out] at ck
          clear hO2 hB2 hg2 HO HMK HB
          go_wp2_with fail
          go_roundw
          case rel => exact ⟨bk, f', acc ++ [(k : Int) - 1], rfl, by have := HB1.out; omega, by have := HB1.out; omega, HAC2.out, fun h => by simp at h, HO2.out, HM2.out, HB2.out⟩
          case measure => have := HB1.out; simp [intOf]; omega
        · have hkz : k = 0 := by omega
          subst hkz
          have HAE := Lib.hid (show acc = tot from by
            have h := HAC.out
            rw [show chainF (befT R W) f 0 = [] by cases f with | zero => rfl | succ f => rfl, List.append_nil] at h
            exact h)
          have hacc0 := HAE.out
          subst hacc0
          clear HAC HAE hk0
          by_cases he : acc = []
          · have hov := HNI.out he
            subst he
            subst hov
            go_wp2_with fail
            gi_wp2_with fail
            refine ⟨trivial, callsIn_wide.2 ((rev_nil wz).mono ?_)⟩
            rintro e w5 ⟨⟨vv, rfl⟩, rfl⟩
            gi_wp2_with fail
            refine leaves_marks D _ _ HMK.out fun w' ht => ?_
            exact ⟨_, results_tmp rfl _ _ _, _, rfl, by rw [← HTOT.out]; exact rdI_nil _ _, ht.below HB.out⟩
          · obtain ⟨go, cap, hsl, hoi⟩ := rowI.toI (OwnN.at (A := [_, _]) HO.out) (List.length_pos_iff.2 he)
            subst hsl
            have HRV := Lib.hid (rev_own w.heap.size go acc.length cap acc wz hoi (by omega))
            have HCO := Lib.hid (OwnN.block (A := [_, _]) (B := []) HO.out (g := go) rfl)
            clear hoi he
            go_wp2_with fail
            gi_wp2_with fail
            refine ⟨trivial, callsIn_wide.2 (HRV.out.mono ?_)⟩
            rintro e w5 ⟨⟨vv, rfl⟩, ho5, hg5⟩
            have HM5 := Lib.hid (HMK.out.grown hg5 (fun r e => .inr (by
              obtain ⟨cs, t, h1, _⟩ := HCO.out
              cases e
              exact ⟨cs, t, (0, 0), h1⟩)))
            have HB5 := Lib.hid (bgr HB.out hg5 (fun r e => by
              obtain ⟨_, _, _, h1⟩ := HCO.out
              cases e; exact h1))
            have HO5 := Lib.hid (rowI.ofI ho5)
            clear ho5 hg5
            gi_wp2_with fail
            refine leaves_marks D _ _ HM5.out fun w' ht => ?_
            exact ⟨_, results_tmp rfl _ _ _, _, rfl, by rw [← HTOT.out]; exact RdI.of_owns (ht.row HO5.out), ht.below HB5.out⟩
end Go.Proofs.Ytjajdpggoggoiaa
