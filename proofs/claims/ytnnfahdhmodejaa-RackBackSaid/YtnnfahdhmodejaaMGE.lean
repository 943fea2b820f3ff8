/- Merged texts: Clone, Concat, newStand, put, take, places, rises, CheckRack. -/
import Derived.Test.YtnnfahdhmodejaaMGA
import Derived.Test.YtnnfahdhmodejaaMGD
import Derived.Lib.AppendZeros
import Derived.Lib.SliceRun
import Derived.Test.YtnnfahdhmodejaaMGB
namespace Go.Proofs.Ytnnfahdhmodejaa
open Go.RowKit Go.Shelf

/-- An assertion that abides new blocks, draws, and the turn of a block of R. -/
def AbR (R : Nat → Prop) (I : World → Prop) : Prop := ∀ W W' row, I W → W.grownBy W' row → (∀ r, row = some r → R r) → I W'
theorem AbR.and {R : Nat → Prop} {I J : World → Prop} (h : AbR R I) (k : AbR R J) : AbR R (fun W => I W ∧ J W) := fun W W' row ⟨h1, h2⟩ hg hr => ⟨h W W' row h1 hg hr, k W W' row h2 hg hr⟩
theorem abR_pure {R : Nat → Prop} {q : Prop} : AbR R (fun _ => q) := fun _ _ _ h _ _ => h
theorem abR_heap {R : Nat → Prop} {j : Nat} {o : Obj} (h1 : ¬ R j) : AbR R (fun W => W.heap[j]? = some o) :=
  fun _ _ _ h hg hr => (hg.block j (Array.getElem?_eq_some_iff.1 h).1 (fun e => h1 (hr _ e.symm))).trans h
theorem abR_below {R : Nat → Prop} {a : World} (h1 : ∀ r, R r → a.heap.size ≤ r) : AbR R (fun W => Below a.heap.size a W) :=
  fun _ _ _ h hg hr => bgr h hg (fun k e => h1 k (hr k e))

/-- The iterator's contract, for a loop that is left in its first round: it yields x, if o; then it is told to stop. -/
def YieldsO {α : Type} (n : Nat) (P : Program) (g : Nat) (lb : Array Value) (encs : α → Array Value) (R : Nat → Prop) (o : Bool) (x : α) (W : World) : Prop :=
  ∀ (l : Nat) (J Jx : World → Prop), AbR R J → AbR R Jx →
    (o = true → ∀ W1, J W1 → W.heap.size ≤ W1.heap.size → YieldAt Fence.wide (n - 1) P l (encs x) W1 fun e W' => e = .returned (.bool false) ∧ Jx W') → J W →
    CallsIn Fence.wide n P g (#[.func (.yield l) #[] #[]] ++ lb) W fun e W' => (∃ v, e = .returned v) ∧ ((o = false ∧ J W') ∨ (o = true ∧ Jx W'))

/-- How the round may end. -/
def roundEndO (lo : Nat) (Ix : Code → World → Prop) (W : World) : Exit → Act → World → Prop
  | .ret, _, W' => KF lo W W' ∧ Ix .ret W'
  | .exit id, _, W' => KF lo W W' ∧ Ix (.exit id) W'
  | .goto t, _, W' => KF lo W W' ∧ Ix (.goto t) W'
  | _, _, _ => False

/-- The statement 'for x := range g', left in its first round. -/
theorem range_once {P : Program} {n : Nat} {α : Type} {g : Operand} {ps : Array Tmp} {assign body : Code} {Q : Exit → Act → World → Prop} {a : Act} {w : World}
    {gf : Nat} {lb : Array Value} (hg : a.eval g = .func (.func gf) #[] lb) (eg : ∀ args w, (callFunc gf args).run P w = .ok (.enter gf args) w)
    {encs : α → Array Value} {R : Nat → Prop} {o : Bool} {x : α} (hR : ∀ r, R r → r < w.heap.size) (hseq : ∀ V, Below w.heap.size w V → YieldsO (n - 1) P gf lb encs R o x V) (hps : (encs x).size = ps.size)
    (I : World → Prop) (Ix : Code → World → Prop) (hI : AbR (fun r => R r ∨ (w.heap.size ≤ r ∧ r < w.heap.size + 2)) I) (hIx : ∀ c, AbR (fun r => R r ∨ (w.heap.size ≤ r ∧ r < w.heap.size + 2)) (Ix c)) (h0 : I w)
    (hround : o = true → ∀ (l : Nat) (W : World), I W → w.heap.size + 2 ≤ W.heap.size →
      assign.wpIn (Fence.wide.inRound l) (n - 1 - 1) P (Exit.then (fun a₁ W₁ => KF w.heap.size W W₁ ∧ ∀ W₂, W₁.grownBy W₂ (some (w.heap.size + 1)) → W₂.heap.size = W₁.heap.size →
          body.wpIn (Fence.wide.inRound l) (n - 1 - 1) P (roundEndO w.heap.size Ix W₂) a₁ W₂) (fun _ _ _ => False))
        { tmps := (ps.zip (encs x)).foldl (fun t (p, v) => t.setIfInBounds p v) a.tmps, defers := [] } W)
    (hdone : o = false → ∀ (W : World), I W → W.heap[w.heap.size]? = some (.deferred (some [])) → Q .normal { a with defers := { target := .collected w.heap.size, args := #[] } :: a.defers } W)
    (hstop : o = true → ∀ (c : Code) (W : World), Ix c W → W.heap[w.heap.size]? = some (.deferred (some [])) → c.wpIn Fence.wide n P Q { a with defers := { target := .collected w.heap.size, args := #[] } :: a.defers } W) :
    (Code.rangeFunc g ps assign body).wpIn Fence.wide n P Q a w := by
  refine wpIn_rangeFunc ?_
  intro fn hfn
  let rec0 : LoopState → Option Code → Loop := fun st pe => { state := st, pending := pe, fn, tmps := a.tmps, params := ps, assign, body, defers := w.heap.size }
  obtain ⟨V, hV⟩ : ∃ V, (w.alloc (.deferred (some []))).alloc (.loop (rec0 .ready none)) = V := ⟨_, rfl⟩
  have hVs : V.heap.size = w.heap.size + 2 := by rw [← hV]; simp
  have hVl : V.heap[w.heap.size + 1]? = some (.loop (rec0 .ready none)) := by rw [← hV]; exact heap_alloc2_new _ _ _
  have hVd : V.heap[w.heap.size]? = some (.deferred (some [])) := by rw [← hV]; exact heap_alloc2_old _ _ _
  have hVB : Below w.heap.size w V := by rw [← hV]; exact bal (bal (bz _) _) _
  have hVI : I V := by
    rw [← hV]
    exact hI _ _ none (hI _ _ none h0 (World.grownBy_alloc _ _ none) (fun r e => by cases e)) (World.grownBy_alloc _ _ none) (fun r e => by cases e)
  have keep : ∀ {X Y : World} {row : Option Nat} {j : Nat} {o : Obj}, X.heap[j]? = some o → w.heap.size ≤ j → X.grownBy Y row → (∀ r, row = some r → R r) → Y.heap[j]? = some o := by
    intro X Y row j o hx hj hgr hr
    rw [hgr.block j (Array.getElem?_eq_some_iff.1 hx).1 (fun e => by have := hR j (hr j e.symm); omega)]
    exact hx
  have turn : ∀ {X : World} {o : Obj} {J : World → Prop}, AbR (fun r => R r ∨ (w.heap.size ≤ r ∧ r < w.heap.size + 2)) J → J X → J (X.putObj (w.heap.size + 1) o) :=
    fun h hx => h _ _ (some (w.heap.size + 1)) hx (grownBy_putObj' _ _ _) (fun r e => by cases e; exact .inr ⟨by omega, by omega⟩)
  refine ⟨w.heap.size + 1, [{ target := .collected w.heap.size, args := #[] }], V, { target := .fn (.func gf) lb, args := #[.func (.yield (w.heap.size + 1)) #[] #[]] }, V, gf,
    #[.func (.yield (w.heap.size + 1)) #[] #[]] ++ lb, V, ?_, ?_, fun _ _ => trivial, ?_, fun h => by simp [Fence.wide] at h, ?_⟩
  · rw [← hV]; exact run_enterLoop_outer _ _ _ _ _
  · simp only [resolve, hg]
    simp [go_sem]
  · simp [invoke, go_sem, eg]
  refine (hseq V hVB (w.heap.size + 1)
    (fun X => I X ∧ X.heap[w.heap.size + 1]? = some (.loop (rec0 .ready none)) ∧ X.heap[w.heap.size]? = some (.deferred (some [])))
    (fun X => ∃ c, Ix c X ∧ X.heap[w.heap.size + 1]? = some (.loop (rec0 .done (some c))) ∧ X.heap[w.heap.size]? = some (.deferred (some [])))
    (fun X Y row h hgr hr => ⟨hI X Y row h.1 hgr (fun r e => .inl (hr r e)), keep h.2.1 (by omega) hgr hr, keep h.2.2 (by omega) hgr hr⟩)
    (fun X Y row h hgr hr => by
      obtain ⟨c, h1, h2, h3⟩ := h
      exact ⟨c, hIx c X Y row h1 hgr (fun r e => .inl (hr r e)), keep h2 (by omega) hgr hr, keep h3 (by omega) hgr hr⟩)
    ?_ ⟨hVI, hVl, hVd⟩).mono ?_
  · rintro ho X ⟨hi, hl, hd⟩ hsz
    have hlt : w.heap.size + 1 < X.heap.size := (Array.getElem?_eq_some_iff.1 hl).1
    refine ⟨fn, _, assign, body, run_yield (args := encs x) hl hps, roundIn_of_wpIn trivial (wpIn_mono (hround ho (w.heap.size + 1) X hi (by omega)) ?_)⟩
    rintro e a1 X1 hp
    cases e with
    | normal =>
      obtain ⟨hk1, hbody⟩ := hp
      have hl1 := (hk1.same _ (by omega) hlt).trans hl
      have hd1 := (hk1.same _ (by omega) (by omega)).trans hd
      refine ⟨_, run_beginRound hl1 rfl, wpIn_mono (hbody _ (grownBy_putObj' _ _ _) (by simp)) ?_⟩
      have hlt1 : w.heap.size + 1 < X1.heap.size := (Array.getElem?_eq_some_iff.1 hl1).1
      have fin : ∀ (jump : Code) (X3 : World), KF w.heap.size (X1.putObj (w.heap.size + 1) (.loop { rec0 .ready none with state := .busy })) X3 →
          (Instr.endRound (w.heap.size + 1) (some jump)).run P X3 = .ok (.bool false) (X3.putObj (w.heap.size + 1) (.loop (rec0 .done (some jump)))) ∧
          (X3.putObj (w.heap.size + 1) (.loop (rec0 .done (some jump)))).heap[w.heap.size + 1]? = some (.loop (rec0 .done (some jump))) ∧
          (X3.putObj (w.heap.size + 1) (.loop (rec0 .done (some jump)))).heap[w.heap.size]? = some (.deferred (some [])) := by
        intro jump X3 hk3
        have hl3 : X3.heap[w.heap.size + 1]? = some (.loop { rec0 .ready none with state := .busy }) := (hk3.same _ (by omega) (by simp; omega)).trans (World.putObj_heap_same hlt1)
        have hd3 : X3.heap[w.heap.size]? = some (.deferred (some [])) := (hk3.same _ (by omega) (by simp; omega)).trans ((World.putObj_heap_other (by omega)).trans hd1)
        exact ⟨run_endRound (some jump) hl3, World.putObj_heap_same (Array.getElem?_eq_some_iff.1 hl3).1, (World.putObj_heap_other (by omega)).trans hd3⟩
      rintro e2 a3 X3 hp2
      cases e2 with
      | normal => exact hp2.elim
      | ret =>
        obtain ⟨hk3, hi3⟩ := hp2
        obtain ⟨f1, f2, f3⟩ := fin .ret X3 hk3
        exact ⟨_, _, f1, rfl, _, turn (hIx _) hi3, f2, f3⟩
      | exit id =>
        obtain ⟨hk3, hi3⟩ := hp2
        obtain ⟨f1, f2, f3⟩ := fin (.exit id) X3 hk3
        exact ⟨_, _, f1, rfl, _, turn (hIx _) hi3, f2, f3⟩
      | goto t =>
        obtain ⟨hk3, hi3⟩ := hp2
        obtain ⟨f1, f2, f3⟩ := fin (.goto t) X3 hk3
        exact ⟨_, _, f1, rfl, _, turn (hIx _) hi3, f2, f3⟩
      | panic ch => exact hp2.elim
      | outgrown => exact hp2.elim
    | ret => exact hp.elim
    | exit id => exact hp.elim
    | goto t => exact hp.elim
    | panic ch => exact hp.elim
    | outgrown => exact hp.elim
  · rintro e X ⟨⟨v, rfl⟩, ⟨ho, hi, hl, hd⟩ | ⟨ho, c, hi, hl, hd⟩⟩
    · exact ⟨none, _, run_endLoop hl (by simp [rec0]), hdone ho _ (turn hI hi) ((World.putObj_heap_other (by omega)).trans hd)⟩
    · exact ⟨some c, _, run_endLoop hl (by simp [rec0]), hstop ho c _ (turn (hIx _) hi) ((World.putObj_heap_other (by omega)).trans hd)⟩
end Go.Proofs.Ytnnfahdhmodejaa

namespace Go.Proofs.Ytnnfahdhmodejaa
open Go.RowKit Go.Shelf

set_option maxRecDepth 100000 in
set_option maxHeartbeats 800000 in
theorem clone_any (x : Value) (l : List Int) (w : World) (hx0 : RdI w .i64 x l) (hl : l.length ≤ 1000) :
    Calls Try.prog 95 #[x] w fun e w' => ∃ u, e = .returned u ∧ rowI w' w.heap.size u l ∧ Below w.heap.size w w' := by
  have HX := Lib.hid hx0
  obtain ⟨a, ca, rfl, _, hcm, hx⟩ := hx0.form
  clear hx0 hcm
  have qn : ∀ (w : World) (a : Option Addr) (n c n' c' : Nat), (binOp .eql 31 (.slice a n c) (.slice none n' c')).run Try.prog w = .ok (.bool a.isNone) w := fun w a n c n' c' => Lib.run_eql_slice_nil w _ _ a n c n' c' Try.underlying31
  cases a with
  | none =>
    have hl0 : l = [] := by
      rcases Nat.eq_zero_or_pos l.length with h | h
      · exact List.eq_nil_of_length_eq_zero h
      · obtain ⟨_, _, e, _⟩ := hx h; cases e
    subst hl0
    clear hx HX
    go_enter Try.func95, Try.ntmps95
    go_wp2_with fail
    go_ret
    exact ⟨_, rfl, World.ownsRow_nil _ _ _ _, bz w⟩
  | some ad =>
    clear hx
    have HOW := Lib.hid (own_newI w (nb := w.heap.size) rfl (Nat.le_refl _))
    go_enter Try.func95, Try.ntmps95
    go_wp2_with (at_builtin; refine wpList_append_any rfl _ _ rfl HOW.out (by simp) rfl rfl (HX.out.mono (bal (bz w) _)) (by simp) (by omega) ?_)
    intro v' w' hO' hg
    have HB := Lib.hid (append_below (bal (bz w) _) HOW.out hg (Nat.le_refl _))
    have HO := Lib.hid (show rowI w' w.heap.size v' l from hO')
    clear hO' hg HOW
    go_wp2_with fail
    go_ret
    exact ⟨_, rfl, HO.out, HB.out⟩

theorem wpList_append_zeros (w : World) {ops : Array Oper} {rest : List Oper} {o : Oper} {a : Act} {Q : Exit → Act → World → Prop} (hgd : o.guard = none) (s x : Operand)
    (ho : o.op = .call { callee := .builtin .append, args := #[s, x], argTypes := #[31, 3] }) (n : Nat) (hs : a.eval s = .slice none 0 0) (hx : a.eval x = .int .i64 (n : Int)) (h0 : 0 < n) (hn : n ≤ 1000)
    (H : ∀ c, n ≤ c → rowI (w.drew.alloc (.cells (Builtin.zeroCells (Value.int .i64 0).cells n ++ Builtin.zeroCells (Value.int .i64 0).cells (c - n)) 3)) w.heap.size (.slice (some ⟨w.heap.size, 0, none⟩) 0 c) [] → Below w.heap.size w (w.drew.alloc (.cells (Builtin.zeroCells (Value.int .i64 0).cells n ++ Builtin.zeroCells (Value.int .i64 0).cells (c - n)) 3)) →
      wpList Try.prog ops Q rest (a.put o.dst (.slice (some ⟨w.heap.size, 0, none⟩) n c)) (w.drew.alloc (.cells (Builtin.zeroCells (Value.int .i64 0).cells n ++ Builtin.zeroCells (Value.int .i64 0).cells (c - n)) 3))) : wpList Try.prog ops Q (o :: rest) a w := by
  obtain ⟨i0, hi, hz0, hz1, hz2⟩ := info_parts num3
  have hr := Lib.run_append_nil_zeros (P := Try.prog) w 31 3 o.type 3 i0 (.int .i64 0) .i64 .i64 Try.underlying31 Try.underlying3 hi hz0 n h0 (by rw [hz1]; decide) (by omega) (by rw [hz2]; omega)
  have hge := grownCap_ge w n 0 3
  have hcm : grownCap w n 0 3 ≤ maxLen := grownCap_le_maxLen w n 0 3 (by unfold maxLen; omega)
  refine wpList_plain hgd fun K hK => ?_
  unfold Oper.wp execOp
  simp only [ho, resolve, invoke, builtin, Sem.run_bind, Sem.run_pure, Result.andThen_ok, List.map_toArray, List.map_cons, List.map_nil, hs, hx, hr]
  refine hK _ _ (H _ hge ⟨by simp, .inr ⟨w.heap.size, _, _, rfl, Nat.le_refl _, heap_alloc_new w.drew _, Nat.zero_le _, hcm, ?_, by simp⟩⟩ (bal (Below.drew (bz w)) _))
  simp [size_zeroCells, Value.cells]
  omega
theorem run_cut_nil (w : World) : (Instr.slice 31 (.slice none 0 0) none (some (.int .i64 0)) none).run Try.prog w = .ok (.slice none 0 0) w := by
  obtain ⟨i0, hi, hz0, hz1, hz2⟩ := info_parts num3
  simp [Instr.slice, run_underlying Try.underlying31, Sem.run_bind, Instr.sliceBounds, Instr.sliceBound, asIntOf, sizeOf, typeInfo, hi, Addr.add]
set_option maxRecDepth 100000 in
set_option maxHeartbeats 800000 in
theorem grow_any (n : Nat) (w : World) (hn : n ≤ 1000) :
    Calls Try.prog 92 #[.slice none 0 0, .int .i64 n] w fun e w' => ∃ u, e = .returned u ∧ rowI w' w.heap.size u [] ∧ Below w.heap.size w w' := by
  have hcn := run_cut_nil
  rcases Nat.eq_zero_or_pos n with h0 | h0
  · subst h0
    go_enter Try.func92, Try.ntmps92
    go_wp2_with fail
    go_ret
    exact ⟨_, rfl, World.ownsRow_nil _ _ _ _, bz w⟩
  · have h1 : (0 : Int) < (n : Int) := by omega
    go_enter Try.func92, Try.ntmps92
    go_wp2_with (at_builtin; refine wpList_append_zeros _ rfl _ _ rfl n rfl rfl h0 hn ?_)
    intro c hc hO hB
    have HO := Lib.hid hO; have HB := Lib.hid hB
    have hs := run_cutToI w.heap.size 0 n c 0 (by omega)
    rw [show ((0 : Nat) : Int) = 0 by rfl] at hs
    clear hO hB
    generalize w.drew.alloc _ = w2 at *
    go_wp2_with fail
    go_ret
    exact ⟨_, rfl, HO.out, HB.out⟩

set_option maxRecDepth 100000 in
set_option maxHeartbeats 800000 in
theorem concat_any (v : Value) (R : List (List Int)) (w : World) (hx0 : RdLL w v R) (hs : Sml R) :
    Calls Try.prog 59 #[v] w fun e w' => ∃ u, e = .returned u ∧ rowI w' w.heap.size u R.flatten ∧ Below w.heap.size w w' := by
  obtain ⟨h20, h21⟩ := hs
  obtain ⟨a, ca, rfl⟩ := hx0.sl
  have HX := Lib.hid hx0; clear hx0
  have H21 := Lib.hid h21; clear h21
  go_enter Try.func59, Try.ntmps59
  go_wp2_with fail
  go_loop [3, 5, 11] (fun s3 _ s11 => ∃ i : Nat, i ≤ R.length ∧ s11 = .int .i64 i ∧ s3 = .int .i64 (((R.take i).flatten.length : Nat) : Int)) (fun _ _ s11 => R.length - (intOf s11).toNat)
  case atStart => exact ⟨0, Nat.zero_le _, rfl, rfl⟩
  case round =>
    obtain ⟨i, hi, rfl, rfl⟩ := hrel
    have h2 := flat_len H21.out i hi
    by_cases hlt : i < R.length
    · obtain ⟨b, off, a', c', rfl, hb, hc, hr⟩ := HX.out.get i hlt
      have h1 := H21.out i
      have HF : Hid ((R.take (i + 1)).flatten.length = (R.take i).flatten.length + (row R i).length) := Lib.hid (by rw [flat_take R i hlt, List.length_append])
      clear hr
      generalize (R.take i).flatten.length = n at *
      generalize (row R i).length = m at *
      go_wp2_with fail
      go_round
      case rel => exact ⟨i + 1, by omega, by go_num, by rw [HF.out]; go_num⟩
      case measure => simp [intOf]; omega
    · have hie : i = R.length := by omega
      have hn : (R.take i).flatten.length ≤ 1000 := by omega
      clear h2
      generalize (R.take i).flatten.length = n at *
      go_wp2_with fail
      refine (grow_any n w hn).mono ?_
      rintro e w2 ⟨u, rfl, hu, hB⟩
      have HU := Lib.hid hu; have HB := Lib.hid hB
      clear hu hB
      go_wp2_with fail
      go_loopw [6, 8, 27] (fun s6 _ s27 wr => ∃ (i : Nat) (u : Value), i ≤ R.length ∧ u = s6 ∧ s27 = .int .i64 i ∧ rowI wr w.heap.size u (R.take i).flatten ∧ Below w.heap.size w wr) (fun _ _ s27 _ => R.length - (intOf s27).toNat)
      case atStart => exact ⟨0, _, Nat.zero_le _, rfl, rfl, HU.out, HB.out⟩
      case round =>
        clear HU HB hlt hie hi
        obtain ⟨i, u, hi, rfl, rfl, hO, hB⟩ := hrel
        have HO := Lib.hid hO; have HB := Lib.hid hB; clear hO hB
        by_cases hlt : i < R.length
        · obtain ⟨b, off, a', c', rfl, hb, hc, hr⟩ := HX.out.get i hlt
          have gx := (HB.out.cell (p := ⟨b, off + i, none⟩) hb).trans hc
          have zx := Nat.lt_of_lt_of_le hb HB.out.size
          have HR := Lib.hid (hr.mono HB.out)
          have h1 := H21.out i
          have h2 := flat_len H21.out i (by omega)
          have HF := Lib.hid (flat_take R i hlt)
          clear hc hr hb
          generalize (R.take i).flatten = xs at *
          generalize row R i = ys at *
          go_wp2_with (at_builtin; refine wpList_append_any rfl _ _ rfl HO.out HB.out.size rfl rfl HR.out (by omega) (by omega) ?_)
          intro v' w' hO' hg
          have HO' := Lib.hid hO'
          have HB' := Lib.hid (append_below HB.out HO.out hg (Nat.le_refl _))
          clear hO' hg
          go_wp2_with fail
          go_roundw
          case rel => exact ⟨i + 1, _, by omega, rfl, by go_num, by rw [HF.out]; exact HO'.out, HB'.out⟩
          case measure => simp [intOf]; omega
        · have hie : i = R.length := by omega
          have HO2 : Hid (rowI wr w.heap.size u R.flatten) := by have h := HO.out; rw [hie, List.take_length] at h; exact Lib.hid h
          clear HO
          go_wp2_with fail
          go_ret
          exact ⟨_, rfl, HO2.out, HB.out⟩
end Go.Proofs.Ytnnfahdhmodejaa

namespace Go.Proofs.Ytnnfahdhmodejaa
open Go.RowKit Go.Shelf

abbrev Ents := List ((Int × Int) × Int × Nat)
/-- A stand in memory, its parts named. -/
structure SP (w : World) (B : Nat → Prop) (sb mb : Nat) (v : Value) (R : List (List Int)) (vs : List Value) (M : Ents) (c : Nat) : Prop where
  ll : LL w B v R vs
  st : w.heap[sb]? = some (.cells #[v, .map (some mb)] 86 (0, 0))
  mp : w.heap[mb]? = some (.map (entsOf M) c)
  ok : OkL M c
  bs : B sb
  bm : B mb
theorem SP.si {w : World} {B : Nat → Prop} {sb mb : Nat} {v : Value} {R : List (List Int)} {vs : List Value} {M : Ents} {c : Nat} (h : SP w B sb mb v R vs M c) : SI w B sb R := ⟨v, vs, mb, M, c, h.ll, h.st, h.mp, h.ok, h.bs, h.bm⟩
theorem SP.ne {w : World} {B : Nat → Prop} {sb mb : Nat} {v : Value} {R : List (List Int)} {vs : List Value} {M : Ents} {c : Nat} (h : SP w B sb mb v R vs M c) : sb ≠ mb := by
  intro e; subst e
  have := h.st.symm.trans h.mp
  cases this
theorem SP.zs {w : World} {B : Nat → Prop} {sb mb : Nat} {v : Value} {R : List (List Int)} {vs : List Value} {M : Ents} {c : Nat} (h : SP w B sb mb v R vs M c) : sb < w.heap.size := (Array.getElem?_eq_some_iff.1 h.st).1
theorem SP.zm {w : World} {B : Nat → Prop} {sb mb : Nat} {v : Value} {R : List (List Int)} {vs : List Value} {M : Ents} {c : Nat} (h : SP w B sb mb v R vs M c) : mb < w.heap.size := (Array.getElem?_eq_some_iff.1 h.mp).1
/-- The cells of the stand. -/
theorem SP.cells {w : World} {B : Nat → Prop} {sb mb : Nat} {v : Value} {R : List (List Int)} {vs : List Value} {M : Ents} {c : Nat} (h : SP w B sb mb v R vs M c) :
    w.cell? ⟨sb, 0, none⟩ = some v ∧ w.cell? ⟨sb, 1, none⟩ = some (.map (some mb)) ∧ w.frozen? ⟨sb, 0, none⟩ = false :=
  ⟨by rw [cell_of_row w _ 0 _ _ _ h.st]; rfl, by rw [cell_of_row w _ 1 _ _ _ h.st]; rfl, frozen_of_row _ _ _ _ _ h.st⟩
theorem SP.fr {w w' : World} {B C : Nat → Prop} {sb mb : Nat} {v : Value} {R : List (List Int)} {vs : List Value} {M : Ents} {c : Nat} (h : SP w B sb mb v R vs M c) (hF : Fr w w' C) (hd : ∀ k, k < w.heap.size → B k → ¬ C k) : SP w' B sb mb v R vs M c :=
  ⟨h.ll.fr hF hd, (hF.block _ h.zs (hd _ h.zs h.bs)).trans h.st, (hF.block _ h.zm (hd _ h.zm h.bm)).trans h.mp, h.ok, h.bs, h.bm⟩
theorem SP.later {w w' : World} {B : Nat → Prop} {sb mb : Nat} {v : Value} {R : List (List Int)} {vs : List Value} {M : Ents} {c : Nat} (h : SP w B sb mb v R vs M c) (hb : Below w.heap.size w w') : SP w' B sb mb v R vs M c :=
  h.fr (C := fun _ => False) (Fr.of_below hb) (fun _ _ _ h => h)
/-- Blocks of rows are neither the stand nor the map. -/
theorem LL.ne_obj {w : World} {B : Nat → Prop} {v : Value} {R : List (List Int)} {vs : List Value} (h : LL w B v R vs) {b : Nat} {o : Obj} (hb : w.heap[b]? = some o) (h1 : ∀ cs, o ≠ .cells cs 31 (0, 0)) (h2 : ∀ cs, o ≠ .cells cs 3 (0, 0)) :
    v.ownBlock ≠ some b ∧ ∀ (i : Nat) (e : Value), vs[i]? = some e → e.ownBlock ≠ some b := by
  refine ⟨fun e => ?_, fun i f hf e => ?_⟩
  · rcases h.out.2 with ⟨rfl, _⟩ | ⟨g, cap, cur, rfl, _, hg, _⟩
    · simp [Value.ownBlock] at e
    · simp only [Value.ownBlock, Option.some.injEq] at e
      subst e
      rw [hg] at hb
      exact h1 _ (Option.some.inj hb).symm
  · rcases (h.el i f hf).2 with ⟨rfl, _⟩ | ⟨g, cap, cur, rfl, _, hg, _⟩
    · simp [Value.ownBlock] at e
    · simp only [Value.ownBlock, Option.some.injEq] at e
      subst e
      rw [hg] at hb
      exact h2 _ (Option.some.inj hb).symm
/-- Rows stay if one block turns that is not theirs. -/
theorem LL.turn {w w' : World} {B : Nat → Prop} {v : Value} {R : List (List Int)} {vs : List Value} {b : Nat} {o : Obj} (h : LL w B v R vs) (hg : w.grownBy w' (some b)) (hb : w.heap[b]? = some o) (h1 : ∀ cs, o ≠ .cells cs 31 (0, 0)) (h2 : ∀ cs, o ≠ .cells cs 3 (0, 0)) : LL w' B v R vs := by
  obtain ⟨n1, n2⟩ := h.ne_obj hb h1 h2
  exact ⟨h.len, h.out.kept hg (.inr n1), h.outB, fun i e he => (h.el i e he).kept hg (.inr (n2 i e he)), h.elB, h.ap⟩
/-- The map is replaced by another one. -/
theorem SP.put {w : World} {B : Nat → Prop} {sb mb : Nat} {v : Value} {R : List (List Int)} {vs : List Value} {M M' : Ents} {c c' : Nat} (h : SP w B sb mb v R vs M c) (hok : OkL M' c') : SP (w.putObj mb (.map (entsOf M') c')) B sb mb v R vs M' c' :=
  ⟨h.ll.turn (grownBy_putObj' _ _ _) h.mp (fun _ e => by cases e) (fun _ e => by cases e), (World.putObj_heap_other (by have := h.ne; omega)).trans h.st, World.putObj_heap_same h.zm, hok, h.bs, h.bm⟩
/-- The rows of the stand are replaced. -/
theorem SP.store {w : World} {B : Nat → Prop} {sb mb : Nat} {v0 v : Value} {R : List (List Int)} {vs : List Value} {M : Ents} {c : Nat} (hll : LL w B v R vs) (hst : w.heap[sb]? = some (.cells #[v0, .map (some mb)] 86 (0, 0))) (hmp : w.heap[mb]? = some (.map (entsOf M) c)) (hok : OkL M c) (bs : B sb) (bm : B mb) :
    SP (w.setCell ⟨sb, 0, none⟩ v) B sb mb v R vs M c := by
  have hne : sb ≠ mb := by
    intro e; subst e
    have := hst.symm.trans hmp
    cases this
  refine ⟨hll.turn (grownBy_set _ _ _) hst (fun _ e => by cases e) (fun _ e => by cases e), ?_, ?_, hok, bs, bm⟩
  · rw [heap_setCell_same _ sb 0 _ _ _ hst]; rfl
  · rw [heap_setCell_other _ _ _ _ (by exact fun e => hne e.symm)]; exact hmp

theorem SP.keep {w w' : World} {B : Nat → Prop} {sb mb : Nat} {v : Value} {R : List (List Int)} {vs : List Value} {M : Ents} {c : Nat} (h : SP w B sb mb v R vs M c) (hs : ∀ k, k < w.heap.size → v.ownBlock ≠ some k → w'.heap[k]? = w.heap[k]?) :
    w'.heap[sb]? = some (.cells #[v, .map (some mb)] 86 (0, 0)) ∧ w'.heap[mb]? = some (.map (entsOf M) c) :=
  ⟨(hs _ h.zs (h.ll.ne_obj h.st (fun _ e => by cases e) (fun _ e => by cases e)).1).trans h.st, (hs _ h.zm (h.ll.ne_obj h.mp (fun _ e => by cases e) (fun _ e => by cases e)).1).trans h.mp⟩
/-- What the map bears when the rows before i, and k numbers of the row i, have been laid in. -/
def FillR (R : List (List Int)) (M : Ents) (i k : Nat) : Prop :=
  ∀ x m, (∃ t, (x, m, t) ∈ M) ↔ ∃ p q : Nat, (p < i ∨ p = i ∧ q < k) ∧ q < (row R p).length ∧ x = ((p : Int), (q : Int)) ∧ m = num R p q
theorem fillR_zero (R : List (List Int)) : FillR R [] 0 0 := fun x m => ⟨fun ⟨t, h⟩ => (by cases h), fun ⟨p, q, h, _⟩ => by omega⟩
theorem fillR_put {R : List (List Int)} {M M' : Ents} {i k : Nat} (h : FillR R M i k) (hk : k < (row R i).length) (h2 : ∀ x m, (∃ t, (x, m, t) ∈ M') ↔ (x = ((i : Int), (k : Int)) ∧ m = num R i k) ∨ (x ≠ ((i : Int), (k : Int)) ∧ ∃ t, (x, m, t) ∈ M)) : FillR R M' i (k + 1) := by
  intro x m
  rw [h2]
  constructor
  · rintro (⟨rfl, rfl⟩ | ⟨hne, hm⟩)
    · exact ⟨i, k, .inr ⟨rfl, by omega⟩, hk, rfl, rfl⟩
    · obtain ⟨p, q, h3, h4, h5, h6⟩ := (h x m).1 hm
      exact ⟨p, q, h3.imp id (fun h => ⟨h.1, by omega⟩), h4, h5, h6⟩
  · rintro ⟨p, q, h3, h4, rfl, rfl⟩
    by_cases e : p = i ∧ q = k
    · obtain ⟨rfl, rfl⟩ := e; exact .inl ⟨rfl, rfl⟩
    · refine .inr ⟨fun e2 => e ?_, (h _ _).2 ⟨p, q, ?_, h4, rfl, rfl⟩⟩
      · simp only [Prod.mk.injEq] at e2; omega
      · rcases h3 with h3 | h3
        · exact .inl h3
        · exact .inr ⟨h3.1, by omega⟩
theorem fillR_next {R : List (List Int)} {M : Ents} {i k : Nat} (h : FillR R M i k) (hk : (row R i).length ≤ k) : FillR R M (i + 1) 0 := by
  intro x m
  rw [h x m]
  constructor
  · rintro ⟨p, q, h3, h4, h5, h6⟩
    exact ⟨p, q, .inl (by omega), h4, h5, h6⟩
  · rintro ⟨p, q, h3, h4, h5, h6⟩
    refine ⟨p, q, ?_, h4, h5, h6⟩
    by_cases e : p = i
    · subst e; exact .inr ⟨rfl, by omega⟩
    · exact .inl (by omega)
/-- The map bears just the rows. -/
def MapR (R : List (List Int)) (M : Ents) : Prop := ∀ x m, (∃ t, (x, m, t) ∈ M) ↔ ∃ p q : Nat, q < (row R p).length ∧ x = ((p : Int), (q : Int)) ∧ m = num R p q
theorem fillR_done {R : List (List Int)} {M : Ents} (h : FillR R M R.length 0) : MapR R M := by
  intro x m
  rw [h x m]
  constructor
  · rintro ⟨p, q, _, h4, h5, h6⟩; exact ⟨p, q, h4, h5, h6⟩
  · rintro ⟨p, q, h4, h5, h6⟩
    refine ⟨p, q, .inl ?_, h4, h5, h6⟩
    rcases Nat.lt_or_ge p R.length with hp | hp
    · exact hp
    · rw [row_ge hp] at h4; simp at h4
/-- A stand whose map bears just its rows. -/
def Whole (w : World) (B : Nat → Prop) (sb : Nat) (R : List (List Int)) : Prop := ∃ (mb : Nat) (v : Value) (vs : List Value) (M : Ents) (c : Nat), SP w B sb mb v R vs M c ∧ MapR R M
theorem row_take {R : List (List Int)} {i j : Nat} (h : j < i) : row (R.take i) j = row R j := by
  unfold row; rw [List.getElem?_take, if_pos h]
set_option maxRecDepth 100000 in
set_option maxHeartbeats 4000000 in
theorem newstand_any (v : Value) (R : List (List Int)) (w : World) (hx0 : RdLL w v R) (hs : Sml R) :
    Calls Try.prog 61 #[v] w fun e w' => ∃ sb, e = .returned (.pointer (some ⟨sb, 0, none⟩)) ∧ Whole w' (fun k => w.heap.size ≤ k) sb R ∧ Below w.heap.size w w' := by
  obtain ⟨h20, h21⟩ := hs
  obtain ⟨a, ca, rfl⟩ := hx0.sl
  have HX := Lib.hid hx0; clear hx0
  have H21 := Lib.hid h21; clear h21
  have hM0 : (w.alloc (.map #[] 0)).heap[w.heap.size]? = some (.map #[] 0) := heap_alloc_new _ _
  have HSP0 : Hid (SP ((w.alloc (.map #[] 0)).alloc (.cells #[.slice none 0 0, .map (some w.heap.size)] 86)) (fun k => w.heap.size ≤ k) (w.heap.size + 1) w.heap.size (.slice none 0 0) [] [] [] 0) := Lib.hid (by
    have h1 := heap_alloc_new (w.alloc (.map #[] 0)) (.cells #[.slice none 0 0, .map (some w.heap.size)] 86)
    rw [World.size_alloc] at h1
    refine ⟨LL.nil _ _, h1, (Below.heap_alloc _ _ _ (by simp)).trans hM0, ⟨List.nodup_nil, List.nodup_nil, fun e h => (by cases h)⟩, by simp, Nat.le_refl _⟩)
  have HB0 := Lib.hid (bal (bal (bz w) (.map #[] 0)) (.cells #[.slice none 0 0, .map (some w.heap.size)] 86))
  clear hM0
  have hmm := @run_makeMap Try.prog
  go_enter Try.func61, Try.ntmps61
  go_upto_region 2 with fail
  clear hmm
  generalize ((w.alloc (.map #[] 0)).alloc (.cells #[.slice none 0 0, .map (some w.heap.size)] 86)) = w1 at *
  have hmz : w.heap.size < w1.heap.size := HSP0.out.zm
  have hsz : w.heap.size + 1 < w1.heap.size := HSP0.out.zs
  go_wp2_with fail
  go_loopw [4, 5, 6, 7, 13, 33] (fun _ _ _ _ s13 _ wr => ∃ (i : Nat) (v : Value) (vs : List Value) (M : Ents) (c : Nat), i ≤ R.length ∧ s13 = .int .i64 i ∧ SP wr (fun k => w.heap.size ≤ k) (w.heap.size + 1) w.heap.size v (R.take i) vs M c ∧ FillR R M i 0 ∧ Below w.heap.size w wr) (fun _ _ _ _ s13 _ _ => R.length - (intOf s13).toNat)
  case atStart => exact ⟨0, _, _, _, _, Nat.zero_le _, rfl, HSP0.out, fillR_zero R, HB0.out⟩
  case round =>
    clear HSP0 HB0 hmz hsz
    obtain ⟨i, v, vs, M, c, hi, rfl, hsp, hfm, hB⟩ := hrel
    have HSP := Lib.hid hsp; have HFM := Lib.hid hfm; have HB := Lib.hid hB
    have hz := hB.size
    clear hsp hfm hB
    by_cases hlt : i < R.length
    · obtain ⟨b, off, a', c', rfl, hb, hc, hr⟩ := HX.out.get i hlt
      have gx := (HB.out.cell (p := ⟨b, off + i, none⟩) hb).trans hc
      have zx := Nat.lt_of_lt_of_le hb HB.out.size
      have HRR := Lib.hid hr
      have h1 := H21.out i
      have HF := Lib.hid (rows_take R i hlt)
      have hrl : (R.take i).length ≤ 1000 := by rw [List.length_take]; omega
      have HCL := Lib.hid (fun wz h => clone_any (.slice a' (row R i).length c') (row R i) wz h (by omega))
      clear hc hr hb
      go_upto_region 5 with fail
      clear gx zx
      refine wp_region_flow [0] [([1, 2, 3, 4, 5, 6], 7, true), ([], 8, true), ([], 9, false), ([], 10, false), ([], 11, false), ([], 12, false), ([], 13, false)] [] (by kernel_rfl) (by kernel_rfl) ?_
      intro wc hBc hh
      clear hh
      have HBC := Lib.hid (btr HB.out hBc)
      have HSC := Lib.hid (HSP.out.later hBc)
      obtain ⟨d0, d1, d2⟩ := HSC.out.cells
      have dz := HSC.out.zs
      have hL := @Later.cell wc
      clear hBc
      simp only [flowP, flow, pickL, List.getElem?_cons_succ, List.getElem?_cons_zero]
      repeat (go_big_quiet_step (fail))
      refine wpQuiet_nil ?_
      repeat (go_big_quiet_step (fail))
      refine wpQuiet_nil ?_
      go_wp2_with fail
      refine (HCL.out _ (HRR.out.mono HBC.out)).mono ?_
      rintro e w5 ⟨u5, rfl, hu5, hB5⟩
      obtain ⟨a5, c5, rfl⟩ := owns_form hu5
      have HU5 := Lib.hid hu5
      have HS5 := Lib.hid (HSC.out.later hB5)
      have HB5 := Lib.hid (btr HBC.out hB5)
      have HG := Lib.hid hB5
      have HAP := Lib.hid (fun j f hf => apart_fresh HSC.out.ll HU5.out j f hf)
      have hz5 := HB5.out.size
      have hzc := HBC.out.size
      clear hu5 hB5 hL
      go_wp2
      refine seg_grow ⟨⟨_, HG.out⟩, rfl⟩ ?_
      refine wpQuiet_nil ?_
      go_wp2
      refine seg_grow ⟨⟨_, bal HG.out _⟩, rfl⟩ ?_
      refine wpQuiet_nil ?_
      go_wp2_with (at_builtin; refine LL.push2 HS5.out.ll (HU5.out.base (Nat.zero_le _)) (fun k ek => Nat.le_trans hzc (HU5.out.lt ek).1) HAP.out rfl _ _ rfl rfl rfl rfl hrl (fun k hk => Nat.le_trans hz5 hk) ?_)
      intro v6 w6 hO6 hF6 hs6
      obtain ⟨a6, c6, rfl⟩ := hO6.form
      rw [← HF.out] at hO6
      obtain ⟨k1, k2⟩ := HS5.out.keep hs6
      have HK1 := Lib.hid k1; have HK2 := Lib.hid k2
      have HO6 := Lib.hid hO6
      have HB6 := Lib.hid (hF6.below HB5.out (fun _ h => h))
      have e0 : w6.cell? ⟨w.heap.size + 1, 0, none⟩ = some v := by rw [cell_of_row w6 _ 0 _ _ _ k1]; rfl
      have e1 : w6.frozen? ⟨w.heap.size + 1, 0, none⟩ = false := frozen_of_row _ _ _ _ _ k1
      have ez := (Array.getElem?_eq_some_iff.1 k1).1
      have HSP7 := Lib.hid (SP.store HO6.out HK1.out HK2.out HS5.out.ok HS5.out.bs HS5.out.bm)
      have HB7 := Lib.hid (bset HB6.out (p := ⟨w.heap.size + 1, 0, none⟩) (by simp) (.slice a6 (R.take (i + 1)).length c6))
      rw [show (R.take i ++ [row R i]).length = (R.take (i + 1)).length by rw [HF.out]]
      clear hO6 hF6 hs6 k1 k2 d0 d1 d2 dz
      have hle : (R.take (i + 1)).length ≤ 20 := by rw [List.length_take]; omega
      generalize (R.take (i + 1)).length = n1 at *
      go_wp2
      refine seg_write ?_
      refine wpQuiet_nil ?_
      go_wp2
      refine seg_write ?_
      refine wpQuiet_nil ?_
      go_wp2
      refine seg_write ?_
      refine wpQuiet_nil ?_
      go_wp2
      refine seg_write ?_
      refine wpQuiet_nil ?_
      go_wp2
      refine seg_write ?_
      refine wpQuiet_nil ?_
      refine only_done ?_
      clear e0 e1 ez
      go_wp2_with fail
      generalize w6.setCell ⟨w.heap.size + 1, 0, none⟩ (.slice a6 n1 c6) = w7 at *
      go_loopw [6, 7, 33] (fun _ _ s33 wy => ∃ (k : Nat) (M : Ents) (c : Nat), k ≤ (row R i).length ∧ s33 = .int .i64 k ∧ SP wy (fun k => w.heap.size ≤ k) (w.heap.size + 1) w.heap.size (.slice a6 n1 c6) (R.take (i + 1)) (vs ++ [Value.slice a5 (row R i).length c5]) M c ∧ FillR R M i k ∧ Below w.heap.size w wy) (fun _ _ s33 _ => (row R i).length - (intOf s33).toNat)
      case atStart => exact ⟨0, M, c, Nat.zero_le _, rfl, HSP7.out, HFM.out, HB7.out⟩
      case round =>
        clear HSP7 HFM HB7 HSP HB HB6 HB5 HBC HSC HS5 HK1 HK2 HO6 HU5 HG HAP HCL
        clear M c
        obtain ⟨k, M, c, hk, rfl, hsp, hfm, hB⟩ := hrel
        have HSP := Lib.hid hsp; have HFM := Lib.hid hfm; have HB := Lib.hid hB
        clear hsp hfm hB
        by_cases hkl : k < (row R i).length
        · obtain ⟨bi, oi, rfl, hbi, hci⟩ := HRR.out.get (by omega)
          have gk := (HB.out.cell (p := ⟨bi, oi + k, none⟩) hbi).trans (hci k hkl)
          have zk := Nat.lt_of_lt_of_le hbi HB.out.size
          rw [show elt (row R i) k = num R i k from rfl] at gk
          obtain ⟨d0, d1, d2⟩ := HSP.out.cells
          have dz := HSP.out.zs
          obtain ⟨L1, c1, hput, hok1, hkeys⟩ := run_putL HSP.out.mp HSP.out.ok ((i : Int), (k : Int)) (num R i k)
          have HFP := Lib.hid (fillR_put HFM.out hkl hkeys)
          have HSP2 := Lib.hid (HSP.out.put hok1)
          have HB2 := Lib.hid (below_put HB.out (.map (entsOf L1) c1) (Nat.le_refl _))
          unfold kv at hput
          simp only at hput
          clear hkeys hok1 hci
          generalize num R i k = q at *
          go_wp2_with fail
          clear hput
          go_roundw
          case rel => exact ⟨k + 1, L1, c1, by omega, by go_num, HSP2.out, HFP.out, HB2.out⟩
          case measure => simp [intOf]; omega
        · have HN := Lib.hid (fillR_next HFM.out (by omega))
          go_wp2_with fail
          go_roundw
          case rel => exact ⟨i + 1, _, _, M, c, by omega, by go_num, HSP.out, HN.out, HB.out⟩
          case measure => simp [intOf]; omega
    · have hie : i = R.length := by omega
      subst hie
      have HW : Hid (Whole wr (fun k => w.heap.size ≤ k) (w.heap.size + 1) R) := Lib.hid ⟨_, _, _, _, _, (by have := HSP.out; rw [List.take_length] at this; exact this), fillR_done HFM.out⟩
      go_wp2_with fail
      go_ret
      exact ⟨_, rfl, HW.out, HB.out⟩
end Go.Proofs.Ytnnfahdhmodejaa

namespace Go.Proofs.Ytnnfahdhmodejaa
open Go.RowKit Go.Shelf

structure CellS (sb tb : Nat) (v : Value) (t : Int) where
  val : World
  c0 : val.cell? ⟨sb, 0, none⟩ = some v
  c1 : val.cell? ⟨tb, 0, none⟩ = some (.int .i64 t)
  z0 : sb < val.heap.size
  z1 : tb < val.heap.size
theorem Fr.cell {w w' : World} {C : Nat → Prop} (h : Fr w w' C) {p : Addr} (hp : p.block < w.heap.size) (hc : ¬ C p.block) : w'.cell? p = w.cell? p := World.cell?_of_block (h.block _ hp hc)
theorem Fr.frozen {w w' : World} {C : Nat → Prop} (h : Fr w w' C) {p : Addr} (hp : p.block < w.heap.size) (hc : ¬ C p.block) : w'.frozen? p = w.frozen? p := World.frozen?_of_block (h.block _ hp hc)
theorem SP.setIn {w : World} {B : Nat → Prop} {sb mb : Nat} {v : Value} {R : List (List Int)} {vs : List Value} {M : Ents} {c : Nat} (h : SP w B sb mb v R vs M c) {i k g c2 : Nat} {x : Int} (hv : vs[i]? = some (.slice (some ⟨g, 0, none⟩) (row R i).length c2)) (hk : k < (row R i).length) :
    SP (w.setCell ⟨g, k, none⟩ (.int .i64 x)) B sb mb v (R.set i ((row R i).set k x)) vs M c := by
  have n1 := (h.ll.ne_obj h.st (fun _ e => by cases e) (fun _ e => by cases e)).2 i _ hv
  have n2 := (h.ll.ne_obj h.mp (fun _ e => by cases e) (fun _ e => by cases e)).2 i _ hv
  simp only [Value.ownBlock, ne_eq, Option.some.injEq] at n1 n2
  exact ⟨h.ll.setIn hv hk, (heap_setCell_other _ _ _ _ (fun e => n1 e.symm)).trans h.st, (heap_setCell_other _ _ _ _ (fun e => n2 e.symm)).trans h.mp, h.ok, h.bs, h.bm⟩
/-- A row has grown, and is stored. -/
theorem SP.storeRow {w w' : World} {B : Nat → Prop} {sb mb g n cv i : Nat} {e e' : Value} {R : List (List Int)} {xs : List Int} {vs : List Value} {M : Ents} {c : Nat} (h : SP w B sb mb (.slice (some ⟨g, 0, none⟩) n cv) R vs M c) (hv : vs[i]? = some e) (hi : i < R.length) (hp : LLp w' B (.slice (some ⟨g, 0, none⟩) n cv) R vs i e' xs) (hs : ∀ k, k < w.heap.size → e.ownBlock ≠ some k → w'.heap[k]? = w.heap[k]?) :
    SP (w'.setCell ⟨g, i, none⟩ e') B sb mb (.slice (some ⟨g, 0, none⟩) n cv) (R.set i xs) (vs.set i e') M c ∧ w'.heap[sb]? = some (.cells #[.slice (some ⟨g, 0, none⟩) n cv, .map (some mb)] 86 (0, 0)) := by
  obtain ⟨o1, o2⟩ := h.ll.ne_obj h.st (fun _ e => by cases e) (fun _ e => by cases e)
  obtain ⟨p1, p2⟩ := h.ll.ne_obj h.mp (fun _ e => by cases e) (fun _ e => by cases e)
  have q1 := (hs _ h.zs (o2 i _ hv)).trans h.st
  have q2 := (hs _ h.zm (p2 i _ hv)).trans h.mp
  simp only [Value.ownBlock, ne_eq, Option.some.injEq] at o1 p1
  exact ⟨⟨hp.store hi, (heap_setCell_other _ _ _ _ (fun e => o1 e.symm)).trans q1, (heap_setCell_other _ _ _ _ (fun e => p1 e.symm)).trans q2, h.ok, h.bs, h.bm⟩, q1⟩
set_option maxRecDepth 100000 in
set_option maxHeartbeats 8000000 in
theorem put_any (sb : Nat) (R : List (List Int)) (t : Int) (w : World) (B : Nat → Prop) (hsi : SI w B sb R) (hs : Sml R) (hB : ∀ k, w.heap.size ≤ k → B k) :
    Calls Try.prog 70 #[.pointer (some ⟨sb, 0, none⟩), .int .i64 t] w fun e w' => e = .returned (.tuple #[.int .i64 ((putR R t).2 : Nat), .int .i64 (ins (row R 0) t : Nat)]) ∧ SI w' B sb (putR R t).1 ∧ Fr w w' B := by
  have hr20 := hs.1
  have HSM := Lib.hid hs
  have HRES := Lib.hid (putAt_zero R t)
  obtain ⟨v, vs, mb, M, c, hll, hst, hmp, hok, hbs, hbm⟩ := hsi
  obtain ⟨av, cv, rfl⟩ := hll.form
  obtain ⟨B1, hB1⟩ : ∃ B1 : Nat → Prop, (fun k => B k ∧ k ≠ w.heap.size) = B1 := ⟨_, rfl⟩
  have HB1 := Lib.hid hB1
  have hsp : SP (w.alloc (.cells #[.int .i64 t] 3)) B1 sb mb (.slice av R.length cv) R vs M c := by
    rw [← HB1.out]
    have h1 : SP w (fun k => B k ∧ k ≠ w.heap.size) sb mb (.slice av R.length cv) R vs M c :=
      ⟨hll.mono fun j hj hb => ⟨hb, by omega⟩, hst, hmp, hok, ⟨hbs, by have := (Array.getElem?_eq_some_iff.1 hst).1; omega⟩, ⟨hbm, by have := (Array.getElem?_eq_some_iff.1 hmp).1; omega⟩⟩
    exact h1.later (bal (bz w) _)
  have HSP := Lib.hid hsp
  have HF0 : Hid (Fr w (w.alloc (.cells #[.int .i64 t] 3)) B) := Lib.hid (Fr.of_below (bal (bz w) _))
  have HT0 : Hid ((w.alloc (.cells #[.int .i64 t] 3)).cell? ⟨w.heap.size, 0, none⟩ = some (.int .i64 t) ∧ (w.alloc (.cells #[.int .i64 t] 3)).frozen? ⟨w.heap.size, 0, none⟩ = false) := Lib.hid ⟨cnew rfl rfl, fnew rfl⟩
  have HZ0 : Hid (w.heap.size < (w.alloc (.cells #[.int .i64 t] 3)).heap.size) := Lib.hid (by simp)
  have HB1t : Hid (¬ B1 w.heap.size) := Lib.hid (by rw [← HB1.out]; simp)
  have HBB : Hid (∀ k, B1 k → B k) := Lib.hid (by intro k hk; rw [← HB1.out] at hk; exact hk.1)
  have HBN : Hid (∀ k, w.heap.size < k → B1 k) := Lib.hid (by intro k hk; rw [← HB1.out]; exact ⟨hB k (by omega), by omega⟩)
  have HBT := Lib.hid (hB w.heap.size (Nat.le_refl _))
  clear hll hst hmp hok hbs hbm hs hB1 HB1 hsp hB
  obtain ⟨d0, d1, d2⟩ := HSP.out.cells
  have dz := HSP.out.zs
  generalize putR R t = res at *
  have HIN : Hid (ins (row R 0) t = ins (row R 0) t) := Lib.hid rfl
  generalize hIN : ins (row R 0) t = fin at HIN ⊢
  have HFIN := Lib.hid hIN
  clear hIN HIN
  go_enter Try.func70, Try.ntmps70
  go_wp2_with fail
  refine wp_scope_straight ?_
  go_wp2_with fail
  refine wp_label ?_
  go_wp2_with fail
  generalize w.alloc (.cells #[.int .i64 t] 3) = w1 at *
  have hz0 := HZ0.out
  generalize w.heap.size = tb at *
  clear d0 d1 d2 dz
  go_loopw [6, 7, 8, 9, 16] (fun s6 _ _ _ s16 wr => ∃ (i : Nat) (t' q : Int) (C : List (List Int)) (vs : List Value) (M : Ents) (c : Nat), i ≤ R.length ∧ s16 = .int .i64 i ∧ s6 = .int .i64 q ∧ Hid (q = if i = 0 then -1 else ((fin : Nat) : Int)) ∧ SP wr B1 sb mb (.slice av R.length cv) C vs M c ∧ C.length = R.length ∧ wr.cell? ⟨tb, 0, none⟩ = some (.int .i64 t') ∧ wr.frozen? ⟨tb, 0, none⟩ = false ∧ tb < wr.heap.size ∧ Fr w wr B ∧ putAt C i t' = res ∧ Sml C ∧ Hid (i = 0 → C = R ∧ t' = t)) (fun _ _ _ _ s16 _ => R.length - (intOf s16).toNat)
  case atStart => exact ⟨0, t, -1, R, vs, M, c, Nat.zero_le _, rfl, rfl, Lib.hid rfl, HSP.out, rfl, HT0.out.1, HT0.out.2, HZ0.out, HF0.out, HRES.out, HSM.out, Lib.hid (fun _ => ⟨rfl, rfl⟩)⟩
  case round =>
    clear HSP HF0 HT0 HZ0 HRES HSM hz0
    clear vs M c
    obtain ⟨i, t', q, C, vs, M, c, hi, rfl, rfl, HQ, hsp, hcl, ht, htf, htz, hF, hres, hsm, HI0⟩ := hrel
    have HSP := Lib.hid hsp; have HCL := Lib.hid hcl; have HT := Lib.hid ht; have HTF := Lib.hid htf; have HTZ := Lib.hid htz; have HF := Lib.hid hF; have HRES := Lib.hid hres; have HSM := Lib.hid hsm
    clear hsp hcl ht htf htz hF hres hsm
    by_cases hlt : i < R.length
    · have hlC : i < C.length := by rw [HCL.out]; exact hlt
      obtain ⟨g, cg, e, he, hwg, hg, hve, hce, hfe, hrow⟩ := HSP.out.ll.get i hlC
      rw [HCL.out] at he
      cases he
      obtain ⟨ae, de, rfl⟩ := owns_form hrow
      have HVE := Lib.hid hve
      have HROW := Lib.hid hrow
      have HCE := Lib.hid hce; have HFE := Lib.hid hfe
      have h20 := HSM.out.2 i
      have HFD := Lib.hid (ins_any (.slice ae (row C i).length de) (row C i) tb t' wr HT.out (RdI.of_owns hrow) (by omega))
      have hinl := ins_le (row C i) t'
      have HAPP := Lib.hid (fun h => putAt_app (C := C) (t := t') hlC h)
      have HBUMP := Lib.hid (fun h => putAt_bump (C := C) (t := t') hlC h)
      have HSS := Lib.hid (fun x hx => sml_set (x := x) HSM.out hlC hx)
      have HQ2 : Hid (i = 0 → fin = ins (row C i) t') := Lib.hid (fun h => by
        obtain ⟨e1, e2⟩ := HI0.out h
        rw [h, e1, e2]; exact HFIN.out.symm)
      have tc := HT.out; have tz := HTZ.out
      clear hrow hve
      generalize hk : ins (row C i) t' = k at *
      have HK := Lib.hid hk
      clear hk
      go_upto_region 6 with (refine HFD.out.mono ?_; rintro e w2 ⟨rfl, rfl⟩)
      clear tc tz hce hfe
      have hq1 : (q < 0) ↔ i = 0 := by
        have := HQ.out
        split at this <;> omega
      have HL := Lib.hid (show row C i = row C i from rfl)
      generalize hl : row C i = l at HFD HAPP HBUMP HSS HK HROW HCE HVE h20 hinl HL ⊢
      clear HL
      have HL := Lib.hid hl
      clear hl
      rcases Nat.eq_zero_or_pos i with hi0 | hi0
      · have e := (HQ2.out hi0).symm
        have hq : q = -1 := by have := HQ.out; rw [if_pos hi0] at this; exact this
        subst hq
        subst e
        clear HQ HQ2 HI0 hq1 hi0
        go_upto_region 8 with fail
        refine wp_region_flow [] [([0, 1, 2, 3, 4, 5, 6, 7], 8, false)] [] (by kernel_rfl) (by kernel_rfl) ?_
        intro wc hBc hh
        clear hh
        have HSC := Lib.hid (HSP.out.later hBc)
        obtain ⟨d0, d1, d2⟩ := HSC.out.cells
        have dz := HSC.out.zs
        have tc := (hBc.cell (p := ⟨tb, 0, none⟩) HTZ.out).trans HT.out
        have tf := (hBc.frozen (p := ⟨tb, 0, none⟩) HTZ.out).trans HTF.out
        have tz := Nat.lt_of_lt_of_le HTZ.out hBc.size
        have HF8 := Lib.hid ((HF.out.trans (Fr.of_below hBc)))
        have HRW := Lib.hid (owns_kept HROW.out hBc)
        have hL := @Later.cell wc
        obtain ⟨L1, c1, hput, hok1, hkeys⟩ := run_putL HSC.out.mp HSC.out.ok ((i : Int), (k : Int)) t'
        have hmt : tb ≠ mb := fun e => HB1t.out (by rw [e]; exact HSC.out.bm)
        have HSP8 := Lib.hid (HSC.out.put hok1)
        have HT8 := Lib.hid (cell_put mb (.map (entsOf L1) c1) tc hmt)
        have HTF8 : Hid ((wc.putObj mb (.map (entsOf L1) c1)).frozen? ⟨tb, 0, none⟩ = false) := Lib.hid ((World.frozen?_of_block (World.putObj_heap_other hmt)).trans tf)
        have HTZ8 : Hid (tb < (wc.putObj mb (.map (entsOf L1) c1)).heap.size) := Lib.hid (by simpa using tz)
        have HF9 := Lib.hid (HF8.out.trans (Fr.put (HBB.out mb HSC.out.bm) (.map (entsOf L1) c1)))
        unfold kv at hput
        simp only at hput
        clear hkeys hok1 hBc HSP HT HTF HTZ HF HF8 HCE HFE
        simp only [flowP, flow, pickL, List.getElem?_cons_succ, List.getElem?_cons_zero]
        refine wpQuiet_nil ?_
        repeat (go_big_quiet_step (fail))
        refine wpQuiet_nil ?_
        go_wp2
        refine seg_write ?_
        refine wpQuiet_nil ?_
        refine only_done ?_
        clear hput hL d0 d1 d2 dz tc tf tz HSC
        generalize wc.putObj mb (.map (entsOf L1) c1) = w8 at *
        by_cases hkl : k = l.length
        · have t9 : ((k : Int) == (l.length : Int)) = true := by rw [beq_iff_eq]; omega
          have happ := HAPP.out hkl
          have HEND := Lib.hid (HRES.out.symm.trans happ)
          clear happ HAPP HBUMP hkl HRES HSS
          go_upto_region 10 with fail
          have CW := Lib.hid (fun wx (h : Below w8.heap.size w8 wx) => (show ∃ x : CellS sb tb (.slice (some ⟨g, 0, none⟩) R.length cv) t', wx = x.val from ⟨⟨wx, ((HSP8.out.later h).cells).1, (h.cell (p := ⟨tb, 0, none⟩) HTZ8.out).trans HT8.out, (HSP8.out.later h).zs, Nat.lt_of_lt_of_le HTZ8.out h.size⟩, rfl⟩))
          haveI : Nonempty (CellS sb tb (.slice (some ⟨g, 0, none⟩) R.length cv) t') := by obtain ⟨x, _⟩ := CW.out w8 (bz w8); exact ⟨x⟩
          refine wp_region_flowS (fun w2 => ∃ x : CellS sb tb (.slice (some ⟨g, 0, none⟩) R.length cv) t', w2 = x.val) [] [([0, 1, 2, 3, 4, 5, 6, 7], 8, true), ([], 9, true), ([10], 11, false)] [] (by kernel_rfl) (by kernel_rfl) (fun wx h _ => CW.out wx h) ?_
          intro wd hBd hh
          clear hh
          have HSD := Lib.hid (HSP8.out.later hBd)
          have HTD := Lib.hid ((hBd.cell (p := ⟨tb, 0, none⟩) HTZ8.out).trans HT8.out)
          have HTZD := Lib.hid (Nat.lt_of_lt_of_le HTZ8.out hBd.size)
          have HFD2 := Lib.hid (HF9.out.trans (Fr.of_below hBd))
          have HNB := Lib.hid (fun k (hk : wd.heap.size ≤ k) => HBN.out k (Nat.lt_of_lt_of_le HTZD.out hk))
          have CWA := Lib.hid (CW.out _ (bal hBd (.cells #[.int .i64 t'] 3)))
          have hx0 := fun l : CellS sb tb (.slice (some ⟨g, 0, none⟩) R.length cv) t' => l.c0
          have hx1 := fun l : CellS sb tb (.slice (some ⟨g, 0, none⟩) R.length cv) t' => l.c1
          have hx2 := fun l : CellS sb tb (.slice (some ⟨g, 0, none⟩) R.length cv) t' => l.z0
          have hx3 := fun l : CellS sb tb (.slice (some ⟨g, 0, none⟩) R.length cv) t' => l.z1
          clear hBd CW
          simp only [flowP, flow, pickL, List.getElem?_cons_succ, List.getElem?_cons_zero]
          refine wpQuiet_nil ?_
          repeat (go_big_quiet_step (fail))
          refine wpQuiet_nil ?_
          clear hx0 hx1 hx2 hx3
          go_wp2
          refine seg_grow CWA.out ?_
          refine wpQuiet_nil ?_
          have hgl : (row C i).length ≤ 1000 := by rw [HL.out]; omega
          go_wp2_with (at_builtin; refine LL.grow2 HSD.out.ll HVE.out rfl _ _ rfl t' rfl rfl rfl hgl HNB.out ?_)
          intro e' w10 hp hF10 hsame
          rw [HL.out] at hp
          obtain ⟨ae', ce', rfl⟩ := owns_form hp.own
          rw [show (l ++ [t']).length = l.length + 1 by simp] at hp
          obtain ⟨hc2, hf2, hz2⟩ := hp.outer i hlC
          rw [HVE.out] at hc2
          obtain ⟨hSPE, hst10⟩ := HSD.out.storeRow HVE.out hlC hp hsame
          have HSPE := Lib.hid hSPE
          have ct10 := (hF10.cell (p := ⟨tb, 0, none⟩) HTZD.out HB1t.out).trans HTD.out
          have CWB := Lib.hid (show ∃ x : CellS sb tb (.slice (some ⟨g, 0, none⟩) R.length cv) t', w10 = x.val from ⟨⟨w10, by rw [cell_of_row w10 _ 0 _ _ _ hst10]; rfl, ct10, (Array.getElem?_eq_some_iff.1 hst10).1, Nat.lt_of_lt_of_le HTZD.out hF10.size⟩, rfl⟩)
          have HFE := Lib.hid ((HFD2.out.trans (hF10.mono (fun k _ h => HBB.out k h))).trans (Fr.set (p := ⟨g, i, none⟩) (HBB.out g hg) (.slice ae' (l.length + 1) ce')))
          clear hp hF10 hsame hSPE hst10 ct10
          go_wp2
          refine seg_grow CWB.out ?_
          repeat (go_big_quiet_step (fail))
          refine wpQuiet_nil ?_
          go_wp2
          refine seg_write ?_
          refine wpQuiet_nil ?_
          refine only_done ?_
          clear hc2 hf2 hz2
          go_wp2_with fail
          rw [Exit.noGoto_ret]
          go_ret2
          have hE := HEND.out
          subst hE
          exact ⟨rfl, ((HSPE.out).si).mono (fun k _ h => HBB.out k h), HFE.out⟩
        · have t9 : ((k : Int) == (l.length : Int)) = false := by rw [beq_eq_false_iff_ne]; omega
          have hklt : k < l.length := by omega
          have hbump := HBUMP.out hkl
          have HNX := Lib.hid (hbump.symm.trans HRES.out)
          have HS2 := Lib.hid (HSS.out (l.set k t') (by rw [List.length_set]; exact h20))
          clear hbump HAPP HBUMP HRES HSS hkl
          go_upto_region 12 with fail
          refine wp_region_flow [] [([0, 1, 2, 3, 4, 5, 6, 7], 8, false), ([], 9, false)] [] (by kernel_rfl) (by kernel_rfl) ?_
          intro wd hBd hh
          clear hh
          have HSD := Lib.hid (HSP8.out.later hBd)
          have tc := (hBd.cell (p := ⟨tb, 0, none⟩) HTZ8.out).trans HT8.out
          have tf := (hBd.frozen (p := ⟨tb, 0, none⟩) HTZ8.out).trans HTF8.out
          have tz := Nat.lt_of_lt_of_le HTZ8.out hBd.size
          have hrd := HSD.out.ll.el i _ HVE.out
          rw [HL.out] at hrd
          obtain ⟨h, c2, e2, hwh, gk, fk⟩ := hrd.get k hklt
          cases e2
          have hBh : B1 h := HSD.out.ll.elB i _ HVE.out h rfl
          have hth : tb ≠ h := fun e => HB1t.out (by rw [e]; exact hBh)
          have hsi := HSD.out.setIn (k := k) (x := t') (by rw [HL.out]; exact HVE.out) (by rw [HL.out]; exact hklt)
          rw [HL.out] at hsi
          have ft : (wd.setCell ⟨h, k, none⟩ (.int .i64 t')).frozen? ⟨tb, 0, none⟩ = false := (World.frozen?_of_block (heap_setCell_other _ _ _ _ hth)).trans tf
          have ct : (wd.setCell ⟨h, k, none⟩ (.int .i64 t')).cell? ⟨tb, 0, none⟩ = some (.int .i64 t') := (World.cell?_of_block (heap_setCell_other _ _ _ _ hth)).trans tc
          have HSPE := Lib.hid (hsi.fr (C := fun k => k = tb) (Fr.set (B := fun k => k = tb) (p := ⟨tb, 0, none⟩) rfl (.int .i64 (elt l k))) (fun k _ hb e => HB1t.out (by rw [← e]; exact hb)))
          have HFE := Lib.hid (((HF9.out.trans (Fr.of_below hBd)).trans (Fr.set (p := ⟨h, k, none⟩) (HBB.out h hBh) (.int .i64 t'))).trans (Fr.set (p := ⟨tb, 0, none⟩) HBT.out (.int .i64 (elt l k))))
          have HTE : Hid (((wd.setCell ⟨h, k, none⟩ (.int .i64 t')).setCell ⟨tb, 0, none⟩ (.int .i64 (elt l k))).cell? ⟨tb, 0, none⟩ = some (.int .i64 (elt l k))) := Lib.hid (World.cell?_setCell_same' _ _ _ (by rw [ct]; rfl))
          have HTFE : Hid (((wd.setCell ⟨h, k, none⟩ (.int .i64 t')).setCell ⟨tb, 0, none⟩ (.int .i64 (elt l k))).frozen? ⟨tb, 0, none⟩ = false) := Lib.hid (by rw [World.frozen?_setCell]; exact ft)
          have HTZE : Hid (tb < ((wd.setCell ⟨h, k, none⟩ (.int .i64 t')).setCell ⟨tb, 0, none⟩ (.int .i64 (elt l k))).heap.size) := Lib.hid (by simpa using tz)
          have hL := @Later.cell wd
          clear hBd hrd hsi ct
          generalize elt l k = y at *
          simp only [flowP, flow, pickL, List.getElem?_cons_succ, List.getElem?_cons_zero]
          refine wpQuiet_nil ?_
          repeat (go_big_quiet_step (fail))
          refine wpQuiet_nil ?_
          go_wp2
          refine seg_write ?_
          refine wpQuiet_nil ?_
          go_wp2
          refine seg_write ?_
          refine wpQuiet_nil ?_
          refine only_done ?_
          clear hL tc tf tz gk fk ft
          go_wp2_with fail
          go_roundw
          case rel => exact ⟨i + 1, y, _, _, vs, L1, c1, by omega, by go_num, rfl, Lib.hid (by rw [if_neg (by omega)]), HSPE.out, by rw [List.length_set]; exact HCL.out, HTE.out, HTFE.out, HTZE.out, HFE.out, HNX.out, HS2.out, Lib.hid (fun h => absurd h (by omega))⟩
          case measure => simp [intOf]; omega
      · have hq : q = (fin : Int) := by have := HQ.out; rw [if_neg (by omega)] at this; exact this
        subst hq
        have hf0 : ¬ ((fin : Int) < 0) := by omega
        clear HQ HQ2 HI0 hq1
        go_upto_region 8 with fail
        clear hf0
        refine wp_region_flow [] [([0, 1, 2, 3, 4, 5, 6, 7], 8, false)] [] (by kernel_rfl) (by kernel_rfl) ?_
        intro wc hBc hh
        clear hh
        have HSC := Lib.hid (HSP.out.later hBc)
        obtain ⟨d0, d1, d2⟩ := HSC.out.cells
        have dz := HSC.out.zs
        have tc := (hBc.cell (p := ⟨tb, 0, none⟩) HTZ.out).trans HT.out
        have tf := (hBc.frozen (p := ⟨tb, 0, none⟩) HTZ.out).trans HTF.out
        have tz := Nat.lt_of_lt_of_le HTZ.out hBc.size
        have HF8 := Lib.hid ((HF.out.trans (Fr.of_below hBc)))
        have HRW := Lib.hid (owns_kept HROW.out hBc)
        have hL := @Later.cell wc
        obtain ⟨L1, c1, hput, hok1, hkeys⟩ := run_putL HSC.out.mp HSC.out.ok ((i : Int), (k : Int)) t'
        have hmt : tb ≠ mb := fun e => HB1t.out (by rw [e]; exact HSC.out.bm)
        have HSP8 := Lib.hid (HSC.out.put hok1)
        have HT8 := Lib.hid (cell_put mb (.map (entsOf L1) c1) tc hmt)
        have HTF8 : Hid ((wc.putObj mb (.map (entsOf L1) c1)).frozen? ⟨tb, 0, none⟩ = false) := Lib.hid ((World.frozen?_of_block (World.putObj_heap_other hmt)).trans tf)
        have HTZ8 : Hid (tb < (wc.putObj mb (.map (entsOf L1) c1)).heap.size) := Lib.hid (by simpa using tz)
        have HF9 := Lib.hid (HF8.out.trans (Fr.put (HBB.out mb HSC.out.bm) (.map (entsOf L1) c1)))
        unfold kv at hput
        simp only at hput
        clear hkeys hok1 hBc HSP HT HTF HTZ HF HF8 HCE HFE
        simp only [flowP, flow, pickL, List.getElem?_cons_succ, List.getElem?_cons_zero]
        refine wpQuiet_nil ?_
        repeat (go_big_quiet_step (fail))
        refine wpQuiet_nil ?_
        go_wp2
        refine seg_write ?_
        refine wpQuiet_nil ?_
        refine only_done ?_
        clear hput hL d0 d1 d2 dz tc tf tz HSC
        generalize wc.putObj mb (.map (entsOf L1) c1) = w8 at *
        by_cases hkl : k = l.length
        · have t9 : ((k : Int) == (l.length : Int)) = true := by rw [beq_iff_eq]; omega
          have happ := HAPP.out hkl
          have HEND := Lib.hid (HRES.out.symm.trans happ)
          clear happ HAPP HBUMP hkl HRES HSS
          go_upto_region 10 with fail
          have CW := Lib.hid (fun wx (h : Below w8.heap.size w8 wx) => (show ∃ x : CellS sb tb (.slice (some ⟨g, 0, none⟩) R.length cv) t', wx = x.val from ⟨⟨wx, ((HSP8.out.later h).cells).1, (h.cell (p := ⟨tb, 0, none⟩) HTZ8.out).trans HT8.out, (HSP8.out.later h).zs, Nat.lt_of_lt_of_le HTZ8.out h.size⟩, rfl⟩))
          haveI : Nonempty (CellS sb tb (.slice (some ⟨g, 0, none⟩) R.length cv) t') := by obtain ⟨x, _⟩ := CW.out w8 (bz w8); exact ⟨x⟩
          refine wp_region_flowS (fun w2 => ∃ x : CellS sb tb (.slice (some ⟨g, 0, none⟩) R.length cv) t', w2 = x.val) [] [([0, 1, 2, 3, 4, 5, 6, 7], 8, true), ([], 9, true), ([10], 11, false)] [] (by kernel_rfl) (by kernel_rfl) (fun wx h _ => CW.out wx h) ?_
          intro wd hBd hh
          clear hh
          have HSD := Lib.hid (HSP8.out.later hBd)
          have HTD := Lib.hid ((hBd.cell (p := ⟨tb, 0, none⟩) HTZ8.out).trans HT8.out)
          have HTZD := Lib.hid (Nat.lt_of_lt_of_le HTZ8.out hBd.size)
          have HFD2 := Lib.hid (HF9.out.trans (Fr.of_below hBd))
          have HNB := Lib.hid (fun k (hk : wd.heap.size ≤ k) => HBN.out k (Nat.lt_of_lt_of_le HTZD.out hk))
          have CWA := Lib.hid (CW.out _ (bal hBd (.cells #[.int .i64 t'] 3)))
          have hx0 := fun l : CellS sb tb (.slice (some ⟨g, 0, none⟩) R.length cv) t' => l.c0
          have hx1 := fun l : CellS sb tb (.slice (some ⟨g, 0, none⟩) R.length cv) t' => l.c1
          have hx2 := fun l : CellS sb tb (.slice (some ⟨g, 0, none⟩) R.length cv) t' => l.z0
          have hx3 := fun l : CellS sb tb (.slice (some ⟨g, 0, none⟩) R.length cv) t' => l.z1
          clear hBd CW
          simp only [flowP, flow, pickL, List.getElem?_cons_succ, List.getElem?_cons_zero]
          refine wpQuiet_nil ?_
          repeat (go_big_quiet_step (fail))
          refine wpQuiet_nil ?_
          clear hx0 hx1 hx2 hx3
          go_wp2
          refine seg_grow CWA.out ?_
          refine wpQuiet_nil ?_
          have hgl : (row C i).length ≤ 1000 := by rw [HL.out]; omega
          go_wp2_with (at_builtin; refine LL.grow2 HSD.out.ll HVE.out rfl _ _ rfl t' rfl rfl rfl hgl HNB.out ?_)
          intro e' w10 hp hF10 hsame
          rw [HL.out] at hp
          obtain ⟨ae', ce', rfl⟩ := owns_form hp.own
          rw [show (l ++ [t']).length = l.length + 1 by simp] at hp
          obtain ⟨hc2, hf2, hz2⟩ := hp.outer i hlC
          rw [HVE.out] at hc2
          obtain ⟨hSPE, hst10⟩ := HSD.out.storeRow HVE.out hlC hp hsame
          have HSPE := Lib.hid hSPE
          have ct10 := (hF10.cell (p := ⟨tb, 0, none⟩) HTZD.out HB1t.out).trans HTD.out
          have CWB := Lib.hid (show ∃ x : CellS sb tb (.slice (some ⟨g, 0, none⟩) R.length cv) t', w10 = x.val from ⟨⟨w10, by rw [cell_of_row w10 _ 0 _ _ _ hst10]; rfl, ct10, (Array.getElem?_eq_some_iff.1 hst10).1, Nat.lt_of_lt_of_le HTZD.out hF10.size⟩, rfl⟩)
          have HFE := Lib.hid ((HFD2.out.trans (hF10.mono (fun k _ h => HBB.out k h))).trans (Fr.set (p := ⟨g, i, none⟩) (HBB.out g hg) (.slice ae' (l.length + 1) ce')))
          clear hp hF10 hsame hSPE hst10 ct10
          go_wp2
          refine seg_grow CWB.out ?_
          repeat (go_big_quiet_step (fail))
          refine wpQuiet_nil ?_
          go_wp2
          refine seg_write ?_
          refine wpQuiet_nil ?_
          refine only_done ?_
          clear hc2 hf2 hz2
          go_wp2_with fail
          rw [Exit.noGoto_ret]
          go_ret2
          have hE := HEND.out
          subst hE
          exact ⟨rfl, ((HSPE.out).si).mono (fun k _ h => HBB.out k h), HFE.out⟩
        · have t9 : ((k : Int) == (l.length : Int)) = false := by rw [beq_eq_false_iff_ne]; omega
          have hklt : k < l.length := by omega
          have hbump := HBUMP.out hkl
          have HNX := Lib.hid (hbump.symm.trans HRES.out)
          have HS2 := Lib.hid (HSS.out (l.set k t') (by rw [List.length_set]; exact h20))
          clear hbump HAPP HBUMP HRES HSS hkl
          go_upto_region 12 with fail
          refine wp_region_flow [] [([0, 1, 2, 3, 4, 5, 6, 7], 8, false), ([], 9, false)] [] (by kernel_rfl) (by kernel_rfl) ?_
          intro wd hBd hh
          clear hh
          have HSD := Lib.hid (HSP8.out.later hBd)
          have tc := (hBd.cell (p := ⟨tb, 0, none⟩) HTZ8.out).trans HT8.out
          have tf := (hBd.frozen (p := ⟨tb, 0, none⟩) HTZ8.out).trans HTF8.out
          have tz := Nat.lt_of_lt_of_le HTZ8.out hBd.size
          have hrd := HSD.out.ll.el i _ HVE.out
          rw [HL.out] at hrd
          obtain ⟨h, c2, e2, hwh, gk, fk⟩ := hrd.get k hklt
          cases e2
          have hBh : B1 h := HSD.out.ll.elB i _ HVE.out h rfl
          have hth : tb ≠ h := fun e => HB1t.out (by rw [e]; exact hBh)
          have hsi := HSD.out.setIn (k := k) (x := t') (by rw [HL.out]; exact HVE.out) (by rw [HL.out]; exact hklt)
          rw [HL.out] at hsi
          have ft : (wd.setCell ⟨h, k, none⟩ (.int .i64 t')).frozen? ⟨tb, 0, none⟩ = false := (World.frozen?_of_block (heap_setCell_other _ _ _ _ hth)).trans tf
          have ct : (wd.setCell ⟨h, k, none⟩ (.int .i64 t')).cell? ⟨tb, 0, none⟩ = some (.int .i64 t') := (World.cell?_of_block (heap_setCell_other _ _ _ _ hth)).trans tc
          have HSPE := Lib.hid (hsi.fr (C := fun k => k = tb) (Fr.set (B := fun k => k = tb) (p := ⟨tb, 0, none⟩) rfl (.int .i64 (elt l k))) (fun k _ hb e => HB1t.out (by rw [← e]; exact hb)))
          have HFE := Lib.hid (((HF9.out.trans (Fr.of_below hBd)).trans (Fr.set (p := ⟨h, k, none⟩) (HBB.out h hBh) (.int .i64 t'))).trans (Fr.set (p := ⟨tb, 0, none⟩) HBT.out (.int .i64 (elt l k))))
          have HTE : Hid (((wd.setCell ⟨h, k, none⟩ (.int .i64 t')).setCell ⟨tb, 0, none⟩ (.int .i64 (elt l k))).cell? ⟨tb, 0, none⟩ = some (.int .i64 (elt l k))) := Lib.hid (World.cell?_setCell_same' _ _ _ (by rw [ct]; rfl))
          have HTFE : Hid (((wd.setCell ⟨h, k, none⟩ (.int .i64 t')).setCell ⟨tb, 0, none⟩ (.int .i64 (elt l k))).frozen? ⟨tb, 0, none⟩ = false) := Lib.hid (by rw [World.frozen?_setCell]; exact ft)
          have HTZE : Hid (tb < ((wd.setCell ⟨h, k, none⟩ (.int .i64 t')).setCell ⟨tb, 0, none⟩ (.int .i64 (elt l k))).heap.size) := Lib.hid (by simpa using tz)
          have hL := @Later.cell wd
          clear hBd hrd hsi ct
          generalize elt l k = y at *
          simp only [flowP, flow, pickL, List.getElem?_cons_succ, List.getElem?_cons_zero]
          refine wpQuiet_nil ?_
          repeat (go_big_quiet_step (fail))
          refine wpQuiet_nil ?_
          go_wp2
          refine seg_write ?_
          refine wpQuiet_nil ?_
          go_wp2
          refine seg_write ?_
          refine wpQuiet_nil ?_
          refine only_done ?_
          clear hL tc tf tz gk fk ft
          go_wp2_with fail
          go_roundw
          case rel => exact ⟨i + 1, y, _, _, vs, L1, c1, by omega, by go_num, rfl, Lib.hid (by rw [if_neg (by omega)]), HSPE.out, by rw [List.length_set]; exact HCL.out, HTE.out, HTFE.out, HTZE.out, HFE.out, HNX.out, HS2.out, Lib.hid (fun h => absurd h (by omega))⟩
          case measure => simp [intOf]; omega
    · have hie : i = R.length := by omega
      have HEND : Hid (res = (C ++ [[t']], R.length)) := Lib.hid (by rw [← HRES.out, hie, ← HCL.out, putAt_end])
      have hf : (if (i : Int) = 0 then (0 : Int) else q) = (fin : Int) ∧ -1 ≤ q := by
        have h1 := HQ.out
        by_cases h0 : i = 0
        · have hR0 : R = [] := List.eq_nil_of_length_eq_zero (by omega)
          have h2 := HFIN.out
          rw [hR0] at h2
          rw [if_pos h0] at h1
          refine ⟨?_, by omega⟩
          rw [if_pos (by omega), ← h2]
          simp [row, ins]
        · rw [if_neg h0] at h1
          refine ⟨?_, by omega⟩
          rw [if_neg (by omega)]; exact h1
      have hmax : (if q < 0 then (0 : Int) else q) = (fin : Int) := by
        have h1 := HQ.out
        by_cases h0 : i = 0
        · rw [if_pos h0] at h1
          rw [if_pos (by omega)] 
          have := hf.1
          rw [if_pos (by omega)] at this; exact this
        · rw [if_neg h0] at h1
          rw [if_neg (by omega)]; exact h1
      have HMAX := Lib.hid hmax
      have hC20 : C.length ≤ 1000 := by rw [HCL.out]; omega
      clear hf hmax HQ HRES HI0
      go_upto_region 14 with fail
      refine wp_region_flow [0] [([1, 2, 3, 4, 5, 6], 7, true), ([], 8, true), ([], 9, false), ([], 10, false), ([], 11, false), ([], 12, false), ([], 13, false)] [] (by kernel_rfl) (by kernel_rfl) ?_
      intro wd hBd hh
      clear hh
      have HSD := Lib.hid (HSP.out.later hBd)
      obtain ⟨d0, d1, d2⟩ := HSD.out.cells
      have dz := HSD.out.zs
      have tc := (hBd.cell (p := ⟨tb, 0, none⟩) HTZ.out).trans HT.out
      have tz := Nat.lt_of_lt_of_le HTZ.out hBd.size
      have HFD := Lib.hid (HF.out.trans (Fr.of_below hBd))
      have HSA := Lib.hid (HSD.out.later (bal (bz wd) (.cells #[.int .i64 t'] 3)))
      have HTA : Hid ((wd.alloc (.cells #[.int .i64 t'] 3)).cell? ⟨tb, 0, none⟩ = some (.int .i64 t')) := Lib.hid (cal _ tc)
      have HOW := Lib.hid (own_one wd t' (base := wd.heap.size) (nb := wd.heap.size) rfl (Nat.le_refl _))
      have HAP := Lib.hid (fun j f hf => apart_fresh HSD.out.ll HOW.out j f hf)
      have HEB : Hid (∀ k, (Value.slice (some ⟨wd.heap.size, 0, none⟩) 1 1).ownBlock = some k → B1 k) := Lib.hid (fun k ek => HBN.out k (by have := (HOW.out.lt ek).1; omega))
      have HNB : Hid (∀ k, (wd.alloc (.cells #[.int .i64 t'] 3)).heap.size ≤ k → B1 k) := Lib.hid (fun k hk => HBN.out k (by simp at hk; omega))
      have hL := @Later.cell wd
      clear hBd HSP HT HTF HTZ HF
      simp only [flowP, flow, pickL, List.getElem?_cons_succ, List.getElem?_cons_zero]
      repeat (go_big_quiet_step (fail))
      refine wpQuiet_nil ?_
      repeat (go_big_quiet_step (fail))
      refine wpQuiet_nil ?_
      go_wp2
      refine seg_grow ⟨⟨_, bal (bz wd) _⟩, rfl⟩ ?_
      refine wpQuiet_nil ?_
      go_wp2
      refine seg_grow ⟨⟨_, bal (bal (bz wd) _) _⟩, rfl⟩ ?_
      refine wpQuiet_nil ?_
      clear hL
      go_wp2_with (at_builtin; refine LL.push2 HSA.out.ll (HOW.out.base (Nat.zero_le _)) HEB.out HAP.out rfl _ _ rfl rfl rfl (by simp) hC20 HNB.out ?_)
      intro v6 w6 hO6 hF6 hs6
      obtain ⟨a6, c6, rfl⟩ := hO6.form
      have hlen6 : (C ++ [[t']]).length = R.length + 1 := by rw [List.length_append, HCL.out]; rfl
      rw [hlen6] at hO6 ⊢
      obtain ⟨k1, k2⟩ := HSA.out.keep (fun k hk hne => hs6 k (by simpa using hk) hne)
      have HSE := Lib.hid (SP.store hO6 k1 k2 HSA.out.ok HSA.out.bs HSA.out.bm)
      have hbsb : B sb := HBB.out sb HSA.out.bs
      have tne : tb ≠ sb := fun e => HB1t.out (by rw [e]; exact HSA.out.bs)
      have tza : tb < (wd.alloc (.cells #[.int .i64 t'] 3)).heap.size := by simp; omega
      have ct6 := (hF6.cell (p := ⟨tb, 0, none⟩) tza HB1t.out).trans HTA.out
      have HTE : Hid ((w6.setCell ⟨sb, 0, none⟩ (.slice a6 (R.length + 1) c6)).cell? ⟨tb, 0, none⟩ = some (.int .i64 t')) := Lib.hid ((World.cell?_of_block (heap_setCell_other _ _ _ _ tne)).trans ct6)
      have HTZE : Hid (tb < (w6.setCell ⟨sb, 0, none⟩ (.slice a6 (R.length + 1) c6)).heap.size) := Lib.hid (by simp only [World.size_setCell]; exact Nat.lt_of_lt_of_le tza hF6.size)
      have HFE := Lib.hid ((HFD.out.trans ((Fr.of_below (bal (bz wd) _)).trans (hF6.mono (fun k _ h => HBB.out k h)))).trans (Fr.set (p := ⟨sb, 0, none⟩) hbsb (.slice a6 (R.length + 1) c6)))
      have e0 : w6.cell? ⟨sb, 0, none⟩ = some (.slice av R.length cv) := by rw [cell_of_row w6 _ 0 _ _ _ k1]; rfl
      have e1 : w6.frozen? ⟨sb, 0, none⟩ = false := frozen_of_row _ _ _ _ _ k1
      have ez := (Array.getElem?_eq_some_iff.1 k1).1
      clear hO6 hF6 hs6 k1 k2 d0 d1 d2 dz tc tz HSA HTA HSD hlen6 ct6 tza
      go_wp2
      refine seg_write ?_
      refine wpQuiet_nil ?_
      go_wp2
      refine seg_write ?_
      refine wpQuiet_nil ?_
      go_wp2
      refine seg_write ?_
      refine wpQuiet_nil ?_
      go_wp2
      refine seg_write ?_
      refine wpQuiet_nil ?_
      go_wp2
      refine seg_write ?_
      refine wpQuiet_nil ?_
      refine only_done ?_
      clear e0 e1 ez
      generalize w6.setCell ⟨sb, 0, none⟩ (.slice a6 (R.length + 1) c6) = w7 at *
      go_upto_region 15 with fail
      refine wp_region_flow [] [([0, 1, 2, 3, 4, 5, 6, 7, 8, 9, 10, 11, 12], 13, false)] [] (by kernel_rfl) (by kernel_rfl) ?_
      intro wx hBx hh
      clear hh
      have HSX := Lib.hid (HSE.out.later hBx)
      obtain ⟨d0, d1, d2⟩ := HSX.out.cells
      have dz := HSX.out.zs
      have tc := (hBx.cell (p := ⟨tb, 0, none⟩) HTZE.out).trans HTE.out
      have tz := Nat.lt_of_lt_of_le HTZE.out hBx.size
      have HFX := Lib.hid (HFE.out.trans (Fr.of_below hBx))
      obtain ⟨L1, c1, hput, hok1, hkeys⟩ := run_putL HSX.out.mp HSX.out.ok ((R.length : Int), 0) t'
      have HSY := Lib.hid (HSX.out.put hok1)
      have HFY := Lib.hid (HFX.out.trans (Fr.put (HBB.out mb HSX.out.bm) (.map (entsOf L1) c1)))
      unfold kv at hput
      simp only at hput
      have hwr : IntKind.i64.wrap ((R.length : Int) + 1 - 1) = (R.length : Int) := by rw [show (R.length : Int) + 1 - 1 = (R.length : Int) by omega]; exact IntWalk.i64_in _ (by omega)
      have hL := @Later.cell wx
      clear hkeys hok1 hBx HFX HFE HTE HTZE HSE
      simp only [flowP, flow, pickL, List.getElem?_cons_succ, List.getElem?_cons_zero]
      refine wpQuiet_nil ?_
      repeat (go_big_quiet_step (fail))
      refine wpQuiet_nil ?_
      go_wp2
      refine seg_write ?_
      refine wpQuiet_nil ?_
      refine only_done ?_
      clear hput hL d0 d1 d2 dz tc tz HSX
      obtain ⟨d0, d1, d2⟩ := HSY.out.cells
      have dz := HSY.out.zs
      generalize wx.putObj mb (.map (entsOf L1) c1) = w9 at *
      have hE := HEND.out
      subst hE
      by_cases hq0 : q ≤ 0
      · have HM2 : Hid ((0 : Int) = (fin : Int)) := Lib.hid (by have := HMAX.out; split at this <;> omega)
        clear HMAX
        go_wp2_with fail
        try rw [Exit.noGoto_ret]
        go_ret2
        exact ⟨(show Ending.returned (.tuple #[.int .i64 (R.length : Int), .int .i64 0]) = .returned (.tuple #[.int .i64 (R.length : Int), .int .i64 (fin : Int)]) by rw [← HM2.out]), (HSY.out.si).mono (fun k _ h => HBB.out k h), HFY.out⟩
      · have HM2 : Hid (q = (fin : Int)) := Lib.hid (by have := HMAX.out; rw [if_neg (by omega)] at this; exact this)
        have hq1 : 0 < q := by omega
        clear HMAX
        go_wp2_with fail
        try rw [Exit.noGoto_ret]
        go_ret2
        exact ⟨(show Ending.returned (.tuple #[.int .i64 (R.length : Int), .int .i64 q]) = .returned (.tuple #[.int .i64 (R.length : Int), .int .i64 (fin : Int)]) by rw [← HM2.out]), (HSY.out.si).mono (fun k _ h => HBB.out k h), HFY.out⟩
end Go.Proofs.Ytnnfahdhmodejaa

namespace Go.Proofs.Ytnnfahdhmodejaa
open Go.RowKit Go.Shelf

set_option maxRecDepth 100000 in
set_option maxHeartbeats 8000000 in
theorem take_any (sb : Nat) (R : List (List Int)) (r : Nat) (res : List (List Int) × Int) (w : World) (B : Nat → Prop) (hsi : SI w B sb R) (hs : Sml R) (ht : TakeOk R r res) (hB : ∀ k, w.heap.size ≤ k → B k) :
    Calls Try.prog 72 #[.pointer (some ⟨sb, 0, none⟩), .int .i64 r] w fun e w' => e = .returned (.int .i64 res.2) ∧ SI w' B sb res.1 ∧ Fr w w' B := by
  have hr20 := hs.1
  have HSM := Lib.hid (sml_dropO (r := r) hs)
  obtain ⟨hlt, hne, hres, hok⟩ := ht
  obtain ⟨m, hm⟩ : ∃ m, (row R r).length = m + 1 := ⟨(row R r).length - 1, by omega⟩
  have hm20 := hs.2 r
  rw [hm] at hm20
  rw [hm, Nat.add_sub_cancel] at hres hok
  have HRES := Lib.hid hres; have HOK := Lib.hid hok
  have HONE := Lib.hid (fun h => dropO_one (R := R) (r := r) (x := (row R r).take m) h)
  have HMORE := Lib.hid (fun h => dropO_more (R := R) (r := r) hm h)
  have hrn : r ≤ 20 := by omega
  obtain ⟨v, vs, mb, M, c, hll, hst, hmp, hok2, hbs, hbm⟩ := hsi
  obtain ⟨g, cv, e0, hv0, hwg, hBg, hve, hce, hfe, hrow⟩ := hll.get r hlt
  subst hv0
  obtain ⟨h, d, e2, hwh, gm, fm⟩ := hrow.get m (by omega)
  subst e2
  have hd : m ≤ d := by
    obtain ⟨_, _, e, h1, _⟩ := (RdI.of_owns hrow).form
    cases e; omega
  have hcm : r ≤ cv := by
    obtain ⟨_, _, e, h1, _⟩ := (LL.rd hll).form
    cases e; omega
  have hs31 := run_cutToI h 0 (m + 1) d m hd
  have HS22 := Lib.hid (run_cutToL g 0 R.length cv r hcm)
  have HVE : Hid (vs[r]? = some (.slice (some ⟨h, 0, none⟩) (m + 1) d)) := Lib.hid (by rw [← hm]; exact hve)
  rw [hm] at hce
  have HM := Lib.hid hm
  obtain ⟨B1, hB1⟩ : ∃ B1 : Nat → Prop, (fun k => B k ∧ k ≠ w.heap.size) = B1 := ⟨_, rfl⟩
  have HB1 := Lib.hid hB1
  have hq : ∃ q, elt (row R r) m = q := ⟨_, rfl⟩
  obtain ⟨q, hq⟩ := hq
  rw [hq] at gm hres hok HRES HOK
  have hsp0 : SP w (fun k => B k ∧ k ≠ w.heap.size) sb mb (.slice (some ⟨g, 0, none⟩) R.length cv) R vs M c :=
    ⟨hll.mono fun j hj hb => ⟨hb, by omega⟩, hst, hmp, hok2, ⟨hbs, by have := (Array.getElem?_eq_some_iff.1 hst).1; omega⟩, ⟨hbm, by have := (Array.getElem?_eq_some_iff.1 hmp).1; omega⟩⟩
  rw [hB1] at hsp0
  have HSP0 := Lib.hid hsp0
  have HB1t : Hid (¬ B1 w.heap.size) := Lib.hid (by rw [← HB1.out]; simp)
  have HBB : Hid (∀ k, B1 k → B k) := Lib.hid (by intro k hk; rw [← HB1.out] at hk; exact hk.1)
  have HBT := Lib.hid (hB w.heap.size (Nat.le_refl _))
  have HSPW : Hid (∀ w2, Below w.heap.size w w2 → SP w2 B1 sb mb (.slice (some ⟨g, 0, none⟩) R.length cv) R vs M c) := Lib.hid (fun w2 hb => HSP0.out.later hb)
  have HCE := Lib.hid (fun w2 (hb : Below w.heap.size w w2) => And.intro ((hb.cell (p := ⟨g, r, none⟩) hwg).trans hce) ((hb.frozen (p := ⟨g, r, none⟩) hwg).trans hfe))
  have HGZ := Lib.hid (fun w2 (hb : Below w.heap.size w w2) => And.intro (Nat.lt_of_lt_of_le hwg hb.size) (Nat.lt_of_lt_of_le hwh hb.size))
  obtain ⟨d0, d1, d2⟩ := HSP0.out.cells
  have dz := HSP0.out.zs
  clear hll hst hmp hok2 hbs hbm hs hB1 HB1 hsp0 hB hres hok hne hve hrow hm hq fm
  go_enter Try.func72, Try.ntmps72
  go_upto_region 3 with fail
  have HBA : Hid (Below w.heap.size w (w.alloc (.cells #[.int .i64 q] 3))) := Lib.hid (bal (bz w) _)
  have HTA : Hid ((w.alloc (.cells #[.int .i64 q] 3)).cell? ⟨w.heap.size, 0, none⟩ = some (.int .i64 q) ∧ (w.alloc (.cells #[.int .i64 q] 3)).frozen? ⟨w.heap.size, 0, none⟩ = false ∧ w.heap.size < (w.alloc (.cells #[.int .i64 q] 3)).heap.size) := Lib.hid ⟨cnew rfl rfl, fnew rfl, by simp⟩
  generalize w.alloc (.cells #[.int .i64 q] 3) = wA at *
  clear d0 d1 d2 dz gm hwg hwh hce hfe HSP0
  refine wp_region_flow [] [([0, 1, 2, 3, 4, 5, 6, 7, 8, 9, 10, 11, 12, 13, 14, 15, 16], 17, false)] [] (by kernel_rfl) (by kernel_rfl) ?_
  intro wc hBc hh
  clear hh
  have HBC := Lib.hid (btr HBA.out hBc)
  have HSC := Lib.hid (HSPW.out wc HBC.out)
  obtain ⟨d0, d1, d2⟩ := HSC.out.cells
  have dz := HSC.out.zs
  obtain ⟨c0, f0⟩ := HCE.out wc HBC.out
  obtain ⟨z0, z1⟩ := HGZ.out wc HBC.out
  have HTC := Lib.hid ((hBc.cell (p := ⟨w.heap.size, 0, none⟩) HTA.out.2.2).trans HTA.out.1)
  have HTFC := Lib.hid ((hBc.frozen (p := ⟨w.heap.size, 0, none⟩) HTA.out.2.2).trans HTA.out.2.1)
  have HTZC := Lib.hid (Nat.lt_of_lt_of_le HTA.out.2.2 hBc.size)
  have hL := @Later.cell wc
  obtain ⟨hst2, _⟩ := HSC.out.storeRow HVE.out hlt (HSC.out.ll.cutRow HVE.out (show m ≤ m + 1 by omega)) (fun _ _ _ => rfl)
  have HSD := Lib.hid hst2
  have htg : w.heap.size ≠ g := fun e => HB1t.out (by rw [e]; exact HSC.out.ll.outB g rfl)
  have hBgg : B g := HBB.out g (HSC.out.ll.outB g rfl)
  have HFD : Hid (Fr w (wc.setCell ⟨g, r, none⟩ (.slice (some ⟨h, 0, none⟩) m d)) B) := Lib.hid ((Fr.of_below HBC.out).trans (Fr.set (p := ⟨g, r, none⟩) hBgg _))
  have HTD : Hid ((wc.setCell ⟨g, r, none⟩ (.slice (some ⟨h, 0, none⟩) m d)).cell? ⟨w.heap.size, 0, none⟩ = some (.int .i64 q) ∧ (wc.setCell ⟨g, r, none⟩ (.slice (some ⟨h, 0, none⟩) m d)).frozen? ⟨w.heap.size, 0, none⟩ = false ∧ w.heap.size < (wc.setCell ⟨g, r, none⟩ (.slice (some ⟨h, 0, none⟩) m d)).heap.size) :=
    Lib.hid ⟨(World.cell?_of_block (heap_setCell_other _ _ _ _ htg)).trans HTC.out, (World.frozen?_of_block (heap_setCell_other _ _ _ _ htg)).trans HTFC.out, by simpa using HTZC.out⟩
  clear hBc hst2 HTC HTFC HTZC
  simp only [flowP, flow, pickL, List.getElem?_cons_succ, List.getElem?_cons_zero]
  refine wpQuiet_nil ?_
  repeat (go_big_quiet_step (fail))
  refine wpQuiet_nil ?_
  go_wp2
  refine seg_write ?_
  refine wpQuiet_nil ?_
  refine only_done ?_
  clear hL d0 d1 d2 dz c0 f0 z0 z1 hs31 HSC HBC
  generalize wc.setCell ⟨g, r, none⟩ (.slice (some ⟨h, 0, none⟩) m d) = w3 at *
  obtain ⟨d0, d1, d2⟩ := HSD.out.cells
  have dz := HSD.out.zs
  obtain ⟨L2, hdel, hL2, hk2⟩ := run_deleteL HSD.out.mp HSD.out.ok ((r : Int), (m : Int))
  have HSE := Lib.hid (HSD.out.put hL2)
  have htm : w.heap.size ≠ mb := fun e => HB1t.out (by rw [e]; exact HSD.out.bm)
  have HFE := Lib.hid (HFD.out.trans (Fr.put (HBB.out mb HSD.out.bm) (.map (entsOf L2) c)))
  have HTE : Hid ((w3.putObj mb (.map (entsOf L2) c)).cell? ⟨w.heap.size, 0, none⟩ = some (.int .i64 q) ∧ (w3.putObj mb (.map (entsOf L2) c)).frozen? ⟨w.heap.size, 0, none⟩ = false ∧ w.heap.size < (w3.putObj mb (.map (entsOf L2) c)).heap.size) :=
    Lib.hid ⟨cell_put _ _ HTD.out.1 htm, (World.frozen?_of_block (World.putObj_heap_other htm)).trans HTD.out.2.1, by simpa using HTD.out.2.2⟩
  unfold kv at hdel
  simp only at hdel
  clear hL2 hk2 HSD HFD HTD
  go_upto_region 5 with fail
  clear hdel d0 d1 d2 dz
  generalize w3.putObj mb (.map (entsOf L2) c) = w4 at *
  obtain ⟨d0, d1, d2⟩ := HSE.out.cells
  have dz := HSE.out.zs
  have hs22 := HS22.out
  rcases Nat.eq_zero_or_pos m with h0 | h0
  · have t1 : ((m : Int) == 0) = true := by rw [beq_iff_eq]; omega
    have hll5 := (HSE.out.ll.cut (show r ≤ R.length by omega))
    rw [HONE.out (by rw [HM.out, h0])] at hll5
    have HSF := Lib.hid (SP.store hll5 HSE.out.st HSE.out.mp HSE.out.ok HSE.out.bs HSE.out.bm)
    have hts : w.heap.size ≠ sb := fun e => HB1t.out (by rw [e]; exact HSE.out.bs)
    have HFF := Lib.hid (HFE.out.trans (Fr.set (p := ⟨sb, 0, none⟩) (HBB.out sb HSE.out.bs) (.slice (some ⟨g, 0, none⟩) r cv)))
    have HTF : Hid ((w4.setCell ⟨sb, 0, none⟩ (.slice (some ⟨g, 0, none⟩) r cv)).cell? ⟨w.heap.size, 0, none⟩ = some (.int .i64 q) ∧ (w4.setCell ⟨sb, 0, none⟩ (.slice (some ⟨g, 0, none⟩) r cv)).frozen? ⟨w.heap.size, 0, none⟩ = false ∧ w.heap.size < (w4.setCell ⟨sb, 0, none⟩ (.slice (some ⟨g, 0, none⟩) r cv)).heap.size) :=
      Lib.hid ⟨(World.cell?_of_block (heap_setCell_other _ _ _ _ hts)).trans HTE.out.1, (World.frozen?_of_block (heap_setCell_other _ _ _ _ hts)).trans HTE.out.2.1, by simpa using HTE.out.2.2⟩
    have HNL : Hid (r = (dropO R r).length) := by
      obtain ⟨_, _, e⟩ := HSF.out.ll.form
      simp only [Value.slice.injEq] at e
      exact Lib.hid e.2.1
    clear hll5 HONE HMORE h0
    go_upto_region 7 with fail
    clear hs22 d0 d1 d2 dz HSE HFE HTE
    generalize w4.setCell ⟨sb, 0, none⟩ (.slice (some ⟨g, 0, none⟩) r cv) = w5 at *
    generalize (vs.set r (Value.slice (some ⟨h, 0, none⟩) m d)).take r = vs5 at *
    have HSM2 := HSM
    generalize dropO R r = D at *
    go_wp2_with fail
    go_loopw [7, 8, 9] (fun s7 _ _ wr => ∃ (i : Nat) (u : Int) (C : List (List Int)) (vs : List Value) (M : Ents) (c : Nat), i ≤ r ∧ s7 = .int .i64 ((i : Int) - 1) ∧ SP wr B1 sb mb (.slice (some ⟨g, 0, none⟩) r cv) C vs M c ∧ wr.cell? ⟨w.heap.size, 0, none⟩ = some (.int .i64 u) ∧ wr.frozen? ⟨w.heap.size, 0, none⟩ = false ∧ w.heap.size < wr.heap.size ∧ Fr w wr B ∧ upAt i C u = res ∧ UpOk i C u ∧ Sml C ∧ r = C.length) (fun s7 _ _ _ => (intOf s7 + 1).toNat)
    case atStart => exact ⟨r, q, D, vs5, L2, c, Nat.le_refl _, rfl, HSF.out, HTF.out.1, HTF.out.2.1, HTF.out.2.2, HFF.out, HRES.out, HOK.out, HSM2.out, HNL.out⟩
    case round =>
      clear HSF HTF HFF HRES HOK HSM HSM2 HNL HVE HSPW HCE HGZ HBA HTA HM HS22
      clear vs vs5 M c L2
      obtain ⟨i, u, C, vs, M, c, hi, h7, hsp, ht, htf, htz, hF, hres, hok, hsm, hnl⟩ := hrel
      have HSP := Lib.hid hsp; have HT := Lib.hid ht; have HTF := Lib.hid htf; have HTZ := Lib.hid htz; have HF := Lib.hid hF; have HRES := Lib.hid hres; have HOK := Lib.hid hok; have HSM := Lib.hid hsm; have HNL := Lib.hid hnl
      clear hsp ht htf htz hF hres hok hsm hnl
      rcases i with _ | i
      · rw [show ((0 : Nat) : Int) - 1 = -1 by rfl] at h7
        subst h7
        unfold upAt at HRES
        have hE := HRES.out
        subst hE
        have tc := HT.out; have tz := HTZ.out
        go_wp2_with fail
        go_ret
        exact ⟨rfl, (HSP.out.si).mono (fun k _ h => HBB.out k h), HF.out⟩
      · rw [show ((i + 1 : Nat) : Int) - 1 = (i : Int) by omega] at h7
        subst h7
        obtain ⟨o1, o2, o3, o4⟩ := HOK.out
        have HOK2 := Lib.hid o4
        have HRES2 := Lib.hid HRES.out
        unfold upAt at HRES2
        obtain ⟨g', c', e, he, hwg, hg', hve, hce, hfe, hrow⟩ := HSP.out.ll.get i o1
        simp only [Value.slice.injEq, Option.some.injEq, Addr.mk.injEq, and_true] at he
        obtain ⟨e3, hnn, e5⟩ := he
        subst e3
        clear e5
        obtain ⟨ae, de, rfl⟩ := owns_form hrow
        have HVE := Lib.hid hve
        have h20 := HSM.out.2 i
        have hil := insL_le (row C i) u
        have HFIND := Lib.hid (insL_any (.slice ae (row C i).length de) (row C i) w.heap.size u wr HT.out (RdI.of_owns hrow) (by omega))
        have HSS := Lib.hid (fun x hx => sml_set (x := x) HSM.out o1 hx)
        have hiC : i < r := by rw [hnn]; exact o1
        have hlC : i < C.length := o1
        have HROW := Lib.hid hrow
        clear o1 o3 o4 hnn hrow hve HOK HRES
        obtain ⟨k, hk⟩ : ∃ k, insL (row C i) u = k + 1 := ⟨insL (row C i) u - 1, by omega⟩
        rw [hk] at HRES2 HOK2 HFIND hil
        rw [Nat.add_sub_cancel] at HRES2 HOK2
        have HK := Lib.hid hk
        clear hk o2
        have hLL : ∃ l, row C i = l := ⟨_, rfl⟩
        obtain ⟨l, hl⟩ := hLL
        rw [hl] at HRES2 HOK2 HFIND hil h20 HVE hce
        have HL := Lib.hid hl
        clear hl
        have tc := HT.out; have tz := HTZ.out
        obtain ⟨d0, d1, d2⟩ := HSP.out.cells
        have dz := HSP.out.zs
        go_upto_region 12 with (refine HFIND.out.mono ?_; rintro e w2 ⟨rfl, rfl⟩)
        clear tc tz d0 d1 d2 dz hce hfe hwg
        refine wp_region_flow [] [([0, 1, 2, 3, 4, 5, 6, 7], 8, false)] [] (by kernel_rfl) (by kernel_rfl) ?_
        intro wc hBc hh
        clear hh
        have HSC := Lib.hid (HSP.out.later hBc)
        obtain ⟨d0, d1, d2⟩ := HSC.out.cells
        have dz := HSC.out.zs
        have tc := (hBc.cell (p := ⟨w.heap.size, 0, none⟩) HTZ.out).trans HT.out
        have tf := (hBc.frozen (p := ⟨w.heap.size, 0, none⟩) HTZ.out).trans HTF.out
        have tz := Nat.lt_of_lt_of_le HTZ.out hBc.size
        have HF8 := Lib.hid ((HF.out.trans (Fr.of_below hBc)))
        have hL := @Later.cell wc
        obtain ⟨L1, c1, hput, hok1, hkeys⟩ := run_putL HSC.out.mp HSC.out.ok ((i : Int), (k : Int)) u
        have hmt : w.heap.size ≠ mb := fun e => HB1t.out (by rw [e]; exact HSC.out.bm)
        have HSP8 := Lib.hid (HSC.out.put hok1)
        have HT8 := Lib.hid (cell_put mb (.map (entsOf L1) c1) tc hmt)
        have HTF8 : Hid ((wc.putObj mb (.map (entsOf L1) c1)).frozen? ⟨w.heap.size, 0, none⟩ = false) := Lib.hid ((World.frozen?_of_block (World.putObj_heap_other hmt)).trans tf)
        have HTZ8 : Hid (w.heap.size < (wc.putObj mb (.map (entsOf L1) c1)).heap.size) := Lib.hid (by simpa using tz)
        have HF9 := Lib.hid (HF8.out.trans (Fr.put (HBB.out mb HSC.out.bm) (.map (entsOf L1) c1)))
        unfold kv at hput
        simp only at hput
        clear hkeys hok1 hBc HSP HT HTF HTZ HF HF8
        simp only [flowP, flow, pickL, List.getElem?_cons_succ, List.getElem?_cons_zero]
        refine wpQuiet_nil ?_
        repeat (go_big_quiet_step (fail))
        refine wpQuiet_nil ?_
        go_wp2
        refine seg_write ?_
        refine wpQuiet_nil ?_
        refine only_done ?_
        clear hput hL d0 d1 d2 dz tc tf tz HSC
        generalize wc.putObj mb (.map (entsOf L1) c1) = w8 at *
        have hklt : k < l.length := by omega
        have HS2 := Lib.hid (HSS.out (l.set k u) (by rw [List.length_set]; exact h20))
        clear HSS
        go_upto_region 13 with fail
        refine wp_region_flow [] [([0, 1, 2, 3, 4, 5, 6, 7], 8, false), ([], 9, false)] [] (by kernel_rfl) (by kernel_rfl) ?_
        intro wd hBd hh
        clear hh
        have HSD := Lib.hid (HSP8.out.later hBd)
        have tc := (hBd.cell (p := ⟨w.heap.size, 0, none⟩) HTZ8.out).trans HT8.out
        have tf := (hBd.frozen (p := ⟨w.heap.size, 0, none⟩) HTZ8.out).trans HTF8.out
        have tz := Nat.lt_of_lt_of_le HTZ8.out hBd.size
        have hrd := HSD.out.ll.el i _ HVE.out
        rw [HL.out] at hrd
        obtain ⟨h, c2, e2, hwh, gk, fk⟩ := hrd.get k hklt
        cases e2
        have hBh : B1 h := HSD.out.ll.elB i _ HVE.out h rfl
        have hth : w.heap.size ≠ h := fun e => HB1t.out (by rw [e]; exact hBh)
        have hsi := HSD.out.setIn (k := k) (x := u) (by rw [HL.out]; exact HVE.out) (by rw [HL.out]; exact hklt)
        rw [HL.out] at hsi
        have ft : (wd.setCell ⟨h, k, none⟩ (.int .i64 u)).frozen? ⟨w.heap.size, 0, none⟩ = false := (World.frozen?_of_block (heap_setCell_other _ _ _ _ hth)).trans tf
        have ct : (wd.setCell ⟨h, k, none⟩ (.int .i64 u)).cell? ⟨w.heap.size, 0, none⟩ = some (.int .i64 u) := (World.cell?_of_block (heap_setCell_other _ _ _ _ hth)).trans tc
        have HSPE := Lib.hid (hsi.fr (C := fun k => k = w.heap.size) (Fr.set (B := fun k => k = w.heap.size) (p := ⟨w.heap.size, 0, none⟩) rfl (.int .i64 (elt l k))) (fun k _ hb e => HB1t.out (by rw [← e]; exact hb)))
        have HFE := Lib.hid (((HF9.out.trans (Fr.of_below hBd)).trans (Fr.set (p := ⟨h, k, none⟩) (HBB.out h hBh) (.int .i64 u))).trans (Fr.set (p := ⟨w.heap.size, 0, none⟩) HBT.out (.int .i64 (elt l k))))
        have HTE : Hid (((wd.setCell ⟨h, k, none⟩ (.int .i64 u)).setCell ⟨w.heap.size, 0, none⟩ (.int .i64 (elt l k))).cell? ⟨w.heap.size, 0, none⟩ = some (.int .i64 (elt l k))) := Lib.hid (World.cell?_setCell_same' _ _ _ (by rw [ct]; rfl))
        have HTFE : Hid (((wd.setCell ⟨h, k, none⟩ (.int .i64 u)).setCell ⟨w.heap.size, 0, none⟩ (.int .i64 (elt l k))).frozen? ⟨w.heap.size, 0, none⟩ = false) := Lib.hid (by rw [World.frozen?_setCell]; exact ft)
        have HTZE : Hid (w.heap.size < ((wd.setCell ⟨h, k, none⟩ (.int .i64 u)).setCell ⟨w.heap.size, 0, none⟩ (.int .i64 (elt l k))).heap.size) := Lib.hid (by simpa using tz)
        have hL := @Later.cell wd
        clear hBd hrd hsi ct
        generalize elt l k = y at *
        simp only [flowP, flow, pickL, List.getElem?_cons_succ, List.getElem?_cons_zero]
        refine wpQuiet_nil ?_
        repeat (go_big_quiet_step (fail))
        refine wpQuiet_nil ?_
        go_wp2
        refine seg_write ?_
        refine wpQuiet_nil ?_
        go_wp2
        refine seg_write ?_
        refine wpQuiet_nil ?_
        refine only_done ?_
        clear hL tc tf tz gk fk ft
        go_wp2_with fail
        go_roundw
        case rel => exact ⟨i, y, _, vs, L1, c1, by omega, rfl, HSPE.out, HTE.out, HTFE.out, HTZE.out, HFE.out, HRES2.out, HOK2.out, HS2.out, by rw [List.length_set]; exact HNL.out⟩
        case measure => simp [intOf]
  · have t1 : ((m : Int) == 0) = false := by rw [beq_eq_false_iff_ne]; omega
    have hsp5 := HSE.out
    rw [HMORE.out (by omega)] at hsp5
    have HSF := Lib.hid hsp5
    have HFF := HFE
    have HTF := HTE
    have HNL : Hid (R.length = (dropO R r).length) := by
      obtain ⟨_, _, e⟩ := HSF.out.ll.form
      simp only [Value.slice.injEq] at e
      exact Lib.hid e.2.1
    clear hsp5 HONE HMORE h0
    go_upto_region 7 with fail
    clear hs22 d0 d1 d2 dz HSE HFE HTE t1
    generalize vs.set r (Value.slice (some ⟨h, 0, none⟩) m d) = vs5 at *

    have HSM2 := HSM
    generalize dropO R r = D at *
    go_wp2_with fail
    go_loopw [7, 8, 9] (fun s7 _ _ wr => ∃ (i : Nat) (u : Int) (C : List (List Int)) (vs : List Value) (M : Ents) (c : Nat), i ≤ r ∧ s7 = .int .i64 ((i : Int) - 1) ∧ SP wr B1 sb mb (.slice (some ⟨g, 0, none⟩) R.length cv) C vs M c ∧ wr.cell? ⟨w.heap.size, 0, none⟩ = some (.int .i64 u) ∧ wr.frozen? ⟨w.heap.size, 0, none⟩ = false ∧ w.heap.size < wr.heap.size ∧ Fr w wr B ∧ upAt i C u = res ∧ UpOk i C u ∧ Sml C ∧ R.length = C.length) (fun s7 _ _ _ => (intOf s7 + 1).toNat)
    case atStart => exact ⟨r, q, D, vs5, L2, c, Nat.le_refl _, rfl, HSF.out, HTF.out.1, HTF.out.2.1, HTF.out.2.2, HFF.out, HRES.out, HOK.out, HSM2.out, HNL.out⟩
    case round =>
      clear HSF HTF HFF HRES HOK HSM HSM2 HNL HVE HSPW HCE HGZ HBA HTA HM HS22
      clear vs vs5 M c L2
      obtain ⟨i, u, C, vs, M, c, hi, h7, hsp, ht, htf, htz, hF, hres, hok, hsm, hnl⟩ := hrel
      have HSP := Lib.hid hsp; have HT := Lib.hid ht; have HTF := Lib.hid htf; have HTZ := Lib.hid htz; have HF := Lib.hid hF; have HRES := Lib.hid hres; have HOK := Lib.hid hok; have HSM := Lib.hid hsm; have HNL := Lib.hid hnl
      clear hsp ht htf htz hF hres hok hsm hnl
      rcases i with _ | i
      · rw [show ((0 : Nat) : Int) - 1 = -1 by rfl] at h7
        subst h7
        unfold upAt at HRES
        have hE := HRES.out
        subst hE
        have tc := HT.out; have tz := HTZ.out
        go_wp2_with fail
        go_ret
        exact ⟨rfl, (HSP.out.si).mono (fun k _ h => HBB.out k h), HF.out⟩
      · rw [show ((i + 1 : Nat) : Int) - 1 = (i : Int) by omega] at h7
        subst h7
        obtain ⟨o1, o2, o3, o4⟩ := HOK.out
        have HOK2 := Lib.hid o4
        have HRES2 := Lib.hid HRES.out
        unfold upAt at HRES2
        obtain ⟨g', c', e, he, hwg, hg', hve, hce, hfe, hrow⟩ := HSP.out.ll.get i o1
        simp only [Value.slice.injEq, Option.some.injEq, Addr.mk.injEq, and_true] at he
        obtain ⟨e3, hnn, e5⟩ := he
        subst e3
        clear e5
        obtain ⟨ae, de, rfl⟩ := owns_form hrow
        have HVE := Lib.hid hve
        have h20 := HSM.out.2 i
        have hil := insL_le (row C i) u
        have HFIND := Lib.hid (insL_any (.slice ae (row C i).length de) (row C i) w.heap.size u wr HT.out (RdI.of_owns hrow) (by omega))
        have HSS := Lib.hid (fun x hx => sml_set (x := x) HSM.out o1 hx)
        have hiC : i < R.length := by rw [hnn]; exact o1
        have hlC : i < C.length := o1
        have HROW := Lib.hid hrow
        clear o1 o3 o4 hnn hrow hve HOK HRES
        obtain ⟨k, hk⟩ : ∃ k, insL (row C i) u = k + 1 := ⟨insL (row C i) u - 1, by omega⟩
        rw [hk] at HRES2 HOK2 HFIND hil
        rw [Nat.add_sub_cancel] at HRES2 HOK2
        have HK := Lib.hid hk
        clear hk o2
        have hLL : ∃ l, row C i = l := ⟨_, rfl⟩
        obtain ⟨l, hl⟩ := hLL
        rw [hl] at HRES2 HOK2 HFIND hil h20 HVE hce
        have HL := Lib.hid hl
        clear hl
        have tc := HT.out; have tz := HTZ.out
        obtain ⟨d0, d1, d2⟩ := HSP.out.cells
        have dz := HSP.out.zs
        go_upto_region 12 with (refine HFIND.out.mono ?_; rintro e w2 ⟨rfl, rfl⟩)
        clear tc tz d0 d1 d2 dz hce hfe hwg
        refine wp_region_flow [] [([0, 1, 2, 3, 4, 5, 6, 7], 8, false)] [] (by kernel_rfl) (by kernel_rfl) ?_
        intro wc hBc hh
        clear hh
        have HSC := Lib.hid (HSP.out.later hBc)
        obtain ⟨d0, d1, d2⟩ := HSC.out.cells
        have dz := HSC.out.zs
        have tc := (hBc.cell (p := ⟨w.heap.size, 0, none⟩) HTZ.out).trans HT.out
        have tf := (hBc.frozen (p := ⟨w.heap.size, 0, none⟩) HTZ.out).trans HTF.out
        have tz := Nat.lt_of_lt_of_le HTZ.out hBc.size
        have HF8 := Lib.hid ((HF.out.trans (Fr.of_below hBc)))
        have hL := @Later.cell wc
        obtain ⟨L1, c1, hput, hok1, hkeys⟩ := run_putL HSC.out.mp HSC.out.ok ((i : Int), (k : Int)) u
        have hmt : w.heap.size ≠ mb := fun e => HB1t.out (by rw [e]; exact HSC.out.bm)
        have HSP8 := Lib.hid (HSC.out.put hok1)
        have HT8 := Lib.hid (cell_put mb (.map (entsOf L1) c1) tc hmt)
        have HTF8 : Hid ((wc.putObj mb (.map (entsOf L1) c1)).frozen? ⟨w.heap.size, 0, none⟩ = false) := Lib.hid ((World.frozen?_of_block (World.putObj_heap_other hmt)).trans tf)
        have HTZ8 : Hid (w.heap.size < (wc.putObj mb (.map (entsOf L1) c1)).heap.size) := Lib.hid (by simpa using tz)
        have HF9 := Lib.hid (HF8.out.trans (Fr.put (HBB.out mb HSC.out.bm) (.map (entsOf L1) c1)))
        unfold kv at hput
        simp only at hput
        clear hkeys hok1 hBc HSP HT HTF HTZ HF HF8
        simp only [flowP, flow, pickL, List.getElem?_cons_succ, List.getElem?_cons_zero]
        refine wpQuiet_nil ?_
        repeat (go_big_quiet_step (fail))
        refine wpQuiet_nil ?_
        go_wp2
        refine seg_write ?_
        refine wpQuiet_nil ?_
        refine only_done ?_
        clear hput hL d0 d1 d2 dz tc tf tz HSC
        generalize wc.putObj mb (.map (entsOf L1) c1) = w8 at *
        have hklt : k < l.length := by omega
        have HS2 := Lib.hid (HSS.out (l.set k u) (by rw [List.length_set]; exact h20))
        clear HSS
        go_upto_region 13 with fail
        refine wp_region_flow [] [([0, 1, 2, 3, 4, 5, 6, 7], 8, false), ([], 9, false)] [] (by kernel_rfl) (by kernel_rfl) ?_
        intro wd hBd hh
        clear hh
        have HSD := Lib.hid (HSP8.out.later hBd)
        have tc := (hBd.cell (p := ⟨w.heap.size, 0, none⟩) HTZ8.out).trans HT8.out
        have tf := (hBd.frozen (p := ⟨w.heap.size, 0, none⟩) HTZ8.out).trans HTF8.out
        have tz := Nat.lt_of_lt_of_le HTZ8.out hBd.size
        have hrd := HSD.out.ll.el i _ HVE.out
        rw [HL.out] at hrd
        obtain ⟨h, c2, e2, hwh, gk, fk⟩ := hrd.get k hklt
        cases e2
        have hBh : B1 h := HSD.out.ll.elB i _ HVE.out h rfl
        have hth : w.heap.size ≠ h := fun e => HB1t.out (by rw [e]; exact hBh)
        have hsi := HSD.out.setIn (k := k) (x := u) (by rw [HL.out]; exact HVE.out) (by rw [HL.out]; exact hklt)
        rw [HL.out] at hsi
        have ft : (wd.setCell ⟨h, k, none⟩ (.int .i64 u)).frozen? ⟨w.heap.size, 0, none⟩ = false := (World.frozen?_of_block (heap_setCell_other _ _ _ _ hth)).trans tf
        have ct : (wd.setCell ⟨h, k, none⟩ (.int .i64 u)).cell? ⟨w.heap.size, 0, none⟩ = some (.int .i64 u) := (World.cell?_of_block (heap_setCell_other _ _ _ _ hth)).trans tc
        have HSPE := Lib.hid (hsi.fr (C := fun k => k = w.heap.size) (Fr.set (B := fun k => k = w.heap.size) (p := ⟨w.heap.size, 0, none⟩) rfl (.int .i64 (elt l k))) (fun k _ hb e => HB1t.out (by rw [← e]; exact hb)))
        have HFE := Lib.hid (((HF9.out.trans (Fr.of_below hBd)).trans (Fr.set (p := ⟨h, k, none⟩) (HBB.out h hBh) (.int .i64 u))).trans (Fr.set (p := ⟨w.heap.size, 0, none⟩) HBT.out (.int .i64 (elt l k))))
        have HTE : Hid (((wd.setCell ⟨h, k, none⟩ (.int .i64 u)).setCell ⟨w.heap.size, 0, none⟩ (.int .i64 (elt l k))).cell? ⟨w.heap.size, 0, none⟩ = some (.int .i64 (elt l k))) := Lib.hid (World.cell?_setCell_same' _ _ _ (by rw [ct]; rfl))
        have HTFE : Hid (((wd.setCell ⟨h, k, none⟩ (.int .i64 u)).setCell ⟨w.heap.size, 0, none⟩ (.int .i64 (elt l k))).frozen? ⟨w.heap.size, 0, none⟩ = false) := Lib.hid (by rw [World.frozen?_setCell]; exact ft)
        have HTZE : Hid (w.heap.size < ((wd.setCell ⟨h, k, none⟩ (.int .i64 u)).setCell ⟨w.heap.size, 0, none⟩ (.int .i64 (elt l k))).heap.size) := Lib.hid (by simpa using tz)
        have hL := @Later.cell wd
        clear hBd hrd hsi ct
        generalize elt l k = y at *
        simp only [flowP, flow, pickL, List.getElem?_cons_succ, List.getElem?_cons_zero]
        refine wpQuiet_nil ?_
        repeat (go_big_quiet_step (fail))
        refine wpQuiet_nil ?_
        go_wp2
        refine seg_write ?_
        refine wpQuiet_nil ?_
        go_wp2
        refine seg_write ?_
        refine wpQuiet_nil ?_
        refine only_done ?_
        clear hL tc tf tz gk fk ft
        go_wp2_with fail
        go_roundw
        case rel => exact ⟨i, y, _, vs, L1, c1, by omega, rfl, HSPE.out, HTE.out, HTFE.out, HTZE.out, HFE.out, HRES2.out, HOK2.out, HS2.out, by rw [List.length_set]; exact HNL.out⟩
        case measure => simp [intOf]
end Go.Proofs.Ytnnfahdhmodejaa

namespace Go.Proofs.Ytnnfahdhmodejaa
open Go.RowKit Go.Shelf

def rowPl (i k : Nat) : List (Int × Int) := (List.range k).map fun (q : Nat) => ((i : Int), (q : Int))
def placesTo (R : List (List Int)) (i : Nat) : List (Int × Int) := (List.range i).flatMap fun p => rowPl p (row R p).length
theorem rowPl_succ (i k : Nat) : rowPl i (k + 1) = rowPl i k ++ [((i : Int), (k : Int))] := by unfold rowPl; rw [List.range_succ, List.map_append]; rfl
theorem placesTo_succ (R : List (List Int)) (i : Nat) : placesTo R (i + 1) = placesTo R i ++ rowPl i (row R i).length := by
  unfold placesTo; rw [List.range_succ, List.flatMap_append]; simp
theorem rowPl_pre (i : Nat) {k n : Nat} (h : k ≤ n) : rowPl i k <+: rowPl i n := by
  obtain ⟨d, rfl⟩ := Nat.exists_eq_add_of_le h
  induction d with
  | zero => exact List.prefix_refl _
  | succ d ih => exact (ih (by omega)).trans (by rw [← Nat.add_assoc, rowPl_succ]; exact List.prefix_append _ _)
theorem placesTo_pre (R : List (List Int)) {i n : Nat} (h : i ≤ n) : placesTo R i <+: placesTo R n := by
  obtain ⟨d, rfl⟩ := Nat.exists_eq_add_of_le h
  induction d with
  | zero => exact List.prefix_refl _
  | succ d ih => exact (ih (by omega)).trans (by rw [← Nat.add_assoc, placesTo_succ]; exact List.prefix_append _ _)
theorem pl_pre (R : List (List Int)) {i n k : Nat} (h : i < n) (hk : k ≤ (row R i).length) : placesTo R i ++ rowPl i k <+: placesTo R n := by
  have h1 : placesTo R i ++ rowPl i k <+: placesTo R (i + 1) := by
    rw [placesTo_succ]
    obtain ⟨t, ht⟩ := rowPl_pre i hk
    exact ⟨t, by rw [List.append_assoc, ht]⟩
  exact h1.trans (placesTo_pre R h)
theorem mem_places {R : List (List Int)} {n : Nat} {x : Int × Int} : x ∈ placesTo R n ↔ ∃ p q : Nat, p < n ∧ q < (row R p).length ∧ x = ((p : Int), (q : Int)) := by
  unfold placesTo rowPl
  simp only [List.mem_flatMap, List.mem_range, List.mem_map]
  constructor
  · rintro ⟨p, hp, q, hq, rfl⟩; exact ⟨p, q, hp, hq, rfl⟩
  · rintro ⟨p, q, hp, hq, rfl⟩; exact ⟨p, hp, q, hq, rfl⟩
set_option maxRecDepth 100000 in
set_option maxHeartbeats 400000 in
theorem places_any (v : Value) (w : World) (a : Option Addr) (n c : Nat) (hv : v = .slice a n c) :
    Calls Try.prog 96 #[.agg #[v]] w fun e w' => e = .returned (.func (.func 105) #[] #[.pointer (some ⟨w.heap.size, 0, none⟩)]) ∧ w.alloc (.cells #[v] 83) = w' := by
  subst hv
  go_enter Try.func96, Try.ntmps96
  go_wp2
  go_ret
  exact ⟨rfl, rfl⟩
set_option maxRecDepth 100000 in
set_option maxHeartbeats 4000000 in
theorem places_yields (n : Nat) (cb : Nat) (v : Value) (R : List (List Int)) (hs : Sml R) :
    Yields n Try.prog 105 #[.pointer (some ⟨cb, 0, none⟩)] (fun x => #[kv x]) 0 (fun w => w.cell? ⟨cb, 0, none⟩ = some v ∧ RdLL w v R) (placesTo R R.length) := by
  intro l J Jx w hJ hJx hR hY h0
  obtain ⟨r1, r2⟩ := hR _ _ h0
  obtain ⟨a, ca, rfl⟩ := r2.sl
  have hzc := World.block_lt_of_cell? w _ r1
  obtain ⟨h20, h21⟩ := hs
  have H21 := Lib.hid h21
  clear r2 h21
  refine callsIn_of_wp Try.func105 rfl trivial ?_ rfl
  simp only [Try.ntmps105, List.size_toArray, List.length_cons, List.length_nil, Nat.reduceAdd, Nat.reduceSub, Array.replicate_succ, Array.replicate_zero, List.push_toArray, List.append_toArray, List.nil_append, List.cons_append]
  gi_wp2
  gi_loopw [3, 4, 5, 9, 16] (fun _ _ _ bv _ wr => ∃ b : Nat, b ≤ R.length ∧ bv = .int .i64 b ∧ J (placesTo R b) wr ∧ w.heap.size ≤ wr.heap.size) (fun _ _ _ bv _ _ => R.length - (intOf bv).toNat)
  case atStart => exact ⟨0, Nat.zero_le _, rfl, h0, Nat.le_refl _⟩
  case round =>
    obtain ⟨b, hb, rfl, hj, hs⟩ := hrel
    have HJ := Lib.hid hj; clear hj
    by_cases hlt : b < R.length
    · obtain ⟨q1, q2⟩ := hR _ _ HJ.out
      obtain ⟨bb, off, a', c', rfl, hbb, hc, hr⟩ := q2.get b hlt
      have h1 := H21.out b
      clear q2 hr q1
      gi_wp2
      gi_loopw [5, 16] (fun _ iv wr => ∃ i : Nat, i ≤ (row R b).length ∧ iv = .int .i64 i ∧ J (placesTo R b ++ rowPl b i) wr ∧ w.heap.size ≤ wr.heap.size) (fun _ iv _ => (row R b).length - (intOf iv).toNat)
      case atStart => exact ⟨0, Nat.zero_le _, rfl, by rw [show rowPl b 0 = [] from rfl, List.append_nil]; exact HJ.out, hs⟩
      case round =>
        clear HJ hs hbb hc
        obtain ⟨i, hi, rfl, hj, hs'⟩ := hrel
        have HJ := Lib.hid hj; clear hj
        by_cases hli : i < (row R b).length
        · have HPRE := Lib.hid (pl_pre R (n := R.length) hlt (show i + 1 ≤ (row R b).length by omega))
          rename World => wi
          obtain ⟨fn, tmps, assign, body, hy, hR2⟩ := hY _ ((b : Int), (i : Int)) _ HJ.out (by have := HPRE.out; rw [rowPl_succ, ← List.append_assoc] at this; exact this) (by omega)
          rw [show placesTo R b ++ rowPl b i ++ [((b : Int), (i : Int))] = placesTo R b ++ rowPl b (i + 1) by rw [rowPl_succ, List.append_assoc]] at hR2
          unfold kv at hy
          simp only at hy
          gi_wp2
          refine ⟨fun h => by simp [Fence.wide] at h, ?_⟩
          refine hR2.mono ?_
          rintro e W3 (⟨rfl, hJ3, hs3, _⟩ | ⟨rfl, hJx3⟩)
          · have HJ3 := Lib.hid hJ3; clear hJ3
            gi_wp2
            exact ⟨⟨i + 1, by omega, by go_num, HJ3.out, by omega⟩, by simp [intOf]; omega⟩
          · have HJ3 := Lib.hid hJx3; clear hJx3
            gi_wp2
            refine bodyPost_ret (results_none rfl _ _ _) rfl ?_
            exact ⟨⟨_, rfl⟩, .inr ⟨_, HPRE.out, HJ3.out⟩⟩
        · have hib : i = (row R b).length := by omega
          have HJ2 := Lib.hid (show J (placesTo R (b + 1)) wr by rw [placesTo_succ]; rw [hib] at HJ; exact HJ.out)
          gi_wp2
          exact ⟨⟨b + 1, by omega, by go_num, HJ2.out, by omega⟩, by simp [intOf]; omega⟩
    · have hbn : b = R.length := by omega
      subst hbn
      gi_wp2
      exact bodyPost_end (results_none rfl _ _ _) rfl ⟨⟨_, rfl⟩, .inl HJ.out⟩
end Go.Proofs.Ytnnfahdhmodejaa

namespace Go.Proofs.Ytnnfahdhmodejaa
open Go.RowKit Go.Shelf
attribute [local go_sem] Oper.semAt_some

theorem look_yes {R : List (List Int)} {M : Ents} (h : MapR R M) {p q : Nat} (hq : q < (row R p).length) : ((findL ((p : Int), (q : Int)) M 0).map (·.2)).getD (.int .i64 0) = .int .i64 (num R p q) ∧ (findL ((p : Int), (q : Int)) M 0).isSome = true := by
  cases hf : findL ((p : Int), (q : Int)) M 0 with
  | none =>
    exfalso
    obtain ⟨t, ht⟩ := (h ((p : Int), (q : Int)) (num R p q)).2 ⟨p, q, hq, rfl, rfl⟩
    exact findL_none hf (List.mem_map.2 ⟨_, ht, rfl⟩)
  | some y =>
    obtain ⟨j, v⟩ := y
    obtain ⟨k, e, _, he, hea, hv⟩ := findL_some hf
    obtain ⟨x, m, t⟩ := e
    simp only at hea hv
    subst hea
    obtain ⟨p', q', h1, h2, h3⟩ := (h _ m).1 ⟨t, List.mem_of_getElem? he⟩
    simp only [Prod.mk.injEq] at h2
    have e1 : p' = p := by omega
    have e2 : q' = q := by omega
    subst e1; subst e2
    refine ⟨?_, rfl⟩
    simp [hv, h3]
theorem look_no {R : List (List Int)} {M : Ents} (h : MapR R M) {x : Int × Int} (hx : x.1 < 0 ∨ x.2 < 0) : findL x M 0 = none := by
  cases hf : findL x M 0 with
  | none => rfl
  | some y =>
    exfalso
    obtain ⟨j, v⟩ := y
    obtain ⟨k, e, _, he, hea, hv⟩ := findL_some hf
    obtain ⟨x', m, t⟩ := e
    simp only at hea
    subst hea
    obtain ⟨p', q', h1, h2, h3⟩ := (h _ m).1 ⟨t, List.mem_of_getElem? he⟩
    rw [h2] at hx
    simp only at hx
    omega
theorem run_lookupN {W : World} {b : Nat} {L : Ents} {c : Nat} (hb : W.heap[b]? = some (.map (entsOf L) c)) (a : Int × Int) :
    (Instr.lookup 84 (.map (some b)) (kv a) false).run Try.prog W = .ok (((findL a L 0).map (·.2)).getD (.int .i64 0)) W := by
  have hf := run_findKey W a L
  have hz : (zeroValue 2).run Try.prog W = .ok (.int .i64 0) W := by kernel_rfl
  cases hr : findL a L 0 with
  | none =>
    rw [hr] at hf
    simp [Instr.lookup, Sem.run_bind, run_underlying Try.underlying84, Result.andThen_ok, run_getMap hb, checkStruct W _ a, hf]
  | some q =>
    rw [hr] at hf
    simp [Instr.lookup, Sem.run_bind, run_underlying Try.underlying84, Result.andThen_ok, run_getMap hb, checkStruct W _ a, hf]
theorem lookA {R : List (List Int)} {M : Ents} (h : MapR R M) (hbd : Bd R) {p q : Nat} (hq : q < (row R p).length) : ∃ (l1 : Int) (b1 : Bool), ((findL ((p : Int), (q : Int) - 1) M 0).map (·.2)).getD (.int .i64 0) = .int .i64 l1 ∧ (findL ((p : Int), (q : Int) - 1) M 0).isSome = b1 ∧ 0 ≤ l1 ∧ l1 ≤ 1000 ∧ (b1 = true ↔ 0 < q) ∧ (0 < q → l1 = num R p (q - 1)) := by
  rcases Nat.eq_zero_or_pos q with h0 | h0
  · have := look_no h (x := ((p : Int), (q : Int) - 1)) (.inr (by simp only; omega))
    exact ⟨0, false, by rw [this]; rfl, by rw [this]; rfl, by omega, by omega, by simp; omega, by omega⟩
  · obtain ⟨j, rfl⟩ : ∃ j, q = j + 1 := ⟨q - 1, by omega⟩
    obtain ⟨h1, h2⟩ := look_yes h (p := p) (q := j) (by omega)
    have hb := hbd p j (by omega)
    rw [show ((j + 1 : Nat) : Int) - 1 = (j : Int) by omega]
    exact ⟨_, true, h1, h2, hb.1, hb.2, by simp, fun _ => by rw [Nat.add_sub_cancel]⟩
theorem lookB {R : List (List Int)} {M : Ents} (h : MapR R M) (hbd : Bd R) (hsh : ShTo R R.length) {p q : Nat} (hp : p < R.length) (hq : q < (row R p).length) : ∃ (l1 : Int) (b1 : Bool), ((findL ((p : Int) - 1, (q : Int)) M 0).map (·.2)).getD (.int .i64 0) = .int .i64 l1 ∧ (findL ((p : Int) - 1, (q : Int)) M 0).isSome = b1 ∧ 0 ≤ l1 ∧ l1 ≤ 1000 ∧ (b1 = true ↔ 0 < p) ∧ (0 < p → l1 = num R (p - 1) q) := by
  rcases Nat.eq_zero_or_pos p with h0 | h0
  · have := look_no h (x := ((p : Int) - 1, (q : Int))) (.inl (by simp only; omega))
    exact ⟨0, false, by rw [this]; rfl, by rw [this]; rfl, by omega, by omega, by simp; omega, by omega⟩
  · obtain ⟨j, rfl⟩ : ∃ j, p = j + 1 := ⟨p - 1, by omega⟩
    have hl := (hsh (j + 1) hp).2 (by omega)
    rw [Nat.add_sub_cancel] at hl
    obtain ⟨h1, h2⟩ := look_yes h (p := j) (q := q) (by omega)
    have hb := hbd j q (by omega)
    rw [show ((j + 1 : Nat) : Int) - 1 = (j : Int) by omega]
    exact ⟨_, true, h1, h2, hb.1, hb.2, by simp, fun _ => by rw [Nat.add_sub_cancel]⟩
set_option maxRecDepth 100000 in
set_option maxHeartbeats 8000000 in
theorem rises_any (sb : Nat) (R : List (List Int)) (by' : Int) (w : World) (B : Nat → Prop) (hwh : Whole w B sb R) (hs : Sml R) (hbd : Bd R) (hb1 : 0 ≤ by') (hb2 : by' ≤ 1) :
    Calls Try.prog 62 #[.pointer (some ⟨sb, 0, none⟩), .int .i64 by'] w fun e w' => e = .returned (.bool (shapedB R && incB R by')) ∧ Below w.heap.size w w' := by
  obtain ⟨mb, v, vs, M, c, hsp, hmr⟩ := hwh
  obtain ⟨av, cv, rfl⟩ := hsp.ll.form
  have HSP := Lib.hid hsp; have HMR := Lib.hid hmr
  have r20 := hs.1
  have HS2 := Lib.hid hs.2
  have HBD := Lib.hid hbd
  have HSB := Lib.hid (shapedB_iff R)
  have HIB := Lib.hid (incB_iff R by')
  clear hsp hmr hbd
  generalize shapedB R = sbv at *
  generalize incB R by' = ibv at *
  have HSM := Lib.hid hs
  clear hs
  refine callsIn_wide (n := 10).1 ?_
  refine callsIn_of_wp_marks Try.func62 rfl trivial ?_ rfl
  simp only [Try.ntmps62, List.size_toArray, List.length_cons, List.length_nil, Nat.reduceAdd, Nat.reduceSub, Array.replicate_succ, Array.replicate_zero, List.push_toArray, List.append_toArray, List.nil_append, List.cons_append]
  have HBA := Lib.hid (bal (bal (bal (bz w) (Obj.cells #[.pointer (some ⟨sb, 0, none⟩)] 73)) (Obj.cells #[.int .i64 by'] 3)) (Obj.cells #[.bool false] 4))
  have c0 : (((w.alloc (Obj.cells #[.pointer (some ⟨sb, 0, none⟩)] 73)).alloc (Obj.cells #[.int .i64 by'] 3)).alloc (Obj.cells #[.bool false] 4)).cell? ⟨w.heap.size, 0, none⟩ = some (.pointer (some ⟨sb, 0, none⟩)) := cal _ (cal _ (cnew rfl rfl))
  have c1 : (((w.alloc (Obj.cells #[.pointer (some ⟨sb, 0, none⟩)] 73)).alloc (Obj.cells #[.int .i64 by'] 3)).alloc (Obj.cells #[.bool false] 4)).cell? ⟨w.heap.size + 1, 0, none⟩ = some (.int .i64 by') := cal _ (cnew (by simp) rfl)
  have c2 : (((w.alloc (Obj.cells #[.pointer (some ⟨sb, 0, none⟩)] 73)).alloc (Obj.cells #[.int .i64 by'] 3)).alloc (Obj.cells #[.bool false] 4)).cell? ⟨w.heap.size + 2, 0, none⟩ = some (.bool false) := cnew (by simp) rfl
  have f2 : (((w.alloc (Obj.cells #[.pointer (some ⟨sb, 0, none⟩)] 73)).alloc (Obj.cells #[.int .i64 by'] 3)).alloc (Obj.cells #[.bool false] 4)).frozen? ⟨w.heap.size + 2, 0, none⟩ = false := fnew (by simp)
  have HC0 := Lib.hid c0; have HC1 := Lib.hid c1; have HC2 := Lib.hid c2; have HF2 := Lib.hid f2
  have HZ3 : Hid (w.heap.size + 3 = (((w.alloc (Obj.cells #[.pointer (some ⟨sb, 0, none⟩)] 73)).alloc (Obj.cells #[.int .i64 by'] 3)).alloc (Obj.cells #[.bool false] 4)).heap.size) := Lib.hid (by simp)
  have HSP3 := Lib.hid (HSP.out.later (bal (bal (bal (bz w) (Obj.cells #[.pointer (some ⟨sb, 0, none⟩)] 73)) (Obj.cells #[.int .i64 by'] 3)) (Obj.cells #[.bool false] 4)))
  obtain ⟨d0, d1, d2⟩ := HSP3.out.cells
  have dz := HSP3.out.zs
  clear f2 c1 c2
  gi_wp2_with fail
  generalize ((w.alloc (Obj.cells #[.pointer (some ⟨sb, 0, none⟩)] 73)).alloc (Obj.cells #[.int .i64 by'] 3)).alloc (Obj.cells #[.bool false] 4) = w3 at *
  have hz3 := HZ3.out
  have hc2' : w3.cell? ⟨w.heap.size + 1 + 1, 0, none⟩ = some (.bool false) := HC2.out
  have hf2' : w3.frozen? ⟨w.heap.size + 1 + 1, 0, none⟩ = false := HF2.out
  gi_loopw [5, 6, 19] (fun _ _ s19 wr => ∃ k : Nat, k ≤ R.length ∧ s19 = .int .i64 k ∧ ShTo R k ∧ w3 = wr) (fun _ _ s19 _ => R.length - (intOf s19).toNat)
  case atStart => exact ⟨0, Nat.zero_le _, rfl, shTo_zero R, rfl⟩
  case round =>
    obtain ⟨k, hk, rfl, ht, rfl⟩ := hrel
    have HT := Lib.hid ht; clear ht
    by_cases hlt : k < R.length
    · obtain ⟨g, c', e, he, hwg, hBg, hve, hce, hfe, hrow⟩ := HSP3.out.ll.get k hlt
      cases he
      obtain ⟨ae, de, rfl⟩ := owns_form hrow
      have n1 := HS2.out k
      have HNO := Lib.hid (fun hn : ¬ ((row R k).length ≠ 0 ∧ (0 < k → (row R k).length ≤ (row R (k - 1)).length)) => (show false = (sbv && ibv) from by
        cases hsb : sbv with
        | false => rfl
        | true => exact absurd (HSB.out.1 hsb k hlt) hn))
      have HYES := Lib.hid (fun h1 h2 => shTo_succ HT.out h1 h2)
      clear hve hrow hfe
      by_cases e0 : (row R k).length = 0
      · have HN2 := Lib.hid (HNO.out (fun h => h.1 e0))
        rw [e0] at hce
        clear e0 HNO HYES
        gi_wp2
        all_goals first | (rename_i h _; simp [undef] at h; done) | skip
        have cX : (w3.setCell ⟨w.heap.size + 1 + 1, 0, none⟩ (.bool false)).cell? ⟨w.heap.size + 1 + 1, 0, none⟩ = some (.bool false) := World.cell?_setCell_same' _ _ _ (by rw [hc2']; rfl)
        have bX := bset HBA.out (p := ⟨w.heap.size + 1 + 1, 0, none⟩) (by simp; omega) (.bool false)
        generalize w3.setCell ⟨w.heap.size + 1 + 1, 0, none⟩ (.bool false) = X at *
        exact ⟨.bool false, results_cell rfl rfl (by go_simp), by rw [← HN2.out], bX⟩
      · have t0 : (((row R k).length : Int) == 0) = false := by rw [beq_eq_false_iff_ne]; omega
        have t0' : ¬ ((row R k).length : Int) = 0 := by omega
        have t0'' : ((row R k).length == 0) = false := by rw [beq_eq_false_iff_ne]; exact e0
        rcases Nat.eq_zero_or_pos k with ek | ek
        · have HY2 := Lib.hid (HYES.out e0 (by omega))
          subst ek
          clear HNO HYES
          generalize (row R 0).length = n at *
          gi_wp2
          all_goals first | (rename_i h _; simp [undef] at h; done) | skip
          exact ⟨⟨1, by omega, rfl, HY2.out, trivial⟩, by simp [intOf]; omega⟩
        · obtain ⟨j, rfl⟩ : ∃ j, k = j + 1 := ⟨k - 1, by omega⟩
          obtain ⟨g2, c2, e2, he2, _, _, hve2, hce2, _, hrow2⟩ := HSP3.out.ll.get j (by omega)
          cases he2
          obtain ⟨ae2, de2, rfl⟩ := owns_form hrow2
          have n2 := HS2.out j
          have t1 : decide ((0:Int) < (j : Int) + 1) = true := by rw [decide_eq_true_eq]; omega
          have t2 : decide (0 < j + 1) = true := by simp
          clear hve2 hrow2 ek
          rw [show j + 1 - 1 = j by omega] at HNO HYES
          by_cases hle : (row R (j + 1)).length ≤ (row R j).length
          · have t3 : decide ((row R j).length < (row R (j + 1)).length) = false := by rw [decide_eq_false_iff_not]; omega
            have t4 : ¬ ((row R j).length : Int) < ((row R (j + 1)).length : Int) := by omega
            have HY2 := Lib.hid (HYES.out e0 (fun _ => hle))
            clear HNO HYES hle
            generalize (row R (j + 1)).length = n at *
            generalize (row R j).length = m at *
            gi_wp2
            all_goals first | (rename_i h _; simp [undef] at h; done) | skip
            exact ⟨⟨j + 1 + 1, by omega, by go_num, HY2.out, trivial⟩, by simp [intOf]; omega⟩
          · have t3 : decide ((row R j).length < (row R (j + 1)).length) = true := by rw [decide_eq_true_eq]; omega
            have t4 : ((row R j).length : Int) < ((row R (j + 1)).length : Int) := by omega
            have HN2 := Lib.hid (HNO.out (fun h => hle (h.2 (by omega))))
            clear HNO HYES hle
            generalize (row R (j + 1)).length = n at *
            generalize (row R j).length = m at *
            gi_wp2
            all_goals first | (rename_i h _; simp [undef] at h; done) | skip
            have cX : (w3.setCell ⟨w.heap.size + 1 + 1, 0, none⟩ (.bool false)).cell? ⟨w.heap.size + 1 + 1, 0, none⟩ = some (.bool false) := World.cell?_setCell_same' _ _ _ (by rw [hc2']; rfl)
            have bX := bset HBA.out (p := ⟨w.heap.size + 1 + 1, 0, none⟩) (by simp; omega) (.bool false)
            generalize w3.setCell ⟨w.heap.size + 1 + 1, 0, none⟩ (.bool false) = X at *
            exact ⟨.bool false, results_cell rfl rfl (by go_simp), by rw [← HN2.out], bX⟩
    · have hke : k = R.length := by omega
      have hsbt : sbv = true := HSB.out.2 (by rw [← hke]; exact HT.out)
      subst hsbt
      have hsh : ShTo R R.length := HSB.out.1 rfl
      clear HSB HT
      have HSH := Lib.hid hsh
      clear hsh
      gi_wp2_with fail
      refine ⟨trivial, callsIn_wide.2 ((places_any _ _ _ _ _ rfl).mono ?_)⟩
      rintro e w4 ⟨rfl, hw4⟩
      have hB4 : Below w3.heap.size w3 w4 := by rw [← hw4]; exact bal (bz w3) _
      have hcb : w4.cell? ⟨w3.heap.size, 0, none⟩ = some (.slice av R.length cv) := by rw [← hw4]; exact cnew rfl rfl
      have hsz4 : w3.heap.size + 1 = w4.heap.size := by rw [← hw4]; simp
      have HSP4 := Lib.hid (HSP3.out.later hB4)
      have HB4 := Lib.hid (btr HBA.out hB4)
      have HCB := Lib.hid hcb
      have e0 := (hB4.cell (p := ⟨w.heap.size, 0, none⟩) (by simp only; omega)).trans HC0.out
      have e1 := (hB4.cell (p := ⟨w.heap.size + 1, 0, none⟩) (by simp only; omega)).trans HC1.out
      have e2 := (hB4.cell (p := ⟨w.heap.size + 1 + 1, 0, none⟩) (by simp only; omega)).trans hc2'
      have e3 := (hB4.frozen (p := ⟨w.heap.size + 1 + 1, 0, none⟩) (by simp only; omega)).trans hf2'
      have HE0 := Lib.hid e0; have HE1 := Lib.hid e1; have HE2 := Lib.hid e2; have HE3 := Lib.hid e3
      have hbw := HB4.out.size
      clear hw4 hB4 e0 e1 e2 e3 hcb d0 d1 d2 dz c0 hc2' hf2' HSP3 HBA HC0 HC1 HC2 HF2
      gi_wp2
      refine range_law (gf := 105) (lb := #[.pointer (some ⟨w3.heap.size, 0, none⟩)]) rfl (enters_of Try.func105 (by kernel_rfl) rfl) (places_yields _ w3.heap.size (.slice av R.length cv) R HSM.out) (fun _ => rfl)
        (fun pre X => Below w4.heap.size w4 X ∧ ∀ x ∈ pre, ∀ p q : Nat, x = ((p : Int), (q : Int)) → OkAt R by' p q)
        (fun c pre X => c = .ret ∧ ibv = false ∧ Below w.heap.size w X ∧ X.cell? ⟨w.heap.size + 1 + 1, 0, none⟩ = some (.bool false))
        (fun s => (abides_below (Nat.le_refl _) (Nat.le_refl _)).and abides_pure)
        (fun c s => abides_pure.and (abides_pure.and ((abides_below (by omega) (by omega)).and (abides_cell (by simp only; omega)))))
        (fun s X h => ⟨(h.1.cell (p := ⟨w3.heap.size, 0, none⟩) (by simp only; omega)).trans HCB.out, HSP4.out.ll.rd.mono h.1⟩)
        ⟨bz _, by simp⟩ ?round ?done ?stop
      case round =>
        rintro l pre ⟨p0, p1⟩ X ⟨hB, hpre⟩ hpx hszX
        obtain ⟨p, q, hp, hq, hpq⟩ : ∃ p q : Nat, p < R.length ∧ q < (row R p).length ∧ (p0, p1) = ((p : Int), (q : Int)) := by
          obtain ⟨ys, e⟩ := hpx
          have : (p0, p1) ∈ placesTo R R.length := by rw [← e]; simp
          exact mem_places.1 this
        simp only [Prod.mk.injEq] at hpq
        obtain ⟨rfl, rfl⟩ := hpq
        have HPRE := Lib.hid hpre
        have hq20 := HS2.out p
        obtain ⟨l1, b1, la, lb, lc, ld, le, lf⟩ := lookA HMR.out HBD.out hq
        obtain ⟨l2, b2, ma, mb', mc, md, me, mf⟩ := lookB HMR.out HBD.out HSH.out hp hq
        obtain ⟨na, nb⟩ := look_yes HMR.out hq
        have hnb := HBD.out p q hq
        have HOKY : Hid (¬ (b1 = true ∧ num R p q < l1 + by') → ¬ (b2 = true ∧ num R p q ≤ l2) → OkAt R by' p q) := Lib.hid (fun h1 h2 => ⟨fun h0 => by
            have := lf h0; have := le.2 h0
            rw [← lf h0]
            refine Classical.byContradiction fun h3 => h1 ⟨le.2 h0, by omega⟩, fun h0 => by
            rw [← mf h0]
            refine Classical.byContradiction fun h3 => h2 ⟨me.2 h0, by omega⟩⟩)
        have HOKN : Hid ((b1 = true ∧ num R p q < l1 + by') ∨ (b2 = true ∧ num R p q ≤ l2) → false = ibv) := Lib.hid (fun h => by
          cases hib : ibv with
          | false => rfl
          | true =>
            exfalso
            obtain ⟨o1, o2⟩ := HIB.out.1 hib p hp q hq
            rcases h with ⟨h1, h2⟩ | ⟨h1, h2⟩
            · have := o1 (le.1 h1); rw [← lf (le.1 h1)] at this; omega
            · have := o2 (me.1 h1); rw [← mf (me.1 h1)] at this; omega)
        have HLA := Lib.hid la; have HLB := Lib.hid lb; have HMA := Lib.hid ma; have HMB := Lib.hid mb'; have HNA := Lib.hid na
        have HXB := Lib.hid hB
        clear hpre hpx la lb ma mb' na nb le lf me mf hB
        generalize num R p q = nn at *
        unfold kv
        gi_wp2
        refine ⟨(KF.refl _ _).alloc _, fun W2 hg2 hs2 => ?_⟩
        have hpb : W2.heap[X.heap.size]? = some (.cells #[Value.int .i64 (p : Int), Value.int .i64 (q : Int)] 103 (0, 0)) := (hg2.block _ (by simp) (fun e => by have := Option.some.inj e; omega)).trans (heap_alloc_new _ _)
        have hxs : X.heap.size < W2.heap.size := by rw [hs2]; simp
        have HPB2 := Lib.hid hpb
        have HB2 := Lib.hid (bgr (bal HXB.out (Obj.cells #[Value.int .i64 (p : Int), Value.int .i64 (q : Int)] 103)) hg2 (fun k e => by have := Option.some.inj e; omega))
        have q0 : W2.cell? ⟨X.heap.size, 0, none⟩ = some (.int .i64 p) := by rw [cell_of_row _ _ _ _ _ _ HPB2.out]; rfl
        have q1 : W2.cell? ⟨X.heap.size, 1, none⟩ = some (.int .i64 q) := by rw [cell_of_row _ _ _ _ _ _ HPB2.out]; rfl
        have HSP2' := Lib.hid (HSP4.out.later HB2.out)
        obtain ⟨d0, d1, d2⟩ := HSP2'.out.cells
        have dz := HSP2'.out.zs
        have c0 := (HB2.out.cell (p := ⟨w.heap.size, 0, none⟩) (by simp only; omega)).trans HE0.out
        have cz : w.heap.size < W2.heap.size := by have := HB2.out.size; omega
        have hmz := HSP2'.out.zm
        have hL := @Later.cell W2
        have hlk : ∀ lx : Later W2, (Instr.lookup 84 (.map (some mb)) (.agg #[.int .i64 (p : Int), .int .i64 ((q : Int) - 1)]) true).run Try.prog lx.val = .ok (.tuple #[.int .i64 l1, .bool b1]) lx.val := fun lx => by
          have := run_lookupL ((lx.le.block _ hmz).trans HSP2'.out.mp) ((p : Int), (q : Int) - 1)
          rw [HLA.out, HLB.out] at this; exact this
        have hwr : IntKind.i64.wrap ((q : Int) - 1) = (q : Int) - 1 := IntWalk.i64_in _ (by omega)
        clear hg2 hs2 hpb
        gi_wp2_with fail
        refine in_region_later (r := some l) (by kernel_rfl) (by kernel_rfl) (by rfl) ?_
        repeat (quiet_step (fail))
        refine wpQuiet_nil ?_
        rintro W3 ⟨⟨W0x, hle3⟩, hw0x⟩
        have hw0y : W3 = W0x := hw0x
        clear hw0x; subst hw0y
        try simp only at hle3
        have hsz3 : W2.heap.size ≤ W3.heap.size := hle3.size
        have hxs3 : X.heap.size < W3.heap.size := by omega
        have HPB3 := Lib.hid ((hle3.block _ (by omega)).trans HPB2.out)
        have HB30 := Lib.hid (btr HB2.out hle3)
        have HK3 : Hid (Below W2.heap.size W2 W3) := Lib.hid (hle3)
        clear hle3 hlk hL d0 d1 d2 dz c0 cz hmz q0 q1 HB2 HSP2' HPB2
        have HB3 := HB30
        have q0 : W3.cell? ⟨X.heap.size, 0, none⟩ = some (.int .i64 p) := by rw [cell_of_row _ _ _ _ _ _ HPB3.out]; rfl
        have q1 : W3.cell? ⟨X.heap.size, 1, none⟩ = some (.int .i64 q) := by rw [cell_of_row _ _ _ _ _ _ HPB3.out]; rfl
        have HSP3' := Lib.hid (HSP4.out.later HB3.out)
        obtain ⟨d0, d1, d2⟩ := HSP3'.out.cells
        have dz := HSP3'.out.zs
        have c0 := (HB3.out.cell (p := ⟨w.heap.size, 0, none⟩) (by simp only; omega)).trans HE0.out
        have cz : w.heap.size < W3.heap.size := by have := HB3.out.size; omega
        have hmz := HSP3'.out.zm
        have hL := @Later.cell W3
        have hlk : ∀ lx : Later W3, (Instr.lookup 84 (.map (some mb)) (.agg #[.int .i64 ((p : Int) - 1), .int .i64 (q : Int)]) true).run Try.prog lx.val = .ok (.tuple #[.int .i64 l2, .bool b2]) lx.val := fun lx => by
          have := run_lookupL ((lx.le.block _ hmz).trans HSP3'.out.mp) ((p : Int) - 1, (q : Int))
          rw [HMA.out, HMB.out] at this; exact this
        have hwr2 : IntKind.i64.wrap ((p : Int) - 1) = (p : Int) - 1 := IntWalk.i64_in _ (by omega)
        gi_wp2_with fail
        refine in_region_later (r := some l) (by kernel_rfl) (by kernel_rfl) (by rfl) ?_
        repeat (quiet_step (fail))
        refine wpQuiet_nil ?_
        rintro W4 ⟨⟨W0x, hle4⟩, hw0x⟩
        have hw0y : W4 = W0x := hw0x
        clear hw0x; subst hw0y
        try simp only at hle4
        have hsz4 : W3.heap.size ≤ W4.heap.size := hle4.size
        have hxs4 : X.heap.size < W4.heap.size := by omega
        have HPB4 := Lib.hid ((hle4.block _ (by omega)).trans HPB3.out)
        have HB40 := Lib.hid (btr HB3.out hle4)
        have HK4 : Hid (Below W2.heap.size W2 W4) := Lib.hid (btr HK3.out hle4)
        clear hle4 hlk hL d0 d1 d2 dz c0 cz hmz q0 q1 HB3 HSP3' HPB3
        have HB4 := HB40
        have q0 : W4.cell? ⟨X.heap.size, 0, none⟩ = some (.int .i64 p) := by rw [cell_of_row _ _ _ _ _ _ HPB4.out]; rfl
        have q1 : W4.cell? ⟨X.heap.size, 1, none⟩ = some (.int .i64 q) := by rw [cell_of_row _ _ _ _ _ _ HPB4.out]; rfl
        have HSP4' := Lib.hid (HSP4.out.later HB4.out)
        obtain ⟨d0, d1, d2⟩ := HSP4'.out.cells
        have dz := HSP4'.out.zs
        have c0 := (HB4.out.cell (p := ⟨w.heap.size, 0, none⟩) (by simp only; omega)).trans HE0.out
        have cz : w.heap.size < W4.heap.size := by have := HB4.out.size; omega
        have hmz := HSP4'.out.zm
        have hL := @Later.cell W4
        have hlk : ∀ lx : Later W4, (Instr.lookup 84 (.map (some mb)) (.agg #[.int .i64 (p : Int), .int .i64 (q : Int)]) false).run Try.prog lx.val = .ok (.int .i64 nn) lx.val := fun lx => by
          have := run_lookupN ((lx.le.block _ hmz).trans HSP4'.out.mp) ((p : Int), (q : Int))
          rw [HNA.out] at this; exact this
        gi_wp2_with fail
        refine in_region_later (r := some l) (by kernel_rfl) (by kernel_rfl) (by rfl) ?_
        repeat (first
          | (refine wpQuiet_load_row rfl 103 (.tmp 7) rfl X.heap.size rfl 103 #[Value.int .i64 (p : Int), Value.int .i64 (q : Int)] (0, 0) _ HPB4.out Try.struct103 rfl (by kernel_rfl) ?_)
          | (quiet_step (fail)))
        refine wpQuiet_nil ?_
        rintro W5 ⟨⟨W0x, hle5⟩, hw0x⟩
        have hw0y : W5 = W0x := hw0x
        clear hw0x; subst hw0y
        try simp only at hle5
        have hsz5 : W4.heap.size ≤ W5.heap.size := hle5.size
        have hxs5 : X.heap.size < W5.heap.size := by omega
        have HPB5 := Lib.hid ((hle5.block _ (by omega)).trans HPB4.out)
        have HB50 := Lib.hid (btr HB4.out hle5)
        have HK5 : Hid (Below W2.heap.size W2 W5) := Lib.hid (btr HK4.out hle5)
        clear hle5 hlk hL d0 d1 d2 dz c0 cz hmz q0 q1 HB4 HSP4' HPB4
        have k1 := (HB50.out.cell (p := ⟨w.heap.size + 1, 0, none⟩) (by simp only; omega)).trans HE1.out
        have k2 := (HB50.out.cell (p := ⟨w.heap.size + 1 + 1, 0, none⟩) (by simp only; omega)).trans HE2.out
        have k3 := (HB50.out.frozen (p := ⟨w.heap.size + 1 + 1, 0, none⟩) (by simp only; omega)).trans HE3.out
        clear hxs hxs3 hxs4 HPB5
        by_cases g1 : b1 = true ∧ nn < l1 + by'
        · obtain ⟨rfl, g2⟩ := g1
          have HNO := Lib.hid (HOKN.out (.inl ⟨rfl, g2⟩))
          have gd : decide (nn < l1 + by') = true := decide_eq_true g2
          clear HOKN HOKY
          gi_wp2
          all_goals first | (rename_i h _; simp [undef] at h; done) | skip
          exact ⟨(KF.of_below HK5.out).set (by (try simp); omega) _, rfl, HNO.out.symm, bset (btr HB4.out HB50.out) (by simp; omega) _, World.cell?_setCell_same' _ _ _ (by rw [k2]; rfl)⟩
        · by_cases g3 : b2 = true ∧ nn ≤ l2
          · obtain ⟨rfl, g2⟩ := g3
            have HNO := Lib.hid (HOKN.out (.inr ⟨rfl, g2⟩))
            have gd2 : decide (nn ≤ l2) = true := decide_eq_true g2
            clear HOKN HOKY
            cases b1
            · gi_wp2
              all_goals first | (rename_i h _; simp [undef] at h; done) | skip
              exact ⟨(KF.of_below HK5.out).set (by (try simp); omega) _, rfl, HNO.out.symm, bset (btr HB4.out HB50.out) (by simp; omega) _, World.cell?_setCell_same' _ _ _ (by rw [k2]; rfl)⟩
            · have gd : decide (nn < l1 + by') = false := decide_eq_false (fun h => g1 ⟨rfl, h⟩)
              have gd' : ¬ nn < l1 + by' := fun h => g1 ⟨rfl, h⟩
              gi_wp2
              all_goals first | (rename_i h _; simp [undef] at h; done) | skip
              exact ⟨(KF.of_below HK5.out).set (by (try simp); omega) _, rfl, HNO.out.symm, bset (btr HB4.out HB50.out) (by simp; omega) _, World.cell?_setCell_same' _ _ _ (by rw [k2]; rfl)⟩
          · have HYES := Lib.hid (HOKY.out g1 g3)
            have HFIN : Hid (∀ a b : Int, (a, b) ∈ pre ++ [((p : Int), (q : Int))] → ∀ p' q' : Nat, a = (p' : Int) → b = (q' : Int) → OkAt R by' p' q') := Lib.hid (by
              intro xa xb hx p' q' ea eb
              have e : (xa, xb) = ((p' : Int), (q' : Int)) := by rw [ea, eb]
              generalize (xa, xb) = x at hx e
              rw [List.mem_append, List.mem_singleton] at hx
              rcases hx with h | h
              · exact HPRE.out x h p' q' e
              · rw [h] at e
                simp only [Prod.mk.injEq] at e
                have e1 : p = p' := by omega
                have e2 : q = q' := by omega
                rw [← e1, ← e2]; exact HYES.out)
            clear HOKN HOKY
            cases b1 <;> cases b2
            · gi_wp2
              all_goals first | (rename_i h _; simp [undef] at h; done) | skip
              exact ⟨KF.of_below HK5.out, HB50.out, by first | exact HFIN.out | exact fun x hx p q e => HFIN.out x.1 x.2 hx p q (by rw [e]) (by rw [e])⟩
            · have gd2 : decide (nn ≤ l2) = false := decide_eq_false (fun h => g3 ⟨rfl, h⟩)
              have gd2' : ¬ nn ≤ l2 := fun h => g3 ⟨rfl, h⟩
              gi_wp2
              all_goals first | (rename_i h _; simp [undef] at h; done) | skip
              exact ⟨KF.of_below HK5.out, HB50.out, by first | exact HFIN.out | exact fun x hx p q e => HFIN.out x.1 x.2 hx p q (by rw [e]) (by rw [e])⟩
            · have gd : decide (nn < l1 + by') = false := decide_eq_false (fun h => g1 ⟨rfl, h⟩)
              have gd' : ¬ nn < l1 + by' := fun h => g1 ⟨rfl, h⟩
              gi_wp2
              all_goals first | (rename_i h _; simp [undef] at h; done) | skip
              exact ⟨KF.of_below HK5.out, HB50.out, by first | exact HFIN.out | exact fun x hx p q e => HFIN.out x.1 x.2 hx p q (by rw [e]) (by rw [e])⟩
            · have gd : decide (nn < l1 + by') = false := decide_eq_false (fun h => g1 ⟨rfl, h⟩)
              have gd' : ¬ nn < l1 + by' := fun h => g1 ⟨rfl, h⟩
              have gd2 : decide (nn ≤ l2) = false := decide_eq_false (fun h => g3 ⟨rfl, h⟩)
              have gd2' : ¬ nn ≤ l2 := fun h => g3 ⟨rfl, h⟩
              gi_wp2
              all_goals first | (rename_i h _; simp [undef] at h; done) | skip
              exact ⟨KF.of_below HK5.out, HB50.out, by first | exact HFIN.out | exact fun x hx p q e => HFIN.out x.1 x.2 hx p q (by rw [e]) (by rw [e])⟩
      case done =>
        rintro W ⟨hB, hpre⟩ hD
        have HD := Lib.hid hD; clear hD
        have HIN : Hid (ibv = true) := Lib.hid (HIB.out.2 (fun p hp q hq => hpre _ (mem_places.2 ⟨p, q, hp, hq, rfl⟩) p q rfl))
        clear hpre
        have R2 : W.cell? ⟨w.heap.size + 1 + 1, 0, none⟩ = some (.bool false) := (hB.cell (by simp; omega)).trans HE2.out
        have R3 : W.frozen? ⟨w.heap.size + 1 + 1, 0, none⟩ = false := (hB.frozen (by simp; omega)).trans HE3.out
        have HBB := Lib.hid (btr HB4.out hB); clear hB
        gi_wp2
        have hD2 : (W.setCell ⟨w.heap.size + 1 + 1, 0, none⟩ (.bool true)).heap[w4.heap.size]? = some (.deferred (some [])) := (Below.heap_setCell _ _ _ _ (by simp; omega)).trans HD.out
        refine ⟨by simp, .inl ⟨_, _, rfl, run_takeDeferred hD2, ?_⟩⟩
        have cX : ((W.setCell ⟨w.heap.size + 1 + 1, 0, none⟩ (.bool true)).putObj w4.heap.size (.deferred none)).cell? ⟨w.heap.size + 1 + 1, 0, none⟩ = some (.bool true) :=
          cell_put _ _ (World.cell?_setCell_same' _ _ _ (by rw [R2]; rfl)) (by simp; omega)
        have bX : Below w.heap.size w ((W.setCell ⟨w.heap.size + 1 + 1, 0, none⟩ (.bool true)).putObj w4.heap.size (.deferred none)) :=
          below_put (bset HBB.out (by simp; omega) _) _ (by omega)
        generalize (W.setCell ⟨w.heap.size + 1 + 1, 0, none⟩ (.bool true)).putObj w4.heap.size (.deferred none) = Y at *
        exact ⟨.bool true, results_cell rfl rfl (by go_simp), by rw [HIN.out]; rfl, bX⟩
      case stop =>
        rintro c pre W hpre ⟨rfl, hnb, hB, hc⟩ hD
        have HD := Lib.hid hD; have HNB := Lib.hid hnb; clear hD hnb hpre
        gi_wp2
        refine ⟨by simp, .inl ⟨_, _, rfl, run_takeDeferred HD.out, ?_⟩⟩
        have cX : (W.putObj w4.heap.size (.deferred none)).cell? ⟨w.heap.size + 1 + 1, 0, none⟩ = some (.bool false) := cell_put _ _ hc (by simp; omega)
        have bX : Below w.heap.size w (W.putObj w4.heap.size (.deferred none)) := below_put hB _ (by omega)
        generalize W.putObj w4.heap.size (.deferred none) = Y at *
        exact ⟨.bool false, results_cell rfl rfl (by go_simp), by rw [HNB.out]; rfl, bX⟩
end Go.Proofs.Ytnnfahdhmodejaa

namespace Go.Proofs.Ytnnfahdhmodejaa
open Go.RowKit Go.Shelf

set_option maxRecDepth 100000 in
set_option maxHeartbeats 800000 in
theorem rack_any (v : Value) (R : List (List Int)) (w : World) (hx0 : RdLL w v R) (hs : Sml R) :
    Calls Try.prog 18 #[v] w fun e w' => e = .returned (.int .i64 (rackC R)) ∧ Below w.heap.size w w' := by
  have hfl := sml_flat hs
  have HALL := Lib.hid (concat_any v R w hx0 hs)
  have HX := Lib.hid hx0; have HSM := Lib.hid hs
  obtain ⟨a, ca, rfl⟩ := hx0.sl
  clear hx0 hs
  have HR : Hid (rackC R = if 12 < R.flatten.length then 6 else if R.flatten.any (outB 1 99) then 3 else if shapedB R && incB R 0 then 0 else 22) := Lib.hid rfl
  have HBD := Lib.hid (fun h => bd_of (R := R) (hi := 99) h (by omega))
  generalize rackC R = g at *
  generalize R.flatten = xs at *
  go_enter Try.func18, Try.ntmps18
  go_wp2_with fail
  refine HALL.out.mono ?_
  rintro e w2 ⟨u, rfl, hu, hB⟩
  have HU := Lib.hid (RdI.of_owns hu)
  obtain ⟨au, cu, rfl⟩ := owns_form hu
  have HB := Lib.hid hB
  clear hu hB
  by_cases h12 : 12 < xs.length
  · have t1 : (12 : Int) < (xs.length : Int) := by omega
    rw [if_pos h12] at HR
    go_wp2_with fail
    go_ret
    exact ⟨ret_int HR.out.symm, HB.out⟩
  · have t1 : ¬ (12 : Int) < (xs.length : Int) := by omega
    rw [if_neg h12] at HR
    go_wp2_with fail
    refine (within_any _ xs 1 99 w2 HU.out (by omega)).mono ?_
    rintro e w3 ⟨rfl, hB3⟩
    have HB3 := Lib.hid (btr HB.out hB3)
    clear hB3
    cases hany : xs.any (outB 1 99) with
    | true =>
      rw [hany] at HR
      go_wp2_with fail
      go_ret
      exact ⟨ret_int HR.out.symm, HB3.out⟩
    | false =>
      rw [hany] at HR
      have HBDO := Lib.hid (HBD.out hany)
      go_wp2_with fail
      refine (newstand_any _ R w3 (HX.out.mono HB3.out) HSM.out).mono ?_
      rintro e w4 ⟨sb, rfl, hwh, hB4⟩
      have HWH := Lib.hid hwh; have HB4 := Lib.hid (btr HB3.out hB4)
      clear hwh hB4
      go_wp2_with fail
      refine (rises_any sb R 0 w4 _ HWH.out HSM.out HBDO.out (by omega) (by omega)).mono ?_
      rintro e w5 ⟨rfl, hB5⟩
      have HB5 := Lib.hid (btr HB4.out hB5)
      clear hB5
      cases hsi : shapedB R && incB R 0 with
      | true =>
        rw [hsi] at HR
        go_wp2_with fail
        go_ret
        exact ⟨ret_int HR.out.symm, HB5.out⟩
      | false =>
        rw [hsi] at HR
        go_wp2_with fail
        go_ret
        exact ⟨ret_int HR.out.symm, HB5.out⟩
end Go.Proofs.Ytnnfahdhmodejaa
