/- ShelfTurned holds; no condition. -/
import Derived.Test.YtjajdpggoggoiaaQ14
namespace Go.Proofs.Ytjajdpggoggoiaa
open Go.RowKit Go.Shelf

theorem kindR_ok {R : Int} {W : List Int} (hc : checkD R W = 0) {p : Nat} (hp : p < W.length) : kindR R W (p : Int) = (kindD R W p, 0) := by
  unfold kindR
  rw [if_neg (by simpa using hc), if_neg (by omega), Int.toNat_natCast]
theorem pkind_ok (R : Int) (x : Value) (W : List Int) (p : Nat) (w : World) (hx0 : RdI w .i64 x W) (hc : checkD R W = 0) (hp : p < W.length) :
    Calls Try.prog 31 #[.agg #[.int .i64 R, x], .int .i64 (p : Int)] w fun e w' => e = .returned (.tuple #[.int .i64 (kindD R W p), .int .i64 0]) ∧ Below w.heap.size w w' := by
  have := pkind_any R x W p w hx0 (by have := (okD_of hc).l16; omega)
  rwa [kindR_ok hc hp] at this
theorem checkD_ok {R : Int} {W : List Int} (a : OkD R W) : checkD R W = 0 := by
  have e2 : outB 1 6 R = false := by unfold outB; rw [decide_eq_false_iff_not]; have := a.r1; have := a.r6; omega
  unfold checkD
  rw [e2, if_neg (by simp), if_neg (by have := a.l16; omega), if_neg]
  intro hq
  obtain ⟨x, hx, ho⟩ := List.any_eq_true.1 hq
  have hb := a.ok x hx
  unfold outB at ho
  rw [decide_eq_true_eq] at ho
  omega
def cutW (w : World) (n : Nat) : World := { w with heap := w.heap.extract 0 n }
theorem cutW_size {w : World} {n : Nat} (h : n ≤ w.heap.size) : (cutW w n).heap.size = n := by simp [cutW]; omega
theorem below_cut {w : World} {n : Nat} (h : n ≤ w.heap.size) : Below (cutW w n).heap.size (cutW w n) w := by
  refine ⟨rfl, rfl, rfl, by rw [cutW_size h]; exact h, fun j hj => ?_⟩
  rw [cutW_size h] at hj
  simp [cutW, Array.getElem?_extract]
  omega
theorem push_heap {w w' : World} {base g : Nat} (hb : base ≤ w.heap.size) (hg : g < base) (H : ∀ z : World, Below z.heap.size z w → z.heap.size ≤ base → Below z.heap.size z w') : w'.heap[g]? = w.heap[g]? := by
  have h1 := below_cut hb
  have h2 := H _ h1 (by rw [cutW_size hb]; exact Nat.le_refl _)
  have hz : g < (cutW w base).heap.size := by rw [cutW_size hb]; exact hg
  exact (h2.block g hz).trans (h1.block g hz).symm
theorem Own3.set {w : World} {base g : Nat} {u v l : Value} {xs ys zs : List Int} {cs : Array Value} (h : Own3 w base u v l xs ys zs) (hg : w.heap[g]? = some (.cells cs 24)) (a : Nat) (p : Value) : Own3 (w.setCell ⟨g, a, none⟩ p) base u v l xs ys zs := by
  have k : ∀ {v : Value} {ys : List Int}, rowI w base v ys → rowI (w.setCell ⟨g, a, none⟩ p) base v ys := fun {v ys} hr => World.ownsRow.kept hr (grownBy_set w ⟨g, a, none⟩ p) (.inr (fun e => row_other hr hg e))
  exact ⟨k h.a, k h.b, k h.c, h.ab, h.ac, h.bc⟩
theorem take_want {l : List Int} {k : Nat} (hk : k < l.length) : l.take (k + 1) = l.take k ++ [want l k] := by
  rw [List.take_succ_eq_append_getElem hk]; simp [want, hk]
/-- Two days of the call's own whose wants grow. -/
structure TwoD (wV wr : World) (base g h : Nat) (R : Int) (u v : Value) (xs ys : List Int) : Prop where
  gh : g ≠ h
  g0 : wV.heap.size ≤ g
  h0 : wV.heap.size ≤ h
  gb : g < base
  hb : h < base
  sz : base ≤ wr.heap.size
  hg : wr.heap[g]? = some (.cells #[.int .i64 R, u] 24)
  hh : wr.heap[h]? = some (.cells #[.int .i64 R, v] 24)
  o : Own3 wr base u v (.slice none 0 0) xs ys []
  b : Below wV.heap.size wV wr
theorem TwoD.swap {wV wr : World} {base g h : Nat} {R : Int} {u v : Value} {xs ys : List Int} (d : TwoD wV wr base g h R u v xs ys) : TwoD wV wr base h g R v u ys xs :=
  ⟨d.gh.symm, d.h0, d.g0, d.hb, d.gb, d.sz, d.hh, d.hg, d.o.swap, d.b⟩
theorem TwoD.later {wV wr wx : World} {base g h : Nat} {R : Int} {u v : Value} {xs ys : List Int} (d : TwoD wV wr base g h R u v xs ys) (hB : Below wr.heap.size wr wx) : TwoD wV wx base g h R u v xs ys :=
  ⟨d.gh, d.g0, d.h0, d.gb, d.hb, Nat.le_trans d.sz hB.size, (hB.block g (Nat.lt_of_lt_of_le d.gb d.sz)).trans d.hg, (hB.block h (Nat.lt_of_lt_of_le d.hb d.sz)).trans d.hh, d.o.later hB, btr d.b hB⟩
/-- After 'append' to the first day's wants, and the store. -/
theorem TwoD.push {wV wr w' : World} {base g h : Nat} {R : Int} {u u' v : Value} {xs ys : List Int} {q : Int} (d : TwoD wV wr base g h R u v xs ys) (ho : Own3 w' base u' v (.slice none 0 0) (xs ++ [q]) ys []) (H : ∀ z : World, Below z.heap.size z wr → z.heap.size ≤ base → Below z.heap.size z w') :
    TwoD wV (w'.setCell ⟨g, 1, none⟩ u') base g h R u' v (xs ++ [q]) ys := by
  have e1 := (push_heap d.sz d.gb H).trans d.hg
  have e2 := (push_heap d.sz d.hb H).trans d.hh
  have hs := (H _ (below_cut d.sz) (by rw [cutW_size d.sz]; exact Nat.le_refl _)).size
  rw [cutW_size d.sz] at hs
  have hB := H wV d.b (Nat.le_trans d.g0 (Nat.le_of_lt d.gb))
  refine ⟨d.gh, d.g0, d.h0, d.gb, d.hb, by simpa using hs, heap_setCell_same _ g 1 _ _ u' e1, ?_, ho.set e1 1 u', bset hB (p := ⟨g, 1, none⟩) d.g0 u'⟩
  exact (Below.heap_setCell w' ⟨g, 1, none⟩ u' h (fun e => d.gh e.symm)).trans e2

set_option maxRecDepth 100000 in
set_option maxHeartbeats 16000000 in
theorem shelfTurned_walk (R : Int) (x : Value) (W : List Int) (m n : Int) (w : World) (hx0 : RdI w .i64 x W) (hm0 : 0 ≤ m) (hm1 : m ≤ 255) (hn0 : 0 ≤ n) (hn1 : n ≤ 255) :
    Calls Try.prog 11 #[.agg #[.int .i64 R, x], .int .u8 m, .int .u8 n] w fun e w' => e = .returned (.bool true) ∧ Below w.heap.size w w' := by
  obtain ⟨a, c, rfl⟩ := hx0.ex _ rfl
  obtain ⟨_, _, e, hca, _, hxf⟩ := hx0.form
  cases e
  by_cases hc : checkD R W = 0
  · obtain ⟨wA, hwA⟩ : ∃ wA, w.alloc (.cells #[.int .i64 R, .slice a W.length c] 24) = wA := ⟨_, rfl⟩
    have HBA := Lib.hid (show Below w.heap.size w wA by rw [← hwA]; exact bal (bz w) _)
    have hr0 : wA.cell? ⟨w.heap.size, 0, none⟩ = some (.int .i64 R) := by rw [← hwA]; exact cnew rfl rfl
    have hr1 : wA.cell? ⟨w.heap.size, 1, none⟩ = some (.slice a W.length c) := by rw [← hwA]; exact cnew rfl rfl
    have hrz : w.heap.size < wA.heap.size := by rw [← hwA]; simp
    have HR0 := Lib.hid (fun wz (hB : Below wA.heap.size wA wz) => (hB.cell (p := ⟨w.heap.size, 0, none⟩) hrz).trans hr0)
    have HR1 := Lib.hid (fun wz (hB : Below wA.heap.size wA wz) => (hB.cell (p := ⟨w.heap.size, 1, none⟩) hrz).trans hr1)
    have HRZ := Lib.hid (fun wz (hB : Below wA.heap.size wA wz) => Nat.lt_of_lt_of_le hrz hB.size)
    have HX := Lib.hid (hx0.mono HBA.out)
    clear hr0 hr1 hrz hx0
    have CF := Lib.hid (fun wz (hB : Below wA.heap.size wA wz) => fine_yes R _ W wz (HX.out.mono hB) hc)
    have hd := okD_of hc
    have h16 := hd.l16
    obtain ⟨t, ht⟩ : ∃ t, m % 8 = t := ⟨_, rfl⟩
    have ht0 : 0 ≤ t := by omega
    have ht7 : t ≤ 7 := by omega
    obtain ⟨Y, hY⟩ : ∃ Y, rotK t.toNat W = Y := ⟨_, rfl⟩
    have HYW := Lib.hid (show ∀ i, i < W.length → want Y i = 1 + (want W i - 1 + t) % 8 from fun i hi => by
      rw [← hY, rotK_map hd, show ((t.toNat : Nat) : Int) = t by omega]
      simp [want, hi])
    have hYl : Y.length = W.length := by rw [← hY]; exact rotK_len W _
    have hYd : OkD R Y := by rw [← hY]; exact rotK_ok hd _
    have hYf : fewN R Y = fewN R W := by rw [← hY]; exact few_rotK hd _
    have HYF := Lib.hid (show ∀ r, r ≠ 3 → fetR R r Y = fetR R r W from fun r hr => by rw [← hY]; exact fet_rotK hd hr _)
    have HYK := Lib.hid (show ∀ p, p < W.length → kindD R Y p = kindD R W p from fun p hp => by rw [← hY]; exact kind_rotK hd hp (by omega))
    obtain ⟨V, hV⟩ : ∃ V, W.reverse = V := ⟨_, rfl⟩
    have HVW := Lib.hid (show ∀ i, i < W.length → want V i = want W (W.length - 1 - i) from fun i hi => by rw [← hV]; exact want_rev hi)
    have hVl : V.length = W.length := by rw [← hV]; exact List.length_reverse
    have hVf : fewN R V = fewN R W := by rw [← hV]; exact few_rev hd
    have HCV := Lib.hid (show checkD R V = 0 by rw [← hV]; exact checkD_ok (okD_rev hd))
    have HCY := Lib.hid (checkD_ok hYd)
    have HC := Lib.hid hc
    have HXF := Lib.hid hxf
    have HWD := Lib.hid (show ∀ i, i < W.length → 1 ≤ want W i ∧ want W i ≤ 8 from fun i hi => hd.at hi)
    clear hc hd hYd hY hV hxf
    have KB0 := Lib.hid (bz wA)
    go_enter Try.func11, Try.ntmps11
    go_upto_region 1 with fail
    try rw [hwA]
    clear hwA
    have r0 := HR0.out _ KB0.out; have r1 := HR1.out _ KB0.out; have rz := HRZ.out _ KB0.out
    go_wp2_with fail
    clear r0 r1 rz
    refine (CF.out _ KB0.out).mono ?_
    rintro e w1 ⟨rfl, hk⟩
    have KB1 := Lib.hid (btr KB0.out hk)
    clear KB0 hk
    have r0 := HR0.out _ KB1.out; have r1 := HR1.out _ KB1.out; have rz := HRZ.out _ KB1.out
    go_upto_region 3 with fail
    clear r0 r1 rz CF
    obtain ⟨wV, hwV⟩ : ∃ wV, wV = w1 := ⟨_, rfl⟩
    rw [← hwV]
    rw [← hwV] at KB1
    clear hwV
    have HR0v := Lib.hid (fun wz (hB : Below wV.heap.size wV wz) => HR0.out _ (btr KB1.out hB))
    have HR1v := Lib.hid (fun wz (hB : Below wV.heap.size wV wz) => HR1.out _ (btr KB1.out hB))
    have HRZv := Lib.hid (fun wz (hB : Below wV.heap.size wV wz) => HRZ.out _ (btr KB1.out hB))
    have HXv := Lib.hid (HX.out.mono KB1.out)
    have HBV := Lib.hid (btr HBA.out KB1.out)
    clear HR0 HR1 HRZ HX HBA KB1
    have HR0 := HR0v; have HR1 := HR1v; have HRZ := HRZv; have HX := HXv; have HBA := HBV
    clear HR0v HR1v HRZv HXv HBV
    go_cut [7, 8] from 28 (fun v7 v8 wx => ∃ (g h base : Nat), v7 = .pointer (some ⟨g, 0, none⟩) ∧ v8 = .pointer (some ⟨h, 0, none⟩) ∧ TwoD wV wx base g h R (.slice none 0 0) (.slice none 0 0) [] [])
    case first =>
      refine wp_region_US (fun wq => ∃ x : BelW wV, wq = x.val) [0, 1, 2, 3, 4, 5] [] (by kernel_rfl) (by kernel_rfl) ?_
      intro wc hBc hh
      clear hh
      have HB0 := Lib.hid (hBc : Below wV.heap.size wV wc)
      have hbz := hBc.size
      clear hBc
      have hx1 := fun l : BelW wV => HR0.out _ l.b
      have hx2 := fun l : BelW wV => HRZ.out _ l.b
      refine U_heads [0, 1, 2, 3, 4, 5] (by kernel_rfl) (belW HB0.out) ?_
      simp only [pickL, List.getElem?_cons_succ, List.getElem?_cons_zero]
      repeat (go_big_quiet_step (fail))
      refine wpQuiet_nil ?_
      clear hx1 hx2
      refine U_two 6 7 (by kernel_rfl) ?_ ?_
      · simp only [pickL, List.getElem?_cons_succ, List.getElem?_cons_zero]
        have HB1 := Lib.hid (bal HB0.out (.cells #[.int .i64 0, .slice none 0 0] 24))
        have HA1 := heap_alloc_new wc (.cells #[.int .i64 0, .slice none 0 0] 24)
        have hz1 : wc.heap.size < (wc.alloc (.cells #[.int .i64 0, .slice none 0 0] 24)).heap.size := by simp
        go_wp2
        generalize wc.alloc (Obj.cells #[.int .i64 0, .slice none 0 0] 24) = w1 at *
        refine seg_grow (belW HB1.out) ?_
        refine U_one 7 (by kernel_rfl) ?_
        simp only [pickL, List.getElem?_cons_succ, List.getElem?_cons_zero]
        have HB2 := Lib.hid (bal HB1.out (.cells #[.int .i64 0, .slice none 0 0] 24))
        have HA2 := (Below.heap_alloc w1 (.cells #[.int .i64 0, .slice none 0 0] 24) _ hz1).trans HA1
        have HE2 := heap_alloc_new w1 (.cells #[.int .i64 0, .slice none 0 0] 24)
        have hz2 : w1.heap.size < (w1.alloc (.cells #[.int .i64 0, .slice none 0 0] 24)).heap.size := by simp
        go_wp2
        generalize w1.alloc (Obj.cells #[.int .i64 0, .slice none 0 0] 24) = w2 at *
        refine seg_grow (belW HB2.out) ?_
        have hne : wc.heap.size ≠ w1.heap.size := by omega
        refine U_one 8 (by kernel_rfl) ?_
        simp only [pickL, List.getElem?_cons_succ, List.getElem?_cons_zero]
        refine wpList_store_row rfl 24 (.tmp 7) (.tmp 30) rfl (wc.heap.size) #[.int .i64 R, .slice none 0 0] rfl rfl 24 _ HA2 (by kernel_rfl) rfl (by simp [Value.oneCell']) ?_
        have HB3 := Lib.hid (below_setRow HB2.out (show wV.heap.size ≤ wc.heap.size by omega) #[.int .i64 R, .slice none 0 0])
        have HG3 := setRow_heap _ _ _ #[.int .i64 R, .slice none 0 0] _ _ HA2
        have HH3 := (setRow_other w2 (wc.heap.size) (w1.heap.size) #[.int .i64 R, .slice none 0 0] (by omega)).trans HE2
        have hz3 : (w2.setRow (wc.heap.size) #[.int .i64 R, .slice none 0 0]).heap.size = w2.heap.size := by simp
        go_wp2
        generalize w2.setRow (wc.heap.size) #[Value.int IntKind.i64 R, Value.slice none 0 0] = w3 at *
        refine seg_grow (belW HB3.out) ?_
        refine U_one 9 (by kernel_rfl) ?_
        simp only [pickL, List.getElem?_cons_succ, List.getElem?_cons_zero]
        refine wpList_store_row rfl 24 (.tmp 8) (.tmp 33) rfl (w1.heap.size) #[.int .i64 R, .slice none 0 0] rfl rfl 24 _ HH3 (by kernel_rfl) rfl (by simp [Value.oneCell']) ?_
        have HB4 := Lib.hid (below_setRow HB3.out (show wV.heap.size ≤ w1.heap.size by omega) #[.int .i64 R, .slice none 0 0])
        have HH4 := setRow_heap _ _ _ #[.int .i64 R, .slice none 0 0] _ _ HH3
        have HG4 := (setRow_other w3 (w1.heap.size) (wc.heap.size) #[.int .i64 R, .slice none 0 0] (by omega)).trans HG3
        have hz4 : (w3.setRow (w1.heap.size) #[.int .i64 R, .slice none 0 0]).heap.size = w3.heap.size := by simp
        go_wp2
        generalize w3.setRow (w1.heap.size) #[Value.int IntKind.i64 R, Value.slice none 0 0] = w4 at *
        refine seg_grow (belW HB4.out) ?_
        refine U_done (by kernel_rfl) ?_
        go_wp2
        go_meet
        case rel => exact ⟨_, _, w4.heap.size, rfl, rfl, ⟨by omega, by omega, by omega, by omega, by omega, Nat.le_refl _, HG4, HH4, Own3.nil _ _, HB4.out⟩⟩
      · simp only [pickL, List.getElem?_cons_succ, List.getElem?_cons_zero]
        have HB1 := Lib.hid (bal HB0.out (.cells #[.int .i64 0, .slice none 0 0] 24))
        have HA1 := heap_alloc_new wc (.cells #[.int .i64 0, .slice none 0 0] 24)
        have hz1 : wc.heap.size < (wc.alloc (.cells #[.int .i64 0, .slice none 0 0] 24)).heap.size := by simp
        go_wp2
        generalize wc.alloc (Obj.cells #[.int .i64 0, .slice none 0 0] 24) = w1 at *
        refine seg_grow (belW HB1.out) ?_
        refine U_one 6 (by kernel_rfl) ?_
        simp only [pickL, List.getElem?_cons_succ, List.getElem?_cons_zero]
        have HB2 := Lib.hid (bal HB1.out (.cells #[.int .i64 0, .slice none 0 0] 24))
        have HA2 := (Below.heap_alloc w1 (.cells #[.int .i64 0, .slice none 0 0] 24) _ hz1).trans HA1
        have HE2 := heap_alloc_new w1 (.cells #[.int .i64 0, .slice none 0 0] 24)
        have hz2 : w1.heap.size < (w1.alloc (.cells #[.int .i64 0, .slice none 0 0] 24)).heap.size := by simp
        go_wp2
        generalize w1.alloc (Obj.cells #[.int .i64 0, .slice none 0 0] 24) = w2 at *
        refine seg_grow (belW HB2.out) ?_
        have hne : wc.heap.size ≠ w1.heap.size := by omega
        refine U_one 8 (by kernel_rfl) ?_
        simp only [pickL, List.getElem?_cons_succ, List.getElem?_cons_zero]
        refine wpList_store_row rfl 24 (.tmp 7) (.tmp 30) rfl (w1.heap.size) #[.int .i64 R, .slice none 0 0] rfl rfl 24 _ HE2 (by kernel_rfl) rfl (by simp [Value.oneCell']) ?_
        have HB3 := Lib.hid (below_setRow HB2.out (show wV.heap.size ≤ w1.heap.size by omega) #[.int .i64 R, .slice none 0 0])
        have HG3 := setRow_heap _ _ _ #[.int .i64 R, .slice none 0 0] _ _ HE2
        have HH3 := (setRow_other w2 (w1.heap.size) (wc.heap.size) #[.int .i64 R, .slice none 0 0] (by omega)).trans HA2
        have hz3 : (w2.setRow (w1.heap.size) #[.int .i64 R, .slice none 0 0]).heap.size = w2.heap.size := by simp
        go_wp2
        generalize w2.setRow (w1.heap.size) #[Value.int IntKind.i64 R, Value.slice none 0 0] = w3 at *
        refine seg_grow (belW HB3.out) ?_
        refine U_one 9 (by kernel_rfl) ?_
        simp only [pickL, List.getElem?_cons_succ, List.getElem?_cons_zero]
        refine wpList_store_row rfl 24 (.tmp 8) (.tmp 33) rfl (wc.heap.size) #[.int .i64 R, .slice none 0 0] rfl rfl 24 _ HH3 (by kernel_rfl) rfl (by simp [Value.oneCell']) ?_
        have HB4 := Lib.hid (below_setRow HB3.out (show wV.heap.size ≤ wc.heap.size by omega) #[.int .i64 R, .slice none 0 0])
        have HH4 := setRow_heap _ _ _ #[.int .i64 R, .slice none 0 0] _ _ HH3
        have HG4 := (setRow_other w3 (wc.heap.size) (w1.heap.size) #[.int .i64 R, .slice none 0 0] (by omega)).trans HG3
        have hz4 : (w3.setRow (wc.heap.size) #[.int .i64 R, .slice none 0 0]).heap.size = w3.heap.size := by simp
        go_wp2
        generalize w3.setRow (wc.heap.size) #[Value.int IntKind.i64 R, Value.slice none 0 0] = w4 at *
        refine seg_grow (belW HB4.out) ?_
        refine U_done (by kernel_rfl) ?_
        go_wp2
        go_meet
        case rel => exact ⟨_, _, w4.heap.size, rfl, rfl, ⟨by omega, by omega, by omega, by omega, by omega, Nat.le_refl _, HG4, HH4, Own3.nil _ _, HB4.out⟩⟩
    case rest =>
      obtain ⟨g, h, base, rfl, rfl, hT⟩ := hcut
      have HT := Lib.hid hT
      clear hT
      go_wp2_with fail
      go_loopw [9] (fun s9 wr => ∃ (k : Nat) (u v : Value), k ≤ W.length ∧ s9 = .int .i64 k ∧ TwoD wV wr base g h R u v (V.take k) (Y.take k)) (fun s9 _ => W.length - (intOf s9).toNat)
      case atStart => exact ⟨0, _, _, by omega, rfl, by simpa using HT.out⟩
      case round =>
        clear HT
        obtain ⟨k, u, v, hk, rfl, hT⟩ := hrel
        have HT := Lib.hid hT
        clear hT
        have HBR := Lib.hid HT.out.b
        by_cases hlt : k < W.length
        · obtain ⟨bx, ox, rfl, hbx, hcx⟩ := HXF.out (by omega)
          obtain ⟨j, hj⟩ : ∃ j, W.length - 1 - k = j := ⟨_, rfl⟩
          have hji : (W.length : Int) - 1 - (k : Int) = (j : Int) := by omega
          have hjl : j < W.length := by omega
          have hlu : (V.take k).length = k := by rw [List.length_take]; omega
          have hlv : (Y.take k).length = k := by rw [List.length_take]; omega
          obtain ⟨au, cu, hu⟩ := owns_form HT.out.o.a
          rw [hlu] at hu; subst hu
          obtain ⟨av, cv, hv⟩ := owns_form HT.out.o.b
          rw [hlv] at hv; subst hv
          have gw0 := hcx j hjl
          change w.cell? _ = some (Value.int .i64 (want W j)) at gw0
          have gw1 := hcx k hlt
          change w.cell? _ = some (Value.int .i64 (want W k)) at gw1
          have HG0 := Lib.hid (fun wz (hB : Below wV.heap.size wV wz) => ((btr HBA.out hB).cell (p := ⟨bx, ox + j, none⟩) hbx).trans gw0)
          have HG1 := Lib.hid (fun wz (hB : Below wV.heap.size wV wz) => ((btr HBA.out hB).cell (p := ⟨bx, ox + k, none⟩) hbx).trans gw1)
          have HGZ := Lib.hid (fun wz (hB : Below wV.heap.size wV wz) => Nat.lt_of_lt_of_le hbx (btr HBA.out hB).size)
          have hq0 : want V k = want W j := by rw [HVW.out k hlt, hj]
          have hq1 := HYW.out k hlt
          have hqb := HWD.out k hlt
          have hT1 : V.take (k + 1) = V.take k ++ [want W j] := by rw [take_want (by omega), hq0]
          have hT2 : Y.take (k + 1) = Y.take k ++ [1 + (want W k - 1 + t) % 8] := by rw [take_want (by omega), hq1]
          have HTA := Lib.hid hT1; have HTB := Lib.hid hT2
          clear hcx gw0 gw1 hq0 hq1 hT1 hT2 hj
          generalize want W j = q0 at *
          generalize want W k = q1 at *
          have r1 := HR1.out _ HBR.out; have rz := HRZ.out _ HBR.out
          go_upto_region 7 with fail
          clear r1 rz
          have xg7 : wr.cell? ⟨g, 1, none⟩ = some (.slice au k cu) := by rw [cell_of_row _ _ _ _ _ _ HT.out.hg]; rfl
          have xz7 : g < wr.heap.size := Nat.lt_of_lt_of_le HT.out.gb HT.out.sz
          have XB7 := Lib.hid HT.out.b
          refine wp_region_flowS (fun wq => ∃ x : BelW wr, wq = x.val) [] [([0, 1, 2, 3, 4, 5, 6, 7, 8, 9, 10, 11], 12, true), ([], 13, false), ([], 14, false), ([], 15, false)] [] (by kernel_rfl) (by kernel_rfl) (fun _ hb _ => belW hb) ?_
          intro wc7 hBc hh
          clear hh
          have HTC7 := Lib.hid (HT.out.later hBc)
          have HBC7 := Lib.hid hBc
          clear hBc
          have hx1 := fun l : BelW wr => HR1.out _ (btr XB7.out l.b)
          have hx2 := fun l : BelW wr => HRZ.out _ (btr XB7.out l.b)
          have hx3 := fun l : BelW wr => HG0.out _ (btr XB7.out l.b)
          have hx4 := fun l : BelW wr => HGZ.out _ (btr XB7.out l.b)
          have hx5 := fun l : BelW wr => (l.b.cell (p := ⟨g, 1, none⟩) xz7).trans xg7
          have hx6 := fun l : BelW wr => Nat.lt_of_lt_of_le xz7 l.b.size
          simp only [flowP, flow, pickL, List.getElem?_cons_succ, List.getElem?_cons_zero]
          refine wpQuiet_nil ?_
          repeat (go_big_quiet_step (fail))
          refine wpQuiet_nil ?_
          clear hx1 hx2 hx3 hx4 hx5 hx6 xg7 xz7
          go_wp2
          refine seg_grow (belW (bal HBC7.out _)) ?_
          refine wpQuiet_nil ?_
          refine Own3.push rfl _ _ rfl HTC7.out.o (q0) rfl rfl (by omega) HTC7.out.sz ?_
          intro u7 w7' hOp hBp
          have HTD7 := Lib.hid (TwoD.push HTC7.out hOp hBp)
          obtain ⟨a7, c7, hv⟩ := owns_form hOp.a
          rw [List.length_append, hlu] at hv
          change _ = Value.slice a7 (k + 1) c7 at hv
          subst hv
          have hgn := (push_heap HTC7.out.sz HTC7.out.gb hBp).trans HTC7.out.hg
          have c1 : w7'.cell? ⟨g, 1, none⟩ = some (.slice au k cu) := by rw [cell_of_row _ _ _ _ _ _ hgn]; rfl
          have f1 : w7'.frozen? ⟨g, 1, none⟩ = false := frozen_of_row _ _ _ _ _ hgn
          have zg := World.block_lt_of_cell? _ _ c1
          simp only at zg
          clear hOp hBp hgn
          go_wp2
          refine seg_write ?_
          refine wpQuiet_nil ?_
          go_wp2
          refine seg_write ?_
          refine wpQuiet_nil ?_
          go_wp2
          refine seg_write ?_
          refine wpQuiet_nil ?_
          refine only_done ?_
          clear c1 f1 zg
          generalize w7'.setCell { block := g, off := 1 } (Value.slice a7 (k + 1) c7) = wE7 at *
          have HT8 := Lib.hid HTD7.out.swap
          clear HTD7
          go_upto_region 8 with fail
          have xg8 : wE7.cell? ⟨h, 1, none⟩ = some (.slice av k cv) := by rw [cell_of_row _ _ _ _ _ _ HT8.out.hg]; rfl
          have xz8 : h < wE7.heap.size := Nat.lt_of_lt_of_le HT8.out.gb HT8.out.sz
          have XB8 := Lib.hid HT8.out.b
          refine wp_region_flowS (fun wq => ∃ x : BelW wE7, wq = x.val) [] [([0, 1, 2, 3, 4, 5, 6, 7, 8, 9, 10, 11, 12, 13], 14, true), ([], 15, false), ([], 16, false), ([], 17, false)] [] (by kernel_rfl) (by kernel_rfl) (fun _ hb _ => belW hb) ?_
          intro wc8 hBc hh
          clear hh
          have HTC8 := Lib.hid (HT8.out.later hBc)
          have HBC8 := Lib.hid hBc
          clear hBc
          have hx1 := fun l : BelW wE7 => HR1.out _ (btr XB8.out l.b)
          have hx2 := fun l : BelW wE7 => HRZ.out _ (btr XB8.out l.b)
          have hx3 := fun l : BelW wE7 => HG1.out _ (btr XB8.out l.b)
          have hx4 := fun l : BelW wE7 => HGZ.out _ (btr XB8.out l.b)
          have hx5 := fun l : BelW wE7 => (l.b.cell (p := ⟨h, 1, none⟩) xz8).trans xg8
          have hx6 := fun l : BelW wE7 => Nat.lt_of_lt_of_le xz8 l.b.size
          simp only [flowP, flow, pickL, List.getElem?_cons_succ, List.getElem?_cons_zero]
          refine wpQuiet_nil ?_
          repeat (go_big_quiet_step (fail))
          refine wpQuiet_nil ?_
          clear hx1 hx2 hx3 hx4 hx5 hx6 xg8 xz8
          go_wp2
          refine seg_grow (belW (bal HBC8.out _)) ?_
          refine wpQuiet_nil ?_
          refine Own3.push rfl _ _ rfl HTC8.out.o (1 + (q1 - 1 + t) % 8) rfl rfl (by omega) HTC8.out.sz ?_
          intro u8 w8' hOp hBp
          have HTD8 := Lib.hid (TwoD.push HTC8.out hOp hBp)
          obtain ⟨a8, c8, hv⟩ := owns_form hOp.a
          rw [List.length_append, hlv] at hv
          change _ = Value.slice a8 (k + 1) c8 at hv
          subst hv
          have hgn := (push_heap HTC8.out.sz HTC8.out.gb hBp).trans HTC8.out.hg
          have c1 : w8'.cell? ⟨h, 1, none⟩ = some (.slice av k cv) := by rw [cell_of_row _ _ _ _ _ _ hgn]; rfl
          have f1 : w8'.frozen? ⟨h, 1, none⟩ = false := frozen_of_row _ _ _ _ _ hgn
          have zg := World.block_lt_of_cell? _ _ c1
          simp only at zg
          clear hOp hBp hgn
          go_wp2
          refine seg_write ?_
          refine wpQuiet_nil ?_
          go_wp2
          refine seg_write ?_
          refine wpQuiet_nil ?_
          go_wp2
          refine seg_write ?_
          refine wpQuiet_nil ?_
          refine only_done ?_
          clear c1 f1 zg
          generalize w8'.setCell { block := h, off := 1 } (Value.slice a8 (k + 1) c8) = wE8 at *
          have HT9 := Lib.hid (show TwoD wV wE8 base g h R _ _ (V.take (k + 1)) (Y.take (k + 1)) by rw [HTA.out, HTB.out]; exact HTD8.out.swap)
          clear HTD8
          go_wp2_with fail
          go_roundw
          case rel => exact ⟨k + 1, _, _, by omega, rfl, HT9.out⟩
          case measure => simp [intOf]; omega
        · have hke : k = W.length := by omega
          subst hke
          clear hlt hk
          have e1 : V.take W.length = V := by rw [← hVl, List.take_length]
          have e2 : Y.take W.length = Y := by rw [← hYl, List.take_length]
          rw [e1, e2] at HT
          clear e1 e2
          obtain ⟨wL, hwL⟩ : ∃ wL, wL = wr := ⟨_, rfl⟩
          subst hwL
          obtain ⟨au, cu, hu⟩ := owns_form HT.out.o.a
          rw [hVl] at hu; subst hu
          obtain ⟨av, cv, hv⟩ := owns_form HT.out.o.b
          rw [hYl] at hv; subst hv
          have hB0 := HT.out.b
          have hgz := Nat.lt_of_lt_of_le HT.out.gb HT.out.sz
          have hhz := Nat.lt_of_lt_of_le HT.out.hb HT.out.sz
          have HR0g := Lib.hid (fun wz (hB : Below wL.heap.size wL wz) => (hB.cell (p := ⟨g, 0, none⟩) hgz).trans (show wL.cell? ⟨g, 0, none⟩ = some (.int .i64 R) by rw [cell_of_row _ _ _ _ _ _ HT.out.hg]; rfl))
          have HR1g := Lib.hid (fun wz (hB : Below wL.heap.size wL wz) => (hB.cell (p := ⟨g, 1, none⟩) hgz).trans (show wL.cell? ⟨g, 1, none⟩ = some (.slice au W.length cu) by rw [cell_of_row _ _ _ _ _ _ HT.out.hg]; rfl))
          have HRZg := Lib.hid (fun wz (hB : Below wL.heap.size wL wz) => Nat.lt_of_lt_of_le hgz hB.size)
          have HR0h := Lib.hid (fun wz (hB : Below wL.heap.size wL wz) => (hB.cell (p := ⟨h, 0, none⟩) hhz).trans (show wL.cell? ⟨h, 0, none⟩ = some (.int .i64 R) by rw [cell_of_row _ _ _ _ _ _ HT.out.hh]; rfl))
          have HR1h := Lib.hid (fun wz (hB : Below wL.heap.size wL wz) => (hB.cell (p := ⟨h, 1, none⟩) hhz).trans (show wL.cell? ⟨h, 1, none⟩ = some (.slice av W.length cv) by rw [cell_of_row _ _ _ _ _ _ HT.out.hh]; rfl))
          have HRZh := Lib.hid (fun wz (hB : Below wL.heap.size wL wz) => Nat.lt_of_lt_of_le hhz hB.size)
          have HR0b := Lib.hid (fun wz (hB : Below wL.heap.size wL wz) => HR0.out _ (btr hB0 hB))
          have HR1b := Lib.hid (fun wz (hB : Below wL.heap.size wL wz) => HR1.out _ (btr hB0 hB))
          have HRZb := Lib.hid (fun wz (hB : Below wL.heap.size wL wz) => HRZ.out _ (btr hB0 hB))
          have HXb := Lib.hid (HX.out.mono hB0)
          have HU := Lib.hid (RdI.of_owns HT.out.o.a); have HY := Lib.hid (RdI.of_owns HT.out.o.b)
          have HBb := Lib.hid (btr HBA.out hB0)
          clear HR0 HR1 HRZ HX HBA HT HBR hB0 hgz hhz HXF HYW HVW HWD
          have HR0 := HR0b; have HR1 := HR1b; have HRZ := HRZb; have HX := HXb; have HBA := HBb
          clear HR0b HR1b HRZb HXb HBb
          have KBB := Lib.hid (bz wL)
          have CW := Lib.hid (fun wz (hB : Below wL.heap.size wL wz) => works_any wz)
          have C1 := Lib.hid (fun wz (hB : Below wL.heap.size wL wz) => fewest_yes R _ W wz (HX.out.mono hB) HC.out)
          have C2 := Lib.hid (fun wz (hB : Below wL.heap.size wL wz) => fewest_yes R (.slice au W.length cu) V wz (HU.out.mono hB) HCV.out)
          have C3 := Lib.hid (fun wz (hB : Below wL.heap.size wL wz) => fewest_yes R (.slice av W.length cv) Y wz (HY.out.mono hB) HCY.out)
          rw [hVf] at C2
          rw [hYf] at C3
          have CA := Lib.hid (fun r (h1 : 1 ≤ r) (h2 : r ≤ 2) wz (hB : Below wL.heap.size wL wz) => fetched_any R (.slice a W.length c) W r wz (HX.out.mono hB) HC.out h1 (by omega))
          have CB := Lib.hid (fun r (h1 : 1 ≤ r) (h2 : r ≤ 2) wz (hB : Below wL.heap.size wL wz) => (show Calls Try.prog 36 #[.agg #[.int .i64 R, .slice av W.length cv], .int .i64 r] wz fun e w' => ∃ u, e = .returned (.tuple #[u, .bool true]) ∧ RdI w' .i64 u (fetR R r W) ∧ Below wz.heap.size wz w' from by rw [← HYF.out r (by omega)]; exact fetched_any R (.slice av W.length cv) Y r wz (HY.out.mono hB) HCY.out h1 (by omega)))
          have CK := Lib.hid (fun p (hp : p < W.length) wz (hB : Below wL.heap.size wL wz) => pkind_ok R (.slice a W.length c) W p wz (HX.out.mono hB) HC.out hp)
          have CL := Lib.hid (fun p (hp : p < W.length) wz (hB : Below wL.heap.size wL wz) => (show Calls Try.prog 31 #[.agg #[.int .i64 R, .slice av W.length cv], .int .i64 (p : Int)] wz fun e w' => e = .returned (.tuple #[.int .i64 (kindD R W p), .int .i64 0]) ∧ Below wz.heap.size wz w' from by rw [← HYK.out p hp]; exact pkind_ok R (.slice av W.length cv) Y p wz (HY.out.mono hB) HCY.out (by omega)))
          have HFL := Lib.hid (fun r => (show (fetR R r W).length ≤ 1000 from by have := fetR_len (R := R) (r := r) (W := W); omega))
          clear HC HCV HCY HYF HYK hVf hYf HU HY
          generalize fewN R W = fw at *
          have r0 := HR0.out _ KBB.out; have r1 := HR1.out _ KBB.out; have rz := HRZ.out _ KBB.out
          have r0g := HR0g.out _ KBB.out; have r1g := HR1g.out _ KBB.out; have rzg := HRZg.out _ KBB.out
          have r0h := HR0h.out _ KBB.out; have r1h := HR1h.out _ KBB.out; have rzh := HRZh.out _ KBB.out
          go_wp2_with fail
          clear r0 r1 rz r0g r1g rzg r0h r1h rzh
          refine (C1.out _ KBB.out).mono ?_
          rintro e w1 ⟨rfl, hk⟩
          have KB1 := Lib.hid (btr KBB.out hk)
          clear KBB hk
          have r0 := HR0.out _ KB1.out; have r1 := HR1.out _ KB1.out; have rz := HRZ.out _ KB1.out
          have r0g := HR0g.out _ KB1.out; have r1g := HR1g.out _ KB1.out; have rzg := HRZg.out _ KB1.out
          have r0h := HR0h.out _ KB1.out; have r1h := HR1h.out _ KB1.out; have rzh := HRZh.out _ KB1.out
          go_wp2_with fail
          clear r0 r1 rz r0g r1g rzg r0h r1h rzh
          refine (C2.out _ KB1.out).mono ?_
          rintro e w2 ⟨rfl, hk⟩
          have KB2 := Lib.hid (btr KB1.out hk)
          clear KB1 hk
          have r0 := HR0.out _ KB2.out; have r1 := HR1.out _ KB2.out; have rz := HRZ.out _ KB2.out
          have r0g := HR0g.out _ KB2.out; have r1g := HR1g.out _ KB2.out; have rzg := HRZg.out _ KB2.out
          have r0h := HR0h.out _ KB2.out; have r1h := HR1h.out _ KB2.out; have rzh := HRZh.out _ KB2.out
          go_wp2_with fail
          clear r0 r1 rz r0g r1g rzg r0h r1h rzh
          refine (C3.out _ KB2.out).mono ?_
          rintro e w3 ⟨rfl, hk⟩
          have KB3 := Lib.hid (btr KB2.out hk)
          clear KB2 hk
          have r0 := HR0.out _ KB3.out; have r1 := HR1.out _ KB3.out; have rz := HRZ.out _ KB3.out
          have r0g := HR0g.out _ KB3.out; have r1g := HR1g.out _ KB3.out; have rzg := HRZg.out _ KB3.out
          have r0h := HR0h.out _ KB3.out; have r1h := HR1h.out _ KB3.out; have rzh := HRZh.out _ KB3.out
          go_wp2_with fail
          clear r0 r1 rz r0g r1g rzg r0h r1h rzh
          go_loopw [16, 17, 18, 19, 20] (fun s16 _ _ _ _ wr => ∃ r : Int, 1 ≤ r ∧ r ≤ 3 ∧ s16 = .int .i64 r ∧ Below wL.heap.size wL wr) (fun s16 _ _ _ _ _ => 3 - (intOf s16).toNat)
          case atStart => exact ⟨1, by omega, by omega, rfl, KB3.out⟩
          case round =>
            obtain ⟨r, hr1, hr3, rfl, hBr⟩ := hrel
            have HBR := Lib.hid hBr
            clear hBr
            by_cases hlt : r ≤ 2
            · have r0 := HR0.out _ HBR.out; have r1 := HR1.out _ HBR.out; have rz := HRZ.out _ HBR.out
              have r0g := HR0g.out _ HBR.out; have r1g := HR1g.out _ HBR.out; have rzg := HRZg.out _ HBR.out
              have r0h := HR0h.out _ HBR.out; have r1h := HR1h.out _ HBR.out; have rzh := HRZh.out _ HBR.out
              go_wp2_with fail
              clear r0 r1 rz r0g r1g rzg r0h r1h rzh
              refine (CA.out r hr1 hlt _ HBR.out).mono ?_
              rintro e w71 ⟨u1, rfl, fA, hk⟩
              have KB71 := Lib.hid (btr HBR.out hk)
              have HA71 := Lib.hid fA
              clear HBR fA hk
              have r0 := HR0.out _ KB71.out; have r1 := HR1.out _ KB71.out; have rz := HRZ.out _ KB71.out
              have r0g := HR0g.out _ KB71.out; have r1g := HR1g.out _ KB71.out; have rzg := HRZg.out _ KB71.out
              have r0h := HR0h.out _ KB71.out; have r1h := HR1h.out _ KB71.out; have rzh := HRZh.out _ KB71.out
              go_wp2_with fail
              clear r0 r1 rz r0g r1g rzg r0h r1h rzh
              refine (CB.out r hr1 hlt _ KB71.out).mono ?_
              rintro e w72 ⟨u2, rfl, fB, hk⟩
              have KB72 := Lib.hid (btr KB71.out hk)
              have HA72 := Lib.hid (HA71.out.mono hk)
              have HQ72 := Lib.hid fB
              clear KB71 HA71 fB hk
              have r0 := HR0.out _ KB72.out; have r1 := HR1.out _ KB72.out; have rz := HRZ.out _ KB72.out
              have r0g := HR0g.out _ KB72.out; have r1g := HR1g.out _ KB72.out; have rzg := HRZg.out _ KB72.out
              have r0h := HR0h.out _ KB72.out; have r1h := HR1h.out _ KB72.out; have rzh := HRZh.out _ KB72.out
              go_wp2_with fail
              clear r0 r1 rz r0g r1g rzg r0h r1h rzh
              refine (ints_eq _ _ (fetR R r W) _ HA72.out HQ72.out (HFL.out r)).mono ?_
              rintro e w73 ⟨rfl, hk⟩
              have KB73 := Lib.hid (btr KB72.out hk)
              have HA73 := Lib.hid (HA72.out.mono hk)
              have HQ73 := Lib.hid (HQ72.out.mono hk)
              clear KB72 HA72 HQ72 hk
              have r0 := HR0.out _ KB73.out; have r1 := HR1.out _ KB73.out; have rz := HRZ.out _ KB73.out
              have r0g := HR0g.out _ KB73.out; have r1g := HR1g.out _ KB73.out; have rzg := HRZg.out _ KB73.out
              have r0h := HR0h.out _ KB73.out; have r1h := HR1h.out _ KB73.out; have rzh := HRZh.out _ KB73.out
              go_wp2_with fail
              clear r0 r1 rz r0g r1g rzg r0h r1h rzh
              go_roundw
              case rel => exact ⟨r + 1, by omega, by omega, rfl, KB73.out⟩
              case measure => simp [intOf]; omega
            · obtain rfl : r = 3 := by omega
              clear hlt hr1 hr3 CA CB HFL
              by_cases hz : W.length = 0
              · have hz1 : ((W.length : Int) == 0) = true := by rw [beq_iff_eq]; omega
                have hz2 : (W.length == 0) = true := by simpa using hz
                clear hz
                have r0 := HR0.out _ HBR.out; have r1 := HR1.out _ HBR.out; have rz := HRZ.out _ HBR.out
                have r0g := HR0g.out _ HBR.out; have r1g := HR1g.out _ HBR.out; have rzg := HRZg.out _ HBR.out
                have r0h := HR0h.out _ HBR.out; have r1h := HR1h.out _ HBR.out; have rzh := HRZh.out _ HBR.out
                go_wp2_with fail
                clear r0 r1 rz r0g r1g rzg r0h r1h rzh
                refine (CW.out _ HBR.out).mono ?_
                rintro e w81 ⟨rfl, hk⟩
                have KB81 := Lib.hid (btr HBR.out hk)
                clear HBR hk
                have r0 := HR0.out _ KB81.out; have r1 := HR1.out _ KB81.out; have rz := HRZ.out _ KB81.out
                have r0g := HR0g.out _ KB81.out; have r1g := HR1g.out _ KB81.out; have rzg := HRZg.out _ KB81.out
                have r0h := HR0h.out _ KB81.out; have r1h := HR1h.out _ KB81.out; have rzh := HRZh.out _ KB81.out
                go_wp2_with fail
                clear r0 r1 rz r0g r1g rzg r0h r1h rzh
                go_ret
                exact ⟨rfl, btr HBA.out KB81.out⟩
              · have hz1 : ((W.length : Int) == 0) = false := by rw [beq_eq_false_iff_ne]; omega
                have hz2 : (W.length == 0) = false := by simpa using hz
                have i0 := Int.emod_nonneg n (b := (W.length : Int)) (by omega)
                have i1 := Int.emod_lt_of_pos n (b := (W.length : Int)) (by omega)
                obtain ⟨i, hiz⟩ := Int.eq_ofNat_of_zero_le i0
                have hi : i < W.length := by omega
                clear i0 i1 hz
                have r0 := HR0.out _ HBR.out; have r1 := HR1.out _ HBR.out; have rz := HRZ.out _ HBR.out
                have r0g := HR0g.out _ HBR.out; have r1g := HR1g.out _ HBR.out; have rzg := HRZg.out _ HBR.out
                have r0h := HR0h.out _ HBR.out; have r1h := HR1h.out _ HBR.out; have rzh := HRZh.out _ HBR.out
                go_wp2_with fail
                clear r0 r1 rz r0g r1g rzg r0h r1h rzh
                refine (CK.out i hi _ HBR.out).mono ?_
                rintro e w81 ⟨rfl, hk⟩
                have KB81 := Lib.hid (btr HBR.out hk)
                clear HBR hk
                have r0 := HR0.out _ KB81.out; have r1 := HR1.out _ KB81.out; have rz := HRZ.out _ KB81.out
                have r0g := HR0g.out _ KB81.out; have r1g := HR1g.out _ KB81.out; have rzg := HRZg.out _ KB81.out
                have r0h := HR0h.out _ KB81.out; have r1h := HR1h.out _ KB81.out; have rzh := HRZh.out _ KB81.out
                go_wp2_with fail
                clear r0 r1 rz r0g r1g rzg r0h r1h rzh
                refine (CL.out i hi _ KB81.out).mono ?_
                rintro e w82 ⟨rfl, hk⟩
                have KB82 := Lib.hid (btr KB81.out hk)
                clear KB81 hk
                generalize kindD R W i = kd at *
                have r0 := HR0.out _ KB82.out; have r1 := HR1.out _ KB82.out; have rz := HRZ.out _ KB82.out
                have r0g := HR0g.out _ KB82.out; have r1g := HR1g.out _ KB82.out; have rzg := HRZg.out _ KB82.out
                have r0h := HR0h.out _ KB82.out; have r1h := HR1h.out _ KB82.out; have rzh := HRZh.out _ KB82.out
                go_wp2_with fail
                clear r0 r1 rz r0g r1g rzg r0h r1h rzh
                refine (CW.out _ KB82.out).mono ?_
                rintro e w83 ⟨rfl, hk⟩
                have KB83 := Lib.hid (btr KB82.out hk)
                clear KB82 hk
                have r0 := HR0.out _ KB83.out; have r1 := HR1.out _ KB83.out; have rz := HRZ.out _ KB83.out
                have r0g := HR0g.out _ KB83.out; have r1g := HR1g.out _ KB83.out; have rzg := HRZg.out _ KB83.out
                have r0h := HR0h.out _ KB83.out; have r1h := HR1h.out _ KB83.out; have rzh := HRZh.out _ KB83.out
                go_wp2_with fail
                clear r0 r1 rz r0g r1g rzg r0h r1h rzh
                go_ret
                exact ⟨rfl, btr HBA.out KB83.out⟩
  · obtain ⟨wA, hwA⟩ : ∃ wA, w.alloc (.cells #[.int .i64 R, .slice a W.length c] 24) = wA := ⟨_, rfl⟩
    have HBA := Lib.hid (show Below w.heap.size w wA by rw [← hwA]; exact bal (bz w) _)
    have hr0 : wA.cell? ⟨w.heap.size, 0, none⟩ = some (.int .i64 R) := by rw [← hwA]; exact cnew rfl rfl
    have hr1 : wA.cell? ⟨w.heap.size, 1, none⟩ = some (.slice a W.length c) := by rw [← hwA]; exact cnew rfl rfl
    have hrz : w.heap.size < wA.heap.size := by rw [← hwA]; simp
    have HR0 := Lib.hid (fun wz (hB : Below wA.heap.size wA wz) => (hB.cell (p := ⟨w.heap.size, 0, none⟩) hrz).trans hr0)
    have HR1 := Lib.hid (fun wz (hB : Below wA.heap.size wA wz) => (hB.cell (p := ⟨w.heap.size, 1, none⟩) hrz).trans hr1)
    have HRZ := Lib.hid (fun wz (hB : Below wA.heap.size wA wz) => Nat.lt_of_lt_of_le hrz hB.size)
    have HX := Lib.hid (hx0.mono HBA.out)
    clear hr0 hr1 hrz hx0
    have CW := Lib.hid (fun wz (hB : Below wA.heap.size wA wz) => works_any wz)
    have CF := Lib.hid (fun wz (hB : Below wA.heap.size wA wz) => fine_no R _ W wz (HX.out.mono hB) hc)
    clear hc hxf
    have KB0 := Lib.hid (bz wA)
    go_enter Try.func11, Try.ntmps11
    go_upto_region 1 with fail
    try rw [hwA]
    clear hwA
    have r0 := HR0.out _ KB0.out; have r1 := HR1.out _ KB0.out; have rz := HRZ.out _ KB0.out
    go_wp2_with fail
    clear r0 r1 rz
    refine (CF.out _ KB0.out).mono ?_
    rintro e w1 ⟨rfl, hk⟩
    have KB1 := Lib.hid (btr KB0.out hk)
    clear KB0 hk
    have r0 := HR0.out _ KB1.out; have r1 := HR1.out _ KB1.out; have rz := HRZ.out _ KB1.out
    go_wp2_with fail
    clear r0 r1 rz
    refine (CW.out _ KB1.out).mono ?_
    rintro e w2 ⟨rfl, hk⟩
    have KB2 := Lib.hid (btr KB1.out hk)
    clear KB1 hk
    have r0 := HR0.out _ KB2.out; have r1 := HR1.out _ KB2.out; have rz := HRZ.out _ KB2.out
    go_wp2_with fail
    clear r0 r1 rz
    go_ret
    exact ⟨rfl, btr HBA.out KB2.out⟩
section
open Go.ChangeShapes Go.WideShapes Go.ChangeAt
set_option maxRecDepth 100000 in
theorem shelfTurned_lifted (os : Os) (started : os.Started) (H : Type) (enc : TypeId × Value → H) :
    ReturnsInHanded {} Try.checked os 11 .any (Rows.shelfTurnedSpec.pre6 enc Try.prog Try.f11 Rows.shelfTurnedRow.domain false) (Rows.shelfTurnedSpec.post enc Try.prog Try.f11 false true false false) := by
  refine returnsInHanded_of_change (C := Try.checked) Try.own started (by kernel_rfl) Try.func11
    (ChangeSpec.witness6 (enc := enc) (C := Try.checked) false ⟨#[], #[.agg #[.int .i64 0, .slice none 0 0], .int .u8 0, .int .u8 0], []⟩ 8 (by kernel_rfl) (by kernel_rfl) (by kernel_rfl) (by kernel_rfl)) ?_
  intro W base args ds gs before hval0 hW _ _
  have hval : ∀ (j : Nat) t v, Try.f11.params[j]? = some t → args[j]? = some v → Value.okWide Try.prog W .any base t v := hval0
  have hW' := hW
  obtain ⟨p, q, hA0, hV, rfl, hfz, hnd⟩ := hW
  have hA : DataW.TrodAll enc Try.prog W 0 (fun _ => true) true Try.f11.params.toList args.toList ds p := hA0
  have hA2 := hA
  have hlt : ∀ x ∈ p, x.block < W.heap.size := fun x hx => hW'.lt x (List.mem_append_left _ hx)
  rw [Try.params11] at hA hval
  obtain ⟨v0, vs0, d0, ds0, p0, q0, hargs, rfl, rfl, h0, r0⟩ := trodAll_cons hA
  obtain ⟨v1, vs1, d1, ds1, p1, q1, rfl, rfl, rfl, h1, r1⟩ := trodAll_cons r0
  obtain ⟨v2, vs2, d2, ds2, p2, q2, rfl, rfl, rfl, h2, r2⟩ := trodAll_cons r1
  obtain ⟨rfl, rfl, rfl⟩ := trodAll_nil r2
  obtain rfl : args = #[v0, v1, v2] := by cases args; simp_all
  obtain ⟨rfl, rfl⟩ := trodVars_none hV
  obtain ⟨R0, x0, X0, rfl, hx0⟩ := open_day (hval 0 24 v0 rfl rfl) h0 (fun x hx => hlt x (by simp [hx]))
  obtain ⟨a1, rfl, rfl, rfl, w1⟩ := open_int Try.underlying5 (hval 1 5 v1 rfl rfl) h1
  obtain ⟨a2, rfl, rfl, rfl, w2⟩ := open_int Try.underlying5 (hval 2 5 v2 rfl rfl) h2
  clear hA0 hval0
  simp only [List.append_nil] at hW' hA2
  refine (shelfTurned_walk R0 x0 X0 a1 a2 W hx0 (wf8 w1).1 (wf8 w1).2 (wf8 w2).1 (wf8 w2).2).mono fun e W' ⟨he, hb⟩ => ?_
  subst he
  exact ⟨_, rfl, law_post Try.laidOut Try.underlying4 hW' hA2 rfl rfl rfl rfl rfl (by kernel_rfl) hb⟩
theorem shelfTurned_holds : Rows.ShelfTurnedSaid :=
  OpenClaim.holds_of_wide 11 Try.f11 rfl rfl rfl rfl rfl rfl rfl ⟨rfl, rfl, rfl, rfl, rfl⟩ rfl rfl rfl rfl rfl (by kernel_rfl) Try.func11 (by kernel_rfl)
    (of_decide_eq_true (by kernel_rfl)) (by unfold Func.isWrapper; first | (rw [if_pos (by decide +kernel)]; kernel_rfl) | (rw [if_neg (by decide +kernel)]; exact ⟨rfl, rfl⟩))
    (fun os started H enc _ => shelfTurned_lifted os started H enc)
end
end Go.Proofs.Ytjajdpggoggoiaa
