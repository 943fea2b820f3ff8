/- Merged texts: facts that stay; from a walk to the row; helpers of the laws. -/
import Derived.Test.YtjajdpggoggoiaaGG
import Derived.Test.YtjajdpggoggoiaaT10
import Derived.Test.YtjajdpggoggoiaaGD
import Derived.ProofKit
import Derived.OpenShut
import Derived.Lib.SmallJoins
import Derived.Deep.Slices
namespace Go.Proofs.Ytjajdpggoggoiaa
open Go.RowKit Go.Shelf

def Keep (w : World) (G : World → Prop) : Prop := ∀ w', Below w.heap.size w w' → G w'
theorem Keep.here {w : World} {G : World → Prop} (h : Keep w G) : G w := h w (bz w)
theorem Keep.up {w w' : World} {G : World → Prop} (h : Keep w G) (hb : Below w.heap.size w w') : Keep w' G := fun w2 h2 => h w2 (btr hb h2)
theorem Keep.and {w : World} {G G' : World → Prop} (h : Keep w G) (k : Keep w G') : Keep w (fun w => G' w ∧ G w) := fun w' hb => ⟨k w' hb, h w' hb⟩
theorem Keep.name {w : World} {G : World → Prop} (h : Keep w G) : ∃ G' : World → Prop, Keep w G' ∧ ∀ w, G' w → G w := ⟨G, h, fun _ h => h⟩
theorem Keep.imp {w : World} {G G' : World → Prop} (h : Keep w G) (k : ∀ w, G w → G' w) : Keep w G' := fun w' hb => k w' (h w' hb)
theorem keepI {w : World} {k : IntKind} {v : Value} {xs : List Int} (h : RdI w k v xs) : Keep w (fun w => RdI w k v xs) := fun _ hb => h.mono hb
theorem keepP {w : World} {v : Value} {V : List (Int × Int)} (h : RdP w v V) : Keep w (fun w => RdP w v V) := fun _ hb => h.mono hb
theorem keepC {w : World} {p : Addr} {v : Value} (h : w.cell? p = some v) : Keep w (fun w => w.cell? p = some v) := fun _ hb => (hb.cell (World.block_lt_of_cell? w _ h)).trans h
theorem keepB {w0 w : World} (h : Below w0.heap.size w0 w) : Keep w (fun w => Below w0.heap.size w0 w) := fun _ hb => btr h hb
theorem keepZ {w : World} {b : Nat} (h : b < w.heap.size) : Keep w (fun w => b < w.heap.size) := fun _ hb => Nat.lt_of_lt_of_le h hb.size
theorem keep_true (w : World) : Keep w (fun _ => True) := fun _ _ => trivial

theorem rdI_new (w : World) (xs : List Int) (t : TypeId) (h : xs.length ≤ 1000) : RdI (w.alloc (.cells (arrI xs) t)) .i64 (.slice (some ⟨w.heap.size, 0, none⟩) xs.length xs.length) xs := by
  refine ⟨_, _, rfl, Nat.le_refl _, by unfold maxLen; omega, fun _ => ⟨w.heap.size, 0, rfl, by simp, fun j u hj => ?_⟩⟩
  exact cnew rfl (by simpa [arrI] using hj)
theorem rdI_at (w : World) (xs : List Int) (t : TypeId) (b : Nat) (hb : b = w.heap.size) (h : xs.length ≤ 1000) : RdI (w.alloc (.cells (arrI xs) t)) .i64 (.slice (some ⟨b, 0, none⟩) xs.length xs.length) xs := by
  subst hb; exact rdI_new w xs t h
end Go.Proofs.Ytjajdpggoggoiaa

namespace Go.Proofs.Ytjajdpggoggoiaa
open Go.ChangeShapes Go.WideShapes Go.ChangeAt Go.RowKit Go.Deep Go.Joins

theorem Try.own : ownKnob Try.prog.godebug = none := by kernel_rfl
theorem Try.laidOut : laidOutB Try.prog = true := by kernel_rfl

section
variable {H : Type} {enc : TypeId × Value → H} {P : Program} {W W' : World}
theorem trodAll_later (hl : laidOutB P = true) (hb : Below W.heap.size W W') : ∀ (ts : List TypeId) (vs : List Value) (ds : List (DataW H)) (ps : List MemPlace), ts.all (fun t => P.readableRec t && decide (t < P.types.size)) = true →
    DataW.TrodAll enc P W 0 (fun _ => true) true ts vs ds ps → (∀ x ∈ ps, x.block < W.heap.size) → DataW.TrodAll enc P W' 0 (fun b => decide (b < W.heap.size)) true ts vs ds ps
  | [], [], [], _, _, h, _ => h
  | t :: ts, v :: vs, d :: ds, ps, hr, ⟨p, q, h1, h2, he⟩, hlt => by
    subst he
    simp only [List.all_cons, Bool.and_eq_true, decide_eq_true_eq] at hr
    exact ⟨p, q, Below.trod hl hr.1.1 hr.1.2 h1 hb (fun x hx => hlt x (List.mem_append_left _ hx)), trodAll_later hl hb ts vs ds q hr.2 h2 (fun x hx => hlt x (List.mem_append_right _ hx)), rfl⟩
  | [], _ :: _, _, _, _, h, _ => h.elim
  | [], [], _ :: _, _, _, h, _ => h.elim
  | _ :: _, [], _, _, _, h, _ => h.elim
  | _ :: _, _ :: _, [], _, _, h, _ => h.elim

theorem law_post {f : Func} {s : ChangeSpec} {args : Array Value} {ds : List (DataW H)} {before : List MemPlace} {b4 : TypeId} (hl : laidOutB P = true) (h4 : P.underlying b4 = some .bool)
    (hW : DataW.Whole enc P f.params.toList s.vars false W args.toList ds [] before) (hA : DataW.TrodAll enc P W 0 (fun _ => true) true f.params.toList args.toList ds before) (hrt : f.resultTypes = #[b4]) (hr : (s.fn H (ds ++ [])).results = [.lit (.bool true)]) (ha : (s.fn H (ds ++ [])).args = ds)
    (hv : s.vars = []) (hvv : (s.fn H (ds ++ [])).vars = []) (hread : f.params.toList.all (fun t => P.readableRec t && decide (t < P.types.size)) = true) (hb : Below W.heap.size W W') :
    s.post enc P f false true false false W args (.bool true) W' := by
  refine ⟨ds, [], before, [], before, [], hW, ?_, ?_, ?_, hb.frame _, fun h => by cases h⟩
  · rw [hr, hrt]
    exact trodAll_cons_mk (shut_bool h4 _) trodAll_mk0
  · rw [ha]
    exact trodAll_later hl hb _ _ _ _ hread hA hW.lt
  · rw [hv, hvv]; rfl
end

section
variable {H : Type} {enc : TypeId × Value → H} {W : World}
set_option maxRecDepth 100000 in
theorem open_ints_at {fuel : Nat} {t e : TypeId} {k : IntKind} {v : Value} {cs : List Value} {y : DataW H × List MemPlace} (ht : Try.prog.underlying t = some (.slice e)) (he : Try.prog.underlying e = some (.int k)) (hc : Try.prog.cellsOf e = 1)
    (hf : DataW.trod enc Try.prog W 0 (fun _ => true) true fuel t cs = some y) (hcs0 : cs = [v]) (hlt : ∀ x ∈ y.2, x.block < W.heap.size) : ∃ xs : List Int, RdI W k v xs ∧ ∀ n ∈ xs, (Lit.int k n).wf = true := by
  subst hcs0
  obtain ⟨d, p⟩ := y
  simp only at hlt
  rcases open_ints ht he hc hf with ⟨hcs, hx⟩ | ⟨a, len, cap, zs, hcs, _, hl, hm, hz, hx, hcell, hwz⟩
  · simp at hcs
    subst hcs
    exact ⟨[], ⟨none, 0, rfl, Nat.le_refl _, Nat.zero_le _, fun h => absurd rfl h⟩, fun n hn => by cases hn⟩
  · simp at hcs
    subst hcs
    simp only [Prod.mk.injEq] at hx
    obtain ⟨rfl, rfl⟩ := hx
    simp only [if_true] at hz
    have hlen : (zs.take len).length = len := by rw [List.length_take]; omega
    refine ⟨zs.take len, ⟨some a, cap, by rw [hlen], by rw [hlen]; exact hl, hm, fun hne => ?_⟩, fun n hn => hwz n (List.mem_of_mem_take hn)⟩
    have hl0 : 0 < len := by
      rcases Nat.eq_zero_or_pos len with h0 | h0
      · subst h0; simp at hne
      · exact h0
    obtain ⟨b, off, spot⟩ := a
    have hspot : spot = none := by simpa [Addr.add] using World.cell?_spot (hcell 0 (by omega))
    subst hspot
    refine ⟨b, off, rfl, hlt (.cell b off) (MemPlace.mem_row.2 ⟨0, by omega, by simp⟩), fun j u hj => ?_⟩
    have hjl : j < len := by have := (List.getElem?_eq_some_iff.1 hj).1; simp at this; omega
    have hjz : j < zs.length := by omega
    have := hcell j hjz
    rw [add_plain] at this
    rw [this, ← hj]
    simp [hjl, List.getD, hjz]


set_option maxRecDepth 100000 in
theorem open_ints_rd {r : Reach} {b0 : Nat} {t e : TypeId} {k : IntKind} {v : Value} {d : DataW H} {p : List MemPlace} (ht : Try.prog.underlying t = some (.slice e)) (he : Try.prog.underlying e = some (.int k)) (hc : Try.prog.cellsOf e = 1)
    (hv : Value.okWide Try.prog W r b0 t v) (h : DataW.Trod enc Try.prog W 0 (fun _ => true) true t v d p) (hlt : ∀ x ∈ p, x.block < W.heap.size) : ∃ xs : List Int, RdI W k v xs ∧ ∀ n ∈ xs, (Lit.int k n).wf = true := by
  obtain ⟨a0, len, cap, rfl⟩ := okWide_slice ht hv
  obtain ⟨fuel, hf⟩ := h
  exact open_ints_at ht he hc hf rfl hlt
set_option maxRecDepth 100000 in
theorem open_day {r : Reach} {b0 : Nat} {v : Value} {d : DataW H} {p : List MemPlace} (hv : Value.okWide Try.prog W r b0 24 v) (h : DataW.Trod enc Try.prog W 0 (fun _ => true) true 24 v d p) (hlt : ∀ x ∈ p, x.block < W.heap.size) :
    ∃ (R : Int) (x : Value) (xs : List Int), v = .agg #[.int .i64 R, x] ∧ RdI W .i64 x xs := by
  obtain ⟨v0, v1, y0, y1, n, rfl, rfl, rfl, h0, h1⟩ := open_agg2 Try.underlying24 (by kernel_rfl) (by kernel_rfl) hv h
  obtain ⟨q, hq, _, _⟩ := DataW.trod_int Try.underlying3 h0
  simp at hq
  subst hq
  obtain ⟨xs, hx, _⟩ := open_ints_at Try.underlying22 Try.underlying3 (by kernel_rfl) h1 rfl (fun x hx => hlt x (List.mem_append_right _ hx))
  exact ⟨q, v1, xs, rfl, hx⟩
end
end Go.Proofs.Ytjajdpggoggoiaa

namespace Go.Proofs.Ytjajdpggoggoiaa
open Go.RowKit Go.Shelf

theorem of_id (x : Value) (w : World) : Calls Try.prog 41 #[x] w fun e w' => e = .returned x ∧ w = w' := by
  go_enter Try.func41, Try.ntmps41
  go_wp2_with fail
  go_ret
  exact ⟨rfl, rfl⟩
theorem great_any (R : Int) (a : Option Addr) (n c : Nat) (w : World) : Calls Try.prog 15 #[.agg #[.int .i64 R, .slice a n c]] w fun e w' => e = .returned (.bool (decide (24 < n))) ∧ Below w.heap.size w w' := by
  by_cases h : 24 < n
  · rw [decide_eq_true h]
    have h2 : (24 : Int) < (n : Int) := by omega
    go_enter Try.func15, Try.ntmps15
    go_wp2_with fail
    go_ret
    exact ⟨rfl, bal (bz _) _⟩
  · rw [decide_eq_false h]
    have h2 : ¬ (24 : Int) < (n : Int) := by omega
    go_enter Try.func15, Try.ntmps15
    go_wp2_with fail
    go_ret
    exact ⟨rfl, bal (bz _) _⟩
theorem checkD_many {R : Int} {W : List Int} (h : 16 < W.length) : checkD R W ≠ 0 := by
  unfold checkD
  split
  · decide
  · first | decide | (rw [if_pos (by omega)]; decide)
theorem fine_any (R : Int) (x : Value) (W : List Int) (w : World) (hx0 : RdI w .i64 x W) : Calls Try.prog 35 #[.agg #[.int .i64 R, x]] w fun e w' => e = .returned (.bool (checkD R W == 0)) ∧ Below w.heap.size w w' := by
  obtain ⟨a, ca, rfl⟩ := hx0.ex _ rfl
  have HX := Lib.hid hx0
  by_cases h : 24 < W.length
  · rw [show (checkD R W == 0) = false from by simpa using checkD_many (R := R) (W := W) (by omega)]
    have HG := Lib.hid (fun wz => great_any R a W.length ca wz)
    rw [decide_eq_true h] at HG
    clear h hx0
    go_enter Try.func35, Try.ntmps35
    go_wp2_with fail
    refine (HG.out _).mono ?_
    rintro e w2 ⟨rfl, hB⟩
    have HB := Lib.hid (btr (bal (bz w) _) hB)
    clear hB
    go_wp2_with fail
    go_ret
    exact ⟨rfl, HB.out⟩
  · have HG := Lib.hid (fun wz => great_any R a W.length ca wz)
    have HK := Lib.hid (fun wz hx => rcheckday_any R (.slice a W.length ca) W wz hx (by omega))
    rw [decide_eq_false h] at HG
    have hr0 : (w.alloc (.cells #[.int .i64 R, .slice a W.length ca] 24)).cell? ⟨w.heap.size, 0, none⟩ = some (.int .i64 R) := cnew rfl rfl
    have hr1 : (w.alloc (.cells #[.int .i64 R, .slice a W.length ca] 24)).cell? ⟨w.heap.size, 1, none⟩ = some (.slice a W.length ca) := cnew rfl rfl
    clear h hx0
    generalize checkD R W = q at *
    go_enter Try.func35, Try.ntmps35
    go_wp2_with fail
    refine (HG.out _).mono ?_
    rintro e w2 ⟨rfl, hB⟩
    have HB := Lib.hid (btr (bal (bz w) _) hB)
    have k0 := (hB.cell (p := ⟨w.heap.size, 0, none⟩) (by simp)).trans hr0
    have k1 := (hB.cell (p := ⟨w.heap.size, 1, none⟩) (by simp)).trans hr1
    have kz := World.block_lt_of_cell? w2 _ k0
    simp only at kz
    clear hB hr0 hr1
    go_wp2_with fail
    refine (HK.out _ (HX.out.mono HB.out)).mono ?_
    rintro e w3 ⟨rfl, hB⟩
    have HB3 := Lib.hid (btr HB.out hB)
    clear hB
    go_wp2_with fail
    go_ret
    exact ⟨rfl, HB3.out⟩
theorem day_of (R : Int) (a : Option Addr) (n c : Nat) (w : World) : Calls Try.prog 61 #[.int .i64 R, .slice a n c] w fun e w' => e = .returned (.agg #[.int .i64 R, .slice a n c]) ∧ Below w.heap.size w w' := by
  go_enter Try.func61, Try.ntmps61
  go_wp2_with fail
  exact bodyPost_ret (results_cell rfl rfl (by go_simp)) rfl ⟨rfl, bal (bz _) _⟩
theorem rdI_set {w : World} {b o n c g i : Nat} {k : IntKind} {xs : List Int} {u : Value} (h : RdI w k (.slice (some ⟨b, o, none⟩) n c) xs) (hb : b ≠ g) : RdI (w.setCell ⟨g, i, none⟩ u) k (.slice (some ⟨b, o, none⟩) n c) xs := by
  obtain ⟨a, cap, e, h1, h2, h3⟩ := h
  refine ⟨a, cap, e, h1, h2, fun hne => ?_⟩
  obtain ⟨b', o', e', h4, h5⟩ := h3 hne
  simp only [Value.slice.injEq] at e
  obtain ⟨e, _, _⟩ := e
  rw [← e] at e'
  simp only [Option.some.injEq, Addr.mk.injEq, and_true] at e'
  obtain ⟨rfl, rfl⟩ := e'
  refine ⟨b, o, e.symm, by simpa using h4, fun j v hj => ?_⟩
  rw [World.cell?_setCell_other _ _ _ _ (by intro e2; exact hb (congrArg Addr.block e2).symm)]
  exact h5 j v hj
def D12 : List Int := [1, 2, 3, 4, 1, 2, 5, 1, 2, 3, 4, 5]
set_option maxHeartbeats 1000000 in
theorem day_any (R : Int) (w : World) : Calls Try.prog 40 #[.int .i64 R] w fun e w' => ∃ v, e = .returned (.agg #[.int .i64 R, v]) ∧ RdI w' .i64 v D12 ∧ Below w.heap.size w w' := by
  go_enter Try.func40, Try.ntmps40
  go_wp2_with fail
  refine (day_of R _ _ _ _).mono ?_
  rintro e w2 ⟨rfl, hB⟩
  have HB := Lib.hid (btr (bal (bal (bz w) _) _) hB)
  have HX := Lib.hid (((rdI_at (w.alloc (.cells #[.int .i64 0, .slice none 0 0] 24)) D12 3 (w.heap.size + 1) (by simp) (by decide)).mono hB))
  have hz : w.heap.size < w2.heap.size := by have := hB.size; simp at this; omega
  have hc := (hB.cell (p := ⟨w.heap.size, 0, none⟩) (by simp; omega)).trans ((cal _ (cnew rfl rfl) : ((w.alloc (.cells #[.int .i64 0, .slice none 0 0] 24)).alloc (.cells (arrI D12) 3)).cell? ⟨w.heap.size, 0, none⟩ = some (.int .i64 0)))
  have hc1 := (hB.cell (p := ⟨w.heap.size, 1, none⟩) (by simp; omega)).trans ((cal _ (cnew rfl rfl) : ((w.alloc (.cells #[.int .i64 0, .slice none 0 0] 24)).alloc (.cells (arrI D12) 3)).cell? ⟨w.heap.size, 1, none⟩ = some (.slice none 0 0)))
  have hf := (hB.frozen (p := ⟨w.heap.size, 0, none⟩) (by simp; omega)).trans ((fal _ (fnew rfl) (by simp) : ((w.alloc (.cells #[.int .i64 0, .slice none 0 0] 24)).alloc (.cells (arrI D12) 3)).frozen? ⟨w.heap.size, 0, none⟩ = false))
  have hf1 := (hB.frozen (p := ⟨w.heap.size, 1, none⟩) (by simp; omega)).trans ((fal _ (fnew rfl) (by simp) : ((w.alloc (.cells #[.int .i64 0, .slice none 0 0] 24)).alloc (.cells (arrI D12) 3)).frozen? ⟨w.heap.size, 1, none⟩ = false))
  have hrow := (hB.block w.heap.size (by simp; omega)).trans ((Below.heap_alloc (w.alloc (.cells #[.int .i64 0, .slice none 0 0] 24)) (.cells (arrI D12) 3) w.heap.size (by simp)).trans (heap_alloc_new w (.cells #[.int .i64 0, .slice none 0 0] 24)))
  clear hB
  go_wp2_with (refine wpList_store_row rfl 24 (.tmp 2) (.tmp 5) rfl w.heap.size #[.int .i64 R, .slice (some ⟨w.heap.size + 1, 0, none⟩) 12 12] rfl rfl 24 _ hrow (by kernel_rfl) rfl rfl ?_)
  have HX2 := Lib.hid (rdI_set (rdI_set HX.out (g := w.heap.size) (i := 0) (u := .int .i64 R) (by omega)) (g := w.heap.size) (i := 1) (u := .slice (some ⟨w.heap.size + 1, 0, none⟩) 12 12) (by omega))
  have HB2 := Lib.hid (bset (bset HB.out (p := ⟨w.heap.size, 0, none⟩) (Nat.le_refl _) (.int .i64 R)) (p := ⟨w.heap.size, 1, none⟩) (Nat.le_refl _) (.slice (some ⟨w.heap.size + 1, 0, none⟩) 12 12))
  have hl2 := run_loadVar_row ((w2.setCell ⟨w.heap.size, 0, none⟩ (.int .i64 R)).setCell ⟨w.heap.size, 1, none⟩ (.slice (some ⟨w.heap.size + 1, 0, none⟩) 12 12)) w.heap.size 24 24 #[.int .i64 R, .slice (some ⟨w.heap.size + 1, 0, none⟩) 12 12] (0, 0) _ (by
    rw [heap_setCell_same _ w.heap.size 1 _ _ _ (heap_setCell_same w2 w.heap.size 0 _ _ _ hrow)]; rfl) Try.underlying24 rfl (by kernel_rfl)
  exact bodyPost_ret (results_cell rfl rfl hl2) rfl ⟨_, rfl, HX2.out, HB2.out⟩
end Go.Proofs.Ytjajdpggoggoiaa

namespace Go.Proofs.Ytjajdpggoggoiaa
theorem kind4 : kindR 3 D12 4 = (0, 0) := by decide +kernel
theorem kind0 : kindR 3 D12 0 = (2, 0) := by decide +kernel
theorem kind3 : kindR 3 D12 3 = (2, 0) := by decide +kernel
theorem kind12 : kindR 3 D12 12 = (0, 3) := by decide +kernel
end Go.Proofs.Ytjajdpggoggoiaa
