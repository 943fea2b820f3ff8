/- Merged texts: values of examples; no condition. -/
import Derived.Test.YteknehlkdgamjaaGreatMC1
import Derived.Test.YteknehlkdgamjaaGreatMK7
import Derived.Laws.StructEq
import Derived.Test.YteknehlkdgamjaaGreatMGS
namespace Go.Proofs.YteknehlkdgamjaaGreat
open Go.RowKit Go.Shelf

theorem of_id (x : Value) (w : World) : Calls Tryz.prog 51 #[x] w fun e w' => e = .returned x ∧ w = w' := by
  go_enter Tryz.func51, Tryz.ntmps51
  go_wp2_with fail
  go_ret
  exact ⟨rfl, rfl⟩
theorem lists_id (x : Value) (w : World) : Calls Tryz.prog 54 #[x] w fun e w' => e = .returned x ∧ w = w' := by
  go_enter Tryz.func54, Tryz.ntmps54
  go_wp2_with fail
  go_ret
  exact ⟨rfl, rfl⟩
theorem longs_id (x : Value) (w : World) : Calls Tryz.prog 57 #[x] w fun e w' => e = .returned x ∧ w = w' := by
  go_enter Tryz.func57, Tryz.ntmps57
  go_wp2_with fail
  go_ret
  exact ⟨rfl, rfl⟩
set_option maxRecDepth 100000 in
set_option maxHeartbeats 400000 in
theorem longs_any (x y : Value) (xs ys : List Int) (w : World) (hx0 : RdI w .i64 x xs) (hy0 : RdI w .i64 y ys) (hl : xs.length ≤ 1000) (hl2 : ys.length ≤ 1000) :
    Calls Tryz.prog 22 #[x, y] w fun e w' => e = .returned (.bool (decide (xs = ys))) ∧ Below w.heap.size w w' := by
  obtain ⟨a, ca, rfl, _, _, hx⟩ := hx0.form
  obtain ⟨b, cb, rfl, _, _, hy⟩ := hy0.form
  clear hx0 hy0
  by_cases hll : xs.length = ys.length
  · have h1 : ((xs.length : Int) != (ys.length : Int)) = false := by simp [hll]
    have HL := Lib.hid hll; clear hll
    go_enter Tryz.func22, Tryz.ntmps22
    go_wp2
    go_loopw [5] (fun i wr => ∃ k : Nat, k ≤ xs.length ∧ i = .int .i64 k ∧ xs.take k = ys.take k ∧ Below w.heap.size w wr) (fun i _ => xs.length - (intOf i).toNat)
    case atStart => exact ⟨0, Nat.zero_le _, rfl, by simp, Below.refl _ _⟩
    case round =>
      obtain ⟨k, hk, rfl, ht, hB⟩ := hrel
      by_cases hlt : k < xs.length
      · obtain ⟨bx, ox, rfl, hbx, hcx⟩ := hx (by omega)
        obtain ⟨by', oy, rfl, hby, hcy⟩ := hy (by rw [← HL.out]; omega)
        have gx := (hB.cell (p := ⟨bx, ox + k, none⟩) hbx).trans (hcx k hlt)
        have hlt2 : k < ys.length := by rw [← HL.out]; exact hlt
        have gy := (hB.cell (p := ⟨by', oy + k, none⟩) hby).trans (hcy k hlt2)
        have HT := Lib.hid ht; clear ht
        clear hx hy hcx hcy
        by_cases he : xs[k]?.getD 0 = ys[k]?.getD 0
        · have hb1 : (xs[k]?.getD 0 != ys[k]?.getD 0) = false := by simp [he]
          have HE := Lib.hid he; clear he
          have HT2 := Lib.hid (take_eq_step xs ys k hlt hlt2 HT.out HE.out)
          generalize xs[k]?.getD 0 = p at *
          generalize ys[k]?.getD 0 = q at *
          go_wp2
          go_quiet (fail)
          go_wp2
          go_roundw
          case rel => exact ⟨k + 1, by omega, by go_num, HT2.out, Below.drewN' _ hB⟩
          case measure => simp [intOf]; omega
        · have hb1 : (xs[k]?.getD 0 != ys[k]?.getD 0) = true := by simpa using he
          have HE := Lib.hid (ne_of_get xs ys k he); clear he
          generalize xs[k]?.getD 0 = p at *
          generalize ys[k]?.getD 0 = q at *
          go_wp2
          go_quiet (fail)
          go_wp2
          go_ret
          exact ⟨ret_bool (by simp [HE.out]), Below.drewN' _ hB⟩
      · have HT := Lib.hid ht; clear ht
        go_wp2
        go_ret
        refine ⟨ret_bool ?_, hB⟩
        have h1 := HT.out
        rw [List.take_of_length_le (by omega), List.take_of_length_le (by rw [← HL.out]; omega)] at h1
        simp [h1]
  · have h1 : ((xs.length : Int) != (ys.length : Int)) = true := by rw [bne_iff_ne]; omega
    have HL := Lib.hid hll; clear hll
    go_enter Tryz.func22, Tryz.ntmps22
    go_wp2
    go_ret
    refine ⟨ret_bool ?_, Below.refl _ _⟩
    have := HL.out
    symm; simp only [decide_eq_false_iff_not]
    intro e; subst e; exact this rfl


theorem results_c1 {P : Program} {fn : Func} {p : Tmp} {ty : TypeId} {tmps : Array Value} {w : World} {g : Nat} {v : Value} (h : fn.results = #[.cell p ty]) (hp : tmps.getD p undef = .pointer (some ⟨g, 0, none⟩))
    (hl : (loadVar ty ⟨g, 0, none⟩).run P w = .ok v w) : (results fn tmps).run P w = .ok v w := by
  have hp' : tmps[p]?.getD undef = .pointer (some ⟨g, 0, none⟩) := by simpa using hp
  simp [results, h, hp', hl, asAddr]
theorem structB : Tryz.prog.underlying 24 = some (.struct (Tryz.prog.fieldsOf 24)) := by kernel_rfl
theorem loadB {w : World} {g : Nat} {x : Value} (h : w.heap[g]? = some (.cells #[x] 24 (0, 0))) : (loadVar 24 ⟨g, 0, none⟩).run Tryz.prog w = .ok (.agg #[x]) w :=
  run_loadVar_row w g 24 24 #[x] (0, 0) _ h structB rfl (by kernel_rfl)
theorem structJ : Tryz.prog.underlying 62 = some (.struct (Tryz.prog.fieldsOf 62)) := by kernel_rfl
theorem load_job {w : World} {g : Nat} {x y z : Value} (h : w.heap[g]? = some (.cells #[x, y, z] 62 (0, 0))) : (loadVar 62 ⟨g, 0, none⟩).run Tryz.prog w = .ok (.agg #[x, y, z]) w :=
  run_loadVar_row w g 62 62 #[x, y, z] (0, 0) _ h structJ rfl (by kernel_rfl)
theorem days_any (x y : Int) (w : World) : Calls Tryz.prog 37 #[.int .i64 x, .int .i64 y] w fun e w' => e = .returned (.agg #[.int .i64 x, .int .i64 y]) ∧ Below w.heap.size w w' := by
  go_enter Tryz.func37, Tryz.ntmps37
  go_wp2_with fail
  exact bodyPost_ret (results_c1 rfl rfl (load_range (heap_alloc_new w _))) rfl ⟨rfl, bal (bz w) _⟩
set_option maxRecDepth 100000 in
theorem job_any (x y : Int) (a : Option Addr) (n c : Nat) (w : World) : Calls Tryz.prog 85 #[.int .i64 x, .int .i64 y, .slice a n c] w fun e w' => e = .returned (.agg #[.int .i64 x, .int .i64 y, .slice a n c]) ∧ Below w.heap.size w w' := by
  have hz := heap_alloc_new w (.cells #[.int .i64 0, .int .i64 0, .slice none 0 0] 62)
  have zb := (Array.getElem?_eq_some_iff.1 hz).1
  have HZ := Lib.hid hz
  have HB := Lib.hid (bal (bz w) (.cells #[.int .i64 0, .int .i64 0, .slice none 0 0] 62))
  clear hz
  go_enter Tryz.func85, Tryz.ntmps85
  go_wp2_with fail
  generalize w.alloc (.cells #[.int .i64 0, .int .i64 0, .slice none 0 0] 62) = w1 at *
  refine (days_any x y w1).mono ?_
  rintro e w2 ⟨rfl, hB⟩
  have hz2 := (hB.block w.heap.size zb).trans HZ.out
  have e0 : w2.cell? ⟨w.heap.size, 0, none⟩ = some (.int .i64 0) := by rw [cell_of_row _ _ _ _ _ _ hz2]; rfl
  have e1 : w2.cell? ⟨w.heap.size, 1, none⟩ = some (.int .i64 0) := by rw [cell_of_row _ _ _ _ _ _ hz2]; rfl
  have e2 : w2.cell? ⟨w.heap.size, 2, none⟩ = some (.slice none 0 0) := by rw [cell_of_row _ _ _ _ _ _ hz2]; rfl
  have f0 : w2.frozen? ⟨w.heap.size, 0, none⟩ = false := frozen_of_row _ _ _ _ _ hz2
  have f1 : w2.frozen? ⟨w.heap.size, 1, none⟩ = false := frozen_of_row _ _ _ _ _ hz2
  have f2 : w2.frozen? ⟨w.heap.size, 2, none⟩ = false := frozen_of_row _ _ _ _ _ hz2
  have zb2 := Nat.lt_of_lt_of_le zb hB.size
  have HZ2 := Lib.hid hz2; have HB2 := Lib.hid (btr HB.out hB)
  clear hz2 hB zb
  go_wp2_with fail
  exact bodyPost_ret (results_c1 rfl rfl (load_job (heap_setCell_same _ _ 2 _ _ _ (heap_setCell_same _ _ 1 _ _ _ (heap_setCell_same w2 w.heap.size 0 _ _ _ HZ2.out))))) rfl
    ⟨rfl, bset (bset (bset HB2.out (p := ⟨w.heap.size, 0, none⟩) (Nat.le_refl _) _) (p := ⟨w.heap.size, 1, none⟩) (Nat.le_refl _) _) (p := ⟨w.heap.size, 2, none⟩) (Nat.le_refl _) _⟩
/-- Jobs that are written out. -/
theorem jl_new (w : World) (K : List Job) (es : List Value) (base z : Nat) (hb : base ≤ w.heap.size) (h : es.length = K.length) (hl : K.length ≤ 1000) (hr : ∀ i e, es[i]? = some e → RdI w .i64 e (job K i).ws ∧ Ap (fun k => z ≤ k ∧ k < base) e) :
    JL (w.alloc (.cells (jcs K es).toArray 62)) base z (.slice (some ⟨w.heap.size, 0, none⟩) K.length K.length) K es := by
  have hlen := jcs_len h
  refine ⟨h, ⟨hlen, .inr ⟨w.heap.size, K.length, (jcs K es).toArray, rfl, hb, heap_alloc_new w _, Nat.le_refl _, by unfold maxLen; omega, by simp [hlen], by simp [← hlen]⟩⟩, fun i e he => ?_⟩
  obtain ⟨h1, h2⟩ := hr i e he
  refine ⟨h1.mono (bal (bz w) _), Ap.or h2 (ap_old h1 fun k hk => ?_)⟩
  simp [Value.ownBlock] at hk
  omega
theorem ap_none (B : Nat → Prop) (n c : Nat) : Ap B (.slice none n c) := fun b o s n c e _ _ => by cases e
theorem ap_blk {B : Nat → Prop} {b o n c : Nat} (h : ∀ k, ¬ (B k ∧ k = b)) : Ap B (.slice (some ⟨b, o, none⟩) n c) := fun b' o s n c e _ hb => by
  cases e; exact h _ ⟨hb, rfl⟩
def workJ : List Job := [⟨2, 4, []⟩, ⟨3, 3, [0]⟩, ⟨1, 6, [0]⟩, ⟨2, 2, [1, 2]⟩]
def circJ : List Job := [⟨1, 1, [1]⟩, ⟨1, 1, [0]⟩]
theorem one_cel {w : World} {g : Nat} {x : Value} {t : TypeId} (h : w.heap[g]? = some (.cells #[x] t (0, 0))) : w.cell? ⟨g, 0, none⟩ = some x ∧ w.frozen? ⟨g, 0, none⟩ = false :=
  ⟨by rw [cell_of_row _ _ _ _ _ _ h]; rfl, frozen_of_row _ _ _ _ _ h⟩
set_option maxRecDepth 100000 in
set_option maxHeartbeats 1600000 in
theorem circle_lit (w : World) : Calls Tryz.prog 50 #[] w fun e w' => ∃ x, e = .returned (.agg #[x]) ∧ RdJ w' x circJ ∧ Below w.heap.size w w' := by
  have HZ := Lib.hid (heap_alloc_new w (.cells #[.slice none 0 0] 24))
  have HB := Lib.hid (bal (bz w) (.cells #[.slice none 0 0] 24))
  have zb : w.heap.size < (w.alloc (.cells #[.slice none 0 0] 24)).heap.size := by simp
  go_enter Tryz.func50, Tryz.ntmps50
  go_upto_region 1 with fail
  generalize w.alloc (.cells #[.slice none 0 0] 24) = w1 at *
  go_wp2_with fail
  have HZ0 := Lib.hid (⟨HZ.out, bz w1, zb⟩ : w1.heap[w.heap.size]? = some (.cells #[.slice none 0 0] 24 (0, 0)) ∧ Below w1.heap.size w1 w1 ∧ w.heap.size < w1.heap.size)
  have HR0 := Lib.hid (rdI_at w1 [1] 3 w1.heap.size rfl (by simp))
  have HS0 := Lib.hid HZ0.out.2.2
  have HBw2 := Lib.hid (bal (bz w1) (.cells #[.int .i64 1] 3))
  have ew2 : ∃ x, x = w1.alloc (.cells #[.int .i64 1] 3) := ⟨_, rfl⟩
  obtain ⟨w2, ew2⟩ := ew2
  change Hid (RdI (w1.alloc (.cells #[.int .i64 1] 3)) .i64 _ [1]) at HR0
  rw [← ew2] at HR0 HBw2
  rw [← ew2]
  clear ew2
  replace HB := Lib.hid (btr HB.out HBw2.out)
  replace HZ0 := Lib.hid (⟨(HBw2.out.block _ HZ0.out.2.2).trans HZ0.out.1, bz w2, Nat.lt_of_lt_of_le HZ0.out.2.2 HBw2.out.size⟩ : w2.heap[w.heap.size]? = some (.cells #[.slice none 0 0] 24 (0, 0)) ∧ Below w2.heap.size w2 w2 ∧ w.heap.size < w2.heap.size)
  generalize hs0 : w1.heap.size = s0 at HR0 HS0 ⊢
  clear hs0
  refine (job_any _ _ _ _ _ w2).mono ?_
  rintro e w3 ⟨rfl, hB⟩
  have HBw3 := Lib.hid hB
  clear hB
  replace HR0 := Lib.hid (HR0.out.mono HBw3.out)
  replace HB := Lib.hid (btr HB.out HBw3.out)
  replace HZ0 := Lib.hid (⟨(HBw3.out.block _ HZ0.out.2.2).trans HZ0.out.1, bz w3, Nat.lt_of_lt_of_le HZ0.out.2.2 HBw3.out.size⟩ : w3.heap[w.heap.size]? = some (.cells #[.slice none 0 0] 24 (0, 0)) ∧ Below w3.heap.size w3 w3 ∧ w.heap.size < w3.heap.size)
  go_wp2_with fail
  have HR1 := Lib.hid (rdI_at w3 [0] 3 w3.heap.size rfl (by simp))
  have HS1 := Lib.hid HZ0.out.2.2
  have HBw4 := Lib.hid (bal (bz w3) (.cells #[.int .i64 0] 3))
  have ew4 : ∃ x, x = w3.alloc (.cells #[.int .i64 0] 3) := ⟨_, rfl⟩
  obtain ⟨w4, ew4⟩ := ew4
  change Hid (RdI (w3.alloc (.cells #[.int .i64 0] 3)) .i64 _ [0]) at HR1
  rw [← ew4] at HR1 HBw4
  rw [← ew4]
  clear ew4
  replace HR0 := Lib.hid (HR0.out.mono HBw4.out)
  replace HB := Lib.hid (btr HB.out HBw4.out)
  replace HZ0 := Lib.hid (⟨(HBw4.out.block _ HZ0.out.2.2).trans HZ0.out.1, bz w4, Nat.lt_of_lt_of_le HZ0.out.2.2 HBw4.out.size⟩ : w4.heap[w.heap.size]? = some (.cells #[.slice none 0 0] 24 (0, 0)) ∧ Below w4.heap.size w4 w4 ∧ w.heap.size < w4.heap.size)
  generalize hs1 : w3.heap.size = s1 at HR1 HS1 ⊢
  clear hs1
  refine (job_any _ _ _ _ _ w4).mono ?_
  rintro e w5 ⟨rfl, hB⟩
  have HBw5 := Lib.hid hB
  clear hB
  replace HR0 := Lib.hid (HR0.out.mono HBw5.out)
  replace HR1 := Lib.hid (HR1.out.mono HBw5.out)
  replace HB := Lib.hid (btr HB.out HBw5.out)
  replace HZ0 := Lib.hid (⟨(HBw5.out.block _ HZ0.out.2.2).trans HZ0.out.1, bz w5, Nat.lt_of_lt_of_le HZ0.out.2.2 HBw5.out.size⟩ : w5.heap[w.heap.size]? = some (.cells #[.slice none 0 0] 24 (0, 0)) ∧ Below w5.heap.size w5 w5 ∧ w.heap.size < w5.heap.size)
  have HJ := Lib.hid (jl_new w5 circJ [.slice (some ⟨s0, 0, none⟩) 1 1, .slice (some ⟨s1, 0, none⟩) 1 1] (w.heap.size + 1) w.heap.size (Nat.succ_le_of_lt HZ0.out.2.2) rfl (by decide) (fun i e he => by
    match i with
    | 0 => simp at he; subst he; exact ⟨HR0.out, ap_blk (by have := HS0.out; intro k; omega)⟩
    | 1 => simp at he; subst he; exact ⟨HR1.out, ap_blk (by have := HS1.out; intro k; omega)⟩
    | n + 2 => simp at he))
  obtain ⟨g0, f0⟩ := one_cel HZ0.out.1
  have z0 := HZ0.out.2.2
  change Hid (JL (w5.alloc (.cells #[.int .i64 1, .int .i64 1, .slice (some ⟨s0, 0, none⟩) 1 1, .int .i64 1, .int .i64 1, .slice (some ⟨s1, 0, none⟩) 1 1] 62)) _ _ (.slice (some ⟨w5.heap.size, 0, none⟩) 2 2) circJ _) at HJ
  have HBE := Lib.hid (bal (bz w5) (.cells #[.int .i64 1, .int .i64 1, .slice (some ⟨s0, 0, none⟩) 1 1, .int .i64 1, .int .i64 1, .slice (some ⟨s1, 0, none⟩) 1 1] 62))
  have HZE := Lib.hid ((HBE.out.block _ z0).trans HZ0.out.1)
  have gE := (HBE.out.cell (p := ⟨w.heap.size, 0, none⟩) z0).trans g0
  have fE := (HBE.out.frozen (p := ⟨w.heap.size, 0, none⟩) z0).trans f0
  have zE := Nat.lt_of_lt_of_le z0 HBE.out.size
  clear g0 f0 z0 zb
  go_wp2_with fail
  exact bodyPost_ret (results_c1 rfl rfl (loadB (heap_setCell_same _ _ 0 _ _ _ HZE.out))) rfl ⟨_, rfl, (HJ.out.set (Nat.le_refl _) (Nat.lt_succ_self _) 0 _).rd, bset (btr HB.out HBE.out) (p := ⟨w.heap.size, 0, none⟩) (Nat.le_refl _) _⟩
set_option maxRecDepth 100000 in
set_option maxHeartbeats 1600000 in
theorem work_lit (w : World) : Calls Tryz.prog 49 #[] w fun e w' => ∃ x, e = .returned (.agg #[x]) ∧ RdJ w' x workJ ∧ Below w.heap.size w w' := by
  have HZ := Lib.hid (heap_alloc_new w (.cells #[.slice none 0 0] 24))
  have HB := Lib.hid (bal (bz w) (.cells #[.slice none 0 0] 24))
  have zb : w.heap.size < (w.alloc (.cells #[.slice none 0 0] 24)).heap.size := by simp
  go_enter Tryz.func49, Tryz.ntmps49
  go_upto_region 1 with fail
  generalize w.alloc (.cells #[.slice none 0 0] 24) = w1 at *
  go_wp2_with fail
  have HZ0 := Lib.hid (⟨HZ.out, bz w1, zb⟩ : w1.heap[w.heap.size]? = some (.cells #[.slice none 0 0] 24 (0, 0)) ∧ Below w1.heap.size w1 w1 ∧ w.heap.size < w1.heap.size)
  have HR0 := Lib.hid (rdI_nil w1 .i64)
  refine (job_any _ _ _ _ _ w1).mono ?_
  rintro e w2 ⟨rfl, hB⟩
  have HBw2 := Lib.hid hB
  clear hB
  replace HR0 := Lib.hid (HR0.out.mono HBw2.out)
  replace HB := Lib.hid (btr HB.out HBw2.out)
  replace HZ0 := Lib.hid (⟨(HBw2.out.block _ HZ0.out.2.2).trans HZ0.out.1, bz w2, Nat.lt_of_lt_of_le HZ0.out.2.2 HBw2.out.size⟩ : w2.heap[w.heap.size]? = some (.cells #[.slice none 0 0] 24 (0, 0)) ∧ Below w2.heap.size w2 w2 ∧ w.heap.size < w2.heap.size)
  go_wp2_with fail
  have HR1 := Lib.hid (rdI_at w2 [0] 3 w2.heap.size rfl (by simp))
  have HS1 := Lib.hid HZ0.out.2.2
  have HBw3 := Lib.hid (bal (bz w2) (.cells #[.int .i64 0] 3))
  have ew3 : ∃ x, x = w2.alloc (.cells #[.int .i64 0] 3) := ⟨_, rfl⟩
  obtain ⟨w3, ew3⟩ := ew3
  change Hid (RdI (w2.alloc (.cells #[.int .i64 0] 3)) .i64 _ [0]) at HR1
  rw [← ew3] at HR1 HBw3
  rw [← ew3]
  clear ew3
  replace HR0 := Lib.hid (HR0.out.mono HBw3.out)
  replace HB := Lib.hid (btr HB.out HBw3.out)
  replace HZ0 := Lib.hid (⟨(HBw3.out.block _ HZ0.out.2.2).trans HZ0.out.1, bz w3, Nat.lt_of_lt_of_le HZ0.out.2.2 HBw3.out.size⟩ : w3.heap[w.heap.size]? = some (.cells #[.slice none 0 0] 24 (0, 0)) ∧ Below w3.heap.size w3 w3 ∧ w.heap.size < w3.heap.size)
  generalize hs1 : w2.heap.size = s1 at HR1 HS1 ⊢
  clear hs1
  refine (job_any _ _ _ _ _ w3).mono ?_
  rintro e w4 ⟨rfl, hB⟩
  have HBw4 := Lib.hid hB
  clear hB
  replace HR0 := Lib.hid (HR0.out.mono HBw4.out)
  replace HR1 := Lib.hid (HR1.out.mono HBw4.out)
  replace HB := Lib.hid (btr HB.out HBw4.out)
  replace HZ0 := Lib.hid (⟨(HBw4.out.block _ HZ0.out.2.2).trans HZ0.out.1, bz w4, Nat.lt_of_lt_of_le HZ0.out.2.2 HBw4.out.size⟩ : w4.heap[w.heap.size]? = some (.cells #[.slice none 0 0] 24 (0, 0)) ∧ Below w4.heap.size w4 w4 ∧ w.heap.size < w4.heap.size)
  go_wp2_with fail
  have HR2 := Lib.hid (rdI_at w4 [0] 3 w4.heap.size rfl (by simp))
  have HS2 := Lib.hid HZ0.out.2.2
  have HBw5 := Lib.hid (bal (bz w4) (.cells #[.int .i64 0] 3))
  have ew5 : ∃ x, x = w4.alloc (.cells #[.int .i64 0] 3) := ⟨_, rfl⟩
  obtain ⟨w5, ew5⟩ := ew5
  change Hid (RdI (w4.alloc (.cells #[.int .i64 0] 3)) .i64 _ [0]) at HR2
  rw [← ew5] at HR2 HBw5
  rw [← ew5]
  clear ew5
  replace HR0 := Lib.hid (HR0.out.mono HBw5.out)
  replace HR1 := Lib.hid (HR1.out.mono HBw5.out)
  replace HB := Lib.hid (btr HB.out HBw5.out)
  replace HZ0 := Lib.hid (⟨(HBw5.out.block _ HZ0.out.2.2).trans HZ0.out.1, bz w5, Nat.lt_of_lt_of_le HZ0.out.2.2 HBw5.out.size⟩ : w5.heap[w.heap.size]? = some (.cells #[.slice none 0 0] 24 (0, 0)) ∧ Below w5.heap.size w5 w5 ∧ w.heap.size < w5.heap.size)
  generalize hs2 : w4.heap.size = s2 at HR2 HS2 ⊢
  clear hs2
  refine (job_any _ _ _ _ _ w5).mono ?_
  rintro e w6 ⟨rfl, hB⟩
  have HBw6 := Lib.hid hB
  clear hB
  replace HR0 := Lib.hid (HR0.out.mono HBw6.out)
  replace HR1 := Lib.hid (HR1.out.mono HBw6.out)
  replace HR2 := Lib.hid (HR2.out.mono HBw6.out)
  replace HB := Lib.hid (btr HB.out HBw6.out)
  replace HZ0 := Lib.hid (⟨(HBw6.out.block _ HZ0.out.2.2).trans HZ0.out.1, bz w6, Nat.lt_of_lt_of_le HZ0.out.2.2 HBw6.out.size⟩ : w6.heap[w.heap.size]? = some (.cells #[.slice none 0 0] 24 (0, 0)) ∧ Below w6.heap.size w6 w6 ∧ w.heap.size < w6.heap.size)
  go_wp2_with fail
  have HR3 := Lib.hid (rdI_at w6 [1, 2] 3 w6.heap.size rfl (by simp))
  have HS3 := Lib.hid HZ0.out.2.2
  have HBw7 := Lib.hid (bal (bz w6) (.cells #[.int .i64 1, .int .i64 2] 3))
  have ew7 : ∃ x, x = w6.alloc (.cells #[.int .i64 1, .int .i64 2] 3) := ⟨_, rfl⟩
  obtain ⟨w7, ew7⟩ := ew7
  change Hid (RdI (w6.alloc (.cells #[.int .i64 1, .int .i64 2] 3)) .i64 _ [1, 2]) at HR3
  rw [← ew7] at HR3 HBw7
  rw [← ew7]
  clear ew7
  replace HR0 := Lib.hid (HR0.out.mono HBw7.out)
  replace HR1 := Lib.hid (HR1.out.mono HBw7.out)
  replace HR2 := Lib.hid (HR2.out.mono HBw7.out)
  replace HB := Lib.hid (btr HB.out HBw7.out)
  replace HZ0 := Lib.hid (⟨(HBw7.out.block _ HZ0.out.2.2).trans HZ0.out.1, bz w7, Nat.lt_of_lt_of_le HZ0.out.2.2 HBw7.out.size⟩ : w7.heap[w.heap.size]? = some (.cells #[.slice none 0 0] 24 (0, 0)) ∧ Below w7.heap.size w7 w7 ∧ w.heap.size < w7.heap.size)
  generalize hs3 : w6.heap.size = s3 at HR3 HS3 ⊢
  clear hs3
  refine (job_any _ _ _ _ _ w7).mono ?_
  rintro e w8 ⟨rfl, hB⟩
  have HBw8 := Lib.hid hB
  clear hB
  replace HR0 := Lib.hid (HR0.out.mono HBw8.out)
  replace HR1 := Lib.hid (HR1.out.mono HBw8.out)
  replace HR2 := Lib.hid (HR2.out.mono HBw8.out)
  replace HR3 := Lib.hid (HR3.out.mono HBw8.out)
  replace HB := Lib.hid (btr HB.out HBw8.out)
  replace HZ0 := Lib.hid (⟨(HBw8.out.block _ HZ0.out.2.2).trans HZ0.out.1, bz w8, Nat.lt_of_lt_of_le HZ0.out.2.2 HBw8.out.size⟩ : w8.heap[w.heap.size]? = some (.cells #[.slice none 0 0] 24 (0, 0)) ∧ Below w8.heap.size w8 w8 ∧ w.heap.size < w8.heap.size)
  have HJ := Lib.hid (jl_new w8 workJ [.slice none 0 0, .slice (some ⟨s1, 0, none⟩) 1 1, .slice (some ⟨s2, 0, none⟩) 1 1, .slice (some ⟨s3, 0, none⟩) 2 2] (w.heap.size + 1) w.heap.size (Nat.succ_le_of_lt HZ0.out.2.2) rfl (by decide) (fun i e he => by
    match i with
    | 0 => simp at he; subst he; exact ⟨HR0.out, ap_none _ _ _⟩
    | 1 => simp at he; subst he; exact ⟨HR1.out, ap_blk (by have := HS1.out; intro k; omega)⟩
    | 2 => simp at he; subst he; exact ⟨HR2.out, ap_blk (by have := HS2.out; intro k; omega)⟩
    | 3 => simp at he; subst he; exact ⟨HR3.out, ap_blk (by have := HS3.out; intro k; omega)⟩
    | n + 4 => simp at he))
  obtain ⟨g0, f0⟩ := one_cel HZ0.out.1
  have z0 := HZ0.out.2.2
  change Hid (JL (w8.alloc (.cells #[.int .i64 2, .int .i64 4, .slice none 0 0, .int .i64 3, .int .i64 3, .slice (some ⟨s1, 0, none⟩) 1 1, .int .i64 1, .int .i64 6, .slice (some ⟨s2, 0, none⟩) 1 1, .int .i64 2, .int .i64 2, .slice (some ⟨s3, 0, none⟩) 2 2] 62)) _ _ (.slice (some ⟨w8.heap.size, 0, none⟩) 4 4) workJ _) at HJ
  have HBE := Lib.hid (bal (bz w8) (.cells #[.int .i64 2, .int .i64 4, .slice none 0 0, .int .i64 3, .int .i64 3, .slice (some ⟨s1, 0, none⟩) 1 1, .int .i64 1, .int .i64 6, .slice (some ⟨s2, 0, none⟩) 1 1, .int .i64 2, .int .i64 2, .slice (some ⟨s3, 0, none⟩) 2 2] 62))
  have HZE := Lib.hid ((HBE.out.block _ z0).trans HZ0.out.1)
  have gE := (HBE.out.cell (p := ⟨w.heap.size, 0, none⟩) z0).trans g0
  have fE := (HBE.out.frozen (p := ⟨w.heap.size, 0, none⟩) z0).trans f0
  have zE := Nat.lt_of_lt_of_le z0 HBE.out.size
  clear g0 f0 z0 zb
  go_wp2_with fail
  exact bodyPost_ret (results_c1 rfl rfl (loadB (heap_setCell_same _ _ 0 _ _ _ HZE.out))) rfl ⟨_, rfl, (HJ.out.set (Nat.le_refl _) (Nat.lt_succ_self _) 0 _).rd, bset (btr HB.out HBE.out) (p := ⟨w.heap.size, 0, none⟩) (Nat.le_refl _) _⟩
end Go.Proofs.YteknehlkdgamjaaGreat

namespace Go.Proofs.YteknehlkdgamjaaGreat
open Go.RowKit Go.Shelf

theorem takeP_step (xs ys : List (Int × Int)) (k : Nat) (hx : k < xs.length) (hy : k < ys.length) (h : xs.take k = ys.take k) (he : xs[k]?.getD (0, 0) = ys[k]?.getD (0, 0)) : xs.take (k+1) = ys.take (k+1) := by
  rw [List.take_succ_eq_append_getElem hx, List.take_succ_eq_append_getElem hy, h]
  simp [hx, hy] at he
  rw [he]
theorem neP_of_get (xs ys : List (Int × Int)) (k : Nat) (he : xs[k]?.getD (0, 0) ≠ ys[k]?.getD (0, 0)) : xs ≠ ys := by
  intro e; subst e; exact he rfl
theorem range_eqIn (a b c d : Int) (w : World) : (Op.equalIn 10000 32 (.agg #[.int .i64 a, .int .i64 b]) (.agg #[.int .i64 c, .int .i64 d])).run Tryz.prog w = .ok (a == c && b == d) w := by
  have u2 := Tryz.underlying2
  have a2 := Tryz.isAgg2
  have z2 := Tryz.sizeOf2
  have hp : Tryz.prog.stoodInHeld 32 = false := by kernel_rfl
  rw [show (10000 : Nat) = 9999 + 1 from rfl, run_equalIn_agg w 9999 32 _ _ structR hp]
  simp only [Program.fieldsOf, Tryz.underlying32]
  go_simp
  by_cases h1 : a = c <;> by_cases h2 : b = d <;> simp [h1, h2]
theorem range_ne (a b c d : Int) (w : World) : (binOp .neq 32 (.agg #[.int .i64 a, .int .i64 b]) (.agg #[.int .i64 c, .int .i64 d])).run Tryz.prog w = .ok (.bool (!(a == c && b == d))) w := by
  rw [run_neq_struct, range_eqIn]; rfl
theorem range_eq (a b c d : Int) (w : World) : (binOp .eql 32 (.agg #[.int .i64 a, .int .i64 b]) (.agg #[.int .i64 c, .int .i64 d])).run Tryz.prog w = .ok (.bool (a == c && b == d)) w := by
  rw [run_eql_struct, range_eqIn]; rfl
theorem range_guard : Tryz.prog.eqGuardType Tryz.prog.depth 32 = false := by kernel_rfl
theorem wpQuiet_range_ne {ops : Array Oper} {Q : Act → Prop} {a : Act} {C : World → Prop} {rest : List Oper} {o : Oper} (hgd : Region.wanted o (yielded ops a.tmps) = true) (x y : Operand) (t : TypeId) (ho : o.op = .binOp .neq 32 x y t) (p q p' q' : Int) (hx : a.eval x = .agg #[.int .i64 p, .int .i64 q]) (hy : a.eval y = .agg #[.int .i64 p', .int .i64 q'])
    (h : wpQuiet Tryz.prog ops C Q rest (a.put o.dst (.bool (!(p == p' && q == q'))))) : wpQuiet Tryz.prog ops C Q (o :: rest) a := by
  unfold wpQuiet
  rw [if_pos hgd]
  refine ⟨_, fun w _ => ?_, h⟩
  unfold Oper.quietAt execOp
  simp only [ho, hx, hy, Sem.run_bind, run_eqGuard_agg _ _ _ _ _ _ _ range_guard, Result.andThen_ok, range_ne, Sem.run_pure, Oper.quietUpon, and_self]
theorem wpQuiet_range_eq {ops : Array Oper} {Q : Act → Prop} {a : Act} {C : World → Prop} {rest : List Oper} {o : Oper} (hgd : Region.wanted o (yielded ops a.tmps) = true) (x y : Operand) (t : TypeId) (ho : o.op = .binOp .eql 32 x y t) (p q p' q' : Int) (hx : a.eval x = .agg #[.int .i64 p, .int .i64 q]) (hy : a.eval y = .agg #[.int .i64 p', .int .i64 q'])
    (h : wpQuiet Tryz.prog ops C Q rest (a.put o.dst (.bool (p == p' && q == q')))) : wpQuiet Tryz.prog ops C Q (o :: rest) a := by
  unfold wpQuiet
  rw [if_pos hgd]
  refine ⟨_, fun w _ => ?_, h⟩
  unfold Oper.quietAt execOp
  simp only [ho, hx, hy, Sem.run_bind, run_eqGuard_agg _ _ _ _ _ _ _ range_guard, Result.andThen_ok, range_eq, Sem.run_pure, Oper.quietUpon, and_self]
theorem RdP.form' {w : World} {v : Value} {V : List (Int × Int)} (h : RdP w v V) :
    ∃ a cap, v = .slice a V.length cap ∧ (0 < V.length → ∃ b off, a = some ⟨b, off, none⟩ ∧ b < w.heap.size ∧ ∀ j, j < V.length → w.cell? ⟨b, off + j * 2, none⟩ = some (.int .i64 (V[j]?.getD (0, 0)).1) ∧ w.cell? ⟨b, off + j * 2 + 1, none⟩ = some (.int .i64 (V[j]?.getD (0, 0)).2)) := by
  obtain ⟨a, cap, rfl, h1, h2, h⟩ := h
  refine ⟨a, cap, rfl, fun hn => ?_⟩
  obtain ⟨b, off, rfl, hb, hc⟩ := h (by intro e; have := prs_length V; rw [e] at this; simp at this; omega)
  refine ⟨b, off, rfl, hb, fun j hj => ?_⟩
  obtain ⟨g1, g2⟩ := prs_get V j hj
  exact ⟨hc _ _ g1, hc _ _ g2⟩
set_option maxRecDepth 100000 in
set_option maxHeartbeats 400000 in
theorem ranges_any (x y : Value) (xs ys : List (Int × Int)) (w : World) (hx0 : RdP w x xs) (hy0 : RdP w y ys) (hl : xs.length ≤ 1000) (hl2 : ys.length ≤ 1000) :
    Calls Tryz.prog 21 #[x, y] w fun e w' => e = .returned (.bool (decide (xs = ys))) ∧ Below w.heap.size w w' := by
  obtain ⟨a, ca, rfl, hx⟩ := hx0.form'
  obtain ⟨b, cb, rfl, hy⟩ := hy0.form'
  clear hx0 hy0
  by_cases hll : xs.length = ys.length
  · have h1 : ((xs.length : Int) != (ys.length : Int)) = false := by simp [hll]
    have HL := Lib.hid hll; clear hll
    go_enter Tryz.func21, Tryz.ntmps21
    go_wp2
    go_loopw [5] (fun i wr => ∃ k : Nat, k ≤ xs.length ∧ i = .int .i64 k ∧ xs.take k = ys.take k ∧ Below w.heap.size w wr) (fun i _ => xs.length - (intOf i).toNat)
    case atStart => exact ⟨0, Nat.zero_le _, rfl, by simp, Below.refl _ _⟩
    case round =>
      obtain ⟨k, hk, rfl, ht, hB⟩ := hrel
      have HB := Lib.hid hB
      by_cases hlt : k < xs.length
      · obtain ⟨bx, ox, rfl, hbx, hcx⟩ := hx (by omega)
        obtain ⟨by', oy, rfl, hby, hcy⟩ := hy (by rw [← HL.out]; omega)
        have hlt2 : k < ys.length := by rw [← HL.out]; exact hlt
        have gx0 := (hB.cell (p := ⟨bx, ox + k * 2, none⟩) hbx).trans (hcx k hlt).1
        have gx1 := (hB.cell (p := ⟨bx, ox + k * 2 + 1, none⟩) hbx).trans (hcx k hlt).2
        have gy0 := (hB.cell (p := ⟨by', oy + k * 2, none⟩) hby).trans (hcy k hlt2).1
        have gy1 := (hB.cell (p := ⟨by', oy + k * 2 + 1, none⟩) hby).trans (hcy k hlt2).2
        have zx := Nat.lt_of_lt_of_le hbx hB.size
        have zy := Nat.lt_of_lt_of_le hby hB.size
        have HT := Lib.hid ht; clear ht
        have HS := Lib.hid (fun he => takeP_step xs ys k hlt hlt2 HT.out he)
        have HNE := Lib.hid (neP_of_get xs ys k)
        clear hx hy hcx hcy hbx hby hB
        generalize xs[k]?.getD (0, 0) = p at *
        generalize ys[k]?.getD (0, 0) = q at *
        obtain ⟨p1, p2⟩ := p
        obtain ⟨q1, q2⟩ := q
        dsimp only at *
        have HQ : Hid ((p1, p2) = (q1, q2) ↔ (p1 == q1 && p2 == q2) = true) := Lib.hid (by simp)
        go_upto_region 6 with fail
        refine wp_region_flow [] [] [0, 1, 2, 3, 4, 5, 6, 7, 8] (by kernel_rfl) (by kernel_rfl) ?_
        intro wc hBc hh
        clear hh
        have HBC := Lib.hid (btr HB.out hBc)
        have hL := @Later.cell wc
        have k1 := (hBc.cell (p := ⟨bx, ox + k * 2, none⟩) zx).trans gx0
        have k2 := (hBc.cell (p := ⟨bx, ox + k * 2 + 1, none⟩) zx).trans gx1
        have k3 := (hBc.cell (p := ⟨by', oy + k * 2, none⟩) zy).trans gy0
        have k4 := (hBc.cell (p := ⟨by', oy + k * 2 + 1, none⟩) zy).trans gy1
        have z1 := Nat.lt_of_lt_of_le zx hBc.size
        have z2 := Nat.lt_of_lt_of_le zy hBc.size
        clear hBc gx0 gx1 gy0 gy1 zx zy
        simp only [flowP, flow, pickL, List.getElem?_cons_succ, List.getElem?_cons_zero]
        refine wpQuiet_nil ?_
        repeat (go_big_quiet_step (fail))
        refine wpQuiet_range_ne rfl _ _ _ rfl p1 p2 q1 q2 rfl rfl ?_
        cases hpq : (p1 == q1 && p2 == q2) with
        | true =>
          have HT2 := Lib.hid (HS.out (HQ.out.2 hpq))
          clear hpq
          refine wpQuiet_nil ?_
          refine only_done ?_
          clear hL k1 k2 k3 k4 z1 z2
          go_wp2_with fail
          go_roundw
          case rel => exact ⟨k + 1, by omega, by go_num, HT2.out, HBC.out⟩
          case measure => simp [intOf]; omega
        | false =>
          have HN2 := Lib.hid (HNE.out (fun e => by rw [HQ.out.1 e] at hpq; cases hpq))
          clear hpq
          refine wpQuiet_nil ?_
          refine only_done ?_
          clear hL k1 k2 k3 k4 z1 z2
          go_wp2_with fail
          go_ret
          exact ⟨ret_bool (by simp [HN2.out]), HBC.out⟩
      · have HT := Lib.hid ht; clear ht
        go_wp2
        go_ret
        refine ⟨ret_bool ?_, hB⟩
        have h1 := HT.out
        rw [List.take_of_length_le (by omega), List.take_of_length_le (by rw [← HL.out]; omega)] at h1
        simp [h1]
  · have h1 : ((xs.length : Int) != (ys.length : Int)) = true := by rw [bne_iff_ne]; omega
    have HL := Lib.hid hll; clear hll
    go_enter Tryz.func21, Tryz.ntmps21
    go_wp2
    go_ret
    refine ⟨ret_bool ?_, Below.refl _ _⟩
    have := HL.out
    symm; simp only [decide_eq_false_iff_not]
    intro e; subst e; exact this rfl
end Go.Proofs.YteknehlkdgamjaaGreat

namespace Go.Proofs.YteknehlkdgamjaaGreat
open Go.RowKit Go.Shelf

theorem exErr : errC workJ = 0 := by decide +kernel
theorem exErrX : errC circJ = 13 := by decide +kernel
theorem exFine : FineJ workJ ∧ cir workJ = false := fine_err exErr
theorem exSm : SmJ workJ := ⟨by decide, fun i => by
  rcases Nat.lt_or_ge i 4 with h | h
  · match i, h with
    | 0, _ => decide
    | 1, _ => decide
    | 2, _ => decide
    | 3, _ => decide
  · rw [show job workJ i = ⟨0, 0, []⟩ from by unfold job; rw [List.getElem?_eq_none h]; rfl]; simp⟩
theorem exSmX : SmJ circJ := ⟨by decide, fun i => by
  rcases Nat.lt_or_ge i 2 with h | h
  · match i, h with
    | 0, _ => decide
    | 1, _ => decide
  · rw [show job circJ i = ⟨0, 0, []⟩ from by unfold job; rw [List.getElem?_eq_none h]; rfl]; simp⟩
theorem exStarts : staL workJ = [(0, 0), (2, 4), (2, 4), (5, 10)] := by decide +kernel
theorem exStartsX : staL circJ = [] := by decide +kernel
theorem exLength : lenR workJ = (7, 12) := by decide +kernel
theorem exLengthX : lenR circJ = (0, 0) := by decide +kernel
theorem exChain1 : chainC workJ [0, 2, 3] = 0 ∧ chainV workJ [0, 2, 3] = (5, 12) := by decide +kernel
theorem exChain2 : chainC workJ [0, 3] = 16 ∧ chainV workJ [0, 3] = (0, 0) := by decide +kernel
theorem exChain3 : chainC workJ [0, 1, 3] = 0 ∧ chainV workJ [0, 1, 3] = (7, 9) := by decide +kernel
theorem exChain4 : chainC workJ [] = 6 ∧ chainV workJ [] = (0, 0) := by decide +kernel
theorem exLatest12 : latL workJ 12 = [0, 7, 4, 10] ∧ latC workJ 12 = 0 := by decide +kernel
theorem exLatest11 : latL workJ 11 = [] ∧ latC workJ 11 = 12 := by decide +kernel
theorem exLatest15 : latL workJ 15 = [3, 10, 7, 13] ∧ latC workJ 15 = 0 := by decide +kernel
theorem exKind0 : kindC workJ 0 = 0 ∧ kindV workJ 0 = 2 := by decide +kernel
theorem exKind1 : kindC workJ 1 = 0 ∧ kindV workJ 1 = 1 := by decide +kernel
theorem exKind2 : kindC workJ 2 = 0 ∧ kindV workJ 2 = 1 := by decide +kernel
theorem exKind4 : kindC workJ 4 = 3 ∧ kindV workJ 4 = 0 := by decide +kernel
theorem exCirc : cirC workJ = 5 ∧ cirC circJ = 0 := by decide +kernel
theorem exCheckCirc1 : circE circJ [0, 1] = 0 := by decide +kernel
theorem exCheckCirc2 : circE circJ [0] = 14 := by decide +kernel
theorem exFree1 : freeC workJ [1, 2] = 0 ∧ freeV workJ [1, 2] = 2 := by decide +kernel
theorem exFree2 : freeC workJ [0, 3] = 16 ∧ freeV workJ [0, 3] = 0 := by decide +kernel
theorem exCover1 : coverC workJ [[0, 1, 3], [2]] = 0 ∧ coverV workJ [[0, 1, 3], [2]] = 2 := by decide +kernel
theorem exCover2 : coverC workJ [[0, 3], [1, 2]] = 16 ∧ coverV workJ [[0, 3], [1, 2]] = 0 := by decide +kernel
theorem exCover3 : coverC workJ [[0, 1], [2]] = 15 ∧ coverV workJ [[0, 1], [2]] = 0 := by decide +kernel
theorem exWork : workC workJ = 0 := by decide +kernel
theorem exChs : chs workJ = [[0, 1, 3], [0, 2, 3]] := by decide +kernel
theorem exTop (l : List Nat) (h : Full workJ l) (hs : sumN (hiD workJ) l = takes workJ (hiD workJ)) : l = [0, 2, 3] := by
  have h1 := (chs_mem exFine.1 exFine.2 l).2 h
  rw [exChs] at h1
  simp only [List.mem_cons, List.not_mem_nil, or_false] at h1
  rcases h1 with rfl | rfl
  · exact absurd hs (by decide +kernel)
  · rfl
theorem exLow (l : List Nat) (h : Full workJ l) (hs : sumN (loD workJ) l = takes workJ (loD workJ)) : l = [0, 1, 3] := by
  have h1 := (chs_mem exFine.1 exFine.2 l).2 h
  rw [exChs] at h1
  simp only [List.mem_cons, List.not_mem_nil, or_false] at h1
  rcases h1 with rfl | rfl
  · rfl
  · exact absurd hs (by decide +kernel)
theorem exFreeN : FreeN workJ [1, 2] := ⟨by decide, by decide, by decide +kernel⟩
theorem exFree {nx bf F G : List Int} (hm : MatI workJ nx bf 4) (h : FrI workJ nx bf F G [] 4 0) : frTo F G 4 = [1, 2] := by
  have h1 : 2 ≤ (frTo F G 4).length := free_most exFine.1 exFine.2 hm h exFreeN
  have h2 : FreeN workJ (frTo F G 4) := h.free
  revert h1 h2
  unfold frTo
  generalize hp : (fun q => decide (0 < elt F q) && (elt G q == 0)) = p
  clear hp
  rw [show List.range 4 = [0, 1, 2, 3] from rfl]
  simp only [List.filter_cons, List.filter_nil]
  cases p 0 <;> cases p 1 <;> cases p 2 <;> cases p 3 <;> simp <;> intro h
  all_goals exact absurd h.2.2 (by decide +kernel)
end Go.Proofs.YteknehlkdgamjaaGreat

namespace Go.Proofs.YteknehlkdgamjaaGreat
open Go.RowKit Go.Shelf

theorem exI {w : World} {v : Value} {R : List Int} (h : RdI w .i64 v R) (n : Nat) (hn : R.length = n) : ∃ a c, v = .slice a n c := by
  subst hn
  obtain ⟨a, c, e, _⟩ := h.form
  exact ⟨a, c, e⟩
theorem exP {w : World} {v : Value} {R : List (Int × Int)} (h : RdP w v R) (n : Nat) (hn : R.length = n) : ∃ a c, v = .slice a n c := by
  subst hn
  obtain ⟨a, c, e, _⟩ := h
  exact ⟨a, c, e⟩
theorem exJb {w : World} {v : Value} {R : List Job} (h : RdJ w v R) (n : Nat) (hn : R.length = n) : ∃ a c, v = .slice a n c := by
  subst hn; exact h.sl
theorem keepW {w : World} {g : Nat} {x : Value} {t : TypeId} (h : w.heap[g]? = some (.cells #[x] t (0, 0))) : Keep w (fun w => w.cell? ⟨g, 0, none⟩ = some x ∧ g < w.heap.size) := fun w' hb => by
  have hg := (Array.getElem?_eq_some_iff.1 h).1
  have h2 := (hb.block g hg).trans h
  exact ⟨(one_cel h2).1, Nat.lt_of_lt_of_le hg hb.size⟩
theorem keepR {w : World} {g : Nat} {x y : Value} (h : w.heap[g]? = some (.cells #[x, y] 32 (0, 0))) : Keep w (fun w => w.cell? ⟨g, 0, none⟩ = some x ∧ w.cell? ⟨g, 1, none⟩ = some y ∧ g < w.heap.size) := fun w' hb => by
  have hg := (Array.getElem?_eq_some_iff.1 h).1
  obtain ⟨h1, h2, _⟩ := pair_cells ((hb.block g hg).trans h)
  exact ⟨h1, h2, Nat.lt_of_lt_of_le hg hb.size⟩
section
variable (v x : Value) (w : World)
theorem starts_lit (hx : RdJ w v workJ) : Calls Tryz.prog 15 #[.agg #[v]] w fun e w' => ∃ u, e = .returned (.tuple #[u, .int .i64 0]) ∧ RdP w' u [(0, 0), (2, 4), (2, 4), (5, 10)] ∧ Below w.heap.size w w' := by
  have h := pstarts_any v workJ w hx exSm
  rw [exStarts, exErr] at h
  refine h.mono ?_
  rintro e w' ⟨⟨u, rfl, h⟩, hB⟩
  exact ⟨u, rfl, h, hB⟩
theorem length_lit (hx : RdJ w v workJ) : Calls Tryz.prog 17 #[.agg #[v]] w fun e w' => e = .returned (.tuple #[.agg #[.int .i64 7, .int .i64 12], .int .i64 0]) ∧ Below w.heap.size w w' := by
  have h := plength_any v workJ w hx exSm
  rw [exLength, exErr] at h
  exact h
theorem lengthx_lit (hx : RdJ w v circJ) : Calls Tryz.prog 17 #[.agg #[v]] w fun e w' => e = .returned (.tuple #[.agg #[.int .i64 0, .int .i64 0], .int .i64 13]) ∧ Below w.heap.size w w' := by
  have h := plength_any v circJ w hx exSmX
  rw [exLengthX, exErrX] at h
  exact h
theorem checkchain_lit (l : List Int) (a b c : Int) (hx : RdJ w v workJ) (hy : RdI w .i64 x l) (hl : l.length ≤ 1000) (h1 : chainC workJ l = c ∧ chainV workJ l = (a, b)) : Calls Tryz.prog 23 #[.agg #[v], x] w fun e w' => e = .returned (.tuple #[.agg #[.int .i64 a, .int .i64 b], .int .i64 c]) ∧ Below w.heap.size w w' := by
  have h := pcheckchain_any v x workJ l w hx hy hl exSm
  rw [h1.1, h1.2] at h
  exact h
theorem chain_top (hx : RdJ w v workJ) : Calls Tryz.prog 25 #[.agg #[v], .bool true] w fun e w' => ∃ u, e = .returned (.tuple #[u, .int .i64 0]) ∧ RdI w' .i64 u [0, 2, 3] ∧ Below w.heap.size w w' := by
  refine (pchain_any v workJ true w hx exSm).mono ?_
  rintro e w' ⟨h, hB⟩
  rcases h with ⟨h, _⟩ | ⟨_, u, l, rfl, hf, hs, hr⟩
  · exact absurd exErr h
  · rw [exTop l hf hs] at hr
    exact ⟨u, rfl, hr, hB⟩
theorem chain_low (hx : RdJ w v workJ) : Calls Tryz.prog 25 #[.agg #[v], .bool false] w fun e w' => ∃ u, e = .returned (.tuple #[u, .int .i64 0]) ∧ RdI w' .i64 u [0, 1, 3] ∧ Below w.heap.size w w' := by
  refine (pchain_any v workJ false w hx exSm).mono ?_
  rintro e w' ⟨h, hB⟩
  rcases h with ⟨h, _⟩ | ⟨_, u, l, rfl, hf, hs, hr⟩
  · exact absurd exErr h
  · rw [exLow l hf hs] at hr
    exact ⟨u, rfl, hr, hB⟩
theorem latest_lit (d c : Int) (l : List Int) (hx : RdJ w v workJ) (h1 : -(2 ^ 42) ≤ d) (h2 : d ≤ 2 ^ 42) (h3 : latL workJ d = l ∧ latC workJ d = c) : Calls Tryz.prog 19 #[.agg #[v], .int .i64 d] w fun e w' => ∃ u, e = .returned (.tuple #[u, .int .i64 c]) ∧ RdI w' .i64 u l ∧ Below w.heap.size w w' := by
  have h := platest_any v workJ d w hx exSm h1 h2
  rw [h3.1, h3.2] at h
  refine h.mono ?_
  rintro e w' ⟨⟨u, rfl, h⟩, hB⟩
  exact ⟨u, rfl, h, hB⟩
theorem kind_lit (j c k : Int) (hx : RdJ w v workJ) (h1 : kindC workJ j = c ∧ kindV workJ j = k) : Calls Tryz.prog 31 #[.agg #[v], .int .i64 j] w fun e w' => e = .returned (.tuple #[.int .i64 k, .int .i64 c]) ∧ Below w.heap.size w w' := by
  have h := pkind_any v workJ j w hx exSm
  rw [h1.1, h1.2] at h
  exact h
theorem nocircle_lit (hx : RdJ w v workJ) : Calls Tryz.prog 52 #[.agg #[v]] w fun e w' => e = .returned (.tuple #[.slice none 0 0, .int .i64 5]) ∧ Below w.heap.size w w' := by
  refine (pcircles_any v workJ w hx exSm).mono ?_
  rintro e w' ⟨h, hB⟩
  rcases h with ⟨_, rfl⟩ | ⟨h, _⟩
  · rw [exCirc.1]; exact ⟨rfl, hB⟩
  · rw [exCirc.1] at h; exact absurd h (by decide)
theorem circ_lit (hx : RdJ w v circJ) : Calls Tryz.prog 52 #[.agg #[v]] w fun e w' => ∃ u l, e = .returned (.tuple #[u, .int .i64 0]) ∧ RdI w' .i64 u l ∧ (circE circJ l = 0 ∧ l.length ≤ 1000) ∧ Below w.heap.size w w' := by
  refine (pcircles_any v circJ w hx exSmX).mono ?_
  rintro e w' ⟨h, hB⟩
  rcases h with ⟨h, _⟩ | ⟨_, u, l, rfl, hr, hc⟩
  · exact absurd exCirc.2 h
  · exact ⟨u, l, rfl, hr, ⟨cirC_of hc (by decide +kernel), by have := isCir_len (J := circJ) (by decide) hc; omega⟩, hB⟩
theorem checkcircle_lit (l : List Int) (c : Int) (hx : RdJ w v circJ) (hy : RdI w .i64 x l) (hl : l.length ≤ 1000) (h1 : circE circJ l = c) : Calls Tryz.prog 53 #[.agg #[v], x] w fun e w' => e = .returned (.int .i64 c) ∧ Below w.heap.size w w' := by
  have h := pcircle_any v x circJ l w hx hy hl exSmX
  rw [h1] at h
  exact h
theorem rcheckcircle_lit (l : List Int) (c : Int) (hx : RdJ w v circJ) (hy : RdI w .i64 x l) (hl : l.length ≤ 1000) (h1 : circE circJ l = c) : Calls Tryz.prog 55 #[.agg #[v], x] w fun e w' => e = .returned (.int .i64 c) ∧ Below w.heap.size w w' := by
  have h := rcircle_any v x circJ l w hx hy hl exSmX
  rw [h1] at h
  exact h
theorem checkfree_lit (l : List Int) (n c : Int) (hx : RdJ w v workJ) (hy : RdI w .i64 x l) (hl : l.length ≤ 1000) (h1 : freeC workJ l = c ∧ freeV workJ l = n) : Calls Tryz.prog 45 #[.agg #[v], x] w fun e w' => e = .returned (.tuple #[.int .i64 n, .int .i64 c]) ∧ Below w.heap.size w w' := by
  have h := pcheckfree_any v x workJ l w hx hy hl exSm
  rw [h1.1, h1.2] at h
  exact h
theorem free_lit (hx : RdJ w v workJ) : Calls Tryz.prog 42 #[.agg #[v]] w fun e w' => ∃ u, e = .returned (.tuple #[u, .int .i64 0]) ∧ RdI w' .i64 u [1, 2] ∧ Below w.heap.size w w' := by
  refine (pfree_any v workJ w hx exSm).mono ?_
  rintro e w' ⟨h, hB⟩
  rcases h with ⟨h, _⟩ | ⟨_, u, nx, bf, F, G, rfl, hm, hf, hr⟩
  · exact absurd exErr h
  · rw [show workJ.length = 4 from rfl, exFree hm hf] at hr
    exact ⟨u, rfl, hr, hB⟩
theorem smlR {R : List (List Int)} (h1 : R.length ≤ 20) (h2 : R.all (fun l => decide (l.length ≤ 20)) = true) : Sml R := by
  refine ⟨h1, fun i => ?_⟩
  rcases Nat.lt_or_ge i R.length with h | h
  · rw [row_lt h]; exact of_decide_eq_true (List.all_eq_true.1 h2 _ (List.getElem_mem h))
  · rw [row_ge h]; simp
theorem checkcover_lit (R : List (List Int)) (n c : Int) (hx : RdJ w v workJ) (hy : RdLL w x R) (hR : Sml R) (h1 : coverC workJ R = c ∧ coverV workJ R = n) : Calls Tryz.prog 46 #[.agg #[v], x] w fun e w' => e = .returned (.tuple #[.int .i64 n, .int .i64 c]) ∧ Below w.heap.size w w' := by
  have h := pcheckcover_any v x workJ R w hx hy exSm hR
  rw [h1.1, h1.2] at h
  exact h
theorem rcheckcover_lit (R : List (List Int)) (n c : Int) (hx : RdJ w v workJ) (hy : RdLL w x R) (hR : Sml R) (h1 : coverC workJ R = c ∧ coverV workJ R = n) : Calls Tryz.prog 48 #[.agg #[v], x] w fun e w' => e = .returned (.tuple #[.int .i64 n, .int .i64 c]) ∧ Below w.heap.size w w' := by
  have h := rcheckcover_any v x workJ R w hx hy exSm hR
  rw [h1.1, h1.2] at h
  exact h
theorem cover_lit (hx : RdJ w v workJ) : Calls Tryz.prog 44 #[.agg #[v]] w fun e w' => ∃ u R, e = .returned (.tuple #[u, .int .i64 0]) ∧ RdLL w' u R ∧ (Sml R ∧ coverC workJ R = 0 ∧ coverV workJ R = 2) ∧ Below w.heap.size w w' := by
  refine (pcover_any v workJ w hx exSm).mono ?_
  rintro e w' ⟨h, hB⟩
  rcases h with ⟨h, _⟩ | ⟨_, u, nx, bf, rfl, hm, hr⟩
  · exact absurd exErr h
  · have h1 := cover_good exErr hm
    obtain ⟨F, G, hf⟩ := free_ex hm
    have h2 := hf.both exFine.1 exFine.2 hm
    have h3 : frTo F G workJ.length = [1, 2] := exFree hm hf
    rw [h3] at h2
    refine ⟨u, _, rfl, hr, ⟨cover_sml exErr hm, h1.1, ?_⟩, hB⟩
    rw [h1.2, ← h2]; rfl
theorem ints_lit (y : Value) (R : List Int) (hx : RdI w .i64 x R) (hy : RdI w .i64 y R) (hR : R.length ≤ 1000) :
    Calls Tryz.prog 56 #[x, y] w fun e w' => e = .returned (.bool true) ∧ Below w.heap.size w w' := by
  have := ints_any x y R R w hx hy hR hR; rwa [decide_eq_true rfl] at this
theorem longs_lit (y : Value) (R : List Int) (hx : RdI w .i64 x R) (hy : RdI w .i64 y R) (hR : R.length ≤ 1000) :
    Calls Tryz.prog 22 #[x, y] w fun e w' => e = .returned (.bool true) ∧ Below w.heap.size w w' := by
  have := longs_any x y R R w hx hy hR hR; rwa [decide_eq_true rfl] at this
theorem ranges_lit (y : Value) (R : List (Int × Int)) (hx : RdP w x R) (hy : RdP w y R) (hR : R.length ≤ 1000) :
    Calls Tryz.prog 21 #[x, y] w fun e w' => e = .returned (.bool true) ∧ Below w.heap.size w w' := by
  have := ranges_any x y R R w hx hy hR hR; rwa [decide_eq_true rfl] at this
end
theorem wpQuiet_range_yes {ops : Array Oper} {Q : Act → Prop} {a : Act} {C : World → Prop} {rest : List Oper} {o : Oper} (hgd : Region.wanted o (yielded ops a.tmps) = true) (x y : Operand) (t : TypeId) (ho : o.op = .binOp .eql 32 x y t) (p q : Int) (hx : a.eval x = .agg #[.int .i64 p, .int .i64 q]) (hy : a.eval y = .agg #[.int .i64 p, .int .i64 q])
    (h : wpQuiet Tryz.prog ops C Q rest (a.put o.dst (.bool true))) : wpQuiet Tryz.prog ops C Q (o :: rest) a :=
  wpQuiet_range_eq hgd x y t ho p q p q hx hy (by rw [beq_self_eq_true, beq_self_eq_true]; exact h)
theorem wpQuiet_range_no {ops : Array Oper} {Q : Act → Prop} {a : Act} {C : World → Prop} {rest : List Oper} {o : Oper} (hgd : Region.wanted o (yielded ops a.tmps) = true) (x y : Operand) (t : TypeId) (ho : o.op = .binOp .neq 32 x y t) (p q : Int) (hx : a.eval x = .agg #[.int .i64 p, .int .i64 q]) (hy : a.eval y = .agg #[.int .i64 p, .int .i64 q])
    (h : wpQuiet Tryz.prog ops C Q rest (a.put o.dst (.bool false))) : wpQuiet Tryz.prog ops C Q (o :: rest) a :=
  wpQuiet_range_ne hgd x y t ho p q p q hx hy (by rw [beq_self_eq_true, beq_self_eq_true]; exact h)
theorem rdP_at (w : World) (V : List (Int × Int)) (t : TypeId) (b : Nat) (hb : b = w.heap.size) (h : V.length ≤ 1000) : RdP (w.alloc (.cells (prs V).toArray t)) (.slice (some ⟨b, 0, none⟩) V.length V.length) V := by
  subst hb
  refine ⟨_, _, rfl, Nat.le_refl _, by unfold maxLen; omega, fun _ => ⟨w.heap.size, 0, rfl, by simp, fun j u hj => ?_⟩⟩
  exact cnew rfl (by simpa using hj)
def WorksSaid : Prop := ∀ w, Calls Tryz.prog 14 #[] w fun e w' => e = .returned (.bool true) ∧ Below w.heap.size w w'
end Go.Proofs.YteknehlkdgamjaaGreat
