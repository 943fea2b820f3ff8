/- ShelfAgain holds; no condition. -/
import Derived.Test.YtjajdpggoggoiaaQ13
namespace Go.Proofs.Ytjajdpggoggoiaa
open Go.RowKit Go.Shelf

theorem U_three {P : Program} {S : World → Prop} {K : Act → World → Prop} {a : Act} {w : World} {l : List Oper} {H W : List Nat} {fuel : Nat} {listed : Array Bool} (c d e : Nat)
    (hB : (decide (Region.ready .any l.toArray listed = [c, d, e]) && decide (0 < fuel)) = true)
    (h1 : wpList P l.toArray (segQ (onlyN K) (fun a'' w'' => segK (!W.contains c) S a'' w'' (wpU P l (onlyN K) S H W (fuel - 1) (listed.setIfInBounds c true) a'' w''))) (pickL l [c]) a w)
    (h2 : wpList P l.toArray (segQ (onlyN K) (fun a'' w'' => segK (!W.contains d) S a'' w'' (wpU P l (onlyN K) S H W (fuel - 1) (listed.setIfInBounds d true) a'' w''))) (pickL l [d]) a w)
    (h3 : wpList P l.toArray (segQ (onlyN K) (fun a'' w'' => segK (!W.contains e) S a'' w'' (wpU P l (onlyN K) S H W (fuel - 1) (listed.setIfInBounds e true) a'' w''))) (pickL l [e]) a w) : wpU P l (onlyN K) S H W fuel listed a w :=
  U_all [c, d, e] (by simpa using hB) (fun c' hc => by simp at hc; rcases hc with rfl | rfl | rfl <;> assumption)
theorem apart_new {w : World} {base nb : Nat} {v : Value} {xs : List Int} (h : rowI w base v xs) (hn : nb = w.heap.size) (n c : Nat) : apartV v (.slice (some ⟨nb, 0, none⟩) n c) := by
  subst hn
  cases hv : v.ownBlock with
  | none => exact .inl hv
  | some k =>
    refine .inr ?_
    rw [hv]
    intro e
    have := (h.lt hv).2
    simp only [Value.ownBlock, Option.some.injEq] at e
    omega
theorem fetR_at {R r : Int} {W : List Int} {j : Nat} (hj : j < (fetR R r W).length) : 0 ≤ (fetR R r W)[j]?.getD 0 ∧ (fetR R r W)[j]?.getD 0 < W.length := by
  have hm : (fetR R r W)[j]?.getD 0 ∈ fetR R r W := by rw [List.getElem?_eq_getElem hj]; exact List.getElem_mem hj
  generalize (fetR R r W)[j]?.getD 0 = f at *
  unfold fetR at hm
  rw [runK_fet] at hm
  obtain ⟨i, hi, rfl⟩ := List.mem_map.1 hm
  have := List.mem_range.1 (List.mem_filter.1 hi).1
  omega
theorem map_at {f : Int → Int} {l : List Int} {j : Nat} (hj : j < l.length) : (l.map f)[j]?.getD 0 = f (l[j]?.getD 0) := by
  simp [hj]

set_option maxRecDepth 100000 in
set_option maxHeartbeats 16000000 in
theorem shelfAgain_walk (R : Int) (x : Value) (W : List Int) (m n : Int) (w : World) (hx0 : RdI w .i64 x W) (hm0 : 0 ≤ m) (hm1 : m ≤ 255) (hn0 : 0 ≤ n) (hn1 : n ≤ 255) :
    Calls Try.prog 12 #[.agg #[.int .i64 R, x], .int .u8 m, .int .u8 n] w fun e w' => e = .returned (.bool true) ∧ Below w.heap.size w w' := by
  obtain ⟨a, c, rfl⟩ := hx0.ex _ rfl
  obtain ⟨_, _, e, hca, _, hxf⟩ := hx0.form
  cases e
  by_cases hc : checkD R W = 0
  · by_cases hlen : 1 ≤ W.length ∧ W.length < 16
    · obtain ⟨wA, hwA⟩ : ∃ wA, w.alloc (.cells #[.int .i64 R, .slice a W.length c] 24) = wA := ⟨_, rfl⟩
      have HBA := Lib.hid (show Below w.heap.size w wA by rw [← hwA]; exact bal (bz w) _)
      have hr0 : wA.cell? ⟨w.heap.size, 0, none⟩ = some (.int .i64 R) := by rw [← hwA]; exact cnew rfl rfl
      have hr1 : wA.cell? ⟨w.heap.size, 1, none⟩ = some (.slice a W.length c) := by rw [← hwA]; exact cnew rfl rfl
      have hrz : w.heap.size < wA.heap.size := by rw [← hwA]; simp
      have HR0 := Lib.hid (fun wz (hB : Below wA.heap.size wA wz) => (hB.cell (p := ⟨w.heap.size, 0, none⟩) hrz).trans hr0)
      have HR1 := Lib.hid (fun wz (hB : Below wA.heap.size wA wz) => (hB.cell (p := ⟨w.heap.size, 1, none⟩) hrz).trans hr1)
      have HRZ := Lib.hid (fun wz (hB : Below wA.heap.size wA wz) => Nat.lt_of_lt_of_le hrz hB.size)
      have HX := Lib.hid (hx0.mono HBA.out)
      clear hr0 hr1 hrz hx0
      have CF := Lib.hid (fun wz (hB : Below wA.heap.size wA wz) => fine_yes R _ W wz (HX.out.mono hB) hc)
      obtain ⟨hle1, hle2⟩ := hlen
      have i0 := Int.emod_nonneg m (b := (W.length : Int)) (by omega)
      have i1 := Int.emod_lt_of_pos m (b := (W.length : Int)) (by omega)
      obtain ⟨i, hiz⟩ := Int.eq_ofNat_of_zero_le i0
      have hi : i < W.length := by omega
      have zl : ((W.length : Int) == 0) = false := by rw [beq_eq_false_iff_ne]; omega
      obtain ⟨t, ht⟩ : ∃ t, n % 3 = t := ⟨_, rfl⟩
      have ht0 : 0 ≤ t := by omega
      have ht2 : t ≤ 2 := by omega
      clear i0 i1
      have hd := okD_of hc
      have HC := Lib.hid hc; have HCD := Lib.hid (checkD_dup hc hi hle2)
      have hfew := few_dup hc hi hle2
      have hfd := fet_dup (rule := 1 + t) hd hi
      have HFB := Lib.hid (fun j hj => fetR_at (R := R) (r := 1 + t) (W := W) (j := j) hj)
      have hFl : (fetR R (1 + t) W).length ≤ W.length := fetR_len
      have hlz1 : ¬ (W.length : Int) < 1 := by omega
      have hlz2 : ¬ (16 : Int) ≤ (W.length : Int) := by omega
      obtain ⟨bx, ox, rfl, hbx, hcx⟩ := hxf (by omega)
      have gx0 := hcx i hi
      change w.cell? _ = some (Value.int .i64 (want W i)) at gx0
      have HGX := Lib.hid (fun wz (hB : Below wA.heap.size wA wz) => ((btr HBA.out hB).cell (p := ⟨bx, ox + i, none⟩) hbx).trans gx0)
      have HGZ := Lib.hid (fun wz (hB : Below wA.heap.size wA wz) => Nat.lt_of_lt_of_le hbx (btr HBA.out hB).size)
      have hs1 : ∀ w : World, (Instr.slice 22 (.slice (some ⟨bx, ox, none⟩) W.length c) none (some (.int .i64 ((i : Int) + 1))) none).run Try.prog w = .ok (.slice (some ⟨bx, ox, none⟩) (i + 1) c) w := fun w => run_cutToI bx ox W.length c (i + 1) (by omega) w
      obtain ⟨ad, hcut, had⟩ := run_cutFromI bx ox W.length c (i + 1) (by omega) hca
      have hs2 : ∀ w : World, (Instr.slice 22 (.slice (some ⟨bx, ox, none⟩) W.length c) (some (.int .i64 ((i : Int) + 1))) none none).run Try.prog w = .ok (.slice (some ad) (W.length - (i + 1)) (c - (i + 1))) w := by
        intro w
        have := hcut w
        rwa [show ((i + 1 : Nat) : Int) = (i : Int) + 1 by omega] at this
      have HS1 := Lib.hid hs1; have HS2 := Lib.hid hs2
      have HXA := Lib.hid (rdI_pre HX.out (k := i + 1) (by omega))
      have hrd := rdI_mid rfl HX.out (show i + 1 ≤ W.length by omega) (Nat.le_refl _) had
      rw [List.take_of_length_le (by rw [List.length_drop]; omega)] at hrd
      have HXB := Lib.hid hrd
      have HDW := Lib.hid (show dupW W i = W.take (i + 1) ++ [want W i] ++ W.drop (i + 1) from rfl)
      clear hcut had hrd hs1 hs2 hcx gx0 hxf hd hc
      generalize want W i = q at *
      have KB0 := Lib.hid (bz wA)
      go_enter Try.func12, Try.ntmps12
      go_upto_region 1 with fail
      try rw [hwA]
      clear hwA
      have r0 := HR0.out _ KB0.out; have r1 := HR1.out _ KB0.out; have rz := HRZ.out _ KB0.out
      go_wp2_with fail
      clear r0 r1 rz
      refine (CF.out _ KB0.out).mono ?_
      rintro e w1 ⟨rfl, hk⟩
      have KB1 := Lib.hid (btr KB0.out hk)
      clear KB0 hk
      have r0 := HR0.out _ KB1.out; have r1 := HR1.out _ KB1.out; have rz := HRZ.out _ KB1.out
      go_upto_region 4 with fail
      clear r0 r1 rz CF
      obtain ⟨wV, hwV⟩ : ∃ wV, wV = w1 := ⟨_, rfl⟩
      rw [← hwV]
      rw [← hwV] at KB1
      clear hwV
      rw [hiz, ht]
      have HR0v := Lib.hid (fun wz (hB : Below wV.heap.size wV wz) => HR0.out _ (btr KB1.out hB))
      have HR1v := Lib.hid (fun wz (hB : Below wV.heap.size wV wz) => HR1.out _ (btr KB1.out hB))
      have HRZv := Lib.hid (fun wz (hB : Below wV.heap.size wV wz) => HRZ.out _ (btr KB1.out hB))
      have HGXv := Lib.hid (fun wz (hB : Below wV.heap.size wV wz) => HGX.out _ (btr KB1.out hB))
      have HGZv := Lib.hid (fun wz (hB : Below wV.heap.size wV wz) => HGZ.out _ (btr KB1.out hB))
      have HXAv := Lib.hid (HXA.out.mono KB1.out)
      have HXBv := Lib.hid (HXB.out.mono KB1.out)
      go_cut [9] from 46 (fun v wx => ∃ (g : Nat) (u : Value), v = .pointer (some ⟨g, 0, none⟩) ∧ wx.heap[g]? = some (.cells #[.int .i64 R, u] 24) ∧ RdI wx .i64 u (W.take (i + 1) ++ [q] ++ W.drop (i + 1)) ∧ Below wV.heap.size wV wx)
      case first =>
        refine wp_region_US (fun wq => ∃ x : BelW wV, wq = x.val) [0, 1, 3, 4, 5, 6, 7, 9, 10, 11, 12, 13, 16, 17, 18, 19, 20, 22] [] (by kernel_rfl) (by kernel_rfl) ?_
        intro wc hBc hh
        clear hh
        have HB0 := Lib.hid (hBc : Below wV.heap.size wV wc)
        clear hBc
        have hx1 := fun l : BelW wV => HR0v.out _ l.b
        have hx2 := fun l : BelW wV => HR1v.out _ l.b
        have hx3 := fun l : BelW wV => HRZv.out _ l.b
        have hx4 := fun l : BelW wV => HGXv.out _ l.b
        have hx5 := fun l : BelW wV => HGZv.out _ l.b
        have hs1 := HS1.out; have hs2 := HS2.out
        have tst : (0 : Int) ≤ (i : Int) + 1 ∧ (i : Int) + 1 < 1000 := by omega
        refine U_heads [0, 1, 3, 4, 5, 6, 7, 9, 10, 11, 12, 13, 16, 17, 18, 19, 20] (by kernel_rfl) (belW HB0.out) ?_
        simp only [pickL, List.getElem?_cons_succ, List.getElem?_cons_zero]
        repeat (go_big_quiet_step (fail))
        refine wpQuiet_nil ?_
        clear hx1 hx2 hx3 hx4 hx5 hs1 hs2 tst
        have hln : (W.take (i + 1) ++ [q] ++ W.drop (i + 1)).length = W.length + 1 := by simp; omega
        refine U_three 2 14 23 (by kernel_rfl) ?_ ?_ ?_
        · simp only [pickL, List.getElem?_cons_succ, List.getElem?_cons_zero]
          have HB1 := Lib.hid (bal HB0.out (.cells #[] 3))
          have O1 := own_newI wc (base := wV.heap.size) (nb := wc.heap.size) rfl HB0.out.size
          go_wp2
          generalize wc.alloc (Obj.cells #[] 3) = w51 at *
          refine seg_grow (belW HB1.out) ?_
          refine U_three 8 14 23 (by kernel_rfl) ?_ ?_ ?_
          · simp only [pickL, List.getElem?_cons_succ, List.getElem?_cons_zero]
            refine wpList_append_any (ys := W.take (i + 1)) (al := some ⟨bx, ox, none⟩) (c := c) rfl _ _ rfl O1 HB1.out.size rfl (by rw [List.length_take, Nat.min_eq_left (by omega)]; rfl) (by rw [List.length_take, Nat.min_eq_left (by omega)]; exact HXAv.out.mono HB1.out) (by simp) (by rw [List.length_take]; omega) ?_
            intro v2 w52 O2 gr
            have HB2 := Lib.hid (append_below HB1.out O1 gr (Nat.le_refl _))
            clear gr
            go_wp2
            refine seg_grow (belW HB2.out) ?_
            refine U_two 14 23 (by kernel_rfl) ?_ ?_
            · simp only [pickL, List.getElem?_cons_succ, List.getElem?_cons_zero]
              have HB3 := Lib.hid (bal HB2.out (.cells #[.int .i64 q] 3))
              have R3 := rowI_one w52 (base := wV.heap.size) (nb := w52.heap.size) q rfl HB2.out.size
              have O3 := World.ownsRow.alloc O2 (.cells #[.int .i64 q] 3)
              go_wp2
              generalize w52.alloc (Obj.cells #[.int .i64 q] 3) = w53 at *
              refine seg_grow (belW HB3.out) ?_
              refine U_two 15 23 (by kernel_rfl) ?_ ?_
              · simp only [pickL, List.getElem?_cons_succ, List.getElem?_cons_zero]
                refine wpList_append_any (ys := [q]) rfl _ _ rfl O3 HB3.out.size rfl rfl (RdI.of_owns R3) (by simp; try omega) (by simp) ?_
                intro v4 w54 O4 gr
                have HB4 := Lib.hid (append_below HB3.out O3 gr (Nat.le_refl _))
                clear gr
                go_wp2
                refine seg_grow (belW HB4.out) ?_
                refine U_two 21 23 (by kernel_rfl) ?_ ?_
                · simp only [pickL, List.getElem?_cons_succ, List.getElem?_cons_zero]
                  refine wpList_append_any (ys := W.drop (i + 1)) (al := some ad) (c := c - (i + 1)) rfl _ _ rfl O4 HB4.out.size rfl (by rw [List.length_drop]; rfl) (by rw [List.length_drop]; exact HXBv.out.mono HB4.out) (by simp; try omega) (by rw [List.length_drop]; omega) ?_
                  intro v5 w55 O5 gr
                  have HB5 := Lib.hid (append_below HB4.out O4 gr (Nat.le_refl _))
                  clear gr
                  obtain ⟨av, cv, hv⟩ := owns_form O5
                  rw [List.nil_append, hln] at hv
                  subst hv
                  go_wp2
                  refine seg_grow (belW HB5.out) ?_
                  refine U_heads [22] (by kernel_rfl) (belW HB5.out) ?_
                  simp only [pickL, List.getElem?_cons_succ, List.getElem?_cons_zero]
                  repeat (go_big_quiet_step (fail))
                  refine wpQuiet_nil ?_
                  refine U_one 23 (by kernel_rfl) ?_
                  simp only [pickL, List.getElem?_cons_succ, List.getElem?_cons_zero]
                  have HB6 := Lib.hid (bal HB5.out (.cells #[.int .i64 0, .slice none 0 0] 24))
                  have HG6 := Lib.hid (heap_alloc_new w55 (.cells #[.int .i64 0, .slice none 0 0] 24))
                  have hge := HB5.out.size
                  have O6 := World.ownsRow.alloc O5 (.cells #[.int .i64 0, .slice none 0 0] 24)
                  have R6 := World.ownsRow.alloc R3 (.cells #[.int .i64 0, .slice none 0 0] 24)
                  go_wp2
                  generalize w55.alloc (Obj.cells #[.int .i64 0, .slice none 0 0] 24) = w56 at *
                  refine seg_grow (belW HB6.out) ?_
                  refine U_one 24 (by kernel_rfl) ?_
                  simp only [pickL, List.getElem?_cons_succ, List.getElem?_cons_zero]
                  refine wpList_store_row rfl 24 (.tmp 9) (.tmp 68) rfl (w55.heap.size) #[.int .i64 R, .slice av (W.length + 1) cv] rfl rfl 24 _ HG6.out (by kernel_rfl) rfl (by simp [Value.oneCell']) ?_
                  have HBF := Lib.hid (below_setRow HB6.out hge #[.int .i64 R, .slice av (W.length + 1) cv])
                  have HRF := Lib.hid (rd_store (cs' := #[.int .i64 R, .slice av (W.length + 1) cv]) O6 HG6.out)
                  have HGF := Lib.hid (setRow_heap _ _ _ #[.int .i64 R, .slice av (W.length + 1) cv] _ _ HG6.out)
                  go_wp2
                  refine seg_grow (belW HBF.out) ?_
                  refine U_done (by kernel_rfl) ?_
                  go_wp2
                  go_meet
                  case rel => exact ⟨_, _, rfl, HGF.out, HRF.out, HBF.out⟩
                · simp only [pickL, List.getElem?_cons_succ, List.getElem?_cons_zero]
                  have HB7 := Lib.hid (bal HB4.out (.cells #[.int .i64 0, .slice none 0 0] 24))
                  have HG7 := Lib.hid (heap_alloc_new w54 (.cells #[.int .i64 0, .slice none 0 0] 24))
                  have hge := HB4.out.size
                  have O7 := World.ownsRow.alloc O4 (.cells #[.int .i64 0, .slice none 0 0] 24)
                  have R7 := World.ownsRow.alloc R3 (.cells #[.int .i64 0, .slice none 0 0] 24)
                  go_wp2
                  generalize w54.alloc (Obj.cells #[.int .i64 0, .slice none 0 0] 24) = w57 at *
                  refine seg_grow (belW HB7.out) ?_
                  refine U_one 21 (by kernel_rfl) ?_
                  simp only [pickL, List.getElem?_cons_succ, List.getElem?_cons_zero]
                  refine wpList_append_any (ys := W.drop (i + 1)) (al := some ad) (c := c - (i + 1)) rfl _ _ rfl O7 HB7.out.size rfl (by rw [List.length_drop]; rfl) (by rw [List.length_drop]; exact HXBv.out.mono HB7.out) (by simp; try omega) (by rw [List.length_drop]; omega) ?_
                  intro v8 w58 O8 gr
                  have HB8 := Lib.hid (append_below HB7.out O7 gr (Nat.le_refl _))
                  have HG8 := Lib.hid (keep_row O7 HG7.out gr)
                  clear gr
                  obtain ⟨av, cv, hv⟩ := owns_form O8
                  rw [List.nil_append, hln] at hv
                  subst hv
                  go_wp2
                  refine seg_grow (belW HB8.out) ?_
                  refine U_heads [22] (by kernel_rfl) (belW HB8.out) ?_
                  simp only [pickL, List.getElem?_cons_succ, List.getElem?_cons_zero]
                  repeat (go_big_quiet_step (fail))
                  refine wpQuiet_nil ?_
                  refine U_one 24 (by kernel_rfl) ?_
                  simp only [pickL, List.getElem?_cons_succ, List.getElem?_cons_zero]
                  refine wpList_store_row rfl 24 (.tmp 9) (.tmp 68) rfl (w54.heap.size) #[.int .i64 R, .slice av (W.length + 1) cv] rfl rfl 24 _ HG8.out (by kernel_rfl) rfl (by simp [Value.oneCell']) ?_
                  have HBF := Lib.hid (below_setRow HB8.out hge #[.int .i64 R, .slice av (W.length + 1) cv])
                  have HRF := Lib.hid (rd_store (cs' := #[.int .i64 R, .slice av (W.length + 1) cv]) O8 HG8.out)
                  have HGF := Lib.hid (setRow_heap _ _ _ #[.int .i64 R, .slice av (W.length + 1) cv] _ _ HG8.out)
                  go_wp2
                  refine seg_grow (belW HBF.out) ?_
                  refine U_done (by kernel_rfl) ?_
                  go_wp2
                  go_meet
                  case rel => exact ⟨_, _, rfl, HGF.out, HRF.out, HBF.out⟩
              · simp only [pickL, List.getElem?_cons_succ, List.getElem?_cons_zero]
                have HB9 := Lib.hid (bal HB3.out (.cells #[.int .i64 0, .slice none 0 0] 24))
                have HG9 := Lib.hid (heap_alloc_new w53 (.cells #[.int .i64 0, .slice none 0 0] 24))
                have hge := HB3.out.size
                have O9 := World.ownsRow.alloc O3 (.cells #[.int .i64 0, .slice none 0 0] 24)
                have R9 := World.ownsRow.alloc R3 (.cells #[.int .i64 0, .slice none 0 0] 24)
                go_wp2
                generalize w53.alloc (Obj.cells #[.int .i64 0, .slice none 0 0] 24) = w59 at *
                refine seg_grow (belW HB9.out) ?_
                refine U_one 15 (by kernel_rfl) ?_
                simp only [pickL, List.getElem?_cons_succ, List.getElem?_cons_zero]
                refine wpList_append_any (ys := [q]) rfl _ _ rfl O9 HB9.out.size rfl rfl (RdI.of_owns R9) (by simp; try omega) (by simp) ?_
                intro v10 w60 O10 gr
                have HB10 := Lib.hid (append_below HB9.out O9 gr (Nat.le_refl _))
                have HG10 := Lib.hid (keep_row O9 HG9.out gr)
                clear gr
                go_wp2
                refine seg_grow (belW HB10.out) ?_
                refine U_one 21 (by kernel_rfl) ?_
                simp only [pickL, List.getElem?_cons_succ, List.getElem?_cons_zero]
                refine wpList_append_any (ys := W.drop (i + 1)) (al := some ad) (c := c - (i + 1)) rfl _ _ rfl O10 HB10.out.size rfl (by rw [List.length_drop]; rfl) (by rw [List.length_drop]; exact HXBv.out.mono HB10.out) (by simp; try omega) (by rw [List.length_drop]; omega) ?_
                intro v11 w61 O11 gr
                have HB11 := Lib.hid (append_below HB10.out O10 gr (Nat.le_refl _))
                have HG11 := Lib.hid (keep_row O10 HG10.out gr)
                clear gr
                obtain ⟨av, cv, hv⟩ := owns_form O11
                rw [List.nil_append, hln] at hv
                subst hv
                go_wp2
                refine seg_grow (belW HB11.out) ?_
                refine U_heads [22] (by kernel_rfl) (belW HB11.out) ?_
                simp only [pickL, List.getElem?_cons_succ, List.getElem?_cons_zero]
                repeat (go_big_quiet_step (fail))
                refine wpQuiet_nil ?_
                refine U_one 24 (by kernel_rfl) ?_
                simp only [pickL, List.getElem?_cons_succ, List.getElem?_cons_zero]
                refine wpList_store_row rfl 24 (.tmp 9) (.tmp 68) rfl (w53.heap.size) #[.int .i64 R, .slice av (W.length + 1) cv] rfl rfl 24 _ HG11.out (by kernel_rfl) rfl (by simp [Value.oneCell']) ?_
                have HBF := Lib.hid (below_setRow HB11.out hge #[.int .i64 R, .slice av (W.length + 1) cv])
                have HRF := Lib.hid (rd_store (cs' := #[.int .i64 R, .slice av (W.length + 1) cv]) O11 HG11.out)
                have HGF := Lib.hid (setRow_heap _ _ _ #[.int .i64 R, .slice av (W.length + 1) cv] _ _ HG11.out)
                go_wp2
                refine seg_grow (belW HBF.out) ?_
                refine U_done (by kernel_rfl) ?_
                go_wp2
                go_meet
                case rel => exact ⟨_, _, rfl, HGF.out, HRF.out, HBF.out⟩
            · simp only [pickL, List.getElem?_cons_succ, List.getElem?_cons_zero]
              have HB12 := Lib.hid (bal HB2.out (.cells #[.int .i64 0, .slice none 0 0] 24))
              have HG12 := Lib.hid (heap_alloc_new w52 (.cells #[.int .i64 0, .slice none 0 0] 24))
              have hge := HB2.out.size
              have O12 := World.ownsRow.alloc O2 (.cells #[.int .i64 0, .slice none 0 0] 24)
              go_wp2
              generalize w52.alloc (Obj.cells #[.int .i64 0, .slice none 0 0] 24) = w62 at *
              refine seg_grow (belW HB12.out) ?_
              refine U_one 14 (by kernel_rfl) ?_
              simp only [pickL, List.getElem?_cons_succ, List.getElem?_cons_zero]
              have HB13 := Lib.hid (bal HB12.out (.cells #[.int .i64 q] 3))
              have R13 := rowI_one w62 (base := wV.heap.size) (nb := w62.heap.size) q rfl HB12.out.size
              have O13 := World.ownsRow.alloc O12 (.cells #[.int .i64 q] 3)
              have HG13 := Lib.hid ((Below.heap_alloc w62 (.cells #[.int .i64 q] 3) _ (by have := (Array.getElem?_eq_some_iff.1 HG12.out).1; exact this)).trans HG12.out)
              go_wp2
              generalize w62.alloc (Obj.cells #[.int .i64 q] 3) = w63 at *
              refine seg_grow (belW HB13.out) ?_
              refine U_one 15 (by kernel_rfl) ?_
              simp only [pickL, List.getElem?_cons_succ, List.getElem?_cons_zero]
              refine wpList_append_any (ys := [q]) rfl _ _ rfl O13 HB13.out.size rfl rfl (RdI.of_owns R13) (by simp; try omega) (by simp) ?_
              intro v14 w64 O14 gr
              have HB14 := Lib.hid (append_below HB13.out O13 gr (Nat.le_refl _))
              have HG14 := Lib.hid (keep_row O13 HG13.out gr)
              clear gr
              go_wp2
              refine seg_grow (belW HB14.out) ?_
              refine U_one 21 (by kernel_rfl) ?_
              simp only [pickL, List.getElem?_cons_succ, List.getElem?_cons_zero]
              refine wpList_append_any (ys := W.drop (i + 1)) (al := some ad) (c := c - (i + 1)) rfl _ _ rfl O14 HB14.out.size rfl (by rw [List.length_drop]; rfl) (by rw [List.length_drop]; exact HXBv.out.mono HB14.out) (by simp; try omega) (by rw [List.length_drop]; omega) ?_
              intro v15 w65 O15 gr
              have HB15 := Lib.hid (append_below HB14.out O14 gr (Nat.le_refl _))
              have HG15 := Lib.hid (keep_row O14 HG14.out gr)
              clear gr
              obtain ⟨av, cv, hv⟩ := owns_form O15
              rw [List.nil_append, hln] at hv
              subst hv
              go_wp2
              refine seg_grow (belW HB15.out) ?_
              refine U_heads [22] (by kernel_rfl) (belW HB15.out) ?_
              simp only [pickL, List.getElem?_cons_succ, List.getElem?_cons_zero]
              repeat (go_big_quiet_step (fail))
              refine wpQuiet_nil ?_
              refine U_one 24 (by kernel_rfl) ?_
              simp only [pickL, List.getElem?_cons_succ, List.getElem?_cons_zero]
              refine wpList_store_row rfl 24 (.tmp 9) (.tmp 68) rfl (w52.heap.size) #[.int .i64 R, .slice av (W.length + 1) cv] rfl rfl 24 _ HG15.out (by kernel_rfl) rfl (by simp [Value.oneCell']) ?_
              have HBF := Lib.hid (below_setRow HB15.out hge #[.int .i64 R, .slice av (W.length + 1) cv])
              have HRF := Lib.hid (rd_store (cs' := #[.int .i64 R, .slice av (W.length + 1) cv]) O15 HG15.out)
              have HGF := Lib.hid (setRow_heap _ _ _ #[.int .i64 R, .slice av (W.length + 1) cv] _ _ HG15.out)
              go_wp2
              refine seg_grow (belW HBF.out) ?_
              refine U_done (by kernel_rfl) ?_
              go_wp2
              go_meet
              case rel => exact ⟨_, _, rfl, HGF.out, HRF.out, HBF.out⟩
          · simp only [pickL, List.getElem?_cons_succ, List.getElem?_cons_zero]
            have HB16 := Lib.hid (bal HB1.out (.cells #[.int .i64 q] 3))
            have R16 := rowI_one w51 (base := wV.heap.size) (nb := w51.heap.size) q rfl HB1.out.size
            have ap := (apart_new O1 (nb := w51.heap.size) rfl 1 1).symm
            have O16 := World.ownsRow.alloc O1 (.cells #[.int .i64 q] 3)
            go_wp2
            generalize w51.alloc (Obj.cells #[.int .i64 q] 3) = w66 at *
            refine seg_grow (belW HB16.out) ?_
            refine U_two 8 23 (by kernel_rfl) ?_ ?_
            · simp only [pickL, List.getElem?_cons_succ, List.getElem?_cons_zero]
              refine wpList_append_any (ys := W.take (i + 1)) (al := some ⟨bx, ox, none⟩) (c := c) rfl _ _ rfl O16 HB16.out.size rfl (by rw [List.length_take, Nat.min_eq_left (by omega)]; rfl) (by rw [List.length_take, Nat.min_eq_left (by omega)]; exact HXAv.out.mono HB16.out) (by simp) (by rw [List.length_take]; omega) ?_
              intro v17 w67 O17 gr
              have HB17 := Lib.hid (append_below HB16.out O16 gr (Nat.le_refl _))
              have R17 := World.ownsRow.kept R16 gr ap
              clear ap
              clear gr
              go_wp2
              refine seg_grow (belW HB17.out) ?_
              refine U_two 15 23 (by kernel_rfl) ?_ ?_
              · simp only [pickL, List.getElem?_cons_succ, List.getElem?_cons_zero]
                refine wpList_append_any (ys := [q]) rfl _ _ rfl O17 HB17.out.size rfl rfl (RdI.of_owns R17) (by simp; try omega) (by simp) ?_
                intro v18 w68 O18 gr
                have HB18 := Lib.hid (append_below HB17.out O17 gr (Nat.le_refl _))
                clear gr
                go_wp2
                refine seg_grow (belW HB18.out) ?_
                refine U_two 21 23 (by kernel_rfl) ?_ ?_
                · simp only [pickL, List.getElem?_cons_succ, List.getElem?_cons_zero]
                  refine wpList_append_any (ys := W.drop (i + 1)) (al := some ad) (c := c - (i + 1)) rfl _ _ rfl O18 HB18.out.size rfl (by rw [List.length_drop]; rfl) (by rw [List.length_drop]; exact HXBv.out.mono HB18.out) (by simp; try omega) (by rw [List.length_drop]; omega) ?_
                  intro v19 w69 O19 gr
                  have HB19 := Lib.hid (append_below HB18.out O18 gr (Nat.le_refl _))
                  clear gr
                  obtain ⟨av, cv, hv⟩ := owns_form O19
                  rw [List.nil_append, hln] at hv
                  subst hv
                  go_wp2
                  refine seg_grow (belW HB19.out) ?_
                  refine U_heads [22] (by kernel_rfl) (belW HB19.out) ?_
                  simp only [pickL, List.getElem?_cons_succ, List.getElem?_cons_zero]
                  repeat (go_big_quiet_step (fail))
                  refine wpQuiet_nil ?_
                  refine U_one 23 (by kernel_rfl) ?_
                  simp only [pickL, List.getElem?_cons_succ, List.getElem?_cons_zero]
                  have HB20 := Lib.hid (bal HB19.out (.cells #[.int .i64 0, .slice none 0 0] 24))
                  have HG20 := Lib.hid (heap_alloc_new w69 (.cells #[.int .i64 0, .slice none 0 0] 24))
                  have hge := HB19.out.size
                  have O20 := World.ownsRow.alloc O19 (.cells #[.int .i64 0, .slice none 0 0] 24)
                  have R20 := World.ownsRow.alloc R17 (.cells #[.int .i64 0, .slice none 0 0] 24)
                  go_wp2
                  generalize w69.alloc (Obj.cells #[.int .i64 0, .slice none 0 0] 24) = w70 at *
                  refine seg_grow (belW HB20.out) ?_
                  refine U_one 24 (by kernel_rfl) ?_
                  simp only [pickL, List.getElem?_cons_succ, List.getElem?_cons_zero]
                  refine wpList_store_row rfl 24 (.tmp 9) (.tmp 68) rfl (w69.heap.size) #[.int .i64 R, .slice av (W.length + 1) cv] rfl rfl 24 _ HG20.out (by kernel_rfl) rfl (by simp [Value.oneCell']) ?_
                  have HBF := Lib.hid (below_setRow HB20.out hge #[.int .i64 R, .slice av (W.length + 1) cv])
                  have HRF := Lib.hid (rd_store (cs' := #[.int .i64 R, .slice av (W.length + 1) cv]) O20 HG20.out)
                  have HGF := Lib.hid (setRow_heap _ _ _ #[.int .i64 R, .slice av (W.length + 1) cv] _ _ HG20.out)
                  go_wp2
                  refine seg_grow (belW HBF.out) ?_
                  refine U_done (by kernel_rfl) ?_
                  go_wp2
                  go_meet
                  case rel => exact ⟨_, _, rfl, HGF.out, HRF.out, HBF.out⟩
                · simp only [pickL, List.getElem?_cons_succ, List.getElem?_cons_zero]
                  have HB21 := Lib.hid (bal HB18.out (.cells #[.int .i64 0, .slice none 0 0] 24))
                  have HG21 := Lib.hid (heap_alloc_new w68 (.cells #[.int .i64 0, .slice none 0 0] 24))
                  have hge := HB18.out.size
                  have O21 := World.ownsRow.alloc O18 (.cells #[.int .i64 0, .slice none 0 0] 24)
                  have R21 := World.ownsRow.alloc R17 (.cells #[.int .i64 0, .slice none 0 0] 24)
                  go_wp2
                  generalize w68.alloc (Obj.cells #[.int .i64 0, .slice none 0 0] 24) = w71 at *
                  refine seg_grow (belW HB21.out) ?_
                  refine U_one 21 (by kernel_rfl) ?_
                  simp only [pickL, List.getElem?_cons_succ, List.getElem?_cons_zero]
                  refine wpList_append_any (ys := W.drop (i + 1)) (al := some ad) (c := c - (i + 1)) rfl _ _ rfl O21 HB21.out.size rfl (by rw [List.length_drop]; rfl) (by rw [List.length_drop]; exact HXBv.out.mono HB21.out) (by simp; try omega) (by rw [List.length_drop]; omega) ?_
                  intro v22 w72 O22 gr
                  have HB22 := Lib.hid (append_below HB21.out O21 gr (Nat.le_refl _))
                  have HG22 := Lib.hid (keep_row O21 HG21.out gr)
                  clear gr
                  obtain ⟨av, cv, hv⟩ := owns_form O22
                  rw [List.nil_append, hln] at hv
                  subst hv
                  go_wp2
                  refine seg_grow (belW HB22.out) ?_
                  refine U_heads [22] (by kernel_rfl) (belW HB22.out) ?_
                  simp only [pickL, List.getElem?_cons_succ, List.getElem?_cons_zero]
                  repeat (go_big_quiet_step (fail))
                  refine wpQuiet_nil ?_
                  refine U_one 24 (by kernel_rfl) ?_
                  simp only [pickL, List.getElem?_cons_succ, List.getElem?_cons_zero]
                  refine wpList_store_row rfl 24 (.tmp 9) (.tmp 68) rfl (w68.heap.size) #[.int .i64 R, .slice av (W.length + 1) cv] rfl rfl 24 _ HG22.out (by kernel_rfl) rfl (by simp [Value.oneCell']) ?_
                  have HBF := Lib.hid (below_setRow HB22.out hge #[.int .i64 R, .slice av (W.length + 1) cv])
                  have HRF := Lib.hid (rd_store (cs' := #[.int .i64 R, .slice av (W.length + 1) cv]) O22 HG22.out)
                  have HGF := Lib.hid (setRow_heap _ _ _ #[.int .i64 R, .slice av (W.length + 1) cv] _ _ HG22.out)
                  go_wp2
                  refine seg_grow (belW HBF.out) ?_
                  refine U_done (by kernel_rfl) ?_
                  go_wp2
                  go_meet
                  case rel => exact ⟨_, _, rfl, HGF.out, HRF.out, HBF.out⟩
              · simp only [pickL, List.getElem?_cons_succ, List.getElem?_cons_zero]
                have HB23 := Lib.hid (bal HB17.out (.cells #[.int .i64 0, .slice none 0 0] 24))
                have HG23 := Lib.hid (heap_alloc_new w67 (.cells #[.int .i64 0, .slice none 0 0] 24))
                have hge := HB17.out.size
                have O23 := World.ownsRow.alloc O17 (.cells #[.int .i64 0, .slice none 0 0] 24)
                have R23 := World.ownsRow.alloc R17 (.cells #[.int .i64 0, .slice none 0 0] 24)
                go_wp2
                generalize w67.alloc (Obj.cells #[.int .i64 0, .slice none 0 0] 24) = w73 at *
                refine seg_grow (belW HB23.out) ?_
                refine U_one 15 (by kernel_rfl) ?_
                simp only [pickL, List.getElem?_cons_succ, List.getElem?_cons_zero]
                refine wpList_append_any (ys := [q]) rfl _ _ rfl O23 HB23.out.size rfl rfl (RdI.of_owns R23) (by simp; try omega) (by simp) ?_
                intro v24 w74 O24 gr
                have HB24 := Lib.hid (append_below HB23.out O23 gr (Nat.le_refl _))
                have HG24 := Lib.hid (keep_row O23 HG23.out gr)
                clear gr
                go_wp2
                refine seg_grow (belW HB24.out) ?_
                refine U_one 21 (by kernel_rfl) ?_
                simp only [pickL, List.getElem?_cons_succ, List.getElem?_cons_zero]
                refine wpList_append_any (ys := W.drop (i + 1)) (al := some ad) (c := c - (i + 1)) rfl _ _ rfl O24 HB24.out.size rfl (by rw [List.length_drop]; rfl) (by rw [List.length_drop]; exact HXBv.out.mono HB24.out) (by simp; try omega) (by rw [List.length_drop]; omega) ?_
                intro v25 w75 O25 gr
                have HB25 := Lib.hid (append_below HB24.out O24 gr (Nat.le_refl _))
                have HG25 := Lib.hid (keep_row O24 HG24.out gr)
                clear gr
                obtain ⟨av, cv, hv⟩ := owns_form O25
                rw [List.nil_append, hln] at hv
                subst hv
                go_wp2
                refine seg_grow (belW HB25.out) ?_
                refine U_heads [22] (by kernel_rfl) (belW HB25.out) ?_
                simp only [pickL, List.getElem?_cons_succ, List.getElem?_cons_zero]
                repeat (go_big_quiet_step (fail))
                refine wpQuiet_nil ?_
                refine U_one 24 (by kernel_rfl) ?_
                simp only [pickL, List.getElem?_cons_succ, List.getElem?_cons_zero]
                refine wpList_store_row rfl 24 (.tmp 9) (.tmp 68) rfl (w67.heap.size) #[.int .i64 R, .slice av (W.length + 1) cv] rfl rfl 24 _ HG25.out (by kernel_rfl) rfl (by simp [Value.oneCell']) ?_
                have HBF := Lib.hid (below_setRow HB25.out hge #[.int .i64 R, .slice av (W.length + 1) cv])
                have HRF := Lib.hid (rd_store (cs' := #[.int .i64 R, .slice av (W.length + 1) cv]) O25 HG25.out)
                have HGF := Lib.hid (setRow_heap _ _ _ #[.int .i64 R, .slice av (W.length + 1) cv] _ _ HG25.out)
                go_wp2
                refine seg_grow (belW HBF.out) ?_
                refine U_done (by kernel_rfl) ?_
                go_wp2
                go_meet
                case rel => exact ⟨_, _, rfl, HGF.out, HRF.out, HBF.out⟩
            · simp only [pickL, List.getElem?_cons_succ, List.getElem?_cons_zero]
              have HB26 := Lib.hid (bal HB16.out (.cells #[.int .i64 0, .slice none 0 0] 24))
              have HG26 := Lib.hid (heap_alloc_new w66 (.cells #[.int .i64 0, .slice none 0 0] 24))
              have hge := HB16.out.size
              have O26 := World.ownsRow.alloc O16 (.cells #[.int .i64 0, .slice none 0 0] 24)
              have R26 := World.ownsRow.alloc R16 (.cells #[.int .i64 0, .slice none 0 0] 24)
              go_wp2
              generalize w66.alloc (Obj.cells #[.int .i64 0, .slice none 0 0] 24) = w76 at *
              refine seg_grow (belW HB26.out) ?_
              refine U_one 8 (by kernel_rfl) ?_
              simp only [pickL, List.getElem?_cons_succ, List.getElem?_cons_zero]
              refine wpList_append_any (ys := W.take (i + 1)) (al := some ⟨bx, ox, none⟩) (c := c) rfl _ _ rfl O26 HB26.out.size rfl (by rw [List.length_take, Nat.min_eq_left (by omega)]; rfl) (by rw [List.length_take, Nat.min_eq_left (by omega)]; exact HXAv.out.mono HB26.out) (by simp) (by rw [List.length_take]; omega) ?_
              intro v27 w77 O27 gr
              have HB27 := Lib.hid (append_below HB26.out O26 gr (Nat.le_refl _))
              have HG27 := Lib.hid (keep_row O26 HG26.out gr)
              have R27 := World.ownsRow.kept R26 gr ap
              clear ap
              clear gr
              go_wp2
              refine seg_grow (belW HB27.out) ?_
              refine U_one 15 (by kernel_rfl) ?_
              simp only [pickL, List.getElem?_cons_succ, List.getElem?_cons_zero]
              refine wpList_append_any (ys := [q]) rfl _ _ rfl O27 HB27.out.size rfl rfl (RdI.of_owns R27) (by simp; try omega) (by simp) ?_
              intro v28 w78 O28 gr
              have HB28 := Lib.hid (append_below HB27.out O27 gr (Nat.le_refl _))
              have HG28 := Lib.hid (keep_row O27 HG27.out gr)
              clear gr
              go_wp2
              refine seg_grow (belW HB28.out) ?_
              refine U_one 21 (by kernel_rfl) ?_
              simp only [pickL, List.getElem?_cons_succ, List.getElem?_cons_zero]
              refine wpList_append_any (ys := W.drop (i + 1)) (al := some ad) (c := c - (i + 1)) rfl _ _ rfl O28 HB28.out.size rfl (by rw [List.length_drop]; rfl) (by rw [List.length_drop]; exact HXBv.out.mono HB28.out) (by simp; try omega) (by rw [List.length_drop]; omega) ?_
              intro v29 w79 O29 gr
              have HB29 := Lib.hid (append_below HB28.out O28 gr (Nat.le_refl _))
              have HG29 := Lib.hid (keep_row O28 HG28.out gr)
              clear gr
              obtain ⟨av, cv, hv⟩ := owns_form O29
              rw [List.nil_append, hln] at hv
              subst hv
              go_wp2
              refine seg_grow (belW HB29.out) ?_
              refine U_heads [22] (by kernel_rfl) (belW HB29.out) ?_
              simp only [pickL, List.getElem?_cons_succ, List.getElem?_cons_zero]
              repeat (go_big_quiet_step (fail))
              refine wpQuiet_nil ?_
              refine U_one 24 (by kernel_rfl) ?_
              simp only [pickL, List.getElem?_cons_succ, List.getElem?_cons_zero]
              refine wpList_store_row rfl 24 (.tmp 9) (.tmp 68) rfl (w66.heap.size) #[.int .i64 R, .slice av (W.length + 1) cv] rfl rfl 24 _ HG29.out (by kernel_rfl) rfl (by simp [Value.oneCell']) ?_
              have HBF := Lib.hid (below_setRow HB29.out hge #[.int .i64 R, .slice av (W.length + 1) cv])
              have HRF := Lib.hid (rd_store (cs' := #[.int .i64 R, .slice av (W.length + 1) cv]) O29 HG29.out)
              have HGF := Lib.hid (setRow_heap _ _ _ #[.int .i64 R, .slice av (W.length + 1) cv] _ _ HG29.out)
              go_wp2
              refine seg_grow (belW HBF.out) ?_
              refine U_done (by kernel_rfl) ?_
              go_wp2
              go_meet
              case rel => exact ⟨_, _, rfl, HGF.out, HRF.out, HBF.out⟩
          · simp only [pickL, List.getElem?_cons_succ, List.getElem?_cons_zero]
            have HB30 := Lib.hid (bal HB1.out (.cells #[.int .i64 0, .slice none 0 0] 24))
            have HG30 := Lib.hid (heap_alloc_new w51 (.cells #[.int .i64 0, .slice none 0 0] 24))
            have hge := HB1.out.size
            have O30 := World.ownsRow.alloc O1 (.cells #[.int .i64 0, .slice none 0 0] 24)
            go_wp2
            generalize w51.alloc (Obj.cells #[.int .i64 0, .slice none 0 0] 24) = w80 at *
            refine seg_grow (belW HB30.out) ?_
            refine U_two 8 14 (by kernel_rfl) ?_ ?_
            · simp only [pickL, List.getElem?_cons_succ, List.getElem?_cons_zero]
              refine wpList_append_any (ys := W.take (i + 1)) (al := some ⟨bx, ox, none⟩) (c := c) rfl _ _ rfl O30 HB30.out.size rfl (by rw [List.length_take, Nat.min_eq_left (by omega)]; rfl) (by rw [List.length_take, Nat.min_eq_left (by omega)]; exact HXAv.out.mono HB30.out) (by simp) (by rw [List.length_take]; omega) ?_
              intro v31 w81 O31 gr
              have HB31 := Lib.hid (append_below HB30.out O30 gr (Nat.le_refl _))
              have HG31 := Lib.hid (keep_row O30 HG30.out gr)
              clear gr
              go_wp2
              refine seg_grow (belW HB31.out) ?_
              refine U_one 14 (by kernel_rfl) ?_
              simp only [pickL, List.getElem?_cons_succ, List.getElem?_cons_zero]
              have HB32 := Lib.hid (bal HB31.out (.cells #[.int .i64 q] 3))
              have R32 := rowI_one w81 (base := wV.heap.size) (nb := w81.heap.size) q rfl HB31.out.size
              have O32 := World.ownsRow.alloc O31 (.cells #[.int .i64 q] 3)
              have HG32 := Lib.hid ((Below.heap_alloc w81 (.cells #[.int .i64 q] 3) _ (by have := (Array.getElem?_eq_some_iff.1 HG31.out).1; exact this)).trans HG31.out)
              go_wp2
              generalize w81.alloc (Obj.cells #[.int .i64 q] 3) = w82 at *
              refine seg_grow (belW HB32.out) ?_
              refine U_one 15 (by kernel_rfl) ?_
              simp only [pickL, List.getElem?_cons_succ, List.getElem?_cons_zero]
              refine wpList_append_any (ys := [q]) rfl _ _ rfl O32 HB32.out.size rfl rfl (RdI.of_owns R32) (by simp; try omega) (by simp) ?_
              intro v33 w83 O33 gr
              have HB33 := Lib.hid (append_below HB32.out O32 gr (Nat.le_refl _))
              have HG33 := Lib.hid (keep_row O32 HG32.out gr)
              clear gr
              go_wp2
              refine seg_grow (belW HB33.out) ?_
              refine U_one 21 (by kernel_rfl) ?_
              simp only [pickL, List.getElem?_cons_succ, List.getElem?_cons_zero]
              refine wpList_append_any (ys := W.drop (i + 1)) (al := some ad) (c := c - (i + 1)) rfl _ _ rfl O33 HB33.out.size rfl (by rw [List.length_drop]; rfl) (by rw [List.length_drop]; exact HXBv.out.mono HB33.out) (by simp; try omega) (by rw [List.length_drop]; omega) ?_
              intro v34 w84 O34 gr
              have HB34 := Lib.hid (append_below HB33.out O33 gr (Nat.le_refl _))
              have HG34 := Lib.hid (keep_row O33 HG33.out gr)
              clear gr
              obtain ⟨av, cv, hv⟩ := owns_form O34
              rw [List.nil_append, hln] at hv
              subst hv
              go_wp2
              refine seg_grow (belW HB34.out) ?_
              refine U_heads [22] (by kernel_rfl) (belW HB34.out) ?_
              simp only [pickL, List.getElem?_cons_succ, List.getElem?_cons_zero]
              repeat (go_big_quiet_step (fail))
              refine wpQuiet_nil ?_
              refine U_one 24 (by kernel_rfl) ?_
              simp only [pickL, List.getElem?_cons_succ, List.getElem?_cons_zero]
              refine wpList_store_row rfl 24 (.tmp 9) (.tmp 68) rfl (w51.heap.size) #[.int .i64 R, .slice av (W.length + 1) cv] rfl rfl 24 _ HG34.out (by kernel_rfl) rfl (by simp [Value.oneCell']) ?_
              have HBF := Lib.hid (below_setRow HB34.out hge #[.int .i64 R, .slice av (W.length + 1) cv])
              have HRF := Lib.hid (rd_store (cs' := #[.int .i64 R, .slice av (W.length + 1) cv]) O34 HG34.out)
              have HGF := Lib.hid (setRow_heap _ _ _ #[.int .i64 R, .slice av (W.length + 1) cv] _ _ HG34.out)
              go_wp2
              refine seg_grow (belW HBF.out) ?_
              refine U_done (by kernel_rfl) ?_
              go_wp2
              go_meet
              case rel => exact ⟨_, _, rfl, HGF.out, HRF.out, HBF.out⟩
            · simp only [pickL, List.getElem?_cons_succ, List.getElem?_cons_zero]
              have HB35 := Lib.hid (bal HB30.out (.cells #[.int .i64 q] 3))
              have R35 := rowI_one w80 (base := wV.heap.size) (nb := w80.heap.size) q rfl HB30.out.size
              have ap := (apart_new O30 (nb := w80.heap.size) rfl 1 1).symm
              have O35 := World.ownsRow.alloc O30 (.cells #[.int .i64 q] 3)
              have HG35 := Lib.hid ((Below.heap_alloc w80 (.cells #[.int .i64 q] 3) _ (by have := (Array.getElem?_eq_some_iff.1 HG30.out).1; exact this)).trans HG30.out)
              go_wp2
              generalize w80.alloc (Obj.cells #[.int .i64 q] 3) = w85 at *
              refine seg_grow (belW HB35.out) ?_
              refine U_one 8 (by kernel_rfl) ?_
              simp only [pickL, List.getElem?_cons_succ, List.getElem?_cons_zero]
              refine wpList_append_any (ys := W.take (i + 1)) (al := some ⟨bx, ox, none⟩) (c := c) rfl _ _ rfl O35 HB35.out.size rfl (by rw [List.length_take, Nat.min_eq_left (by omega)]; rfl) (by rw [List.length_take, Nat.min_eq_left (by omega)]; exact HXAv.out.mono HB35.out) (by simp) (by rw [List.length_take]; omega) ?_
              intro v36 w86 O36 gr
              have HB36 := Lib.hid (append_below HB35.out O35 gr (Nat.le_refl _))
              have HG36 := Lib.hid (keep_row O35 HG35.out gr)
              have R36 := World.ownsRow.kept R35 gr ap
              clear ap
              clear gr
              go_wp2
              refine seg_grow (belW HB36.out) ?_
              refine U_one 15 (by kernel_rfl) ?_
              simp only [pickL, List.getElem?_cons_succ, List.getElem?_cons_zero]
              refine wpList_append_any (ys := [q]) rfl _ _ rfl O36 HB36.out.size rfl rfl (RdI.of_owns R36) (by simp; try omega) (by simp) ?_
              intro v37 w87 O37 gr
              have HB37 := Lib.hid (append_below HB36.out O36 gr (Nat.le_refl _))
              have HG37 := Lib.hid (keep_row O36 HG36.out gr)
              clear gr
              go_wp2
              refine seg_grow (belW HB37.out) ?_
              refine U_one 21 (by kernel_rfl) ?_
              simp only [pickL, List.getElem?_cons_succ, List.getElem?_cons_zero]
              refine wpList_append_any (ys := W.drop (i + 1)) (al := some ad) (c := c - (i + 1)) rfl _ _ rfl O37 HB37.out.size rfl (by rw [List.length_drop]; rfl) (by rw [List.length_drop]; exact HXBv.out.mono HB37.out) (by simp; try omega) (by rw [List.length_drop]; omega) ?_
              intro v38 w88 O38 gr
              have HB38 := Lib.hid (append_below HB37.out O37 gr (Nat.le_refl _))
              have HG38 := Lib.hid (keep_row O37 HG37.out gr)
              clear gr
              obtain ⟨av, cv, hv⟩ := owns_form O38
              rw [List.nil_append, hln] at hv
              subst hv
              go_wp2
              refine seg_grow (belW HB38.out) ?_
              refine U_heads [22] (by kernel_rfl) (belW HB38.out) ?_
              simp only [pickL, List.getElem?_cons_succ, List.getElem?_cons_zero]
              repeat (go_big_quiet_step (fail))
              refine wpQuiet_nil ?_
              refine U_one 24 (by kernel_rfl) ?_
              simp only [pickL, List.getElem?_cons_succ, List.getElem?_cons_zero]
              refine wpList_store_row rfl 24 (.tmp 9) (.tmp 68) rfl (w51.heap.size) #[.int .i64 R, .slice av (W.length + 1) cv] rfl rfl 24 _ HG38.out (by kernel_rfl) rfl (by simp [Value.oneCell']) ?_
              have HBF := Lib.hid (below_setRow HB38.out hge #[.int .i64 R, .slice av (W.length + 1) cv])
              have HRF := Lib.hid (rd_store (cs' := #[.int .i64 R, .slice av (W.length + 1) cv]) O38 HG38.out)
              have HGF := Lib.hid (setRow_heap _ _ _ #[.int .i64 R, .slice av (W.length + 1) cv] _ _ HG38.out)
              go_wp2
              refine seg_grow (belW HBF.out) ?_
              refine U_done (by kernel_rfl) ?_
              go_wp2
              go_meet
              case rel => exact ⟨_, _, rfl, HGF.out, HRF.out, HBF.out⟩
        · simp only [pickL, List.getElem?_cons_succ, List.getElem?_cons_zero]
          have HB39 := Lib.hid (bal HB0.out (.cells #[.int .i64 q] 3))
          have R39 := rowI_one wc (base := wV.heap.size) (nb := wc.heap.size) q rfl HB0.out.size
          go_wp2
          generalize wc.alloc (Obj.cells #[.int .i64 q] 3) = w89 at *
          refine seg_grow (belW HB39.out) ?_
          refine U_two 2 23 (by kernel_rfl) ?_ ?_
          · simp only [pickL, List.getElem?_cons_succ, List.getElem?_cons_zero]
            have HB40 := Lib.hid (bal HB39.out (.cells #[] 3))
            have O40 := own_newI w89 (base := wV.heap.size) (nb := w89.heap.size) rfl HB39.out.size
            have ap := (apart_new R39 (nb := w89.heap.size) rfl 0 0)
            have R40 := World.ownsRow.alloc R39 (.cells #[] 3)
            go_wp2
            generalize w89.alloc (Obj.cells #[] 3) = w90 at *
            refine seg_grow (belW HB40.out) ?_
            refine U_two 8 23 (by kernel_rfl) ?_ ?_
            · simp only [pickL, List.getElem?_cons_succ, List.getElem?_cons_zero]
              refine wpList_append_any (ys := W.take (i + 1)) (al := some ⟨bx, ox, none⟩) (c := c) rfl _ _ rfl O40 HB40.out.size rfl (by rw [List.length_take, Nat.min_eq_left (by omega)]; rfl) (by rw [List.length_take, Nat.min_eq_left (by omega)]; exact HXAv.out.mono HB40.out) (by simp) (by rw [List.length_take]; omega) ?_
              intro v41 w91 O41 gr
              have HB41 := Lib.hid (append_below HB40.out O40 gr (Nat.le_refl _))
              have R41 := World.ownsRow.kept R40 gr ap
              clear ap
              clear gr
              go_wp2
              refine seg_grow (belW HB41.out) ?_
              refine U_two 15 23 (by kernel_rfl) ?_ ?_
              · simp only [pickL, List.getElem?_cons_succ, List.getElem?_cons_zero]
                refine wpList_append_any (ys := [q]) rfl _ _ rfl O41 HB41.out.size rfl rfl (RdI.of_owns R41) (by simp; try omega) (by simp) ?_
                intro v42 w92 O42 gr
                have HB42 := Lib.hid (append_below HB41.out O41 gr (Nat.le_refl _))
                clear gr
                go_wp2
                refine seg_grow (belW HB42.out) ?_
                refine U_two 21 23 (by kernel_rfl) ?_ ?_
                · simp only [pickL, List.getElem?_cons_succ, List.getElem?_cons_zero]
                  refine wpList_append_any (ys := W.drop (i + 1)) (al := some ad) (c := c - (i + 1)) rfl _ _ rfl O42 HB42.out.size rfl (by rw [List.length_drop]; rfl) (by rw [List.length_drop]; exact HXBv.out.mono HB42.out) (by simp; try omega) (by rw [List.length_drop]; omega) ?_
                  intro v43 w93 O43 gr
                  have HB43 := Lib.hid (append_below HB42.out O42 gr (Nat.le_refl _))
                  clear gr
                  obtain ⟨av, cv, hv⟩ := owns_form O43
                  rw [List.nil_append, hln] at hv
                  subst hv
                  go_wp2
                  refine seg_grow (belW HB43.out) ?_
                  refine U_heads [22] (by kernel_rfl) (belW HB43.out) ?_
                  simp only [pickL, List.getElem?_cons_succ, List.getElem?_cons_zero]
                  repeat (go_big_quiet_step (fail))
                  refine wpQuiet_nil ?_
                  refine U_one 23 (by kernel_rfl) ?_
                  simp only [pickL, List.getElem?_cons_succ, List.getElem?_cons_zero]
                  have HB44 := Lib.hid (bal HB43.out (.cells #[.int .i64 0, .slice none 0 0] 24))
                  have HG44 := Lib.hid (heap_alloc_new w93 (.cells #[.int .i64 0, .slice none 0 0] 24))
                  have hge := HB43.out.size
                  have O44 := World.ownsRow.alloc O43 (.cells #[.int .i64 0, .slice none 0 0] 24)
                  have R44 := World.ownsRow.alloc R41 (.cells #[.int .i64 0, .slice none 0 0] 24)
                  go_wp2
                  generalize w93.alloc (Obj.cells #[.int .i64 0, .slice none 0 0] 24) = w94 at *
                  refine seg_grow (belW HB44.out) ?_
                  refine U_one 24 (by kernel_rfl) ?_
                  simp only [pickL, List.getElem?_cons_succ, List.getElem?_cons_zero]
                  refine wpList_store_row rfl 24 (.tmp 9) (.tmp 68) rfl (w93.heap.size) #[.int .i64 R, .slice av (W.length + 1) cv] rfl rfl 24 _ HG44.out (by kernel_rfl) rfl (by simp [Value.oneCell']) ?_
                  have HBF := Lib.hid (below_setRow HB44.out hge #[.int .i64 R, .slice av (W.length + 1) cv])
                  have HRF := Lib.hid (rd_store (cs' := #[.int .i64 R, .slice av (W.length + 1) cv]) O44 HG44.out)
                  have HGF := Lib.hid (setRow_heap _ _ _ #[.int .i64 R, .slice av (W.length + 1) cv] _ _ HG44.out)
                  go_wp2
                  refine seg_grow (belW HBF.out) ?_
                  refine U_done (by kernel_rfl) ?_
                  go_wp2
                  go_meet
                  case rel => exact ⟨_, _, rfl, HGF.out, HRF.out, HBF.out⟩
                · simp only [pickL, List.getElem?_cons_succ, List.getElem?_cons_zero]
                  have HB45 := Lib.hid (bal HB42.out (.cells #[.int .i64 0, .slice none 0 0] 24))
                  have HG45 := Lib.hid (heap_alloc_new w92 (.cells #[.int .i64 0, .slice none 0 0] 24))
                  have hge := HB42.out.size
                  have O45 := World.ownsRow.alloc O42 (.cells #[.int .i64 0, .slice none 0 0] 24)
                  have R45 := World.ownsRow.alloc R41 (.cells #[.int .i64 0, .slice none 0 0] 24)
                  go_wp2
                  generalize w92.alloc (Obj.cells #[.int .i64 0, .slice none 0 0] 24) = w95 at *
                  refine seg_grow (belW HB45.out) ?_
                  refine U_one 21 (by kernel_rfl) ?_
                  simp only [pickL, List.getElem?_cons_succ, List.getElem?_cons_zero]
                  refine wpList_append_any (ys := W.drop (i + 1)) (al := some ad) (c := c - (i + 1)) rfl _ _ rfl O45 HB45.out.size rfl (by rw [List.length_drop]; rfl) (by rw [List.length_drop]; exact HXBv.out.mono HB45.out) (by simp; try omega) (by rw [List.length_drop]; omega) ?_
                  intro v46 w96 O46 gr
                  have HB46 := Lib.hid (append_below HB45.out O45 gr (Nat.le_refl _))
                  have HG46 := Lib.hid (keep_row O45 HG45.out gr)
                  clear gr
                  obtain ⟨av, cv, hv⟩ := owns_form O46
                  rw [List.nil_append, hln] at hv
                  subst hv
                  go_wp2
                  refine seg_grow (belW HB46.out) ?_
                  refine U_heads [22] (by kernel_rfl) (belW HB46.out) ?_
                  simp only [pickL, List.getElem?_cons_succ, List.getElem?_cons_zero]
                  repeat (go_big_quiet_step (fail))
                  refine wpQuiet_nil ?_
                  refine U_one 24 (by kernel_rfl) ?_
                  simp only [pickL, List.getElem?_cons_succ, List.getElem?_cons_zero]
                  refine wpList_store_row rfl 24 (.tmp 9) (.tmp 68) rfl (w92.heap.size) #[.int .i64 R, .slice av (W.length + 1) cv] rfl rfl 24 _ HG46.out (by kernel_rfl) rfl (by simp [Value.oneCell']) ?_
                  have HBF := Lib.hid (below_setRow HB46.out hge #[.int .i64 R, .slice av (W.length + 1) cv])
                  have HRF := Lib.hid (rd_store (cs' := #[.int .i64 R, .slice av (W.length + 1) cv]) O46 HG46.out)
                  have HGF := Lib.hid (setRow_heap _ _ _ #[.int .i64 R, .slice av (W.length + 1) cv] _ _ HG46.out)
                  go_wp2
                  refine seg_grow (belW HBF.out) ?_
                  refine U_done (by kernel_rfl) ?_
                  go_wp2
                  go_meet
                  case rel => exact ⟨_, _, rfl, HGF.out, HRF.out, HBF.out⟩
              · simp only [pickL, List.getElem?_cons_succ, List.getElem?_cons_zero]
                have HB47 := Lib.hid (bal HB41.out (.cells #[.int .i64 0, .slice none 0 0] 24))
                have HG47 := Lib.hid (heap_alloc_new w91 (.cells #[.int .i64 0, .slice none 0 0] 24))
                have hge := HB41.out.size
                have O47 := World.ownsRow.alloc O41 (.cells #[.int .i64 0, .slice none 0 0] 24)
                have R47 := World.ownsRow.alloc R41 (.cells #[.int .i64 0, .slice none 0 0] 24)
                go_wp2
                generalize w91.alloc (Obj.cells #[.int .i64 0, .slice none 0 0] 24) = w97 at *
                refine seg_grow (belW HB47.out) ?_
                refine U_one 15 (by kernel_rfl) ?_
                simp only [pickL, List.getElem?_cons_succ, List.getElem?_cons_zero]
                refine wpList_append_any (ys := [q]) rfl _ _ rfl O47 HB47.out.size rfl rfl (RdI.of_owns R47) (by simp; try omega) (by simp) ?_
                intro v48 w98 O48 gr
                have HB48 := Lib.hid (append_below HB47.out O47 gr (Nat.le_refl _))
                have HG48 := Lib.hid (keep_row O47 HG47.out gr)
                clear gr
                go_wp2
                refine seg_grow (belW HB48.out) ?_
                refine U_one 21 (by kernel_rfl) ?_
                simp only [pickL, List.getElem?_cons_succ, List.getElem?_cons_zero]
                refine wpList_append_any (ys := W.drop (i + 1)) (al := some ad) (c := c - (i + 1)) rfl _ _ rfl O48 HB48.out.size rfl (by rw [List.length_drop]; rfl) (by rw [List.length_drop]; exact HXBv.out.mono HB48.out) (by simp; try omega) (by rw [List.length_drop]; omega) ?_
                intro v49 w99 O49 gr
                have HB49 := Lib.hid (append_below HB48.out O48 gr (Nat.le_refl _))
                have HG49 := Lib.hid (keep_row O48 HG48.out gr)
                clear gr
                obtain ⟨av, cv, hv⟩ := owns_form O49
                rw [List.nil_append, hln] at hv
                subst hv
                go_wp2
                refine seg_grow (belW HB49.out) ?_
                refine U_heads [22] (by kernel_rfl) (belW HB49.out) ?_
                simp only [pickL, List.getElem?_cons_succ, List.getElem?_cons_zero]
                repeat (go_big_quiet_step (fail))
                refine wpQuiet_nil ?_
                refine U_one 24 (by kernel_rfl) ?_
                simp only [pickL, List.getElem?_cons_succ, List.getElem?_cons_zero]
                refine wpList_store_row rfl 24 (.tmp 9) (.tmp 68) rfl (w91.heap.size) #[.int .i64 R, .slice av (W.length + 1) cv] rfl rfl 24 _ HG49.out (by kernel_rfl) rfl (by simp [Value.oneCell']) ?_
                have HBF := Lib.hid (below_setRow HB49.out hge #[.int .i64 R, .slice av (W.length + 1) cv])
                have HRF := Lib.hid (rd_store (cs' := #[.int .i64 R, .slice av (W.length + 1) cv]) O49 HG49.out)
                have HGF := Lib.hid (setRow_heap _ _ _ #[.int .i64 R, .slice av (W.length + 1) cv] _ _ HG49.out)
                go_wp2
                refine seg_grow (belW HBF.out) ?_
                refine U_done (by kernel_rfl) ?_
                go_wp2
                go_meet
                case rel => exact ⟨_, _, rfl, HGF.out, HRF.out, HBF.out⟩
            · simp only [pickL, List.getElem?_cons_succ, List.getElem?_cons_zero]
              have HB50 := Lib.hid (bal HB40.out (.cells #[.int .i64 0, .slice none 0 0] 24))
              have HG50 := Lib.hid (heap_alloc_new w90 (.cells #[.int .i64 0, .slice none 0 0] 24))
              have hge := HB40.out.size
              have O50 := World.ownsRow.alloc O40 (.cells #[.int .i64 0, .slice none 0 0] 24)
              have R50 := World.ownsRow.alloc R40 (.cells #[.int .i64 0, .slice none 0 0] 24)
              go_wp2
              generalize w90.alloc (Obj.cells #[.int .i64 0, .slice none 0 0] 24) = w100 at *
              refine seg_grow (belW HB50.out) ?_
              refine U_one 8 (by kernel_rfl) ?_
              simp only [pickL, List.getElem?_cons_succ, List.getElem?_cons_zero]
              refine wpList_append_any (ys := W.take (i + 1)) (al := some ⟨bx, ox, none⟩) (c := c) rfl _ _ rfl O50 HB50.out.size rfl (by rw [List.length_take, Nat.min_eq_left (by omega)]; rfl) (by rw [List.length_take, Nat.min_eq_left (by omega)]; exact HXAv.out.mono HB50.out) (by simp) (by rw [List.length_take]; omega) ?_
              intro v51 w101 O51 gr
              have HB51 := Lib.hid (append_below HB50.out O50 gr (Nat.le_refl _))
              have HG51 := Lib.hid (keep_row O50 HG50.out gr)
              have R51 := World.ownsRow.kept R50 gr ap
              clear ap
              clear gr
              go_wp2
              refine seg_grow (belW HB51.out) ?_
              refine U_one 15 (by kernel_rfl) ?_
              simp only [pickL, List.getElem?_cons_succ, List.getElem?_cons_zero]
              refine wpList_append_any (ys := [q]) rfl _ _ rfl O51 HB51.out.size rfl rfl (RdI.of_owns R51) (by simp; try omega) (by simp) ?_
              intro v52 w102 O52 gr
              have HB52 := Lib.hid (append_below HB51.out O51 gr (Nat.le_refl _))
              have HG52 := Lib.hid (keep_row O51 HG51.out gr)
              clear gr
              go_wp2
              refine seg_grow (belW HB52.out) ?_
              refine U_one 21 (by kernel_rfl) ?_
              simp only [pickL, List.getElem?_cons_succ, List.getElem?_cons_zero]
              refine wpList_append_any (ys := W.drop (i + 1)) (al := some ad) (c := c - (i + 1)) rfl _ _ rfl O52 HB52.out.size rfl (by rw [List.length_drop]; rfl) (by rw [List.length_drop]; exact HXBv.out.mono HB52.out) (by simp; try omega) (by rw [List.length_drop]; omega) ?_
              intro v53 w103 O53 gr
              have HB53 := Lib.hid (append_below HB52.out O52 gr (Nat.le_refl _))
              have HG53 := Lib.hid (keep_row O52 HG52.out gr)
              clear gr
              obtain ⟨av, cv, hv⟩ := owns_form O53
              rw [List.nil_append, hln] at hv
              subst hv
              go_wp2
              refine seg_grow (belW HB53.out) ?_
              refine U_heads [22] (by kernel_rfl) (belW HB53.out) ?_
              simp only [pickL, List.getElem?_cons_succ, List.getElem?_cons_zero]
              repeat (go_big_quiet_step (fail))
              refine wpQuiet_nil ?_
              refine U_one 24 (by kernel_rfl) ?_
              simp only [pickL, List.getElem?_cons_succ, List.getElem?_cons_zero]
              refine wpList_store_row rfl 24 (.tmp 9) (.tmp 68) rfl (w90.heap.size) #[.int .i64 R, .slice av (W.length + 1) cv] rfl rfl 24 _ HG53.out (by kernel_rfl) rfl (by simp [Value.oneCell']) ?_
              have HBF := Lib.hid (below_setRow HB53.out hge #[.int .i64 R, .slice av (W.length + 1) cv])
              have HRF := Lib.hid (rd_store (cs' := #[.int .i64 R, .slice av (W.length + 1) cv]) O53 HG53.out)
              have HGF := Lib.hid (setRow_heap _ _ _ #[.int .i64 R, .slice av (W.length + 1) cv] _ _ HG53.out)
              go_wp2
              refine seg_grow (belW HBF.out) ?_
              refine U_done (by kernel_rfl) ?_
              go_wp2
              go_meet
              case rel => exact ⟨_, _, rfl, HGF.out, HRF.out, HBF.out⟩
          · simp only [pickL, List.getElem?_cons_succ, List.getElem?_cons_zero]
            have HB54 := Lib.hid (bal HB39.out (.cells #[.int .i64 0, .slice none 0 0] 24))
            have HG54 := Lib.hid (heap_alloc_new w89 (.cells #[.int .i64 0, .slice none 0 0] 24))
            have hge := HB39.out.size
            have R54 := World.ownsRow.alloc R39 (.cells #[.int .i64 0, .slice none 0 0] 24)
            go_wp2
            generalize w89.alloc (Obj.cells #[.int .i64 0, .slice none 0 0] 24) = w104 at *
            refine seg_grow (belW HB54.out) ?_
            refine U_one 2 (by kernel_rfl) ?_
            simp only [pickL, List.getElem?_cons_succ, List.getElem?_cons_zero]
            have HB55 := Lib.hid (bal HB54.out (.cells #[] 3))
            have O55 := own_newI w104 (base := wV.heap.size) (nb := w104.heap.size) rfl HB54.out.size
            have ap := (apart_new R54 (nb := w104.heap.size) rfl 0 0)
            have R55 := World.ownsRow.alloc R54 (.cells #[] 3)
            have HG55 := Lib.hid ((Below.heap_alloc w104 (.cells #[] 3) _ (by have := (Array.getElem?_eq_some_iff.1 HG54.out).1; exact this)).trans HG54.out)
            go_wp2
            generalize w104.alloc (Obj.cells #[] 3) = w105 at *
            refine seg_grow (belW HB55.out) ?_
            refine U_one 8 (by kernel_rfl) ?_
            simp only [pickL, List.getElem?_cons_succ, List.getElem?_cons_zero]
            refine wpList_append_any (ys := W.take (i + 1)) (al := some ⟨bx, ox, none⟩) (c := c) rfl _ _ rfl O55 HB55.out.size rfl (by rw [List.length_take, Nat.min_eq_left (by omega)]; rfl) (by rw [List.length_take, Nat.min_eq_left (by omega)]; exact HXAv.out.mono HB55.out) (by simp) (by rw [List.length_take]; omega) ?_
            intro v56 w106 O56 gr
            have HB56 := Lib.hid (append_below HB55.out O55 gr (Nat.le_refl _))
            have HG56 := Lib.hid (keep_row O55 HG55.out gr)
            have R56 := World.ownsRow.kept R55 gr ap
            clear ap
            clear gr
            go_wp2
            refine seg_grow (belW HB56.out) ?_
            refine U_one 15 (by kernel_rfl) ?_
            simp only [pickL, List.getElem?_cons_succ, List.getElem?_cons_zero]
            refine wpList_append_any (ys := [q]) rfl _ _ rfl O56 HB56.out.size rfl rfl (RdI.of_owns R56) (by simp; try omega) (by simp) ?_
            intro v57 w107 O57 gr
            have HB57 := Lib.hid (append_below HB56.out O56 gr (Nat.le_refl _))
            have HG57 := Lib.hid (keep_row O56 HG56.out gr)
            clear gr
            go_wp2
            refine seg_grow (belW HB57.out) ?_
            refine U_one 21 (by kernel_rfl) ?_
            simp only [pickL, List.getElem?_cons_succ, List.getElem?_cons_zero]
            refine wpList_append_any (ys := W.drop (i + 1)) (al := some ad) (c := c - (i + 1)) rfl _ _ rfl O57 HB57.out.size rfl (by rw [List.length_drop]; rfl) (by rw [List.length_drop]; exact HXBv.out.mono HB57.out) (by simp; try omega) (by rw [List.length_drop]; omega) ?_
            intro v58 w108 O58 gr
            have HB58 := Lib.hid (append_below HB57.out O57 gr (Nat.le_refl _))
            have HG58 := Lib.hid (keep_row O57 HG57.out gr)
            clear gr
            obtain ⟨av, cv, hv⟩ := owns_form O58
            rw [List.nil_append, hln] at hv
            subst hv
            go_wp2
            refine seg_grow (belW HB58.out) ?_
            refine U_heads [22] (by kernel_rfl) (belW HB58.out) ?_
            simp only [pickL, List.getElem?_cons_succ, List.getElem?_cons_zero]
            repeat (go_big_quiet_step (fail))
            refine wpQuiet_nil ?_
            refine U_one 24 (by kernel_rfl) ?_
            simp only [pickL, List.getElem?_cons_succ, List.getElem?_cons_zero]
            refine wpList_store_row rfl 24 (.tmp 9) (.tmp 68) rfl (w89.heap.size) #[.int .i64 R, .slice av (W.length + 1) cv] rfl rfl 24 _ HG58.out (by kernel_rfl) rfl (by simp [Value.oneCell']) ?_
            have HBF := Lib.hid (below_setRow HB58.out hge #[.int .i64 R, .slice av (W.length + 1) cv])
            have HRF := Lib.hid (rd_store (cs' := #[.int .i64 R, .slice av (W.length + 1) cv]) O58 HG58.out)
            have HGF := Lib.hid (setRow_heap _ _ _ #[.int .i64 R, .slice av (W.length + 1) cv] _ _ HG58.out)
            go_wp2
            refine seg_grow (belW HBF.out) ?_
            refine U_done (by kernel_rfl) ?_
            go_wp2
            go_meet
            case rel => exact ⟨_, _, rfl, HGF.out, HRF.out, HBF.out⟩
        · simp only [pickL, List.getElem?_cons_succ, List.getElem?_cons_zero]
          have HB59 := Lib.hid (bal HB0.out (.cells #[.int .i64 0, .slice none 0 0] 24))
          have HG59 := Lib.hid (heap_alloc_new wc (.cells #[.int .i64 0, .slice none 0 0] 24))
          have hge := HB0.out.size
          go_wp2
          generalize wc.alloc (Obj.cells #[.int .i64 0, .slice none 0 0] 24) = w109 at *
          refine seg_grow (belW HB59.out) ?_
          refine U_two 2 14 (by kernel_rfl) ?_ ?_
          · simp only [pickL, List.getElem?_cons_succ, List.getElem?_cons_zero]
            have HB60 := Lib.hid (bal HB59.out (.cells #[] 3))
            have O60 := own_newI w109 (base := wV.heap.size) (nb := w109.heap.size) rfl HB59.out.size
            have HG60 := Lib.hid ((Below.heap_alloc w109 (.cells #[] 3) _ (by have := (Array.getElem?_eq_some_iff.1 HG59.out).1; exact this)).trans HG59.out)
            go_wp2
            generalize w109.alloc (Obj.cells #[] 3) = w110 at *
            refine seg_grow (belW HB60.out) ?_
            refine U_two 8 14 (by kernel_rfl) ?_ ?_
            · simp only [pickL, List.getElem?_cons_succ, List.getElem?_cons_zero]
              refine wpList_append_any (ys := W.take (i + 1)) (al := some ⟨bx, ox, none⟩) (c := c) rfl _ _ rfl O60 HB60.out.size rfl (by rw [List.length_take, Nat.min_eq_left (by omega)]; rfl) (by rw [List.length_take, Nat.min_eq_left (by omega)]; exact HXAv.out.mono HB60.out) (by simp) (by rw [List.length_take]; omega) ?_
              intro v61 w111 O61 gr
              have HB61 := Lib.hid (append_below HB60.out O60 gr (Nat.le_refl _))
              have HG61 := Lib.hid (keep_row O60 HG60.out gr)
              clear gr
              go_wp2
              refine seg_grow (belW HB61.out) ?_
              refine U_one 14 (by kernel_rfl) ?_
              simp only [pickL, List.getElem?_cons_succ, List.getElem?_cons_zero]
              have HB62 := Lib.hid (bal HB61.out (.cells #[.int .i64 q] 3))
              have R62 := rowI_one w111 (base := wV.heap.size) (nb := w111.heap.size) q rfl HB61.out.size
              have O62 := World.ownsRow.alloc O61 (.cells #[.int .i64 q] 3)
              have HG62 := Lib.hid ((Below.heap_alloc w111 (.cells #[.int .i64 q] 3) _ (by have := (Array.getElem?_eq_some_iff.1 HG61.out).1; exact this)).trans HG61.out)
              go_wp2
              generalize w111.alloc (Obj.cells #[.int .i64 q] 3) = w112 at *
              refine seg_grow (belW HB62.out) ?_
              refine U_one 15 (by kernel_rfl) ?_
              simp only [pickL, List.getElem?_cons_succ, List.getElem?_cons_zero]
              refine wpList_append_any (ys := [q]) rfl _ _ rfl O62 HB62.out.size rfl rfl (RdI.of_owns R62) (by simp; try omega) (by simp) ?_
              intro v63 w113 O63 gr
              have HB63 := Lib.hid (append_below HB62.out O62 gr (Nat.le_refl _))
              have HG63 := Lib.hid (keep_row O62 HG62.out gr)
              clear gr
              go_wp2
              refine seg_grow (belW HB63.out) ?_
              refine U_one 21 (by kernel_rfl) ?_
              simp only [pickL, List.getElem?_cons_succ, List.getElem?_cons_zero]
              refine wpList_append_any (ys := W.drop (i + 1)) (al := some ad) (c := c - (i + 1)) rfl _ _ rfl O63 HB63.out.size rfl (by rw [List.length_drop]; rfl) (by rw [List.length_drop]; exact HXBv.out.mono HB63.out) (by simp; try omega) (by rw [List.length_drop]; omega) ?_
              intro v64 w114 O64 gr
              have HB64 := Lib.hid (append_below HB63.out O63 gr (Nat.le_refl _))
              have HG64 := Lib.hid (keep_row O63 HG63.out gr)
              clear gr
              obtain ⟨av, cv, hv⟩ := owns_form O64
              rw [List.nil_append, hln] at hv
              subst hv
              go_wp2
              refine seg_grow (belW HB64.out) ?_
              refine U_heads [22] (by kernel_rfl) (belW HB64.out) ?_
              simp only [pickL, List.getElem?_cons_succ, List.getElem?_cons_zero]
              repeat (go_big_quiet_step (fail))
              refine wpQuiet_nil ?_
              refine U_one 24 (by kernel_rfl) ?_
              simp only [pickL, List.getElem?_cons_succ, List.getElem?_cons_zero]
              refine wpList_store_row rfl 24 (.tmp 9) (.tmp 68) rfl (wc.heap.size) #[.int .i64 R, .slice av (W.length + 1) cv] rfl rfl 24 _ HG64.out (by kernel_rfl) rfl (by simp [Value.oneCell']) ?_
              have HBF := Lib.hid (below_setRow HB64.out hge #[.int .i64 R, .slice av (W.length + 1) cv])
              have HRF := Lib.hid (rd_store (cs' := #[.int .i64 R, .slice av (W.length + 1) cv]) O64 HG64.out)
              have HGF := Lib.hid (setRow_heap _ _ _ #[.int .i64 R, .slice av (W.length + 1) cv] _ _ HG64.out)
              go_wp2
              refine seg_grow (belW HBF.out) ?_
              refine U_done (by kernel_rfl) ?_
              go_wp2
              go_meet
              case rel => exact ⟨_, _, rfl, HGF.out, HRF.out, HBF.out⟩
            · simp only [pickL, List.getElem?_cons_succ, List.getElem?_cons_zero]
              have HB65 := Lib.hid (bal HB60.out (.cells #[.int .i64 q] 3))
              have R65 := rowI_one w110 (base := wV.heap.size) (nb := w110.heap.size) q rfl HB60.out.size
              have ap := (apart_new O60 (nb := w110.heap.size) rfl 1 1).symm
              have O65 := World.ownsRow.alloc O60 (.cells #[.int .i64 q] 3)
              have HG65 := Lib.hid ((Below.heap_alloc w110 (.cells #[.int .i64 q] 3) _ (by have := (Array.getElem?_eq_some_iff.1 HG60.out).1; exact this)).trans HG60.out)
              go_wp2
              generalize w110.alloc (Obj.cells #[.int .i64 q] 3) = w115 at *
              refine seg_grow (belW HB65.out) ?_
              refine U_one 8 (by kernel_rfl) ?_
              simp only [pickL, List.getElem?_cons_succ, List.getElem?_cons_zero]
              refine wpList_append_any (ys := W.take (i + 1)) (al := some ⟨bx, ox, none⟩) (c := c) rfl _ _ rfl O65 HB65.out.size rfl (by rw [List.length_take, Nat.min_eq_left (by omega)]; rfl) (by rw [List.length_take, Nat.min_eq_left (by omega)]; exact HXAv.out.mono HB65.out) (by simp) (by rw [List.length_take]; omega) ?_
              intro v66 w116 O66 gr
              have HB66 := Lib.hid (append_below HB65.out O65 gr (Nat.le_refl _))
              have HG66 := Lib.hid (keep_row O65 HG65.out gr)
              have R66 := World.ownsRow.kept R65 gr ap
              clear ap
              clear gr
              go_wp2
              refine seg_grow (belW HB66.out) ?_
              refine U_one 15 (by kernel_rfl) ?_
              simp only [pickL, List.getElem?_cons_succ, List.getElem?_cons_zero]
              refine wpList_append_any (ys := [q]) rfl _ _ rfl O66 HB66.out.size rfl rfl (RdI.of_owns R66) (by simp; try omega) (by simp) ?_
              intro v67 w117 O67 gr
              have HB67 := Lib.hid (append_below HB66.out O66 gr (Nat.le_refl _))
              have HG67 := Lib.hid (keep_row O66 HG66.out gr)
              clear gr
              go_wp2
              refine seg_grow (belW HB67.out) ?_
              refine U_one 21 (by kernel_rfl) ?_
              simp only [pickL, List.getElem?_cons_succ, List.getElem?_cons_zero]
              refine wpList_append_any (ys := W.drop (i + 1)) (al := some ad) (c := c - (i + 1)) rfl _ _ rfl O67 HB67.out.size rfl (by rw [List.length_drop]; rfl) (by rw [List.length_drop]; exact HXBv.out.mono HB67.out) (by simp; try omega) (by rw [List.length_drop]; omega) ?_
              intro v68 w118 O68 gr
              have HB68 := Lib.hid (append_below HB67.out O67 gr (Nat.le_refl _))
              have HG68 := Lib.hid (keep_row O67 HG67.out gr)
              clear gr
              obtain ⟨av, cv, hv⟩ := owns_form O68
              rw [List.nil_append, hln] at hv
              subst hv
              go_wp2
              refine seg_grow (belW HB68.out) ?_
              refine U_heads [22] (by kernel_rfl) (belW HB68.out) ?_
              simp only [pickL, List.getElem?_cons_succ, List.getElem?_cons_zero]
              repeat (go_big_quiet_step (fail))
              refine wpQuiet_nil ?_
              refine U_one 24 (by kernel_rfl) ?_
              simp only [pickL, List.getElem?_cons_succ, List.getElem?_cons_zero]
              refine wpList_store_row rfl 24 (.tmp 9) (.tmp 68) rfl (wc.heap.size) #[.int .i64 R, .slice av (W.length + 1) cv] rfl rfl 24 _ HG68.out (by kernel_rfl) rfl (by simp [Value.oneCell']) ?_
              have HBF := Lib.hid (below_setRow HB68.out hge #[.int .i64 R, .slice av (W.length + 1) cv])
              have HRF := Lib.hid (rd_store (cs' := #[.int .i64 R, .slice av (W.length + 1) cv]) O68 HG68.out)
              have HGF := Lib.hid (setRow_heap _ _ _ #[.int .i64 R, .slice av (W.length + 1) cv] _ _ HG68.out)
              go_wp2
              refine seg_grow (belW HBF.out) ?_
              refine U_done (by kernel_rfl) ?_
              go_wp2
              go_meet
              case rel => exact ⟨_, _, rfl, HGF.out, HRF.out, HBF.out⟩
          · simp only [pickL, List.getElem?_cons_succ, List.getElem?_cons_zero]
            have HB69 := Lib.hid (bal HB59.out (.cells #[.int .i64 q] 3))
            have R69 := rowI_one w109 (base := wV.heap.size) (nb := w109.heap.size) q rfl HB59.out.size
            have HG69 := Lib.hid ((Below.heap_alloc w109 (.cells #[.int .i64 q] 3) _ (by have := (Array.getElem?_eq_some_iff.1 HG59.out).1; exact this)).trans HG59.out)
            go_wp2
            generalize w109.alloc (Obj.cells #[.int .i64 q] 3) = w119 at *
            refine seg_grow (belW HB69.out) ?_
            refine U_one 2 (by kernel_rfl) ?_
            simp only [pickL, List.getElem?_cons_succ, List.getElem?_cons_zero]
            have HB70 := Lib.hid (bal HB69.out (.cells #[] 3))
            have O70 := own_newI w119 (base := wV.heap.size) (nb := w119.heap.size) rfl HB69.out.size
            have ap := (apart_new R69 (nb := w119.heap.size) rfl 0 0)
            have R70 := World.ownsRow.alloc R69 (.cells #[] 3)
            have HG70 := Lib.hid ((Below.heap_alloc w119 (.cells #[] 3) _ (by have := (Array.getElem?_eq_some_iff.1 HG69.out).1; exact this)).trans HG69.out)
            go_wp2
            generalize w119.alloc (Obj.cells #[] 3) = w120 at *
            refine seg_grow (belW HB70.out) ?_
            refine U_one 8 (by kernel_rfl) ?_
            simp only [pickL, List.getElem?_cons_succ, List.getElem?_cons_zero]
            refine wpList_append_any (ys := W.take (i + 1)) (al := some ⟨bx, ox, none⟩) (c := c) rfl _ _ rfl O70 HB70.out.size rfl (by rw [List.length_take, Nat.min_eq_left (by omega)]; rfl) (by rw [List.length_take, Nat.min_eq_left (by omega)]; exact HXAv.out.mono HB70.out) (by simp) (by rw [List.length_take]; omega) ?_
            intro v71 w121 O71 gr
            have HB71 := Lib.hid (append_below HB70.out O70 gr (Nat.le_refl _))
            have HG71 := Lib.hid (keep_row O70 HG70.out gr)
            have R71 := World.ownsRow.kept R70 gr ap
            clear ap
            clear gr
            go_wp2
            refine seg_grow (belW HB71.out) ?_
            refine U_one 15 (by kernel_rfl) ?_
            simp only [pickL, List.getElem?_cons_succ, List.getElem?_cons_zero]
            refine wpList_append_any (ys := [q]) rfl _ _ rfl O71 HB71.out.size rfl rfl (RdI.of_owns R71) (by simp; try omega) (by simp) ?_
            intro v72 w122 O72 gr
            have HB72 := Lib.hid (append_below HB71.out O71 gr (Nat.le_refl _))
            have HG72 := Lib.hid (keep_row O71 HG71.out gr)
            clear gr
            go_wp2
            refine seg_grow (belW HB72.out) ?_
            refine U_one 21 (by kernel_rfl) ?_
            simp only [pickL, List.getElem?_cons_succ, List.getElem?_cons_zero]
            refine wpList_append_any (ys := W.drop (i + 1)) (al := some ad) (c := c - (i + 1)) rfl _ _ rfl O72 HB72.out.size rfl (by rw [List.length_drop]; rfl) (by rw [List.length_drop]; exact HXBv.out.mono HB72.out) (by simp; try omega) (by rw [List.length_drop]; omega) ?_
            intro v73 w123 O73 gr
            have HB73 := Lib.hid (append_below HB72.out O72 gr (Nat.le_refl _))
            have HG73 := Lib.hid (keep_row O72 HG72.out gr)
            clear gr
            obtain ⟨av, cv, hv⟩ := owns_form O73
            rw [List.nil_append, hln] at hv
            subst hv
            go_wp2
            refine seg_grow (belW HB73.out) ?_
            refine U_heads [22] (by kernel_rfl) (belW HB73.out) ?_
            simp only [pickL, List.getElem?_cons_succ, List.getElem?_cons_zero]
            repeat (go_big_quiet_step (fail))
            refine wpQuiet_nil ?_
            refine U_one 24 (by kernel_rfl) ?_
            simp only [pickL, List.getElem?_cons_succ, List.getElem?_cons_zero]
            refine wpList_store_row rfl 24 (.tmp 9) (.tmp 68) rfl (wc.heap.size) #[.int .i64 R, .slice av (W.length + 1) cv] rfl rfl 24 _ HG73.out (by kernel_rfl) rfl (by simp [Value.oneCell']) ?_
            have HBF := Lib.hid (below_setRow HB73.out hge #[.int .i64 R, .slice av (W.length + 1) cv])
            have HRF := Lib.hid (rd_store (cs' := #[.int .i64 R, .slice av (W.length + 1) cv]) O73 HG73.out)
            have HGF := Lib.hid (setRow_heap _ _ _ #[.int .i64 R, .slice av (W.length + 1) cv] _ _ HG73.out)
            go_wp2
            refine seg_grow (belW HBF.out) ?_
            refine U_done (by kernel_rfl) ?_
            go_wp2
            go_meet
            case rel => exact ⟨_, _, rfl, HGF.out, HRF.out, HBF.out⟩
      case rest =>
        obtain ⟨g, u, rfl, hg, hu, hB2⟩ := hcut
        rw [← HDW.out] at hu
        obtain ⟨au, cu, rfl⟩ := hu.ex (W.length + 1) (dupW_len hi)
        have hgz : g < wc.heap.size := (Array.getElem?_eq_some_iff.1 hg).1
        have HR0g := Lib.hid (fun wz (hB : Below wc.heap.size wc wz) => (hB.cell (p := ⟨g, 0, none⟩) hgz).trans (by rw [cell_of_row _ _ _ _ _ _ hg]))
        have HR1g := Lib.hid (fun wz (hB : Below wc.heap.size wc wz) => (hB.cell (p := ⟨g, 1, none⟩) hgz).trans (by rw [cell_of_row _ _ _ _ _ _ hg]))
        have HRZg := Lib.hid (fun wz (hB : Below wc.heap.size wc wz) => Nat.lt_of_lt_of_le hgz hB.size)
        have HR0b := Lib.hid (fun wz (hB : Below wc.heap.size wc wz) => HR0v.out _ (btr hB2 hB))
        have HR1b := Lib.hid (fun wz (hB : Below wc.heap.size wc wz) => HR1v.out _ (btr hB2 hB))
        have HRZb := Lib.hid (fun wz (hB : Below wc.heap.size wc wz) => HRZv.out _ (btr hB2 hB))
        have HXb := Lib.hid ((HX.out.mono KB1.out).mono hB2); have HU := Lib.hid hu
        have HBb := Lib.hid (btr (btr HBA.out KB1.out) hB2)
        clear HR0 HR1 HRZ HX HBA KB1 hg hgz hu hB2 HR0v HR1v HRZv HGXv HGZv HXAv HXBv HGX HGZ HXA HXB HS1 HS2 HDW
        have HR0 := HR0b; have HR1 := HR1b; have HRZ := HRZb; have HX := HXb; have HBA := HBb
        clear HR0b HR1b HRZb HXb HBb
        have KBB := Lib.hid (bz wc)
        have CW := Lib.hid (fun wz (hB : Below wc.heap.size wc wz) => works_any wz)
        have C1 := Lib.hid (fun wz (hB : Below wc.heap.size wc wz) => fetched_any R _ W (1 + t) wz (HX.out.mono hB) HC.out (by omega) (by omega))
        have C2 := Lib.hid (fun wz (hB : Below wc.heap.size wc wz) => fetched_any R (.slice au (W.length + 1) cu) (dupW W i) (1 + t) wz (HU.out.mono hB) HCD.out (by omega) (by omega))
        have C3 := Lib.hid (fun wz (hB : Below wc.heap.size wc wz) => fewest_yes R _ W wz (HX.out.mono hB) HC.out)
        have C4 := Lib.hid (fun wz (hB : Below wc.heap.size wc wz) => fewest_yes R (.slice au (W.length + 1) cu) (dupW W i) wz (HU.out.mono hB) HCD.out)
        rw [hfd] at C2
        rw [hfew] at C4
        clear hfd hfew HC HCD
        generalize fewN R W = fw at *
        generalize fetR R (1 + t) W = F at *
        have hml : (F.map (shW i)).length = F.length := List.length_map _
        have r0 := HR0.out _ KBB.out; have r1 := HR1.out _ KBB.out; have rz := HRZ.out _ KBB.out
        have r0g := HR0g.out _ KBB.out; have r1g := HR1g.out _ KBB.out; have rzg := HRZg.out _ KBB.out
        go_wp2_with fail
        clear r0 r1 rz r0g r1g rzg
        refine (C1.out _ KBB.out).mono ?_
        rintro e w2 ⟨u1, rfl, fA, hk⟩
        obtain ⟨aA, cA, hv⟩ := fA.ex F.length rfl
        subst hv
        have KB2 := Lib.hid (btr KBB.out hk)
        have HA2 := Lib.hid fA
        clear KBB fA hk
        have r0 := HR0.out _ KB2.out; have r1 := HR1.out _ KB2.out; have rz := HRZ.out _ KB2.out
        have r0g := HR0g.out _ KB2.out; have r1g := HR1g.out _ KB2.out; have rzg := HRZg.out _ KB2.out
        go_wp2_with fail
        clear r0 r1 rz r0g r1g rzg
        refine (C2.out _ KB2.out).mono ?_
        rintro e w3 ⟨u2, rfl, fQ, hk⟩
        obtain ⟨aQ, cQ, hv⟩ := fQ.ex F.length hml
        subst hv
        have KB3 := Lib.hid (btr KB2.out hk)
        have HA3 := Lib.hid (HA2.out.mono hk)
        have HQ3 := Lib.hid fQ
        clear KB2 HA2 fQ hk
        have r0 := HR0.out _ KB3.out; have r1 := HR1.out _ KB3.out; have rz := HRZ.out _ KB3.out
        have r0g := HR0g.out _ KB3.out; have r1g := HR1g.out _ KB3.out; have rzg := HRZg.out _ KB3.out
        go_wp2_with fail
        clear r0 r1 rz r0g r1g rzg
        refine (C3.out _ KB3.out).mono ?_
        rintro e w4 ⟨rfl, hk⟩
        have KB4 := Lib.hid (btr KB3.out hk)
        have HA4 := Lib.hid (HA3.out.mono hk)
        have HQ4 := Lib.hid (HQ3.out.mono hk)
        clear KB3 HA3 HQ3 hk
        have r0 := HR0.out _ KB4.out; have r1 := HR1.out _ KB4.out; have rz := HRZ.out _ KB4.out
        have r0g := HR0g.out _ KB4.out; have r1g := HR1g.out _ KB4.out; have rzg := HRZg.out _ KB4.out
        go_wp2_with fail
        clear r0 r1 rz r0g r1g rzg
        refine (C4.out _ KB4.out).mono ?_
        rintro e w5 ⟨rfl, hk⟩
        have KB5 := Lib.hid (btr KB4.out hk)
        have HA5 := Lib.hid (HA4.out.mono hk)
        have HQ5 := Lib.hid (HQ4.out.mono hk)
        clear KB4 HA4 HQ4 hk
        have r0 := HR0.out _ KB5.out; have r1 := HR1.out _ KB5.out; have rz := HRZ.out _ KB5.out
        have r0g := HR0g.out _ KB5.out; have r1g := HR1g.out _ KB5.out; have rzg := HRZg.out _ KB5.out
        go_wp2_with fail
        clear r0 r1 rz r0g r1g rzg
        obtain ⟨_, _, e, _, _, haf⟩ := HA5.out.form
        cases e
        obtain ⟨_, _, e, _, _, hqf⟩ := HQ5.out.form
        rw [hml] at e hqf
        cases e
        have HAF := Lib.hid haf; have HQF := Lib.hid hqf
        clear haf hqf
        go_loopw [18, 19] (fun s18 _ wr => ∃ j : Nat, j ≤ F.length ∧ s18 = .int .i64 j ∧ Below w5.heap.size w5 wr) (fun s18 _ _ => F.length - (intOf s18).toNat)
        case atStart => exact ⟨0, by omega, rfl, bz _⟩
        case round =>
          obtain ⟨j, hj, rfl, hBr⟩ := hrel
          have HBN := Lib.hid hBr
          have HBR := Lib.hid (btr KB5.out hBr)
          clear hBr
          by_cases hlt : j < F.length
          · obtain ⟨ba, oa, rfl, hba, hfa⟩ := HAF.out (by omega)
            obtain ⟨bq, oq, rfl, hbq, hfq⟩ := HQF.out (by omega)
            have ga := (HBN.out.cell (p := ⟨ba, oa + j, none⟩) hba).trans (hfa j hlt)
            have gq := (HBN.out.cell (p := ⟨bq, oq + j, none⟩) hbq).trans (hfq j hlt)
            have za := Nat.lt_of_lt_of_le hba HBN.out.size
            have zq := Nat.lt_of_lt_of_le hbq HBN.out.size
            rw [map_at hlt] at gq
            obtain ⟨f0, f1⟩ := HFB.out j hlt
            clear hfa hfq
            generalize F[j]?.getD 0 = f at *
            unfold shW at gq
            by_cases hg : (i : Int) < f
            · rw [if_pos hg] at gq
              have r0 := HR0.out _ HBR.out; have r1 := HR1.out _ HBR.out; have rz := HRZ.out _ HBR.out
              have r0g := HR0g.out _ HBR.out; have r1g := HR1g.out _ HBR.out; have rzg := HRZg.out _ HBR.out
              go_wp2_with fail
              clear r0 r1 rz r0g r1g rzg
              go_roundw
              case rel => exact ⟨j + 1, by omega, rfl, HBN.out⟩
              case measure => simp [intOf]; omega
            · rw [if_neg hg] at gq
              have r0 := HR0.out _ HBR.out; have r1 := HR1.out _ HBR.out; have rz := HRZ.out _ HBR.out
              have r0g := HR0g.out _ HBR.out; have r1g := HR1g.out _ HBR.out; have rzg := HRZg.out _ HBR.out
              go_wp2_with fail
              clear r0 r1 rz r0g r1g rzg
              go_roundw
              case rel => exact ⟨j + 1, by omega, rfl, HBN.out⟩
              case measure => simp [intOf]; omega
          · have hke : j = F.length := by omega
            subst hke
            clear hlt hj
            have r0 := HR0.out _ HBR.out; have r1 := HR1.out _ HBR.out; have rz := HRZ.out _ HBR.out
            have r0g := HR0g.out _ HBR.out; have r1g := HR1g.out _ HBR.out; have rzg := HRZg.out _ HBR.out
            go_wp2_with fail
            clear r0 r1 rz r0g r1g rzg
            refine (CW.out _ HBR.out).mono ?_
            rintro e w1 ⟨rfl, hk⟩
            have KB1 := Lib.hid (btr HBR.out hk)
            clear HBR hk
            have r0 := HR0.out _ KB1.out; have r1 := HR1.out _ KB1.out; have rz := HRZ.out _ KB1.out
            have r0g := HR0g.out _ KB1.out; have r1g := HR1g.out _ KB1.out; have rzg := HRZg.out _ KB1.out
            go_wp2_with fail
            clear r0 r1 rz r0g r1g rzg
            go_ret
            exact ⟨rfl, btr HBA.out KB1.out⟩
    · obtain ⟨wA, hwA⟩ : ∃ wA, w.alloc (.cells #[.int .i64 R, .slice a W.length c] 24) = wA := ⟨_, rfl⟩
      have HBA := Lib.hid (show Below w.heap.size w wA by rw [← hwA]; exact bal (bz w) _)
      have hr0 : wA.cell? ⟨w.heap.size, 0, none⟩ = some (.int .i64 R) := by rw [← hwA]; exact cnew rfl rfl
      have hr1 : wA.cell? ⟨w.heap.size, 1, none⟩ = some (.slice a W.length c) := by rw [← hwA]; exact cnew rfl rfl
      have hrz : w.heap.size < wA.heap.size := by rw [← hwA]; simp
      have HR0 := Lib.hid (fun wz (hB : Below wA.heap.size wA wz) => (hB.cell (p := ⟨w.heap.size, 0, none⟩) hrz).trans hr0)
      have HR1 := Lib.hid (fun wz (hB : Below wA.heap.size wA wz) => (hB.cell (p := ⟨w.heap.size, 1, none⟩) hrz).trans hr1)
      have HRZ := Lib.hid (fun wz (hB : Below wA.heap.size wA wz) => Nat.lt_of_lt_of_le hrz hB.size)
      have HX := Lib.hid (hx0.mono HBA.out)
      clear hr0 hr1 hrz hx0
      have CW := Lib.hid (fun wz (hB : Below wA.heap.size wA wz) => works_any wz)
      have CF := Lib.hid (fun wz (hB : Below wA.heap.size wA wz) => fine_yes R _ W wz (HX.out.mono hB) hc)
      by_cases h1 : W.length = 0
      · have hlz1 : (W.length : Int) < 1 := by omega
        clear hlen h1 hc hxf
        have KB0 := Lib.hid (bz wA)
        go_enter Try.func12, Try.ntmps12
        go_upto_region 1 with fail
        try rw [hwA]
        clear hwA
        have r0 := HR0.out _ KB0.out; have r1 := HR1.out _ KB0.out; have rz := HRZ.out _ KB0.out
        go_wp2_with fail
        clear r0 r1 rz
        refine (CF.out _ KB0.out).mono ?_
        rintro e w1 ⟨rfl, hk⟩
        have KB1 := Lib.hid (btr KB0.out hk)
        clear KB0 hk
        have r0 := HR0.out _ KB1.out; have r1 := HR1.out _ KB1.out; have rz := HRZ.out _ KB1.out
        go_wp2_with fail
        clear r0 r1 rz
        refine (CW.out _ KB1.out).mono ?_
        rintro e w2 ⟨rfl, hk⟩
        have KB2 := Lib.hid (btr KB1.out hk)
        clear KB1 hk
        have r0 := HR0.out _ KB2.out; have r1 := HR1.out _ KB2.out; have rz := HRZ.out _ KB2.out
        go_wp2_with fail
        clear r0 r1 rz
        go_ret
        exact ⟨rfl, btr HBA.out KB2.out⟩
      · have hlz1 : ¬ (W.length : Int) < 1 := by omega
        have hlz2 : (16 : Int) ≤ (W.length : Int) := by omega
        clear hlen h1 hc hxf
        have KB0 := Lib.hid (bz wA)
        go_enter Try.func12, Try.ntmps12
        go_upto_region 1 with fail
        try rw [hwA]
        clear hwA
        have r0 := HR0.out _ KB0.out; have r1 := HR1.out _ KB0.out; have rz := HRZ.out _ KB0.out
        go_wp2_with fail
        clear r0 r1 rz
        refine (CF.out _ KB0.out).mono ?_
        rintro e w1 ⟨rfl, hk⟩
        have KB1 := Lib.hid (btr KB0.out hk)
        clear KB0 hk
        have r0 := HR0.out _ KB1.out; have r1 := HR1.out _ KB1.out; have rz := HRZ.out _ KB1.out
        go_wp2_with fail
        clear r0 r1 rz
        refine (CW.out _ KB1.out).mono ?_
        rintro e w2 ⟨rfl, hk⟩
        have KB2 := Lib.hid (btr KB1.out hk)
        clear KB1 hk
        have r0 := HR0.out _ KB2.out; have r1 := HR1.out _ KB2.out; have rz := HRZ.out _ KB2.out
        go_wp2_with fail
        clear r0 r1 rz
        go_ret
        exact ⟨rfl, btr HBA.out KB2.out⟩
  · obtain ⟨wA, hwA⟩ : ∃ wA, w.alloc (.cells #[.int .i64 R, .slice a W.length c] 24) = wA := ⟨_, rfl⟩
    have HBA := Lib.hid (show Below w.heap.size w wA by rw [← hwA]; exact bal (bz w) _)
    have hr0 : wA.cell? ⟨w.heap.size, 0, none⟩ = some (.int .i64 R) := by rw [← hwA]; exact cnew rfl rfl
    have hr1 : wA.cell? ⟨w.heap.size, 1, none⟩ = some (.slice a W.length c) := by rw [← hwA]; exact cnew rfl rfl
    have hrz : w.heap.size < wA.heap.size := by rw [← hwA]; simp
    have HR0 := Lib.hid (fun wz (hB : Below wA.heap.size wA wz) => (hB.cell (p := ⟨w.heap.size, 0, none⟩) hrz).trans hr0)
    have HR1 := Lib.hid (fun wz (hB : Below wA.heap.size wA wz) => (hB.cell (p := ⟨w.heap.size, 1, none⟩) hrz).trans hr1)
    have HRZ := Lib.hid (fun wz (hB : Below wA.heap.size wA wz) => Nat.lt_of_lt_of_le hrz hB.size)
    have HX := Lib.hid (hx0.mono HBA.out)
    clear hr0 hr1 hrz hx0
    have CW := Lib.hid (fun wz (hB : Below wA.heap.size wA wz) => works_any wz)
    have CF := Lib.hid (fun wz (hB : Below wA.heap.size wA wz) => fine_no R _ W wz (HX.out.mono hB) hc)
    clear hc hxf
    have KB0 := Lib.hid (bz wA)
    go_enter Try.func12, Try.ntmps12
    go_upto_region 1 with fail
    try rw [hwA]
    clear hwA
    have r0 := HR0.out _ KB0.out; have r1 := HR1.out _ KB0.out; have rz := HRZ.out _ KB0.out
    go_wp2_with fail
    clear r0 r1 rz
    refine (CF.out _ KB0.out).mono ?_
    rintro e w1 ⟨rfl, hk⟩
    have KB1 := Lib.hid (btr KB0.out hk)
    clear KB0 hk
    have r0 := HR0.out _ KB1.out; have r1 := HR1.out _ KB1.out; have rz := HRZ.out _ KB1.out
    go_wp2_with fail
    clear r0 r1 rz
    refine (CW.out _ KB1.out).mono ?_
    rintro e w2 ⟨rfl, hk⟩
    have KB2 := Lib.hid (btr KB1.out hk)
    clear KB1 hk
    have r0 := HR0.out _ KB2.out; have r1 := HR1.out _ KB2.out; have rz := HRZ.out _ KB2.out
    go_wp2_with fail
    clear r0 r1 rz
    go_ret
    exact ⟨rfl, btr HBA.out KB2.out⟩
section
open Go.ChangeShapes Go.WideShapes Go.ChangeAt
set_option maxRecDepth 100000 in
theorem shelfAgain_lifted (os : Os) (started : os.Started) (H : Type) (enc : TypeId × Value → H) :
    ReturnsInHanded {} Try.checked os 12 .any (Rows.shelfAgainSpec.pre6 enc Try.prog Try.f12 Rows.shelfAgainRow.domain false) (Rows.shelfAgainSpec.post enc Try.prog Try.f12 false true false false) := by
  refine returnsInHanded_of_change (C := Try.checked) Try.own started (by kernel_rfl) Try.func12
    (ChangeSpec.witness6 (enc := enc) (C := Try.checked) false ⟨#[], #[.agg #[.int .i64 0, .slice none 0 0], .int .u8 0, .int .u8 0], []⟩ 8 (by kernel_rfl) (by kernel_rfl) (by kernel_rfl) (by kernel_rfl)) ?_
  intro W base args ds gs before hval0 hW _ _
  have hval : ∀ (j : Nat) t v, Try.f12.params[j]? = some t → args[j]? = some v → Value.okWide Try.prog W .any base t v := hval0
  have hW' := hW
  obtain ⟨p, q, hA0, hV, rfl, hfz, hnd⟩ := hW
  have hA : DataW.TrodAll enc Try.prog W 0 (fun _ => true) true Try.f12.params.toList args.toList ds p := hA0
  have hA2 := hA
  have hlt : ∀ x ∈ p, x.block < W.heap.size := fun x hx => hW'.lt x (List.mem_append_left _ hx)
  rw [Try.params12] at hA hval
  obtain ⟨v0, vs0, d0, ds0, p0, q0, hargs, rfl, rfl, h0, r0⟩ := trodAll_cons hA
  obtain ⟨v1, vs1, d1, ds1, p1, q1, rfl, rfl, rfl, h1, r1⟩ := trodAll_cons r0
  obtain ⟨v2, vs2, d2, ds2, p2, q2, rfl, rfl, rfl, h2, r2⟩ := trodAll_cons r1
  obtain ⟨rfl, rfl, rfl⟩ := trodAll_nil r2
  obtain rfl : args = #[v0, v1, v2] := by cases args; simp_all
  obtain ⟨rfl, rfl⟩ := trodVars_none hV
  obtain ⟨R0, x0, X0, rfl, hx0⟩ := open_day (hval 0 24 v0 rfl rfl) h0 (fun x hx => hlt x (by simp [hx]))
  obtain ⟨a1, rfl, rfl, rfl, w1⟩ := open_int Try.underlying5 (hval 1 5 v1 rfl rfl) h1
  obtain ⟨a2, rfl, rfl, rfl, w2⟩ := open_int Try.underlying5 (hval 2 5 v2 rfl rfl) h2
  clear hA0 hval0
  simp only [List.append_nil] at hW' hA2
  refine (shelfAgain_walk R0 x0 X0 a1 a2 W hx0 (wf8 w1).1 (wf8 w1).2 (wf8 w2).1 (wf8 w2).2).mono fun e W' ⟨he, hb⟩ => ?_
  subst he
  exact ⟨_, rfl, law_post Try.laidOut Try.underlying4 hW' hA2 rfl rfl rfl rfl rfl (by kernel_rfl) hb⟩
theorem shelfAgain_holds : Rows.ShelfAgainSaid :=
  OpenClaim.holds_of_wide 12 Try.f12 rfl rfl rfl rfl rfl rfl rfl ⟨rfl, rfl, rfl, rfl, rfl⟩ rfl rfl rfl rfl rfl (by kernel_rfl) Try.func12 (by kernel_rfl)
    (of_decide_eq_true (by kernel_rfl)) (by unfold Func.isWrapper; first | (rw [if_pos (by decide +kernel)]; kernel_rfl) | (rw [if_neg (by decide +kernel)]; exact ⟨rfl, rfl⟩))
    (fun os started H enc _ => shelfAgain_lifted os started H enc)
end
end Go.Proofs.Ytjajdpggoggoiaa
