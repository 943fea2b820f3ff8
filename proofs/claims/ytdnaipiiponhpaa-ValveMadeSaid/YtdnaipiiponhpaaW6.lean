/- Run: what comes of values; every row of at most 1000 valves. -/
import Derived.Test.YtdnaipiiponhpaaW5
namespace Go.Proofs.Ytdnaipiiponhpaa
open Go.RowKit Go.Shelf

/-- Run's answers. -/
def runE (p : Int) (V : List (Int × Int)) (l : List Int) : Int := if checkR p V ≠ 0 then checkR p V else if (l.length : Int) ≠ p then 15 else 0
def runR (p : Int) (V : List (Int × Int)) (l : List Int) : List Int := if checkR p V ≠ 0 then [] else if (l.length : Int) ≠ p then [] else (runV V (fillK 8 l.length l)).take l.length

theorem fills (g : Nat) (t : TypeId) (l : List Int) : ∀ (m k : Nat) (w : World), k + m = l.length → l.length ≤ 8 → w.heap[g]? = some (.cells (arrI (fillK 8 k l)) t (0, 0)) →
    (w.setCells g k ((l.drop k).map (Value.int .i64))).heap[g]? = some (.cells (arrI (fillK 8 l.length l)) t (0, 0)) := by
  intro m
  induction m with
  | zero =>
    intro k w hk _ h
    obtain rfl : k = l.length := by omega
    rw [List.drop_length]; exact h
  | succ m ih =>
    intro k w hk h8 h
    have hkl : k < l.length := by omega
    rw [List.drop_eq_getElem_cons hkl, List.map_cons]
    refine ih (k + 1) _ (by omega) h8 ?_
    have hnew := heap_setCell_same w g k _ _ (.int .i64 (l[k]?.getD 0)) h
    rw [arrI_set, fill8_set _ _ (by omega), List.getElem?_eq_getElem hkl] at hnew
    exact hnew
theorem bsets' {a : World} {g : Nat} (hg : a.heap.size ≤ g) (vs : List Value) : ∀ (o : Nat) (w : World), Below a.heap.size a w → Below a.heap.size a (w.setCells g o vs) := by
  induction vs with
  | nil => intro o w h; exact h
  | cons v vs ih => intro o w h; exact ih (o + 1) _ (bset h hg _)

theorem below_row {a W : World} (h : Below a.heap.size a W) {g : Nat} (cs : Array Value) (hg : a.heap.size ≤ g) : Below a.heap.size a (W.setRow g cs) :=
  ⟨h.os, h.tape, h.output, by have := h.size; simpa using this, fun j hj => by rw [setRow_other _ _ _ _ (by omega)]; exact h.block j hj⟩
theorem RdI.row {w : World} {g : Nat} {t : TypeId} {r : List Int} (n cap : Nat) (h : w.heap[g]? = some (.cells (arrI r) t (0, 0))) (hn : n ≤ r.length) (hc : n ≤ cap) (hm : cap ≤ maxLen) : RdI w .i64 (.slice (some ⟨g, 0, none⟩) n cap) (r.take n) := by
  have hl : (r.take n).length = n := by rw [List.length_take]; omega
  refine ⟨some ⟨g, 0, none⟩, cap, by rw [hl], by omega, hm, fun _ => ⟨g, 0, rfl, (Array.getElem?_eq_some_iff.1 h).1, fun j u hu => ?_⟩⟩
  rw [Nat.zero_add, cell_of_row w g j _ _ _ h]
  have hj : j < n := by
    have := (List.getElem?_eq_some_iff.1 hu).1
    rw [List.length_map, hl] at this
    exact this
  rw [List.getElem?_map, List.getElem?_take, if_pos hj] at hu
  unfold arrI
  rw [List.getElem?_toArray, List.getElem?_map]
  exact hu

set_option maxRecDepth 100000 in
set_option maxHeartbeats 1000000 in
theorem vrun_any (p : Int) (x y : Value) (V : List (Int × Int)) (q : List Int) (w : World) (hx0 : RdP w x V) (hy0 : RdI w .i64 y q) (hl : V.length ≤ 1000) (hq : q.length ≤ 1000) :
    Calls Try.prog 18 #[.agg #[.int .i64 p, x], y] w fun e w' => ∃ v, e = .returned (.tuple #[v, .int .i64 (runE p V q)]) ∧ RdI w' .i64 v (runR p V q) ∧ Below w.heap.size w w' := by
  obtain ⟨a, ca, rfl, _, _, _⟩ := hx0.form
  obtain ⟨b, cb, rfl, _, _, hyf⟩ := hy0.form
  unfold runE runR
  by_cases h : checkR p V = 0
  · have hc0 : ¬ (checkR p V ≠ 0) := by simpa using h
    simp only [if_neg hc0]
    clear hc0
    obtain ⟨n, rfl, hV⟩ := cond_row h
    clear h
    have hp1 := hV.p1; have hp8 := hV.p8; have h40 := hV.len
    have H0 := Lib.hid (open_ok n _ V _ (hx0.mono (bal (bz w) (.cells #[.int .i64 n, .slice a V.length ca] 24))) hV)
    by_cases hlen : (q.length : Int) = n
    · obtain rfl : n = q.length := by omega
      clear hlen
      simp only [ne_eq, not_true_eq_false, if_false]
      obtain ⟨ad, rfl, hsp, hbd, hnews⟩ := RdC.news hy0 (by intro e; simp at e; subst e; simp at hp1)
      have HY := Lib.hid hnews; have HYF := Lib.hid hy0
      clear hyf hnews hy0
      go_enter Try.func18, Try.ntmps18
      go_wp2_with fail
      refine H0.out.mono ?_
      rintro e w2 ⟨bb, rfl, hb0, hb, hB2⟩
      have hB3 : Below w.heap.size w w2 := btr (bal (bz _) _) hB2
      have hz3 := hB3.size
      have hx3 := hx0.mono hB3
      obtain ⟨q0, q1, q2⟩ := id hb
      have hN : ∀ j, j < q.length → ((w2.alloc (.cells (arrI (fillK 8 0 q)) 75)).cell? ⟨w2.heap.size, 0 + j, none⟩).isSome = true := by
        intro j hj
        rw [Nat.zero_add, cnew rfl (arrI_get _ _ (by rw [fillK_length]; omega))]; rfl
      have hF : ∀ j, j < q.length → (w2.alloc (.cells (arrI (fillK 8 0 q)) 75)).frozen? ⟨w2.heap.size, 0 + j, none⟩ = false := fun j _ => fnew rfl
      have hcp : ∀ t, (Builtin.copy_ #[25, 25] t #[.slice (some ⟨w2.heap.size, 0, none⟩) 8 8, .slice (some ad) q.length cb]).run Try.prog (w2.alloc (.cells (arrI (fillK 8 0 q)) 75)) =
          .ok (goInt (q.map (Value.int .i64)).length) ((w2.alloc (.cells (arrI (fillK 8 0 q)) 75)).setCells w2.heap.size 0 (q.map (Value.int .i64))) := by
        intro t
        refine run_copy_cells _ 25 25 t 2 w2.heap.size 0 8 8 ad q.length cb _ Try.underlying25 (by kernel_rfl) (by rw [List.length_map]; exact (Nat.min_eq_left (by omega)).symm) (fun j v hv => ?_) (fun j hj => hN j (by simpa using hj)) (fun j hj => hF j (by simpa using hj)) (by simp [Value.oneCell'])
        have h1 := (hB3.cell (p := ad.add j) (by unfold Addr.add; split <;> exact hbd)).trans (HY.out j v hv)
        refine (World.cell?_of_block (Below.heap_alloc _ _ _ (World.block_lt_of_cell? _ _ h1))).trans h1
      have hrow := fills w2.heap.size 75 q q.length 0 (w2.alloc (.cells (arrI (fillK 8 0 q)) 75)) (by omega) (by omega) (heap_alloc_new _ _)
      rw [List.drop_zero] at hrow
      have hBC : Below w2.heap.size w2 ((w2.alloc (.cells (arrI (fillK 8 0 q)) 75)).setCells w2.heap.size 0 (q.map (Value.int .i64))) := bsets' (Nat.le_refl _) _ _ _ (bal (bz _) _)
      rw [show arrI (fillK 8 0 q) = #[.int .i64 0, .int .i64 0, .int .i64 0, .int .i64 0, .int .i64 0, .int .i64 0, .int .i64 0, .int .i64 0] by rw [fillK_zero]; rfl] at hcp hrow hBC
      generalize hwc : (w2.alloc (.cells #[.int .i64 0, .int .i64 0, .int .i64 0, .int .i64 0, .int .i64 0, .int .i64 0, .int .i64 0, .int .i64 0] 75)).setCells w2.heap.size 0 (q.map (Value.int .i64)) = wc at *
      have HROW := Lib.hid hrow; have HWC := Lib.hid hwc
      clear hN hF hrow hwc
      have hbc := hb.mono hBC
      have hxc := hx3.mono hBC
      have hB5 : Below w.heap.size w wc := btr hB3 hBC
      go_wp2
      clear hcp
      have HLL := Lib.hid (fillK_length 8 q.length q)
      have HRUN := Lib.hid (show (runV V (fillK 8 q.length q)).length = 8 by rw [runV_length]; exact HLL.out)
      have hC : ∀ l' : Later wc, Calls Try.prog 58 #[.pointer (some ⟨bb, 0, none⟩), .agg (arrI (fillK 8 q.length q)), .int .i64 (V.length : Int)] l'.val fun e w'' => e = .returned (.agg (arrI (runV V (fillK 8 q.length q)))) ∧ ∃ x : Later wc, w'' = x.val := by
        intro l'
        have := run_any bb q.length _ V (fillK 8 q.length q) V.length l'.val (hbc.mono l'.le) (hxc.mono l'.le) (Nat.le_refl _) hV HLL.out
        rw [List.take_length] at this
        exact Calls.later this
      have HC := Lib.hid hC; clear hC
      clear q0 q1 q2
      obtain ⟨q0, q1, q2⟩ := id hbc
      have hL := @Later.cell wc
      have hgl := (Array.getElem?_eq_some_iff.1 HROW.out).1
      generalize hfq : fillK 8 q.length q = fq at *
      generalize hrq : runV V fq = rq at *
      have HFQ := Lib.hid hfq; have HRQ := Lib.hid hrq
      clear hfq hrq
      refine wp_region_tail 9 (by kernel_rfl) (by kernel_rfl) ?_
      simp only [List.take_succ_cons, List.take_zero]
      repeat (first
        | (refine wpQuiet_load_row rfl 75 (.tmp 8) rfl w2.heap.size rfl 75 (arrI fq) (0, 0) _ HROW.out Try.underlying75 rfl (arr8 _ HLL.out) ?_)
        | (quiet_step ((go_at_call 58; exact HC.out _))))
      refine wpQuiet_nil ?_
      intro w6 hw6
      have hL6 : Below wc.heap.size wc w6 := by obtain ⟨⟨_, h⟩, rfl⟩ := hw6; exact h
      clear hw6 hL
      have hr6 := (hL6.block w2.heap.size hgl).trans HROW.out
      have HR6 := Lib.hid hr6; clear hr6
      simp only [List.drop_succ_cons, List.drop_zero]
      refine wpList_store_row rfl 75 (.tmp 8) (.tmp 38) rfl w2.heap.size (arrI rq) rfl rfl 75 _ HR6.out (arr8 _ HRUN.out) (by rw [arrI_size, arrI_size, HLL.out, HRUN.out]) (one_arr _) ?_
      have hw7 := below_row (btr hBC hL6) (arrI rq) (Nat.le_refl w2.heap.size)
      have hr7 := setRow_heap w6 w2.heap.size _ (arrI rq) _ _ HR6.out
      generalize w6.setRow w2.heap.size (arrI rq) = w7 at *
      have hb7 := hb.mono hw7
      obtain ⟨t0, t1, t2⟩ := hb7
      have hB7 : Below w.heap.size w w7 := btr hB3 hw7
      have HRD := Lib.hid (RdI.row q.length 8 hr7 (by rw [HRUN.out]; omega) (by omega) (by unfold maxLen; omega))
      clear hr7
      have hq8 : (q.length : Int) ≤ 8 := by omega
      go_wp2_with fail
      have hlt : (rq.take q.length).length = q.length := by rw [List.length_take, HRUN.out]; omega
      refine (cloneI_any _ _ w7 HRD.out (by omega) (by omega)).mono ?_
      rintro e w8 ⟨v, rfl, hown, hB8⟩
      go_wp2
      go_ret2
      rw [hlt] at hown
      refine ⟨v, rfl, ?_, btr hB7 hB8⟩
      rw [HFQ.out, HRQ.out]
      exact RdI.of_owns hown
    · have hc0 : (q.length : Int) ≠ n := by simpa using hlen
      simp only [if_pos hc0]
      clear hc0
      go_enter Try.func18, Try.ntmps18
      go_wp2_with fail
      refine H0.out.mono ?_
      rintro e w2 ⟨bb, rfl, hb0, hb, hB2⟩
      obtain ⟨q0, q1, q2⟩ := hb
      have hne : ((q.length : Int) != (n : Int)) = true := by simpa using hlen
      go_wp2
      go_ret2
      exact ⟨_, rfl, rdI_nil _ _, btr (bal (bz _) _) hB2⟩
  · simp only [if_pos (show checkR p V ≠ 0 from h)]
    have H0 := Lib.hid (open_no p _ V _ (hx0.mono (bal (bz w) (.cells #[.int .i64 p, .slice a V.length ca] 24))) hl h)
    generalize checkR p V = c at *
    have e0 : (c != 0) = true := by simpa using h
    clear h
    go_enter Try.func18, Try.ntmps18
    go_wp2_with fail
    refine H0.out.mono ?_
    rintro e w2 ⟨rfl, hB2⟩
    go_wp2
    go_ret2
    exact ⟨_, rfl, rdI_nil _ _, btr (bal (bz _) _) hB2⟩
end Go.Proofs.Ytdnaipiiponhpaa
