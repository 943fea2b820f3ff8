/- ValveCut holds; no condition. -/
import Derived.Test.YtdnaipiiponhpaaH2
import Derived.Test.YtdnaipiiponhpaaP7
namespace Go.Proofs.Ytdnaipiiponhpaa
open Go.RowKit Go.Shelf

theorem needless_nil (n : Nat) (x : Value) (V : List (Int × Int)) (w : World) (hx : RdP w x V) (h : checkR n V = 0) (h0 : rneedL n V V.length = []) :
    Calls Try.prog 32 #[.agg #[.int .i64 n, x]] w fun e w' => ∃ v, e = .returned (.tuple #[v, .int .i64 0]) ∧ RdI w' .i64 v [] ∧ Below w.heap.size w w' := by
  have := needless_ok n x V w hx h
  rwa [h0] at this
theorem pair_eq (w : World) (a b c d : Int) : (binOp .eql 59 (.agg #[.int .i64 a, .int .i64 b]) (.agg #[.int .i64 c, .int .i64 d])).run Try.prog w = .ok (.bool (decide ((a, b) = (c, d)))) w := by
  obtain ⟨i3, hi3, _⟩ := info_parts Try.info3'
  rw [run_eql_struct]
  have := run_eq_arr (P := Try.prog) w 9998 59 3 2 .i64 i3 Try.underlying59 hi3 (by kernel_rfl) Try.underlying3 [a, b] [c, d] rfl rfl
  simp only [List.map_cons, List.map_nil] at this
  rw [this]
  simp
theorem check_cut {n : Nat} {V : List (Int × Int)} (h : checkR n V = 0) : checkR n (rcutK n V V.length) = 0 := by
  have hk := okn h
  refine check_of_ok ⟨by omega, by omega, by have := rcutK_le n V V.length; omega, ?_⟩
  have := cut_ok hk.2.2.2
  exact this
/-- A number is among the first j ones. -/
def inB (D : List Int) (k : Int) (j : Nat) : Bool := (List.range j).any fun i => decide (D[i]?.getD 0 = k)
theorem inB_succ (D : List Int) (k : Int) (j : Nat) : inB D k (j + 1) = (inB D k j || decide (D[j]?.getD 0 = k)) := by simp [inB, List.range_succ]
theorem inB_need {n : Nat} {V : List (Int × Int)} (h : OkV n V) (k : Nat) (hk : k + 1 < V.length) (he : V[k + 1]?.getD (0, 0) = V[k]?.getD (0, 0)) : inB (rneedL n V V.length) ((k + 1 : Nat) : Int) (rneedL n V V.length).length = true := by
  have hm : ((k + 1 : Nat) : Int) ∈ rneedL n V V.length := by
    unfold rneedL
    exact List.mem_map.2 ⟨k + 1, List.mem_filter.2 ⟨List.mem_range.2 hk, need_twice h k hk he⟩, rfl⟩
  obtain ⟨i, hi, hg⟩ := List.getElem_of_mem hm
  unfold inB
  rw [List.any_eq_true]
  exact ⟨i, List.mem_range.2 hi, by rw [List.getElem?_eq_getElem hi]; simpa using hg⟩

set_option maxRecDepth 100000 in
set_option maxHeartbeats 8000000 in
theorem cut_walk (p : Int) (x y : Value) (V : List (Int × Int)) (q : List Int) (w : World) (hx : RdP w x V) (hy : RdI w .i16 y q) (hw : ∀ v ∈ q, -32768 ≤ v ∧ v ≤ 32767) :
    Calls Try.prog 10 #[.agg #[.int .i64 p, x], y] w fun e w' => e = .returned (.bool true) ∧ Below w.heap.size w w' := by
  obtain ⟨a, c, rfl⟩ := hx.ex _ rfl
  obtain ⟨b, d, rfl⟩ := hy.ex _ rfl
  have HW := Lib.hid hw; clear hw
  by_cases hF : checkR p V ≠ 0
  ·
    have KP0 := Lib.hid (((keepB (bz w)).and (keepP hx)).and (keepI hy))
    clear hx hy
    go_enter Try.func10, Try.ntmps10
    go_wp2_with fail
    have KP1 := Lib.hid (((KP0.out.up (bal (bz w) _)).and (keepC (w := (w.alloc (.cells #[.int .i64 p, .slice a V.length c] 24))) (p := ⟨w.heap.size, 0, none⟩) (v := .int .i64 p) (cnew (by simp) rfl))).and (keepC (w := (w.alloc (.cells #[.int .i64 p, .slice a V.length c] 24))) (p := ⟨w.heap.size, 1, none⟩) (v := .slice a V.length c) (cnew (by simp) rfl)))
    clear KP0
    have hall := KP1.out.here
    have gr := hall.2.2.2.1
    clear hall
    refine (fine_no p _ V _ gr hF).mono ?_
    rintro e w1 ⟨rfl, hB⟩
    have KP2 := Lib.hid (KP1.out.up (btr (bz ((w.alloc (.cells #[.int .i64 p, .slice a V.length c] 24)))) hB))
    clear KP1
    clear hB
    clear gr
    have hall := KP2.out.here
    have hR1 := hall.1
    have hR0 := hall.2.1
    clear hall
    have zR := World.block_lt_of_cell? _ _ hR0
    simp only at zR
    go_wp2_with fail
    clear hR1 hR0 zR
    refine (works_any _).mono ?_
    rintro e w2 ⟨rfl, hB⟩
    have KP3 := Lib.hid (KP2.out.up (btr (bz w1) hB))
    clear KP2
    clear hB
    have hall := KP3.out.here
    have gBelow := hall.2.2.2.2
    clear hall
    go_wp2
    go_ret
    exact ⟨rfl, gBelow⟩
  have hF := Classical.not_not.1 hF
  by_cases hq : 20 < q.length
  ·
    have hq2 : (20 : Int) < (q.length : Int) := by omega
    have KP0 := Lib.hid (((keepB (bz w)).and (keepP hx)).and (keepI hy))
    clear hx hy
    go_enter Try.func10, Try.ntmps10
    go_wp2_with fail
    have KP1 := Lib.hid (((KP0.out.up (bal (bz w) _)).and (keepC (w := (w.alloc (.cells #[.int .i64 p, .slice a V.length c] 24))) (p := ⟨w.heap.size, 0, none⟩) (v := .int .i64 p) (cnew (by simp) rfl))).and (keepC (w := (w.alloc (.cells #[.int .i64 p, .slice a V.length c] 24))) (p := ⟨w.heap.size, 1, none⟩) (v := .slice a V.length c) (cnew (by simp) rfl)))
    clear KP0
    have hall := KP1.out.here
    have gr := hall.2.2.2.1
    clear hall
    refine (fine_yes p _ V _ gr hF).mono ?_
    rintro e w1 ⟨rfl, hB⟩
    have KP2 := Lib.hid (KP1.out.up (btr (bz ((w.alloc (.cells #[.int .i64 p, .slice a V.length c] 24)))) hB))
    clear KP1
    clear hB
    clear gr
    have hall := KP2.out.here
    have hR1 := hall.1
    have hR0 := hall.2.1
    clear hall
    have zR := World.block_lt_of_cell? _ _ hR0
    simp only at zR
    go_wp2_with fail
    clear hR1 hR0 zR
    refine (works_any _).mono ?_
    rintro e w2 ⟨rfl, hB⟩
    have KP3 := Lib.hid (KP2.out.up (btr (bz w1) hB))
    clear KP2
    clear hB
    have hall := KP3.out.here
    have gBelow := hall.2.2.2.2
    clear hall
    go_wp2
    go_ret
    exact ⟨rfl, gBelow⟩
  have hq2 : ¬ ((20 : Int) < (q.length : Int)) := by omega
  obtain ⟨n, rfl⟩ : ∃ n : Nat, p = n := ⟨p.toNat, by have := (okRow_of hF).p1; omega⟩
  obtain ⟨h8, h1, h40, hok⟩ := okn hF
  have HF := Lib.hid hF; have HO := Lib.hid hok; have HV := Lib.hid (okRow_of hF)
  clear hF hok
  have hcc := check_cut HF.out
  have hcn := cut_count n V V.length
  have hnil := cut_needL HO.out
  have HTW := Lib.hid (inB_need HO.out)
  have hck := run_cutK HO.out (filL q n) (filL_len q n) V.length (Nat.le_refl _)
  rw [List.take_length] at hck
  have HSAME := Lib.hid hck
  have hfl := filL_len q n
  have hlr : (runV V (filL q n)).length = n := by rw [runV_length]; exact hfl
  have hlc : (runV (rcutK n V V.length) (filL q n)).length = n := by rw [runV_length]; exact hfl
  have HCC := Lib.hid hcc; have HN := Lib.hid hnil; have HOC := Lib.hid (okRow_of hcc)
  clear hcc hnil hck
  have hcut := @cut_ok1 n
  have hnd := @needless_ok n
  obtain ⟨C, hC⟩ : ∃ C, C = rcutK n V V.length := ⟨_, rfl⟩
  obtain ⟨D, hD⟩ : ∃ D, D = rneedL n V V.length := ⟨_, rfl⟩
  have hcut := fun x w hx => cut_ok1 n x V w hx HF.out
  have hnd := fun x w hx => needless_ok n x V w hx HF.out
  rw [← hC] at hcn HSAME hlc HCC HN HOC hcut
  rw [← hD] at hcn HTW hnd
  have HCUT := Lib.hid hcut; have HND := Lib.hid hnd
  have hcn' : ((C.length : Int) + (D.length : Int)) = (V.length : Int) := by omega
  clear hC hD hcut hnd
  have KP0 := Lib.hid (((keepB (bz w)).and (keepP hx)).and (keepI hy))
  clear hx hy
  go_enter Try.func10, Try.ntmps10
  go_wp2_with fail
  have KP1 := Lib.hid (((KP0.out.up (bal (bz w) _)).and (keepC (w := (w.alloc (.cells #[.int .i64 n, .slice a V.length c] 24))) (p := ⟨w.heap.size, 0, none⟩) (v := .int .i64 n) (cnew (by simp) rfl))).and (keepC (w := (w.alloc (.cells #[.int .i64 n, .slice a V.length c] 24))) (p := ⟨w.heap.size, 1, none⟩) (v := .slice a V.length c) (cnew (by simp) rfl)))
  clear KP0
  have hall := KP1.out.here
  have gr := hall.2.2.2.1
  clear hall
  refine (fine_yes n _ V _ gr HF.out).mono ?_
  rintro e w1 ⟨rfl, hB⟩
  have KP2 := Lib.hid (KP1.out.up (btr (bz ((w.alloc (.cells #[.int .i64 n, .slice a V.length c] 24)))) hB))
  clear KP1
  clear hB
  clear gr
  have hall := KP2.out.here
  have hR1 := hall.1
  have hR0 := hall.2.1
  clear hall
  have zR := World.block_lt_of_cell? _ _ hR0
  simp only at zR
  go_wp2_with fail
  clear hR1 hR0 zR
  have hall := KP2.out.here
  have gr := hall.2.2.2.1
  clear hall
  refine (HCUT.out _ _ gr).mono ?_
  rintro e w2 ⟨v, rfl, hRC, hB⟩
  obtain ⟨aC, cC, hv⟩ := hRC.ex (C.length) rfl
  subst hv
  have KP3 := Lib.hid ((KP2.out.up (btr (bz w1) hB)).and (keepP hRC))
  clear KP2
  clear hRC hB
  clear gr
  have hall := KP3.out.here
  have hR1 := hall.2.1
  have hR0 := hall.2.2.1
  clear hall
  have zR := World.block_lt_of_cell? _ _ hR0
  simp only at zR
  go_wp2_with fail
  clear hR1 hR0 zR
  have KP4 := Lib.hid (((KP3.out.up (bal (bz w2) _)).and (keepC (w := (w2.alloc (.cells #[.int .i64 n, .slice aC C.length cC] 24))) (p := ⟨w2.heap.size, 0, none⟩) (v := .int .i64 n) (cnew (by simp) rfl))).and (keepC (w := (w2.alloc (.cells #[.int .i64 n, .slice aC C.length cC] 24))) (p := ⟨w2.heap.size, 1, none⟩) (v := .slice aC C.length cC) (cnew (by simp) rfl)))
  clear KP3
  have hall := KP4.out.here
  have gr := hall.2.2.2.2.2.2.1
  clear hall
  refine (HND.out _ _ gr).mono ?_
  rintro e w3 ⟨v, rfl, hRD, hB⟩
  obtain ⟨aD, cD, hv⟩ := hRD.ex (D.length) rfl
  subst hv
  have KP5 := Lib.hid ((KP4.out.up (btr (bz ((w2.alloc (.cells #[.int .i64 n, .slice aC C.length cC] 24)))) hB)).and (keepI hRD))
  clear KP4
  clear hRD hB
  clear gr
  have hall := KP5.out.here
  have hC1 := hall.2.1
  have hC0 := hall.2.2.1
  have hR1 := hall.2.2.2.2.1
  have hR0 := hall.2.2.2.2.2.1
  clear hall
  have zR := World.block_lt_of_cell? _ _ hR0
  have zC := World.block_lt_of_cell? _ _ hC0
  simp only at zR zC
  go_wp2_with fail
  clear hC1 hC0 hR1 hR0 zR zC
  have hall := KP5.out.here
  have gC := hall.2.2.2.1
  clear hall
  refine (rcheck_zero n _ C _ gC HCC.out).mono ?_
  rintro e w4 ⟨rfl, hB⟩
  have KP6 := Lib.hid (KP5.out.up (btr (bz w3) hB))
  clear KP5
  clear hB
  clear gC
  have hall := KP6.out.here
  have hC1 := hall.2.1
  have hC0 := hall.2.2.1
  have hR1 := hall.2.2.2.2.1
  have hR0 := hall.2.2.2.2.2.1
  clear hall
  have zR := World.block_lt_of_cell? _ _ hR0
  have zC := World.block_lt_of_cell? _ _ hC0
  simp only at zR zC
  go_wp2_with fail
  clear hC1 hC0 hR1 hR0 zR zC
  have hall := KP6.out.here
  have gC := hall.2.2.2.1
  clear hall
  refine (needless_nil n _ C _ gC HCC.out HN.out).mono ?_
  rintro e w5 ⟨v, rfl, hRE, hB⟩
  obtain ⟨aE, cE, hv⟩ := hRE.ex (0) rfl
  subst hv
  have KP7 := Lib.hid ((KP6.out.up (btr (bz w4) hB)).and (keepI hRE))
  clear KP6
  clear hRE hB
  clear gC
  have hall := KP7.out.here
  have hC1 := hall.2.2.1
  have hC0 := hall.2.2.2.1
  have hR1 := hall.2.2.2.2.2.1
  have hR0 := hall.2.2.2.2.2.2.1
  clear hall
  have zR := World.block_lt_of_cell? _ _ hR0
  have zC := World.block_lt_of_cell? _ _ hC0
  simp only at zR zC
  go_wp2_with fail
  clear hC1 hC0 hR1 hR0 zR zC
  have hall := KP7.out.here
  have gy := hall.2.2.2.2.2.2.2.1
  clear hall
  refine (filled_any n _ q _ gy HW.out h8 (by omega)).mono ?_
  rintro e w6 ⟨v, rfl, hRF, hB⟩
  obtain ⟨aF, cF, hv⟩ := hRF.ex n hfl
  subst hv
  have KP8 := Lib.hid ((KP7.out.up (btr (bz w5) hB)).and (keepI hRF))
  clear KP7
  clear hRF hB
  clear gy
  have hall := KP8.out.here
  have hC1 := hall.2.2.2.1
  have hC0 := hall.2.2.2.2.1
  have hR1 := hall.2.2.2.2.2.2.1
  have hR0 := hall.2.2.2.2.2.2.2.1
  clear hall
  have zR := World.block_lt_of_cell? _ _ hR0
  have zC := World.block_lt_of_cell? _ _ hC0
  simp only at zR zC
  go_wp2_with fail
  clear hC1 hC0 hR1 hR0 zR zC
  have hall := KP8.out.here
  have gF := hall.1
  have gr := hall.2.2.2.2.2.2.2.2.2.1
  clear hall
  refine (ran_ok n _ _ V (filL q n) _ gr gF HV.out hfl).mono ?_
  rintro e w7 ⟨v, rfl, hRX, hB⟩
  obtain ⟨aX, cX, hv⟩ := hRX.ex n hlr
  subst hv
  have KP9 := Lib.hid ((KP8.out.up (btr (bz w6) hB)).and (keepI hRX))
  clear KP8
  clear hRX hB
  clear gF gr
  have hall := KP9.out.here
  have hC1 := hall.2.2.2.2.1
  have hC0 := hall.2.2.2.2.2.1
  have hR1 := hall.2.2.2.2.2.2.2.1
  have hR0 := hall.2.2.2.2.2.2.2.2.1
  clear hall
  have zR := World.block_lt_of_cell? _ _ hR0
  have zC := World.block_lt_of_cell? _ _ hC0
  simp only at zR zC
  go_wp2_with fail
  clear hC1 hC0 hR1 hR0 zR zC
  have hall := KP9.out.here
  have gF := hall.2.1
  have gC := hall.2.2.2.2.2.2.1
  clear hall
  refine (ran_ok n _ _ C (filL q n) _ gC gF HOC.out hfl).mono ?_
  rintro e w8 ⟨v, rfl, hRY, hB⟩
  obtain ⟨aY, cY, hv⟩ := hRY.ex n hlc
  subst hv
  have KP10 := Lib.hid ((KP9.out.up (btr (bz w7) hB)).and (keepI hRY))
  clear KP9
  clear hRY hB
  clear gF gC
  have hall := KP10.out.here
  have hC1 := hall.2.2.2.2.2.1
  have hC0 := hall.2.2.2.2.2.2.1
  have hR1 := hall.2.2.2.2.2.2.2.2.1
  have hR0 := hall.2.2.2.2.2.2.2.2.2.1
  clear hall
  have zR := World.block_lt_of_cell? _ _ hR0
  have zC := World.block_lt_of_cell? _ _ hC0
  simp only at zR zC
  go_wp2_with fail
  clear hC1 hC0 hR1 hR0 zR zC
  have hall := KP10.out.here
  have gY := hall.1
  have gX := hall.2.1
  clear hall
  refine (longs_eq _ _ (runV V (filL q n)) _ gX (by rw [← HSAME.out]; exact gY) (by omega)).mono ?_
  rintro e w9 ⟨rfl, hB⟩
  have KP11 := Lib.hid (KP10.out.up (btr (bz w8) hB))
  clear KP10
  clear hB
  clear gY gX
  have hall := KP11.out.here
  have hC1 := hall.2.2.2.2.2.1
  have hC0 := hall.2.2.2.2.2.2.1
  have hR1 := hall.2.2.2.2.2.2.2.2.1
  have hR0 := hall.2.2.2.2.2.2.2.2.2.1
  clear hall
  have zR := World.block_lt_of_cell? _ _ hR0
  have zC := World.block_lt_of_cell? _ _ hC0
  simp only at zR zC
  go_wp2
  clear hC1 hC0 hR1 hR0 zR zC
  have hall := KP11.out.here
  have gD := hall.2.2.2.2.1
  have gR1 := hall.2.2.2.2.2.2.2.2.1
  have gR0 := hall.2.2.2.2.2.2.2.2.2.1
  have gr := hall.2.2.2.2.2.2.2.2.2.2.2.1
  have gBelow := hall.2.2.2.2.2.2.2.2.2.2.2.2
  clear hall
  obtain ⟨al, cl, hel, hcl, hml, hxl⟩ := gD.form
  simp only [Value.slice.injEq, true_and] at hel
  obtain ⟨rfl, rfl⟩ := hel
  obtain ⟨ar, cr, her, hcr, hmr, hxr⟩ := gr.form
  simp only [Value.slice.injEq, true_and] at her
  obtain ⟨rfl, rfl⟩ := her
  clear hcl hml hcr hmr
  have zR := World.block_lt_of_cell? _ _ gR0
  simp only at zR
  have HXD := Lib.hid hxl; have HXV := Lib.hid hxr
  have GR1 := Lib.hid gR1
  clear hxl hxr gD gr gR0 gR1
  go_loopw [16, 17, 18, 110, 111, 112, 113, 114, 115, 116, 117, 118, 119, 120, 121, 122, 123, 124, 125, 126, 127, 128, 129, 130, 131, 132, 133, 134, 135, 136, 137, 138, 139, 140, 141, 142, 143, 144, 145, 146, 147] (fun i _ _ _ _ _ _ _ _ _ _ _ _ _ _ _ _ _ _ _ _ _ _ _ _ _ _ _ _ _ _ _ _ _ _ _ _ _ _ _ _ wr => ∃ k : Nat, 1 ≤ k ∧ i = .int .i64 k ∧ Below w9.heap.size w9 wr) (fun i _ _ _ _ _ _ _ _ _ _ _ _ _ _ _ _ _ _ _ _ _ _ _ _ _ _ _ _ _ _ _ _ _ _ _ _ _ _ _ _ _ => V.length - (intOf i).toNat)
  case atStart => exact ⟨1, Nat.le_refl _, rfl, bz _⟩
  case round =>
    obtain ⟨k, hk, rfl, hB⟩ := hrel
    have gR1 : wr.cell? ⟨w.heap.size, 1, none⟩ = some (.slice a V.length c) := (hB.cell (p := ⟨w.heap.size, 1, none⟩) zR).trans GR1.out
    have zR2 := Nat.lt_of_lt_of_le zR hB.size
    have HB := Lib.hid hB; clear hB
    by_cases hkV : k < V.length
    · have hkV2 : (k : Int) < (V.length : Int) := by omega
      obtain ⟨wo, rfl⟩ : ∃ wo : World, wo = wr := ⟨_, rfl⟩
      go_wp2
      go_loopw [17, 18, 117, 118, 119, 120, 121, 122, 123, 124, 125, 126, 127, 128, 129, 130, 131] (fun b j _ _ _ _ _ _ _ _ _ _ _ _ _ _ _ wr => ∃ t : Nat, t ≤ D.length ∧ j = .int .i64 t ∧ b = .bool (inB D k t) ∧ Below wo.heap.size wo wr) (fun b j _ _ _ _ _ _ _ _ _ _ _ _ _ _ _ _ => D.length - (intOf j).toNat)
      case atStart => exact ⟨0, Nat.zero_le _, rfl, by simp [inB], bz _⟩
      case round =>
        obtain ⟨j, hj, rfl, rfl, hB2⟩ := hrel
        have gR1b : wr.cell? ⟨w.heap.size, 1, none⟩ = some (.slice a V.length c) := (hB2.cell (p := ⟨w.heap.size, 1, none⟩) zR2).trans gR1
        have zR3 := Nat.lt_of_lt_of_le zR2 hB2.size
        have HST := Lib.hid (inB_succ D k j)
        have HB2 := Lib.hid hB2; clear hB2 gR1 zR2
        by_cases hjD : j < D.length
        · have hjD2 : (j : Int) < (D.length : Int) := by omega
          obtain ⟨bd, od, rfl, hbd, hcd⟩ := HXD.out (by omega)
          have gd := (btr HB.out HB2.out).cell (p := ⟨bd, od + j, none⟩) hbd |>.trans (hcd j hjD)
          clear hcd
          generalize D[j]?.getD 0 = u at *
          generalize inB D k j = bb at *
          cases bb
          · by_cases hu : u = (k : Int)
            · have hub : (u == (k : Int)) = true := by simpa using hu
              rw [decide_eq_true hu] at HST
              go_wp2
              exact ⟨⟨j + 1, by omega, by go_num, by rw [HST.out]; rfl, HB2.out⟩, by simp [intOf]; omega⟩
            · have hub : (u == (k : Int)) = false := by simpa using hu
              rw [decide_eq_false hu] at HST
              go_wp2
              exact ⟨⟨j + 1, by omega, by go_num, by rw [HST.out]; rfl, HB2.out⟩, by simp [intOf]; omega⟩
          · go_wp2
            exact ⟨⟨j + 1, by omega, by go_num, by rw [HST.out]; rfl, HB2.out⟩, by simp [intOf]; omega⟩
        · obtain rfl : j = D.length := by omega
          have HB3 := Lib.hid (btr HB.out HB2.out)
          clear HB2
          obtain ⟨bx, ox, rfl, hbx, hcx⟩ := HXV.out (by omega)
          have gx := (HB3.out.cell (p := ⟨bx, ox + k * 2, none⟩) hbx).trans (hcx k hkV).1
          have gx2 := (HB3.out.cell (p := ⟨bx, ox + k * 2 + 1, none⟩) hbx).trans (hcx k hkV).2
          obtain ⟨k', rfl⟩ : ∃ k', k = k' + 1 := ⟨k - 1, by omega⟩
          have gy := (HB3.out.cell (p := ⟨bx, ox + k' * 2, none⟩) hbx).trans (hcx k' (by omega)).1
          have gy2 := (HB3.out.cell (p := ⟨bx, ox + k' * 2 + 1, none⟩) hbx).trans (hcx k' (by omega)).2
          have zx : bx < wr.heap.size := Nat.lt_of_lt_of_le hbx HB3.out.size
          clear hcx
          have hs1 : ((k' + 1 : Nat) : Int) - 1 = (k' : Int) := by omega
          have hTW := HTW.out k' hkV
          have heq := fun w' => pair_eq w' (V[k' + 1]?.getD (0, 0)).1 (V[k' + 1]?.getD (0, 0)).2 (V[k']?.getD (0, 0)).1 (V[k']?.getD (0, 0)).2
          by_cases he : V[k' + 1]?.getD (0, 0) = V[k']?.getD (0, 0)
          · rw [hTW he]
            rw [he] at gx gx2 heq
            generalize V[k']?.getD (0, 0) = pr at *
            obtain ⟨u1, u2⟩ := pr
            simp only [decide_true] at heq gx gx2 gy gy2
            clear he hTW
            go_wp2
            go_quiet (fail)
            go_wp2
            exact ⟨⟨k' + 1 + 1, by omega, by go_num, Below.drewN' _ HB3.out⟩, by simp [intOf]; omega⟩
          · have hf : (decide (((V[k' + 1]?.getD (0, 0)).1, (V[k' + 1]?.getD (0, 0)).2) = ((V[k']?.getD (0, 0)).1, (V[k']?.getD (0, 0)).2))) = false := by
              rw [decide_eq_false_iff_not]; exact he
            rw [hf] at heq
            clear hf he hTW
            generalize V[k' + 1]?.getD (0, 0) = pv at *
            generalize V[k']?.getD (0, 0) = pr at *
            generalize inB D _ _ = bb at *
            obtain ⟨u1, u2⟩ := pr
            obtain ⟨v1, v2⟩ := pv
            go_wp2
            go_quiet (fail)
            go_wp2
            exact ⟨⟨k' + 1 + 1, by omega, by go_num, Below.drewN' _ HB3.out⟩, by simp [intOf]; omega⟩
    · have hkV2 : ¬ ((k : Int) < (V.length : Int)) := by omega
      have HB4 := Lib.hid (btr gBelow HB.out)
      clear HB
      go_wp2_with fail
      refine (works_any _).mono ?_
      rintro e w9 ⟨rfl, hB9⟩
      have HB9 := Lib.hid (btr HB4.out hB9)
      clear hB9
      go_wp2
      go_ret
      exact ⟨rfl, HB9.out⟩
section
open Go.ChangeShapes Go.WideShapes Go.ChangeAt
set_option maxRecDepth 100000 in
theorem valveCut_lifted (os : Os) (started : os.Started) (H : Type) (enc : TypeId × Value → H) :
    ReturnsInHanded {} Try.checked os 10 .any (Rows.valveCutSpec.pre6 enc Try.prog Try.f10 Rows.valveCutRow.domain false) (Rows.valveCutSpec.post enc Try.prog Try.f10 false true false false) := by
  refine returnsInHanded_of_change (C := Try.checked) Try.own started (by kernel_rfl) Try.func10
    (ChangeSpec.witness6 (enc := enc) (C := Try.checked) false ⟨#[], #[.agg #[.int .i64 0, .slice none 0 0], .slice none 0 0], []⟩ 8 (by kernel_rfl) (by kernel_rfl) (by kernel_rfl) (by kernel_rfl)) ?_
  intro W base args ds gs before hval0 hW _ _
  have hval : ∀ (j : Nat) t v, Try.f10.params[j]? = some t → args[j]? = some v → Value.okWide Try.prog W .any base t v := hval0
  have hW' := hW
  obtain ⟨p, q, hA0, hV, rfl, hfz, hnd⟩ := hW
  have hA : DataW.TrodAll enc Try.prog W 0 (fun _ => true) true Try.f10.params.toList args.toList ds p := hA0
  have hA2 := hA
  have hlt : ∀ x ∈ p, x.block < W.heap.size := fun x hx => hW'.lt x (List.mem_append_left _ hx)
  rw [Try.params10] at hA hval
  obtain ⟨v0, vs0, d0, ds0, p0, q0, hargs, rfl, rfl, h0, r0⟩ := trodAll_cons hA
  obtain ⟨v1, vs1, d1, ds1, p1, q1, rfl, rfl, rfl, h1, r1⟩ := trodAll_cons r0
  obtain ⟨rfl, rfl, rfl⟩ := trodAll_nil r1
  obtain rfl : args = #[v0, v1] := by cases args; simp_all
  obtain ⟨rfl, rfl⟩ := trodVars_none hV
  obtain ⟨a0, x0, V0, rfl, hx0⟩ := open_row (hval 0 24 v0 rfl rfl) h0 (fun x hx => hlt x (by simp [hx]))
  obtain ⟨X1, hx1, hw1⟩ := open_ints_rd Try.underlying49 Try.underlying55 (by kernel_rfl) (hval 1 49 v1 rfl rfl) h1 (fun x hx => hlt x (by simp [hx]))
  clear hA0 hval0
  simp only [List.append_nil] at hW' hA2
  refine (cut_walk a0 x0 v1 V0 X1 W hx0 hx1 (fun v hv => wf16 (hw1 v hv))).mono fun e W' ⟨he, hb⟩ => ?_
  subst he
  exact ⟨_, rfl, law_post Try.laidOut Try.underlying4 hW' hA2 rfl rfl rfl rfl rfl (by kernel_rfl) hb⟩
theorem valveCut_holds : Rows.ValveCutSaid :=
  OpenClaim.holds_of_wide 10 Try.f10 rfl rfl rfl rfl rfl rfl rfl ⟨rfl, rfl, rfl, rfl, rfl⟩ rfl rfl rfl rfl rfl (by kernel_rfl) Try.func10 (by kernel_rfl)
    (of_decide_eq_true (by kernel_rfl)) (by unfold Func.isWrapper; first | (rw [if_pos (by decide +kernel)]; kernel_rfl) | (rw [if_neg (by decide +kernel)]; exact ⟨rfl, rfl⟩))
    (fun os started H enc _ => valveCut_lifted os started H enc)
end
end Go.Proofs.Ytdnaipiiponhpaa
