/- ValveRounds holds; no condition. -/
import Derived.Test.YtdnaipiiponhpaaH6
import Derived.Test.YtdnaipiiponhpaaP14
namespace Go.Proofs.Ytdnaipiiponhpaa
open Go.RowKit Go.Shelf

/-- The round before has a valve, among the first k. -/
def befB (L : List Int) (u : Int) (k : Nat) : Bool := decide (u = 1) || (List.range k).any fun j => decide (L[j]?.getD 0 = u - 1)
theorem befB_zero (L : List Int) (u : Int) : befB L u 0 = decide (u = 1) := by simp [befB]
theorem befB_succ (L : List Int) (u : Int) (k : Nat) : befB L u (k + 1) = (befB L u k || decide (L[k]?.getD 0 = u - 1)) := by simp [befB, List.range_succ, Bool.or_assoc]
structure RoundS (n : Nat) (V : List (Int × Int)) (L : List Int) : Prop where
  ll : L.length = V.length
  rounds : ∀ (x : Value) (w : World), RdP w x V → Calls Try.prog 36 #[.agg #[.int .i64 n, x]] w fun e w' => ∃ v, e = .returned (.tuple #[v, .int .i64 0]) ∧ RdI w' .i64 v L ∧ Below w.heap.size w w'
  ge1 : ∀ i, i < V.length → 1 ≤ L[i]?.getD 0
  le : ∀ i, i < V.length → L[i]?.getD 0 ≤ (V.length : Int)
  meet : ∀ i j, i < V.length → j < i → L[j]?.getD 0 = L[i]?.getD 0 → meetB (V[j]?.getD (0, 0)) (V[i]?.getD (0, 0)) = false
  all : ∀ i, i < V.length → befB L (L[i]?.getD 0) V.length = true
theorem roundS (n : Nat) (V : List (Int × Int)) (h : checkR n V = 0) : RoundS n V (rrL V V.length) := by
  refine ⟨rrL_len V _, fun x w hx => rounds_k n x V w hx h, fun i hi => rr_ge1 V _ i hi, fun i hi => by have := rr_le V V.length (i + 1) i (by omega) hi; omega, fun i j hi hj he => ?_, fun i hi => ?_⟩
  · cases hm : meetB (V[j]?.getD (0, 0)) (V[i]?.getD (0, 0)) with
    | false => rfl
    | true => have := rr_meet V V.length i j hi hj hm; omega
  · unfold befB
    rcases rr_from V V.length i hi with h | ⟨j, hj, h⟩
    · rw [decide_eq_true h]; rfl
    · rw [Bool.or_eq_true]; right
      rw [List.any_eq_true]
      exact ⟨j, List.mem_range.2 (by omega), by simpa using h⟩

set_option maxRecDepth 100000 in
set_option maxHeartbeats 60000000 in
theorem rounds_walk (p : Int) (x y : Value) (V : List (Int × Int)) (q : List Int) (w : World) (hx : RdP w x V) (hy : RdI w .i16 y q) (hw : ∀ v ∈ q, -32768 ≤ v ∧ v ≤ 32767) :
    Calls Try.prog 11 #[.agg #[.int .i64 p, x], y] w fun e w' => e = .returned (.bool true) ∧ Below w.heap.size w w' := by
  obtain ⟨a, c, rfl⟩ := hx.ex _ rfl
  obtain ⟨b, d, rfl⟩ := hy.ex _ rfl
  have HW := Lib.hid hw; clear hw
  by_cases hF : checkR p V ≠ 0
  ·
    have KP0 := Lib.hid (((keepB (bz w)).and (keepP hx)).and (keepI hy))
    clear hx hy
    go_enter Try.func11, Try.ntmps11
    go_wp2_with fail
    have KP1 := Lib.hid (((KP0.out.up (bal (bz w) _)).and (keepC (w := (w.alloc (.cells #[.int .i64 p, .slice a V.length c] 24))) (p := ⟨w.heap.size, 0, none⟩) (v := .int .i64 p) (cnew (by simp) rfl))).and (keepC (w := (w.alloc (.cells #[.int .i64 p, .slice a V.length c] 24))) (p := ⟨w.heap.size, 1, none⟩) (v := .slice a V.length c) (cnew (by simp) rfl)))
    clear KP0
    have hall := KP1.out.here
    have gr := hall.2.2.2.1
    clear hall
    refine (fine_no p _ V _ gr hF).mono ?_
    rintro e w1 ⟨rfl, hB⟩
    have KP2 := Lib.hid (KP1.out.up (btr (bz ((w.alloc (.cells #[.int .i64 p, .slice a V.length c] 24)))) hB))
    clear KP1
    clear hB
    clear gr
    have hall := KP2.out.here
    have hR1 := hall.1
    have hR0 := hall.2.1
    clear hall
    have zR := World.block_lt_of_cell? _ _ hR0
    simp only at zR
    go_wp2_with fail
    clear hR1 hR0 zR
    refine (works_any _).mono ?_
    rintro e w2 ⟨rfl, hB⟩
    have KP3 := Lib.hid (KP2.out.up (btr (bz w1) hB))
    clear KP2
    clear hB
    have hall := KP3.out.here
    have gBelow := hall.2.2.2.2
    clear hall
    go_wp2
    go_ret
    exact ⟨rfl, gBelow⟩
  have hF := Classical.not_not.1 hF
  by_cases hq : 20 < q.length
  ·
    have hq2 : (20 : Int) < (q.length : Int) := by omega
    have KP0 := Lib.hid (((keepB (bz w)).and (keepP hx)).and (keepI hy))
    clear hx hy
    go_enter Try.func11, Try.ntmps11
    go_wp2_with fail
    have KP1 := Lib.hid (((KP0.out.up (bal (bz w) _)).and (keepC (w := (w.alloc (.cells #[.int .i64 p, .slice a V.length c] 24))) (p := ⟨w.heap.size, 0, none⟩) (v := .int .i64 p) (cnew (by simp) rfl))).and (keepC (w := (w.alloc (.cells #[.int .i64 p, .slice a V.length c] 24))) (p := ⟨w.heap.size, 1, none⟩) (v := .slice a V.length c) (cnew (by simp) rfl)))
    clear KP0
    have hall := KP1.out.here
    have gr := hall.2.2.2.1
    clear hall
    refine (fine_yes p _ V _ gr hF).mono ?_
    rintro e w1 ⟨rfl, hB⟩
    have KP2 := Lib.hid (KP1.out.up (btr (bz ((w.alloc (.cells #[.int .i64 p, .slice a V.length c] 24)))) hB))
    clear KP1
    clear hB
    clear gr
    have hall := KP2.out.here
    have hR1 := hall.1
    have hR0 := hall.2.1
    clear hall
    have zR := World.block_lt_of_cell? _ _ hR0
    simp only at zR
    go_wp2_with fail
    clear hR1 hR0 zR
    refine (works_any _).mono ?_
    rintro e w2 ⟨rfl, hB⟩
    have KP3 := Lib.hid (KP2.out.up (btr (bz w1) hB))
    clear KP2
    clear hB
    have hall := KP3.out.here
    have gBelow := hall.2.2.2.2
    clear hall
    go_wp2
    go_ret
    exact ⟨rfl, gBelow⟩
  have hq2 : ¬ ((20 : Int) < (q.length : Int)) := by omega
  obtain ⟨n, rfl⟩ : ∃ n : Nat, p = n := ⟨p.toNat, by have := (okRow_of hF).p1; omega⟩
  obtain ⟨h8, h1, h40, hok⟩ := okn hF
  have HF := Lib.hid hF; have HO := Lib.hid hok; have HV := Lib.hid (okRow_of hF)
  clear hF hok
  have hS := roundS n V HF.out
  obtain ⟨L, hL⟩ : ∃ L, L = rrL V V.length := ⟨_, rfl⟩
  rw [← hL] at hS
  have HS := Lib.hid hS; have HLE := Lib.hid hL
  clear hS hL
  have KP0 := Lib.hid (((keepB (bz w)).and (keepP hx)).and (keepI hy))
  clear hx hy
  go_enter Try.func11, Try.ntmps11
  go_wp2_with fail
  have KP1 := Lib.hid (((KP0.out.up (bal (bz w) _)).and (keepC (w := (w.alloc (.cells #[.int .i64 n, .slice a V.length c] 24))) (p := ⟨w.heap.size, 0, none⟩) (v := .int .i64 n) (cnew (by simp) rfl))).and (keepC (w := (w.alloc (.cells #[.int .i64 n, .slice a V.length c] 24))) (p := ⟨w.heap.size, 1, none⟩) (v := .slice a V.length c) (cnew (by simp) rfl)))
  clear KP0
  have hall := KP1.out.here
  have gr := hall.2.2.2.1
  clear hall
  refine (fine_yes n _ V _ gr HF.out).mono ?_
  rintro e w1 ⟨rfl, hB⟩
  have KP2 := Lib.hid (KP1.out.up (btr (bz ((w.alloc (.cells #[.int .i64 n, .slice a V.length c] 24)))) hB))
  clear KP1
  clear hB
  clear gr
  have hall := KP2.out.here
  have hR1 := hall.1
  have hR0 := hall.2.1
  clear hall
  have zR := World.block_lt_of_cell? _ _ hR0
  simp only at zR
  go_wp2_with fail
  clear hR1 hR0 zR
  have hall := KP2.out.here
  have gr := hall.2.2.2.1
  clear hall
  refine (HS.out.rounds _ _ gr).mono ?_
  rintro e w2 ⟨v, rfl, hRL, hB⟩
  obtain ⟨aL, cL, hv⟩ := hRL.ex (V.length) HS.out.ll
  subst hv
  have KP3 := Lib.hid ((KP2.out.up (btr (bz w1) hB)).and (keepI hRL))
  clear KP2
  clear hRL hB
  clear gr
  have hall := KP3.out.here
  have hR1 := hall.2.1
  have hR0 := hall.2.2.1
  clear hall
  have zR := World.block_lt_of_cell? _ _ hR0
  simp only at zR
  go_wp2
  clear hR1 hR0 zR
  have hall := KP3.out.here
  have gL := hall.1
  have gR1 := hall.2.1
  have gr := hall.2.2.2.2.1
  clear hall
  have HXL := Lib.hid (rdI_cells gL HS.out.ll)
  obtain ⟨ar, cr, her, hcr, hmr, hxr⟩ := gr.form
  simp only [Value.slice.injEq, true_and] at her
  obtain ⟨rfl, rfl⟩ := her
  clear hcr hmr
  have HXV := Lib.hid hxr
  clear hxr gL gr
  have zR := World.block_lt_of_cell? _ _ gR1
  simp only at zR
  have GR1 := Lib.hid gR1
  clear gR1
  go_loopw [7, 8, 9, 44, 45, 46, 47, 48, 49, 50, 51, 52, 53, 54, 55, 56, 57, 58, 59, 60, 61, 62, 63, 64, 65, 66, 67, 68, 69, 70, 71, 72, 73, 74, 75, 76, 77, 78, 79, 80, 81, 82, 83, 84, 85, 86, 87, 88, 89, 90, 91, 92, 93, 94, 95, 96, 97, 98, 99, 100, 101, 102, 103, 104, 105, 106, 107, 108, 109, 110, 111, 112, 113, 114, 115, 116, 117, 118] (fun i _ _ _ _ _ _ _ _ _ _ _ _ _ _ _ _ _ _ _ _ _ _ _ _ _ _ _ _ _ _ _ _ _ _ _ _ _ _ _ _ _ _ _ _ _ _ _ _ _ _ _ _ _ _ _ _ _ _ _ _ _ _ _ _ _ _ _ _ _ _ _ _ _ _ _ _ _ wr => ∃ k : Nat, k ≤ V.length ∧ i = .int .i64 k ∧ Below w2.heap.size w2 wr) (fun i _ _ _ _ _ _ _ _ _ _ _ _ _ _ _ _ _ _ _ _ _ _ _ _ _ _ _ _ _ _ _ _ _ _ _ _ _ _ _ _ _ _ _ _ _ _ _ _ _ _ _ _ _ _ _ _ _ _ _ _ _ _ _ _ _ _ _ _ _ _ _ _ _ _ _ _ _ _ => V.length - (intOf i).toNat)
  case atStart => exact ⟨0, Nat.zero_le _, rfl, bz _⟩
  case round =>
    obtain ⟨k, hk, rfl, hB⟩ := hrel
    have HB := Lib.hid hB; clear hB
    by_cases hkn : k < V.length
    · have hkn2 : (k : Int) < (V.length : Int) := by omega
      obtain ⟨bl, ol, rfl, hbl, hcl⟩ := HXL.out (by omega)
      obtain ⟨bv, ov, rfl, hbv, hcv⟩ := HXV.out (by omega)
      have HCL := Lib.hid hcl; have HCV := Lib.hid hcv
      clear hcl hcv
      have gu := (HB.out.cell (p := ⟨bl, ol + k, none⟩) hbl).trans (HCL.out k hkn)
      obtain ⟨u, hu⟩ : ∃ u, L[k]?.getD 0 = u := ⟨_, rfl⟩
      have hu1 := HS.out.ge1 k hkn
      have hu2 := HS.out.le k hkn
      have HMT := Lib.hid (fun j (hj : j < k) => HS.out.meet k j hkn hj)
      have HBF := Lib.hid (HS.out.all k hkn)
      have HCU := Lib.hid (HCL.out k hkn)
      rw [hu] at gu hu1 hu2 HMT HBF HCU
      have HU := Lib.hid hu; clear hu
      obtain ⟨wo, rfl⟩ : ∃ wo : World, wo = wr := ⟨_, rfl⟩
      have huz : Hid ((u == 1) = decide (u = 1)) := Lib.hid (by rw [Bool.eq_iff_iff]; simp)
      have zbl := Nat.lt_of_lt_of_le hbl HB.out.size
      go_wp2
      go_loopw [8, 9, 55, 56, 57, 58, 59, 60, 61, 62, 63, 64, 65, 66, 67, 68, 69, 70, 71, 72, 73, 74, 75, 76, 77, 78, 79, 80, 81, 82, 83, 84, 85, 86, 87, 88, 89, 90, 91, 92, 93, 94, 95, 96, 97, 98, 99, 100] (fun b j _ _ _ _ _ _ _ _ _ _ _ _ _ _ _ _ _ _ _ _ _ _ _ _ _ _ _ _ _ _ _ _ _ _ _ _ _ _ _ _ _ _ _ _ _ _ wr => ∃ t : Nat, t ≤ V.length ∧ j = .int .i64 t ∧ b = .bool (befB L u t) ∧ Below w2.heap.size w2 wr) (fun b j _ _ _ _ _ _ _ _ _ _ _ _ _ _ _ _ _ _ _ _ _ _ _ _ _ _ _ _ _ _ _ _ _ _ _ _ _ _ _ _ _ _ _ _ _ _ _ => V.length - (intOf j).toNat)
      case atStart => exact ⟨0, Nat.zero_le _, rfl, by rw [befB_zero]; first | rfl | rw [huz.out], HB.out⟩
      case round =>
        clear gu zbl HB
        obtain ⟨j, hj, rfl, rfl, hB2⟩ := hrel
        by_cases hjn : j < V.length
        · have hjn2 : (j : Int) < (V.length : Int) := by omega
          have HST := Lib.hid (befB_succ L u j)
          have gl := HCL.out j hjn
          have gk := HCU.out
          have gj1 := (HCV.out j hjn).1
          have gj2 := (HCV.out j hjn).2
          have gk1 := (HCV.out k hkn).1
          have gk2 := (HCV.out k hkn).2
          have hmt := HMT.out j
          generalize L[j]?.getD 0 = v at *
          generalize befB L u j = bb at *
          generalize V[j]?.getD (0, 0) = pj at *
          generalize V[k]?.getD (0, 0) = pk at *
          obtain ⟨x1, x2⟩ := pj
          obtain ⟨y1, y2⟩ := pk
          have HM2 := Lib.hid hmt; clear hmt
          have KP4 := Lib.hid (((((((((KP3.out.up (bz w2)).and (keepC gl)).and (keepC gk)).and (keepZ hbl)).and (keepZ hbv)).and (keepC gj1)).and (keepC gj2)).and (keepC gk1)).and (keepC gk2))
          clear KP3
          clear gl gk gj1 gj2 gk1 gk2
          have KP5 := Lib.hid ((KP4.out.up (btr (bz w2) hB2)).and (keepB hB2))
          clear KP4
          clear hB2
          cases bb
          · by_cases hv1 : v = u - 1
            · have hv1b : (v == u - 1) = true := by simpa using hv1
              rw [decide_eq_true hv1] at HST
              clear hv1
              have hall := KP5.out.here
              have hR1 := hall.2.2.2.2.2.2.2.2.2.2.1
              have hR0 := hall.2.2.2.2.2.2.2.2.2.2.2.1
              clear hall
              have zR := World.block_lt_of_cell? _ _ hR0
              simp only at zR
              go_wp2
              clear hR1 hR0 zR
              refine wp_region_flow [] [] [0, 1, 2, 3, 4, 5, 6, 7, 8, 9, 10, 11, 12, 13] (by kernel_rfl) (by kernel_rfl) ?_
              intro w3 hB hh
              clear hh
              have KP6 := Lib.hid ((KP5.out.up (btr (bz wr) hB)).and (keepB (bz w3)))
              clear KP5
              clear hB
              have hall := KP6.out.here
              have hR1 := hall.2.2.2.2.2.2.2.2.2.2.2.1
              have hR0 := hall.2.2.2.2.2.2.2.2.2.2.2.2.1
              clear hall
              have zR := World.block_lt_of_cell? _ _ hR0
              simp only at zR
              have hall := KP6.out.here
              have kk2 := hall.2.2.1
              have kk1 := hall.2.2.2.1
              have kj2 := hall.2.2.2.2.1
              have kj1 := hall.2.2.2.2.2.1
              have kzv := hall.2.2.2.2.2.2.1
              have kzl := hall.2.2.2.2.2.2.2.1
              have kck := hall.2.2.2.2.2.2.2.2.1
              have kcl := hall.2.2.2.2.2.2.2.2.2.1
              clear hall
              have hL := @Later.cell w3
              simp only [flowP, flow, pickL, List.getElem?_cons_succ, List.getElem?_cons_zero]
              refine wpQuiet_nil ?_
              repeat (go_big_quiet_step (fail))
              refine wpQuiet_nil ?_
              refine only_done ?_
              clear hR1 hR0 zR kk2 kk1 kj2 kj1 kzv kzl kck kcl hL
              have hall := KP6.out.here
              have hR1 := hall.2.2.2.2.2.2.2.2.2.2.2.1
              have hR0 := hall.2.2.2.2.2.2.2.2.2.2.2.2.1
              clear hall
              have zR := World.block_lt_of_cell? _ _ hR0
              simp only at zR
              go_wp2
              clear hR1 hR0 zR
              by_cases hjk : j < k
              · have d1 : decide ((j : Int) < (k : Int)) = true := decide_eq_true (by omega)
                have d1n : decide (j < k) = true := decide_eq_true hjk
                by_cases hvu : v = u
                · have hvb : (v == u) = true := by simpa using hvu
                  have hmf := HM2.out hjk hvu
                  refine wp_region_flow [] [([0, 1, 2, 3, 4, 5, 6, 7, 8, 9, 10, 11, 12, 13, 14, 15, 16, 17, 18, 19, 20, 21, 22, 23, 24], 25, true)] [26] (by kernel_rfl) (by kernel_rfl) ?_
                  intro w4 hB hh
                  clear hh
                  have KP7 := Lib.hid ((KP6.out.up (btr (bz w3) hB)).and (keepB (bz w4)))
                  clear KP6
                  clear hB
                  have hall := KP7.out.here
                  have hR1 := hall.2.2.2.2.2.2.2.2.2.2.2.2.1
                  have hR0 := hall.2.2.2.2.2.2.2.2.2.2.2.2.2.1
                  clear hall
                  have zR := World.block_lt_of_cell? _ _ hR0
                  simp only at zR
                  have hall := KP7.out.here
                  have kk2 := hall.2.2.2.1
                  have kk1 := hall.2.2.2.2.1
                  have kj2 := hall.2.2.2.2.2.1
                  have kj1 := hall.2.2.2.2.2.2.1
                  have kzv := hall.2.2.2.2.2.2.2.1
                  have kzl := hall.2.2.2.2.2.2.2.2.1
                  have kck := hall.2.2.2.2.2.2.2.2.2.1
                  have kcl := hall.2.2.2.2.2.2.2.2.2.2.1
                  clear hall
                  have hL := @Later.cell w4
                  simp only [flowP, flow, pickL, List.getElem?_cons_succ, List.getElem?_cons_zero]
                  refine wpQuiet_nil ?_
                  repeat (go_big_quiet_step (fail))
                  refine wpQuiet_nil ?_
                  go_wp2_with fail
                  refine (meet_any x1 x2 y1 y2 _).mono ?_
                  rintro e w5 ⟨rfl, hB⟩
                  rw [hmf]
                  have KP8 := Lib.hid (KP7.out.up (btr (bz w4) hB))
                  clear KP7
                  clear hB
                  go_wp2
                  have hall := KP8.out.here
                  have gSw4 := hall.1
                  clear hall
                  refine seg_grow ⟨⟨_, gSw4⟩, rfl⟩ ?_
                  clear gSw4
                  repeat (go_big_quiet_step (fail))
                  refine wpQuiet_nil ?_
                  refine only_done ?_
                  clear hR1 hR0 zR kk2 kk1 kj2 kj1 kzv kzl kck kcl hL
                  have hall := KP8.out.here
                  have gB2 := hall.2.2.1
                  clear hall
                  go_wp2
                  exact ⟨⟨j + 1, by omega, by go_num, by rw [HST.out]; rfl, gB2⟩, by simp [intOf]; omega⟩
                · have hvb : (v == u) = false := by simpa using hvu
                  refine wp_region_flow [] [([0, 1, 2, 3, 4, 5, 6, 7, 8, 9, 10, 11, 12, 13, 14, 15, 16, 17, 18, 19, 20, 21, 22, 23, 24], 25, true)] [26] (by kernel_rfl) (by kernel_rfl) ?_
                  intro w4 hB hh
                  clear hh
                  have KP7 := Lib.hid ((KP6.out.up (btr (bz w3) hB)).and (keepB (bz w4)))
                  clear KP6
                  clear hB
                  have hall := KP7.out.here
                  have hR1 := hall.2.2.2.2.2.2.2.2.2.2.2.2.1
                  have hR0 := hall.2.2.2.2.2.2.2.2.2.2.2.2.2.1
                  clear hall
                  have zR := World.block_lt_of_cell? _ _ hR0
                  simp only at zR
                  have hall := KP7.out.here
                  have kk2 := hall.2.2.2.1
                  have kk1 := hall.2.2.2.2.1
                  have kj2 := hall.2.2.2.2.2.1
                  have kj1 := hall.2.2.2.2.2.2.1
                  have kzv := hall.2.2.2.2.2.2.2.1
                  have kzl := hall.2.2.2.2.2.2.2.2.1
                  have kck := hall.2.2.2.2.2.2.2.2.2.1
                  have kcl := hall.2.2.2.2.2.2.2.2.2.2.1
                  clear hall
                  have hL := @Later.cell w4
                  simp only [flowP, flow, pickL, List.getElem?_cons_succ, List.getElem?_cons_zero]
                  refine wpQuiet_nil ?_
                  repeat (go_big_quiet_step (fail))
                  refine wpQuiet_nil ?_
                  go_wp2
                  have hall := KP7.out.here
                  have gSw4 := hall.1
                  clear hall
                  refine seg_grow ⟨⟨_, gSw4⟩, rfl⟩ ?_
                  clear gSw4
                  repeat (go_big_quiet_step (fail))
                  refine wpQuiet_nil ?_
                  refine only_done ?_
                  clear hR1 hR0 zR kk2 kk1 kj2 kj1 kzv kzl kck kcl hL
                  have hall := KP7.out.here
                  have gB2 := hall.2.2.1
                  clear hall
                  go_wp2
                  exact ⟨⟨j + 1, by omega, by go_num, by rw [HST.out]; rfl, gB2⟩, by simp [intOf]; omega⟩
              · have d1 : decide ((j : Int) < (k : Int)) = false := decide_eq_false (by omega)
                have d1n : decide (j < k) = false := decide_eq_false hjk
                refine wp_region_flow [] [([0, 1, 2, 3, 4, 5, 6, 7, 8, 9, 10, 11, 12, 13, 14, 15, 16, 17, 18, 19, 20, 21, 22, 23, 24], 25, true)] [26] (by kernel_rfl) (by kernel_rfl) ?_
                intro w4 hB hh
                clear hh
                have KP7 := Lib.hid ((KP6.out.up (btr (bz w3) hB)).and (keepB (bz w4)))
                clear KP6
                clear hB
                have hall := KP7.out.here
                have hR1 := hall.2.2.2.2.2.2.2.2.2.2.2.2.1
                have hR0 := hall.2.2.2.2.2.2.2.2.2.2.2.2.2.1
                clear hall
                have zR := World.block_lt_of_cell? _ _ hR0
                simp only at zR
                have hall := KP7.out.here
                have kk2 := hall.2.2.2.1
                have kk1 := hall.2.2.2.2.1
                have kj2 := hall.2.2.2.2.2.1
                have kj1 := hall.2.2.2.2.2.2.1
                have kzv := hall.2.2.2.2.2.2.2.1
                have kzl := hall.2.2.2.2.2.2.2.2.1
                have kck := hall.2.2.2.2.2.2.2.2.2.1
                have kcl := hall.2.2.2.2.2.2.2.2.2.2.1
                clear hall
                have hL := @Later.cell w4
                simp only [flowP, flow, pickL, List.getElem?_cons_succ, List.getElem?_cons_zero]
                refine wpQuiet_nil ?_
                repeat (go_big_quiet_step (fail))
                refine wpQuiet_nil ?_
                go_wp2
                have hall := KP7.out.here
                have gSw4 := hall.1
                clear hall
                refine seg_grow ⟨⟨_, gSw4⟩, rfl⟩ ?_
                clear gSw4
                repeat (go_big_quiet_step (fail))
                refine wpQuiet_nil ?_
                refine only_done ?_
                clear hR1 hR0 zR kk2 kk1 kj2 kj1 kzv kzl kck kcl hL
                have hall := KP7.out.here
                have gB2 := hall.2.2.1
                clear hall
                go_wp2
                exact ⟨⟨j + 1, by omega, by go_num, by rw [HST.out]; rfl, gB2⟩, by simp [intOf]; omega⟩
            · have hv1b : (v == u - 1) = false := by simpa using hv1
              rw [decide_eq_false hv1] at HST
              clear hv1
              have hall := KP5.out.here
              have hR1 := hall.2.2.2.2.2.2.2.2.2.2.1
              have hR0 := hall.2.2.2.2.2.2.2.2.2.2.2.1
              clear hall
              have zR := World.block_lt_of_cell? _ _ hR0
              simp only at zR
              go_wp2
              clear hR1 hR0 zR
              refine wp_region_flow [] [] [0, 1, 2, 3, 4, 5, 6, 7, 8, 9, 10, 11, 12, 13] (by kernel_rfl) (by kernel_rfl) ?_
              intro w3 hB hh
              clear hh
              have KP6 := Lib.hid ((KP5.out.up (btr (bz wr) hB)).and (keepB (bz w3)))
              clear KP5
              clear hB
              have hall := KP6.out.here
              have hR1 := hall.2.2.2.2.2.2.2.2.2.2.2.1
              have hR0 := hall.2.2.2.2.2.2.2.2.2.2.2.2.1
              clear hall
              have zR := World.block_lt_of_cell? _ _ hR0
              simp only at zR
              have hall := KP6.out.here
              have kk2 := hall.2.2.1
              have kk1 := hall.2.2.2.1
              have kj2 := hall.2.2.2.2.1
              have kj1 := hall.2.2.2.2.2.1
              have kzv := hall.2.2.2.2.2.2.1
              have kzl := hall.2.2.2.2.2.2.2.1
              have kck := hall.2.2.2.2.2.2.2.2.1
              have kcl := hall.2.2.2.2.2.2.2.2.2.1
              clear hall
              have hL := @Later.cell w3
              simp only [flowP, flow, pickL, List.getElem?_cons_succ, List.getElem?_cons_zero]
              refine wpQuiet_nil ?_
              repeat (go_big_quiet_step (fail))
              refine wpQuiet_nil ?_
              refine only_done ?_
              clear hR1 hR0 zR kk2 kk1 kj2 kj1 kzv kzl kck kcl hL
              have hall := KP6.out.here
              have hR1 := hall.2.2.2.2.2.2.2.2.2.2.2.1
              have hR0 := hall.2.2.2.2.2.2.2.2.2.2.2.2.1
              clear hall
              have zR := World.block_lt_of_cell? _ _ hR0
              simp only at zR
              go_wp2
              clear hR1 hR0 zR
              by_cases hjk : j < k
              · have d1 : decide ((j : Int) < (k : Int)) = true := decide_eq_true (by omega)
                have d1n : decide (j < k) = true := decide_eq_true hjk
                by_cases hvu : v = u
                · have hvb : (v == u) = true := by simpa using hvu
                  have hmf := HM2.out hjk hvu
                  refine wp_region_flow [] [([0, 1, 2, 3, 4, 5, 6, 7, 8, 9, 10, 11, 12, 13, 14, 15, 16, 17, 18, 19, 20, 21, 22, 23, 24], 25, true)] [26] (by kernel_rfl) (by kernel_rfl) ?_
                  intro w4 hB hh
                  clear hh
                  have KP7 := Lib.hid ((KP6.out.up (btr (bz w3) hB)).and (keepB (bz w4)))
                  clear KP6
                  clear hB
                  have hall := KP7.out.here
                  have hR1 := hall.2.2.2.2.2.2.2.2.2.2.2.2.1
                  have hR0 := hall.2.2.2.2.2.2.2.2.2.2.2.2.2.1
                  clear hall
                  have zR := World.block_lt_of_cell? _ _ hR0
                  simp only at zR
                  have hall := KP7.out.here
                  have kk2 := hall.2.2.2.1
                  have kk1 := hall.2.2.2.2.1
                  have kj2 := hall.2.2.2.2.2.1
                  have kj1 := hall.2.2.2.2.2.2.1
                  have kzv := hall.2.2.2.2.2.2.2.1
                  have kzl := hall.2.2.2.2.2.2.2.2.1
                  have kck := hall.2.2.2.2.2.2.2.2.2.1
                  have kcl := hall.2.2.2.2.2.2.2.2.2.2.1
                  clear hall
                  have hL := @Later.cell w4
                  simp only [flowP, flow, pickL, List.getElem?_cons_succ, List.getElem?_cons_zero]
                  refine wpQuiet_nil ?_
                  repeat (go_big_quiet_step (fail))
                  refine wpQuiet_nil ?_
                  go_wp2_with fail
                  refine (meet_any x1 x2 y1 y2 _).mono ?_
                  rintro e w5 ⟨rfl, hB⟩
                  rw [hmf]
                  have KP8 := Lib.hid (KP7.out.up (btr (bz w4) hB))
                  clear KP7
                  clear hB
                  go_wp2
                  have hall := KP8.out.here
                  have gSw4 := hall.1
                  clear hall
                  refine seg_grow ⟨⟨_, gSw4⟩, rfl⟩ ?_
                  clear gSw4
                  repeat (go_big_quiet_step (fail))
                  refine wpQuiet_nil ?_
                  refine only_done ?_
                  clear hR1 hR0 zR kk2 kk1 kj2 kj1 kzv kzl kck kcl hL
                  have hall := KP8.out.here
                  have gB2 := hall.2.2.1
                  clear hall
                  go_wp2
                  exact ⟨⟨j + 1, by omega, by go_num, by rw [HST.out]; rfl, gB2⟩, by simp [intOf]; omega⟩
                · have hvb : (v == u) = false := by simpa using hvu
                  refine wp_region_flow [] [([0, 1, 2, 3, 4, 5, 6, 7, 8, 9, 10, 11, 12, 13, 14, 15, 16, 17, 18, 19, 20, 21, 22, 23, 24], 25, true)] [26] (by kernel_rfl) (by kernel_rfl) ?_
                  intro w4 hB hh
                  clear hh
                  have KP7 := Lib.hid ((KP6.out.up (btr (bz w3) hB)).and (keepB (bz w4)))
                  clear KP6
                  clear hB
                  have hall := KP7.out.here
                  have hR1 := hall.2.2.2.2.2.2.2.2.2.2.2.2.1
                  have hR0 := hall.2.2.2.2.2.2.2.2.2.2.2.2.2.1
                  clear hall
                  have zR := World.block_lt_of_cell? _ _ hR0
                  simp only at zR
                  have hall := KP7.out.here
                  have kk2 := hall.2.2.2.1
                  have kk1 := hall.2.2.2.2.1
                  have kj2 := hall.2.2.2.2.2.1
                  have kj1 := hall.2.2.2.2.2.2.1
                  have kzv := hall.2.2.2.2.2.2.2.1
                  have kzl := hall.2.2.2.2.2.2.2.2.1
                  have kck := hall.2.2.2.2.2.2.2.2.2.1
                  have kcl := hall.2.2.2.2.2.2.2.2.2.2.1
                  clear hall
                  have hL := @Later.cell w4
                  simp only [flowP, flow, pickL, List.getElem?_cons_succ, List.getElem?_cons_zero]
                  refine wpQuiet_nil ?_
                  repeat (go_big_quiet_step (fail))
                  refine wpQuiet_nil ?_
                  go_wp2
                  have hall := KP7.out.here
                  have gSw4 := hall.1
                  clear hall
                  refine seg_grow ⟨⟨_, gSw4⟩, rfl⟩ ?_
                  clear gSw4
                  repeat (go_big_quiet_step (fail))
                  refine wpQuiet_nil ?_
                  refine only_done ?_
                  clear hR1 hR0 zR kk2 kk1 kj2 kj1 kzv kzl kck kcl hL
                  have hall := KP7.out.here
                  have gB2 := hall.2.2.1
                  clear hall
                  go_wp2
                  exact ⟨⟨j + 1, by omega, by go_num, by rw [HST.out]; rfl, gB2⟩, by simp [intOf]; omega⟩
              · have d1 : decide ((j : Int) < (k : Int)) = false := decide_eq_false (by omega)
                have d1n : decide (j < k) = false := decide_eq_false hjk
                refine wp_region_flow [] [([0, 1, 2, 3, 4, 5, 6, 7, 8, 9, 10, 11, 12, 13, 14, 15, 16, 17, 18, 19, 20, 21, 22, 23, 24], 25, true)] [26] (by kernel_rfl) (by kernel_rfl) ?_
                intro w4 hB hh
                clear hh
                have KP7 := Lib.hid ((KP6.out.up (btr (bz w3) hB)).and (keepB (bz w4)))
                clear KP6
                clear hB
                have hall := KP7.out.here
                have hR1 := hall.2.2.2.2.2.2.2.2.2.2.2.2.1
                have hR0 := hall.2.2.2.2.2.2.2.2.2.2.2.2.2.1
                clear hall
                have zR := World.block_lt_of_cell? _ _ hR0
                simp only at zR
                have hall := KP7.out.here
                have kk2 := hall.2.2.2.1
                have kk1 := hall.2.2.2.2.1
                have kj2 := hall.2.2.2.2.2.1
                have kj1 := hall.2.2.2.2.2.2.1
                have kzv := hall.2.2.2.2.2.2.2.1
                have kzl := hall.2.2.2.2.2.2.2.2.1
                have kck := hall.2.2.2.2.2.2.2.2.2.1
                have kcl := hall.2.2.2.2.2.2.2.2.2.2.1
                clear hall
                have hL := @Later.cell w4
                simp only [flowP, flow, pickL, List.getElem?_cons_succ, List.getElem?_cons_zero]
                refine wpQuiet_nil ?_
                repeat (go_big_quiet_step (fail))
                refine wpQuiet_nil ?_
                go_wp2
                have hall := KP7.out.here
                have gSw4 := hall.1
                clear hall
                refine seg_grow ⟨⟨_, gSw4⟩, rfl⟩ ?_
                clear gSw4
                repeat (go_big_quiet_step (fail))
                refine wpQuiet_nil ?_
                refine only_done ?_
                clear hR1 hR0 zR kk2 kk1 kj2 kj1 kzv kzl kck kcl hL
                have hall := KP7.out.here
                have gB2 := hall.2.2.1
                clear hall
                go_wp2
                exact ⟨⟨j + 1, by omega, by go_num, by rw [HST.out]; rfl, gB2⟩, by simp [intOf]; omega⟩
          · have hall := KP5.out.here
            have hR1 := hall.2.2.2.2.2.2.2.2.2.2.1
            have hR0 := hall.2.2.2.2.2.2.2.2.2.2.2.1
            clear hall
            have zR := World.block_lt_of_cell? _ _ hR0
            simp only at zR
            go_wp2
            clear hR1 hR0 zR
            refine wp_region_flow [] [] [0, 1, 2, 3, 4, 5, 6, 7, 8, 9, 10, 11, 12, 13] (by kernel_rfl) (by kernel_rfl) ?_
            intro w3 hB hh
            clear hh
            have KP6 := Lib.hid ((KP5.out.up (btr (bz wr) hB)).and (keepB (bz w3)))
            clear KP5
            clear hB
            have hall := KP6.out.here
            have hR1 := hall.2.2.2.2.2.2.2.2.2.2.2.1
            have hR0 := hall.2.2.2.2.2.2.2.2.2.2.2.2.1
            clear hall
            have zR := World.block_lt_of_cell? _ _ hR0
            simp only at zR
            have hall := KP6.out.here
            have kk2 := hall.2.2.1
            have kk1 := hall.2.2.2.1
            have kj2 := hall.2.2.2.2.1
            have kj1 := hall.2.2.2.2.2.1
            have kzv := hall.2.2.2.2.2.2.1
            have kzl := hall.2.2.2.2.2.2.2.1
            have kck := hall.2.2.2.2.2.2.2.2.1
            have kcl := hall.2.2.2.2.2.2.2.2.2.1
            clear hall
            have hL := @Later.cell w3
            simp only [flowP, flow, pickL, List.getElem?_cons_succ, List.getElem?_cons_zero]
            refine wpQuiet_nil ?_
            repeat (go_big_quiet_step (fail))
            refine wpQuiet_nil ?_
            refine only_done ?_
            clear hR1 hR0 zR kk2 kk1 kj2 kj1 kzv kzl kck kcl hL
            have hall := KP6.out.here
            have hR1 := hall.2.2.2.2.2.2.2.2.2.2.2.1
            have hR0 := hall.2.2.2.2.2.2.2.2.2.2.2.2.1
            clear hall
            have zR := World.block_lt_of_cell? _ _ hR0
            simp only at zR
            go_wp2
            clear hR1 hR0 zR
            by_cases hjk : j < k
            · have d1 : decide ((j : Int) < (k : Int)) = true := decide_eq_true (by omega)
              have d1n : decide (j < k) = true := decide_eq_true hjk
              by_cases hvu : v = u
              · have hvb : (v == u) = true := by simpa using hvu
                have hmf := HM2.out hjk hvu
                refine wp_region_flow [] [([0, 1, 2, 3, 4, 5, 6, 7, 8, 9, 10, 11, 12, 13, 14, 15, 16, 17, 18, 19, 20, 21, 22, 23, 24], 25, true)] [26] (by kernel_rfl) (by kernel_rfl) ?_
                intro w4 hB hh
                clear hh
                have KP7 := Lib.hid ((KP6.out.up (btr (bz w3) hB)).and (keepB (bz w4)))
                clear KP6
                clear hB
                have hall := KP7.out.here
                have hR1 := hall.2.2.2.2.2.2.2.2.2.2.2.2.1
                have hR0 := hall.2.2.2.2.2.2.2.2.2.2.2.2.2.1
                clear hall
                have zR := World.block_lt_of_cell? _ _ hR0
                simp only at zR
                have hall := KP7.out.here
                have kk2 := hall.2.2.2.1
                have kk1 := hall.2.2.2.2.1
                have kj2 := hall.2.2.2.2.2.1
                have kj1 := hall.2.2.2.2.2.2.1
                have kzv := hall.2.2.2.2.2.2.2.1
                have kzl := hall.2.2.2.2.2.2.2.2.1
                have kck := hall.2.2.2.2.2.2.2.2.2.1
                have kcl := hall.2.2.2.2.2.2.2.2.2.2.1
                clear hall
                have hL := @Later.cell w4
                simp only [flowP, flow, pickL, List.getElem?_cons_succ, List.getElem?_cons_zero]
                refine wpQuiet_nil ?_
                repeat (go_big_quiet_step (fail))
                refine wpQuiet_nil ?_
                go_wp2_with fail
                refine (meet_any x1 x2 y1 y2 _).mono ?_
                rintro e w5 ⟨rfl, hB⟩
                rw [hmf]
                have KP8 := Lib.hid (KP7.out.up (btr (bz w4) hB))
                clear KP7
                clear hB
                go_wp2
                have hall := KP8.out.here
                have gSw4 := hall.1
                clear hall
                refine seg_grow ⟨⟨_, gSw4⟩, rfl⟩ ?_
                clear gSw4
                repeat (go_big_quiet_step (fail))
                refine wpQuiet_nil ?_
                refine only_done ?_
                clear hR1 hR0 zR kk2 kk1 kj2 kj1 kzv kzl kck kcl hL
                have hall := KP8.out.here
                have gB2 := hall.2.2.1
                clear hall
                go_wp2
                exact ⟨⟨j + 1, by omega, by go_num, by rw [HST.out]; rfl, gB2⟩, by simp [intOf]; omega⟩
              · have hvb : (v == u) = false := by simpa using hvu
                refine wp_region_flow [] [([0, 1, 2, 3, 4, 5, 6, 7, 8, 9, 10, 11, 12, 13, 14, 15, 16, 17, 18, 19, 20, 21, 22, 23, 24], 25, true)] [26] (by kernel_rfl) (by kernel_rfl) ?_
                intro w4 hB hh
                clear hh
                have KP7 := Lib.hid ((KP6.out.up (btr (bz w3) hB)).and (keepB (bz w4)))
                clear KP6
                clear hB
                have hall := KP7.out.here
                have hR1 := hall.2.2.2.2.2.2.2.2.2.2.2.2.1
                have hR0 := hall.2.2.2.2.2.2.2.2.2.2.2.2.2.1
                clear hall
                have zR := World.block_lt_of_cell? _ _ hR0
                simp only at zR
                have hall := KP7.out.here
                have kk2 := hall.2.2.2.1
                have kk1 := hall.2.2.2.2.1
                have kj2 := hall.2.2.2.2.2.1
                have kj1 := hall.2.2.2.2.2.2.1
                have kzv := hall.2.2.2.2.2.2.2.1
                have kzl := hall.2.2.2.2.2.2.2.2.1
                have kck := hall.2.2.2.2.2.2.2.2.2.1
                have kcl := hall.2.2.2.2.2.2.2.2.2.2.1
                clear hall
                have hL := @Later.cell w4
                simp only [flowP, flow, pickL, List.getElem?_cons_succ, List.getElem?_cons_zero]
                refine wpQuiet_nil ?_
                repeat (go_big_quiet_step (fail))
                refine wpQuiet_nil ?_
                go_wp2
                have hall := KP7.out.here
                have gSw4 := hall.1
                clear hall
                refine seg_grow ⟨⟨_, gSw4⟩, rfl⟩ ?_
                clear gSw4
                repeat (go_big_quiet_step (fail))
                refine wpQuiet_nil ?_
                refine only_done ?_
                clear hR1 hR0 zR kk2 kk1 kj2 kj1 kzv kzl kck kcl hL
                have hall := KP7.out.here
                have gB2 := hall.2.2.1
                clear hall
                go_wp2
                exact ⟨⟨j + 1, by omega, by go_num, by rw [HST.out]; rfl, gB2⟩, by simp [intOf]; omega⟩
            · have d1 : decide ((j : Int) < (k : Int)) = false := decide_eq_false (by omega)
              have d1n : decide (j < k) = false := decide_eq_false hjk
              refine wp_region_flow [] [([0, 1, 2, 3, 4, 5, 6, 7, 8, 9, 10, 11, 12, 13, 14, 15, 16, 17, 18, 19, 20, 21, 22, 23, 24], 25, true)] [26] (by kernel_rfl) (by kernel_rfl) ?_
              intro w4 hB hh
              clear hh
              have KP7 := Lib.hid ((KP6.out.up (btr (bz w3) hB)).and (keepB (bz w4)))
              clear KP6
              clear hB
              have hall := KP7.out.here
              have hR1 := hall.2.2.2.2.2.2.2.2.2.2.2.2.1
              have hR0 := hall.2.2.2.2.2.2.2.2.2.2.2.2.2.1
              clear hall
              have zR := World.block_lt_of_cell? _ _ hR0
              simp only at zR
              have hall := KP7.out.here
              have kk2 := hall.2.2.2.1
              have kk1 := hall.2.2.2.2.1
              have kj2 := hall.2.2.2.2.2.1
              have kj1 := hall.2.2.2.2.2.2.1
              have kzv := hall.2.2.2.2.2.2.2.1
              have kzl := hall.2.2.2.2.2.2.2.2.1
              have kck := hall.2.2.2.2.2.2.2.2.2.1
              have kcl := hall.2.2.2.2.2.2.2.2.2.2.1
              clear hall
              have hL := @Later.cell w4
              simp only [flowP, flow, pickL, List.getElem?_cons_succ, List.getElem?_cons_zero]
              refine wpQuiet_nil ?_
              repeat (go_big_quiet_step (fail))
              refine wpQuiet_nil ?_
              go_wp2
              have hall := KP7.out.here
              have gSw4 := hall.1
              clear hall
              refine seg_grow ⟨⟨_, gSw4⟩, rfl⟩ ?_
              clear gSw4
              repeat (go_big_quiet_step (fail))
              refine wpQuiet_nil ?_
              refine only_done ?_
              clear hR1 hR0 zR kk2 kk1 kj2 kj1 kzv kzl kck kcl hL
              have hall := KP7.out.here
              have gB2 := hall.2.2.1
              clear hall
              go_wp2
              exact ⟨⟨j + 1, by omega, by go_num, by rw [HST.out]; rfl, gB2⟩, by simp [intOf]; omega⟩
        · have hjE : j = V.length := by omega
          rw [hjE, HBF.out]
          have hjn2 : ¬ ((V.length : Int) < (V.length : Int)) := by omega
          have HB2 := Lib.hid hB2
          have gu := (hB2.cell (p := ⟨bl, ol + k, none⟩) hbl).trans HCU.out
          have zbl := Nat.lt_of_lt_of_le hbl hB2.size
          clear hB2 hjE hjn
          have hu3 : ¬ (u < 1) := by omega
          have hu4 : ¬ ((V.length : Int) < u) := by omega
          have hu3n : decide (u < 1) = false := decide_eq_false hu3
          have hu4n : decide ((V.length : Int) < u) = false := decide_eq_false hu4
          go_wp2
          exact ⟨⟨k + 1, by omega, by go_num, HB2.out⟩, by simp [intOf]; omega⟩
    · have hkn2 : ¬ ((k : Int) < (V.length : Int)) := by omega
      have KP4 := Lib.hid (KP3.out.up (btr (bz w2) HB.out))
      clear KP3
      clear HB hk
      obtain ⟨wz, rfl⟩ : ∃ wz : World, wz = wr := ⟨_, rfl⟩
      obtain ⟨PL, hPL⟩ : ∃ PL, PL = labP V := ⟨_, rfl⟩
      have HPG := Lib.hid (show ∀ i, i < V.length → PL[i]? = some (V[i]?.getD (0, 0), L[i]?.getD 0) by
        rw [hPL, HLE.out]; exact fun i hi => labP_get h8 HO.out i hi)
      have HPN := Lib.hid (show PL.length = V.length by rw [hPL]; exact labP_len V)
      have HSS := Lib.hid (show SortS n V ((upTo PL V.length).map (·.1)) ((upTo PL V.length).map (·.2)) by rw [hPL]; exact sort_rounds h8 HO.out)
      clear hPL hkn
      have hall := KP4.out.here
      have hR1 := hall.2.1
      have hR0 := hall.2.2.1
      clear hall
      have zR := World.block_lt_of_cell? _ _ hR0
      simp only at zR
      go_wp2
      clear hR1 hR0 zR
      have HSO := Lib.hid (SOwn.new wz 24 (n : Int))
      have HB0 := Lib.hid (bal (bz wz) (.cells #[.int .i64 (n : Int), .slice none 0 0] 24))
      go_loopw [11, 12, 13, 122, 123, 124, 125, 126, 127, 128, 129, 130, 131, 132, 133, 134, 135, 136, 137, 138, 139, 140, 141, 142, 143, 144, 145, 146, 147, 148, 149, 150, 151, 152, 153] (fun v i _ _ _ _ _ _ _ _ _ _ _ _ _ _ _ _ _ _ _ _ _ _ _ _ _ _ _ _ _ _ _ _ _ wr => ∃ (m mm : Nat) (vX : Value), mm = m + 1 ∧ m ≤ V.length ∧ i = .int .i64 mm ∧ Below wz.heap.size wz wr ∧ SOwn wr wz.heap.size (wz.heap.size + 1) 24 n vX ((upTo PL m).map (·.1)) ∧ wr.ownsRow (wz.heap.size + 1) 3 1 v ((upTo PL m).map (·.2)).length (((upTo PL m).map (·.2)).map (Value.int .i64))) (fun v i _ _ _ _ _ _ _ _ _ _ _ _ _ _ _ _ _ _ _ _ _ _ _ _ _ _ _ _ _ _ _ _ _ _ => V.length + 1 - (intOf i).toNat)
      case atStart => exact ⟨0, 1, _, rfl, Nat.zero_le _, rfl, HB0.out, HSO.out, World.ownsRow_nil _ _ _ _⟩
      case round =>
        clear HSO HB0
        obtain ⟨m, mm, vX, hmm, hm, rfl, hB, hX, hR⟩ := hrel
        have HMM := Lib.hid hmm
        by_cases hkm : m < V.length
        · have hkm2 : (mm : Int) ≤ (V.length : Int) := by omega
          have HX := Lib.hid hX; have HR := Lib.hid hR; have HB := Lib.hid hB
          clear hX hR hB hmm
          obtain ⟨wo, rfl⟩ : ∃ wo : World, wo = wr := ⟨_, rfl⟩
          go_wp2
          go_loopw [11, 13, 128, 129, 130, 131, 132, 133, 134, 135, 136, 137, 138, 139, 140, 141, 142, 143, 144, 145, 146, 147, 148, 149, 150, 151, 152, 153] (fun v j _ _ _ _ _ _ _ _ _ _ _ _ _ _ _ _ _ _ _ _ _ _ _ _ _ _ wr => ∃ (t : Nat) (vX : Value), t ≤ V.length ∧ j = .int .i64 t ∧ Below wz.heap.size wz wr ∧ SOwn wr wz.heap.size (wz.heap.size + 1) 24 n vX ((midP PL m t).map (·.1)) ∧ wr.ownsRow (wz.heap.size + 1) 3 1 v ((midP PL m t).map (·.2)).length (((midP PL m t).map (·.2)).map (Value.int .i64))) (fun v j _ _ _ _ _ _ _ _ _ _ _ _ _ _ _ _ _ _ _ _ _ _ _ _ _ _ _ => V.length - (intOf j).toNat)
          case atStart => exact ⟨0, vX, Nat.zero_le _, rfl, HB.out, by rw [midP_zero]; exact HX.out, by rw [midP_zero]; exact HR.out⟩
          case round =>
            clear HX HR HB
            obtain ⟨j, vX, hj, rfl, hB, hX, hR⟩ := hrel
            by_cases hjn : j < V.length
            · have hall := KP4.out.here
              have gL := hall.1
              have gr := hall.2.2.2.2.1
              clear hall
              have hjn2 : (j : Int) < (V.length : Int) := by omega
              obtain ⟨bl, ol, rfl, hbl, hcl⟩ := rdI_cells gL HS.out.ll (by omega)
              obtain ⟨ar, cr, her, hcr, hmr, hxr⟩ := gr.form
              simp only [Value.slice.injEq, true_and] at her
              obtain ⟨rfl, rfl⟩ := her
              clear hcr hmr
              obtain ⟨bv, ov, rfl, hbv, hcv⟩ := hxr (by omega)
              have gl := hcl j hjn
              have g1 := (hcv j hjn).1
              have g2 := (hcv j hjn).2
              have HST := Lib.hid (midP_succ PL m j (HPG.out j hjn))
              have hml := midP_len PL m j
              rw [HPN.out] at hml
              have HML := Lib.hid hml
              clear hcl hxr hcv gL gr hml
              generalize L[j]?.getD 0 = u at *
              generalize V[j]?.getD (0, 0) = pj at *
              obtain ⟨x1, x2⟩ := pj
              generalize midP PL m j = MP at *
              have glw := (hB.cell (p := ⟨bl, ol + j, none⟩) hbl).trans gl
              have zlw := Nat.lt_of_lt_of_le hbl hB.size
              have HG1 := Lib.hid g1; have HG2 := Lib.hid g2; have ZBV := Lib.hid hbv
              clear g1 g2 gl hbv
              by_cases hum : u = (mm : Int)
              · subst hum
                have hub : ((mm : Int) == (mm : Int)) = true := by simp
                have hX4 : X4 wz wr wz.heap.size n vX vX (MP.map (·.1)) _ (MP.map (·.2)) x1 x2 mm none none := ⟨hX.row, hX.own, hR, fun b e => (by cases e), fun b e => (by cases e), hB, Nat.le_refl _⟩
                have HX4 := Lib.hid hX4
                clear hX hR hX4
                have hyes : (((x1, x2), (mm : Int)) : LV).2 = ((m + 1 : Nat) : Int) := by rw [← HMM.out]
                rw [if_pos hyes] at HST
                obtain ⟨aX, cX, hvX⟩ := owns_form HX4.out.a
                rw [List.length_map] at hvX
                subst hvX
                have hcx := HX4.out.cx
                have zgx : wz.heap.size < wr.heap.size := by have := HX4.out.lt; omega
                clear hyes
                have hall := KP4.out.here
                have hR1 := hall.2.1
                have hR0 := hall.2.2.1
                clear hall
                have zR := World.block_lt_of_cell? _ _ hR0
                simp only at zR
                go_wp2
                clear hR1 hR0 zR
                refine wp_region_US (fun w2 => ∃ x : LaterC wz ⟨wz.heap.size, 1, none⟩ (.slice aX MP.length cX), w2 = x.val) [0, 1, 2, 3, 4, 5, 6, 9, 10, 13] [14, 15] (by kernel_rfl) (by kernel_rfl) ?_
                intro wc hB hh
                have HX5 := Lib.hid (HX4.out.later hB)
                clear hh hB hcx
                have k1 := HG1.out; have k2 := HG2.out; have kz := ZBV.out
                have hL := @LaterC.old wz ⟨wz.heap.size, 1, none⟩ (.slice aX MP.length cX)
                have hL2 := @LaterC.at wz ⟨wz.heap.size, 1, none⟩ (.slice aX MP.length cX)
                have hall := KP4.out.here
                have gR1 := hall.2.1
                clear hall
                have zRz := World.block_lt_of_cell? _ _ gR1
                simp only at zRz
                refine U_heads [0, 1, 2, 3, 4, 5, 6, 9, 10] (by kernel_rfl) ⟨⟨_, HX5.out.bel, HX5.out.cx⟩, rfl⟩ ?_
                simp only [pickL, List.getElem?_cons_succ, List.getElem?_cons_zero]
                repeat (go_big_quiet_step (rfl))
                refine wpQuiet_nil ?_
                clear hL hL2 k1 k2 gR1
                refine U_two 7 11 (by kernel_rfl) ?_ ?_
                · simp only [pickL, List.getElem?_cons_succ, List.getElem?_cons_zero]
                  go_wp2
                  have HX6 := Lib.hid (HX5.out.a7 (wc.heap.size) (by simp))
                  clear HX5
                  refine seg_grow ⟨⟨_, HX6.out.bel, HX6.out.cx⟩, rfl⟩ ?_
                  refine U_two 8 11 (by kernel_rfl) ?_ ?_
                  · simp only [pickL, List.getElem?_cons_succ, List.getElem?_cons_zero]
                    go_wp2_with (at_builtin; refine wpList_append_rows rfl _ _ rfl HX6.out.a rfl rfl HX6.out.rd7 (by rw [List.length_map]; have := HML.out; omega) (by simp) HX6.out.lt ?_)
                    intro v8 w8 h1 h2 h3
                    obtain ⟨ao8, co8, hvo⟩ := owns_form h1
                    subst hvo
                    have HX7 := Lib.hid (HX6.out.g8 (V := [(x1, x2)]) (by simpa using h1) h2 (by simpa using h3))
                    clear h1 h2 h3 HX6
                    go_wp2
                    refine seg_grow ⟨⟨_, HX7.out.bel, HX7.out.cx⟩, rfl⟩ ?_
                    refine U_heads [13] (by kernel_rfl) ⟨⟨_, HX7.out.bel, HX7.out.cx⟩, rfl⟩ ?_
                    simp only [pickL, List.getElem?_cons_succ, List.getElem?_cons_zero]
                    repeat (go_big_quiet_step (rfl))
                    refine wpQuiet_nil ?_
                    refine U_one 11 (by kernel_rfl) ?_
                    simp only [pickL, List.getElem?_cons_succ, List.getElem?_cons_zero]
                    go_wp2
                    have HX8 := Lib.hid (HX7.out.a11 (w8.heap.size) (by simp))
                    clear HX7
                    refine seg_grow ⟨⟨_, HX8.out.bel, HX8.out.cx⟩, rfl⟩ ?_
                    refine U_one 12 (by kernel_rfl) ?_
                    simp only [pickL, List.getElem?_cons_succ, List.getElem?_cons_zero]
                    go_wp2_with (at_builtin; refine wpList_append_row (xs := MP.map (·.2)) (ys := [(mm : Int)]) rfl _ _ rfl Try.underlying34 num3 HX8.out.r rfl rfl rfl HX8.out.rd11 (by rw [List.length_map]; have := HML.out; omega) (by simp) HX8.out.lt ?_)
                    intro v12 w12 h1 h2
                    have HX9 := Lib.hid (HX8.out.g12 (R' := [(mm : Int)]) (by simpa using h1) h2)
                    clear h1 h2 HX8
                    go_wp2
                    refine seg_grow ⟨⟨_, HX9.out.bel, HX9.out.cx⟩, rfl⟩ ?_
                    have cx := HX9.out.cx
                    have fx := HX9.out.fx
                    have zg := HX9.out.lt
                    refine U_one 14 (by kernel_rfl) ?_
                    simp only [pickL, List.getElem?_cons_succ, List.getElem?_cons_zero]
                    go_wp2
                    refine seg_write ?_
                    refine U_one 15 (by kernel_rfl) ?_
                    simp only [pickL, List.getElem?_cons_succ, List.getElem?_cons_zero]
                    go_wp2
                    refine seg_write ?_
                    refine U_done (by kernel_rfl) ?_
                    have HPT := Lib.hid HX9.out.put
                    clear cx fx zg HX9
                    go_wp2
                    exact ⟨⟨j + 1, _, by omega, by go_num, HPT.out.2.2, by rw [HST.out, List.map_append]; exact HPT.out.1, by rw [HST.out, List.map_append]; exact HPT.out.2.1⟩, by simp [intOf]; omega⟩
                  · simp only [pickL, List.getElem?_cons_succ, List.getElem?_cons_zero]
                    go_wp2
                    have HX7 := Lib.hid (HX6.out.a11 (wc.heap.size + 1) (by simp))
                    clear HX6
                    refine seg_grow ⟨⟨_, HX7.out.bel, HX7.out.cx⟩, rfl⟩ ?_
                    refine U_one 8 (by kernel_rfl) ?_
                    simp only [pickL, List.getElem?_cons_succ, List.getElem?_cons_zero]
                    go_wp2_with (at_builtin; refine wpList_append_rows rfl _ _ rfl HX7.out.a rfl rfl HX7.out.rd7 (by rw [List.length_map]; have := HML.out; omega) (by simp) HX7.out.lt ?_)
                    intro v8 w8 h1 h2 h3
                    obtain ⟨ao8, co8, hvo⟩ := owns_form h1
                    subst hvo
                    have HX8 := Lib.hid (HX7.out.g8 (V := [(x1, x2)]) (by simpa using h1) h2 (by simpa using h3))
                    clear h1 h2 h3 HX7
                    go_wp2
                    refine seg_grow ⟨⟨_, HX8.out.bel, HX8.out.cx⟩, rfl⟩ ?_
                    refine U_heads [13] (by kernel_rfl) ⟨⟨_, HX8.out.bel, HX8.out.cx⟩, rfl⟩ ?_
                    simp only [pickL, List.getElem?_cons_succ, List.getElem?_cons_zero]
                    repeat (go_big_quiet_step (rfl))
                    refine wpQuiet_nil ?_
                    refine U_one 12 (by kernel_rfl) ?_
                    simp only [pickL, List.getElem?_cons_succ, List.getElem?_cons_zero]
                    go_wp2_with (at_builtin; refine wpList_append_row (xs := MP.map (·.2)) (ys := [(mm : Int)]) rfl _ _ rfl Try.underlying34 num3 HX8.out.r rfl rfl rfl HX8.out.rd11 (by rw [List.length_map]; have := HML.out; omega) (by simp) HX8.out.lt ?_)
                    intro v12 w12 h1 h2
                    have HX9 := Lib.hid (HX8.out.g12 (R' := [(mm : Int)]) (by simpa using h1) h2)
                    clear h1 h2 HX8
                    go_wp2
                    refine seg_grow ⟨⟨_, HX9.out.bel, HX9.out.cx⟩, rfl⟩ ?_
                    have cx := HX9.out.cx
                    have fx := HX9.out.fx
                    have zg := HX9.out.lt
                    refine U_one 14 (by kernel_rfl) ?_
                    simp only [pickL, List.getElem?_cons_succ, List.getElem?_cons_zero]
                    go_wp2
                    refine seg_write ?_
                    refine U_one 15 (by kernel_rfl) ?_
                    simp only [pickL, List.getElem?_cons_succ, List.getElem?_cons_zero]
                    go_wp2
                    refine seg_write ?_
                    refine U_done (by kernel_rfl) ?_
                    have HPT := Lib.hid HX9.out.put
                    clear cx fx zg HX9
                    go_wp2
                    exact ⟨⟨j + 1, _, by omega, by go_num, HPT.out.2.2, by rw [HST.out, List.map_append]; exact HPT.out.1, by rw [HST.out, List.map_append]; exact HPT.out.2.1⟩, by simp [intOf]; omega⟩
                · simp only [pickL, List.getElem?_cons_succ, List.getElem?_cons_zero]
                  go_wp2
                  have HX6 := Lib.hid (HX5.out.a11 (wc.heap.size) (by simp))
                  clear HX5
                  refine seg_grow ⟨⟨_, HX6.out.bel, HX6.out.cx⟩, rfl⟩ ?_
                  refine U_one 7 (by kernel_rfl) ?_
                  simp only [pickL, List.getElem?_cons_succ, List.getElem?_cons_zero]
                  go_wp2
                  have HX7 := Lib.hid (HX6.out.a7 (wc.heap.size + 1) (by simp))
                  clear HX6
                  refine seg_grow ⟨⟨_, HX7.out.bel, HX7.out.cx⟩, rfl⟩ ?_
                  refine U_one 8 (by kernel_rfl) ?_
                  simp only [pickL, List.getElem?_cons_succ, List.getElem?_cons_zero]
                  go_wp2_with (at_builtin; refine wpList_append_rows rfl _ _ rfl HX7.out.a rfl rfl HX7.out.rd7 (by rw [List.length_map]; have := HML.out; omega) (by simp) HX7.out.lt ?_)
                  intro v8 w8 h1 h2 h3
                  obtain ⟨ao8, co8, hvo⟩ := owns_form h1
                  subst hvo
                  have HX8 := Lib.hid (HX7.out.g8 (V := [(x1, x2)]) (by simpa using h1) h2 (by simpa using h3))
                  clear h1 h2 h3 HX7
                  go_wp2
                  refine seg_grow ⟨⟨_, HX8.out.bel, HX8.out.cx⟩, rfl⟩ ?_
                  refine U_heads [13] (by kernel_rfl) ⟨⟨_, HX8.out.bel, HX8.out.cx⟩, rfl⟩ ?_
                  simp only [pickL, List.getElem?_cons_succ, List.getElem?_cons_zero]
                  repeat (go_big_quiet_step (rfl))
                  refine wpQuiet_nil ?_
                  refine U_one 12 (by kernel_rfl) ?_
                  simp only [pickL, List.getElem?_cons_succ, List.getElem?_cons_zero]
                  go_wp2_with (at_builtin; refine wpList_append_row (xs := MP.map (·.2)) (ys := [(mm : Int)]) rfl _ _ rfl Try.underlying34 num3 HX8.out.r rfl rfl rfl HX8.out.rd11 (by rw [List.length_map]; have := HML.out; omega) (by simp) HX8.out.lt ?_)
                  intro v12 w12 h1 h2
                  have HX9 := Lib.hid (HX8.out.g12 (R' := [(mm : Int)]) (by simpa using h1) h2)
                  clear h1 h2 HX8
                  go_wp2
                  refine seg_grow ⟨⟨_, HX9.out.bel, HX9.out.cx⟩, rfl⟩ ?_
                  have cx := HX9.out.cx
                  have fx := HX9.out.fx
                  have zg := HX9.out.lt
                  refine U_one 14 (by kernel_rfl) ?_
                  simp only [pickL, List.getElem?_cons_succ, List.getElem?_cons_zero]
                  go_wp2
                  refine seg_write ?_
                  refine U_one 15 (by kernel_rfl) ?_
                  simp only [pickL, List.getElem?_cons_succ, List.getElem?_cons_zero]
                  go_wp2
                  refine seg_write ?_
                  refine U_done (by kernel_rfl) ?_
                  have HPT := Lib.hid HX9.out.put
                  clear cx fx zg HX9
                  go_wp2
                  exact ⟨⟨j + 1, _, by omega, by go_num, HPT.out.2.2, by rw [HST.out, List.map_append]; exact HPT.out.1, by rw [HST.out, List.map_append]; exact HPT.out.2.1⟩, by simp [intOf]; omega⟩
              · have hub : (u == (mm : Int)) = false := by simpa using hum
                have hne : ¬ (((x1, x2), u) : LV).2 = ((m + 1 : Nat) : Int) := by rw [← HMM.out]; exact hum
                rw [if_neg hne] at HST
                have HX := Lib.hid hX; have HR := Lib.hid hR; have HB := Lib.hid hB
                clear hX hR hB hne
                go_wp2
                exact ⟨⟨j + 1, vX, by omega, by go_num, HB.out, by rw [HST.out]; exact HX.out, by rw [HST.out]; exact HR.out⟩, by simp [intOf]; omega⟩
            · have hjE : j = PL.length := by rw [HPN.out]; omega
              have hjn2 : ¬ ((j : Int) < (V.length : Int)) := by omega
              rw [hjE, midP_all] at hX hR
              have HX := Lib.hid hX; have HR := Lib.hid hR; have HB := Lib.hid hB
              clear hX hR hB hjE
              go_wp2
              exact ⟨⟨m + 1, mm + 1, vX, by have := HMM.out; omega, by omega, by go_num, HB.out, HX.out, HR.out⟩, by simp [intOf]; have := HMM.out; omega⟩
        · have hkm2 : ¬ ((mm : Int) ≤ (V.length : Int)) := by omega
          have hmE : m = V.length := by omega
          rw [hmE] at hX hR
          obtain ⟨vR, hvR⟩ : ∃ vR : Value, True := ⟨.bool true, trivial⟩
          clear hvR vR hmE
          have HS2 := HSS.out
          generalize (upTo PL V.length).map (·.1) = X at *
          generalize (upTo PL V.length).map (·.2) = R at *
          have hxr := hX.rd
          have hrr := RdI.of_owns (n := _) hR
          have gx0 : wr.cell? ⟨wz.heap.size, 0, none⟩ = some (.int .i64 n) := by rw [cell_of_row wr _ _ _ _ _ hX.row]; rfl
          have gx1 : wr.cell? ⟨wz.heap.size, 1, none⟩ = some vX := by rw [cell_of_row wr _ _ _ _ _ hX.row]; rfl
          obtain ⟨aX, cX, hv⟩ := hxr.ex V.length HS2.len
          subst hv
          have hrl : R.length = V.length := by rw [← HS2.rr, rrL_len]; exact HS2.len
          obtain ⟨aR, cR, hv⟩ := hrr.ex V.length hrl
          subst hv
          have HOKX := Lib.hid (show checkR n X = 0 from check_of_ok ⟨by omega, by omega, by rw [HS2.len]; exact h40, HS2.ok⟩)
          have hfl := filL_len q n
          have HRUN := Lib.hid (HS2.run (filL q n) hfl)
          have HRR := Lib.hid HS2.rr
          have HRL := Lib.hid hrl
          have hlr : (runV V (filL q n)).length = n := by rw [runV_length]; exact hfl
          have hlx : (runV X (filL q n)).length = n := by rw [runV_length]; exact hfl
          clear HS2 hX hR hrl
          have KP5 := Lib.hid (((((KP4.out.up (btr (bz wz) hB)).and (keepC gx0)).and (keepC gx1)).and (keepP hxr)).and (keepI hrr))
          clear KP4
          clear hB gx0 gx1 hxr hrr
          have hall := KP5.out.here
          have hX1 := hall.2.2.1
          have hX0 := hall.2.2.2.1
          have hR1 := hall.2.2.2.2.2.1
          have hR0 := hall.2.2.2.2.2.2.1
          clear hall
          have zR := World.block_lt_of_cell? _ _ hR0
          have zX := World.block_lt_of_cell? _ _ hX0
          simp only at zR zX
          go_wp2_with fail
          clear hX1 hX0 hR1 hR0 zR zX
          have hall := KP5.out.here
          have gy := hall.2.2.2.2.2.2.2.1
          clear hall
          refine (filled_any n _ q _ gy HW.out h8 (by omega)).mono ?_
          rintro e w3 ⟨v, rfl, hRF, hB⟩
          obtain ⟨aF, cF, hv⟩ := hRF.ex n hfl
          subst hv
          have KP6 := Lib.hid ((KP5.out.up (btr (bz wr) hB)).and (keepI hRF))
          clear KP5
          clear hRF hB
          clear gy
          have hall := KP6.out.here
          have hX1 := hall.2.2.2.1
          have hX0 := hall.2.2.2.2.1
          have hR1 := hall.2.2.2.2.2.2.1
          have hR0 := hall.2.2.2.2.2.2.2.1
          clear hall
          have zR := World.block_lt_of_cell? _ _ hR0
          have zX := World.block_lt_of_cell? _ _ hX0
          simp only at zR zX
          go_wp2_with fail
          clear hX1 hX0 hR1 hR0 zR zX
          have hall := KP6.out.here
          have gF := hall.1
          have gr := hall.2.2.2.2.2.2.2.2.2.1
          clear hall
          refine (ran_ok n _ _ V (filL q n) _ gr gF HV.out hfl).mono ?_
          rintro e w4 ⟨v, rfl, hRA, hB⟩
          obtain ⟨aA, cA, hv⟩ := hRA.ex n hlr
          subst hv
          have KP7 := Lib.hid ((KP6.out.up (btr (bz w3) hB)).and (keepI hRA))
          clear KP6
          clear hRA hB
          clear gF gr
          have hall := KP7.out.here
          have hX1 := hall.2.2.2.2.1
          have hX0 := hall.2.2.2.2.2.1
          have hR1 := hall.2.2.2.2.2.2.2.1
          have hR0 := hall.2.2.2.2.2.2.2.2.1
          clear hall
          have zR := World.block_lt_of_cell? _ _ hR0
          have zX := World.block_lt_of_cell? _ _ hX0
          simp only at zR zX
          go_wp2_with fail
          clear hX1 hX0 hR1 hR0 zR zX
          have hall := KP7.out.here
          have gF := hall.2.1
          have gx := hall.2.2.2.1
          clear hall
          refine (ran_ok n _ _ X (filL q n) _ gx gF (okRow_of HOKX.out) hfl).mono ?_
          rintro e w5 ⟨v, rfl, hRB, hB⟩
          obtain ⟨aB, cB, hv⟩ := hRB.ex n hlx
          subst hv
          have KP8 := Lib.hid ((KP7.out.up (btr (bz w4) hB)).and (keepI hRB))
          clear KP7
          clear hRB hB
          clear gF gx
          have hall := KP8.out.here
          have hX1 := hall.2.2.2.2.2.1
          have hX0 := hall.2.2.2.2.2.2.1
          have hR1 := hall.2.2.2.2.2.2.2.2.1
          have hR0 := hall.2.2.2.2.2.2.2.2.2.1
          clear hall
          have zR := World.block_lt_of_cell? _ _ hR0
          have zX := World.block_lt_of_cell? _ _ hX0
          simp only at zR zX
          go_wp2_with fail
          clear hX1 hX0 hR1 hR0 zR zX
          have hall := KP8.out.here
          have gx := hall.2.2.2.2.1
          clear hall
          refine ((rounds_k n _ X _ gx HOKX.out)).mono ?_
          rintro e w6 ⟨v, rfl, hRM, hB⟩
          obtain ⟨aM, cM, hv⟩ := hRM.ex (V.length) (by rw [HRR.out]; exact HRL.out)
          subst hv
          have KP9 := Lib.hid ((KP8.out.up (btr (bz w5) hB)).and (keepI hRM))
          clear KP8
          clear hRM hB
          clear gx
          have hall := KP9.out.here
          have hX1 := hall.2.2.2.2.2.2.1
          have hX0 := hall.2.2.2.2.2.2.2.1
          have hR1 := hall.2.2.2.2.2.2.2.2.2.1
          have hR0 := hall.2.2.2.2.2.2.2.2.2.2.1
          clear hall
          have zR := World.block_lt_of_cell? _ _ hR0
          have zX := World.block_lt_of_cell? _ _ hX0
          simp only at zR zX
          go_wp2_with fail
          clear hX1 hX0 hR1 hR0 zR zX
          have hall := KP9.out.here
          have gB := hall.2.1
          have gA := hall.2.2.1
          clear hall
          refine (longs_eq _ _ (runV V (filL q n)) _ gA (by rw [← HRUN.out]; exact gB) (by omega)).mono ?_
          rintro e w7 ⟨rfl, hB⟩
          have KP10 := Lib.hid (KP9.out.up (btr (bz w6) hB))
          clear KP9
          clear hB
          clear gB gA
          have hall := KP10.out.here
          have hX1 := hall.2.2.2.2.2.2.1
          have hX0 := hall.2.2.2.2.2.2.2.1
          have hR1 := hall.2.2.2.2.2.2.2.2.2.1
          have hR0 := hall.2.2.2.2.2.2.2.2.2.2.1
          clear hall
          have zR := World.block_lt_of_cell? _ _ hR0
          have zX := World.block_lt_of_cell? _ _ hX0
          simp only at zR zX
          go_wp2_with fail
          clear hX1 hX0 hR1 hR0 zR zX
          have hall := KP10.out.here
          have gM := hall.1
          have gR := hall.2.2.2.2.1
          clear hall
          refine (ints_eq _ _ R _ (by rw [← HRR.out]; exact gM) gR (by have := HRL.out; omega)).mono ?_
          rintro e w8 ⟨rfl, hB⟩
          have KP11 := Lib.hid (KP10.out.up (btr (bz w7) hB))
          clear KP10
          clear hB
          clear gM gR
          have hall := KP11.out.here
          have hX1 := hall.2.2.2.2.2.2.1
          have hX0 := hall.2.2.2.2.2.2.2.1
          have hR1 := hall.2.2.2.2.2.2.2.2.2.1
          have hR0 := hall.2.2.2.2.2.2.2.2.2.2.1
          clear hall
          have zR := World.block_lt_of_cell? _ _ hR0
          have zX := World.block_lt_of_cell? _ _ hX0
          simp only at zR zX
          go_wp2_with fail
          clear hX1 hX0 hR1 hR0 zR zX
          refine (works_any _).mono ?_
          rintro e w9 ⟨rfl, hB⟩
          have KP12 := Lib.hid (KP11.out.up (btr (bz w8) hB))
          clear KP11
          clear hB
          have hall := KP12.out.here
          have gBelow := hall.2.2.2.2.2.2.2.2.2.2.2.2.2
          clear hall
          go_wp2
          go_ret
          exact ⟨rfl, gBelow⟩
section
open Go.ChangeShapes Go.WideShapes Go.ChangeAt
set_option maxRecDepth 100000 in
theorem valveRounds_lifted (os : Os) (started : os.Started) (H : Type) (enc : TypeId × Value → H) :
    ReturnsInHanded {} Try.checked os 11 .any (Rows.valveRoundsSpec.pre6 enc Try.prog Try.f11 Rows.valveRoundsRow.domain false) (Rows.valveRoundsSpec.post enc Try.prog Try.f11 false true false false) := by
  refine returnsInHanded_of_change (C := Try.checked) Try.own started (by kernel_rfl) Try.func11
    (ChangeSpec.witness6 (enc := enc) (C := Try.checked) false ⟨#[], #[.agg #[.int .i64 0, .slice none 0 0], .slice none 0 0], []⟩ 8 (by kernel_rfl) (by kernel_rfl) (by kernel_rfl) (by kernel_rfl)) ?_
  intro W base args ds gs before hval0 hW _ _
  have hval : ∀ (j : Nat) t v, Try.f11.params[j]? = some t → args[j]? = some v → Value.okWide Try.prog W .any base t v := hval0
  have hW' := hW
  obtain ⟨p, q, hA0, hV, rfl, hfz, hnd⟩ := hW
  have hA : DataW.TrodAll enc Try.prog W 0 (fun _ => true) true Try.f11.params.toList args.toList ds p := hA0
  have hA2 := hA
  have hlt : ∀ x ∈ p, x.block < W.heap.size := fun x hx => hW'.lt x (List.mem_append_left _ hx)
  rw [Try.params11] at hA hval
  obtain ⟨v0, vs0, d0, ds0, p0, q0, hargs, rfl, rfl, h0, r0⟩ := trodAll_cons hA
  obtain ⟨v1, vs1, d1, ds1, p1, q1, rfl, rfl, rfl, h1, r1⟩ := trodAll_cons r0
  obtain ⟨rfl, rfl, rfl⟩ := trodAll_nil r1
  obtain rfl : args = #[v0, v1] := by cases args; simp_all
  obtain ⟨rfl, rfl⟩ := trodVars_none hV
  obtain ⟨a0, x0, V0, rfl, hx0⟩ := open_row (hval 0 24 v0 rfl rfl) h0 (fun x hx => hlt x (by simp [hx]))
  obtain ⟨X1, hx1, hw1⟩ := open_ints_rd Try.underlying49 Try.underlying55 (by kernel_rfl) (hval 1 49 v1 rfl rfl) h1 (fun x hx => hlt x (by simp [hx]))
  clear hA0 hval0
  simp only [List.append_nil] at hW' hA2
  refine (rounds_walk a0 x0 v1 V0 X1 W hx0 hx1 (fun v hv => wf16 (hw1 v hv))).mono fun e W' ⟨he, hb⟩ => ?_
  subst he
  exact ⟨_, rfl, law_post Try.laidOut Try.underlying4 hW' hA2 rfl rfl rfl rfl rfl (by kernel_rfl) hb⟩
theorem valveRounds_holds : Rows.ValveRoundsSaid :=
  OpenClaim.holds_of_wide 11 Try.f11 rfl rfl rfl rfl rfl rfl rfl ⟨rfl, rfl, rfl, rfl, rfl⟩ rfl rfl rfl rfl rfl (by kernel_rfl) Try.func11 (by kernel_rfl)
    (of_decide_eq_true (by kernel_rfl)) (by unfold Func.isWrapper; first | (rw [if_pos (by decide +kernel)]; kernel_rfl) | (rw [if_neg (by decide +kernel)]; exact ⟨rfl, rfl⟩))
    (fun os started H enc _ => valveRounds_lifted os started H enc)
end
end Go.Proofs.Ytdnaipiiponhpaa
