/- ValveEither holds; no condition. -/
import Derived.Test.YtdnaipiiponhpaaH2
import Derived.Test.YtdnaipiiponhpaaP8
namespace Go.Proofs.Ytdnaipiiponhpaa
open Go.RowKit Go.Shelf

theorem own_bit (b k : Nat) : ((b : Int) / 2 ^ k % 2) = ((b / 2 ^ k % 2 : Nat) : Int) := by simp

set_option maxRecDepth 100000 in
set_option maxHeartbeats 60000000 in
theorem either_walk (p : Int) (x y : Value) (V : List (Int × Int)) (q : List Int) (w : World) (hx : RdP w x V) (hy : RdI w .i16 y q) (hw : ∀ v ∈ q, -32768 ≤ v ∧ v ≤ 32767) (z : Int) (hz0 : 0 ≤ z) (hz1 : z ≤ 255) :
    Calls Try.prog 7 #[.agg #[.int .i64 p, x], y, .int .u8 z] w fun e w' => e = .returned (.bool true) ∧ Below w.heap.size w w' := by
  obtain ⟨a, c, rfl⟩ := hx.ex _ rfl
  obtain ⟨b, d, rfl⟩ := hy.ex _ rfl
  have HW := Lib.hid hw; clear hw
  by_cases hF : checkR p V ≠ 0
  ·
    have KP0 := Lib.hid (((keepB (bz w)).and (keepP hx)).and (keepI hy))
    clear hx hy
    go_enter Try.func7, Try.ntmps7
    go_wp2_with fail
    have KP1 := Lib.hid (((KP0.out.up (bal (bz w) _)).and (keepC (w := (w.alloc (.cells #[.int .i64 p, .slice a V.length c] 24))) (p := ⟨w.heap.size, 0, none⟩) (v := .int .i64 p) (cnew (by simp) rfl))).and (keepC (w := (w.alloc (.cells #[.int .i64 p, .slice a V.length c] 24))) (p := ⟨w.heap.size, 1, none⟩) (v := .slice a V.length c) (cnew (by simp) rfl)))
    clear KP0
    have hall := KP1.out.here
    have gr := hall.2.2.2.1
    clear hall
    refine (fine_no p _ V _ gr hF).mono ?_
    rintro e w1 ⟨rfl, hB⟩
    have KP2 := Lib.hid (KP1.out.up (btr (bz ((w.alloc (.cells #[.int .i64 p, .slice a V.length c] 24)))) hB))
    clear KP1
    clear hB
    clear gr
    have hall := KP2.out.here
    have hR1 := hall.1
    have hR0 := hall.2.1
    clear hall
    have zR := World.block_lt_of_cell? _ _ hR0
    simp only at zR
    go_wp2_with fail
    clear hR1 hR0 zR
    refine (works_any _).mono ?_
    rintro e w2 ⟨rfl, hB⟩
    have KP3 := Lib.hid (KP2.out.up (btr (bz w1) hB))
    clear KP2
    clear hB
    have hall := KP3.out.here
    have gBelow := hall.2.2.2.2
    clear hall
    go_wp2
    go_ret
    exact ⟨rfl, gBelow⟩
  have hF := Classical.not_not.1 hF
  by_cases hq : 20 < q.length
  ·
    have hq2 : (20 : Int) < (q.length : Int) := by omega
    have KP0 := Lib.hid (((keepB (bz w)).and (keepP hx)).and (keepI hy))
    clear hx hy
    go_enter Try.func7, Try.ntmps7
    go_wp2_with fail
    have KP1 := Lib.hid (((KP0.out.up (bal (bz w) _)).and (keepC (w := (w.alloc (.cells #[.int .i64 p, .slice a V.length c] 24))) (p := ⟨w.heap.size, 0, none⟩) (v := .int .i64 p) (cnew (by simp) rfl))).and (keepC (w := (w.alloc (.cells #[.int .i64 p, .slice a V.length c] 24))) (p := ⟨w.heap.size, 1, none⟩) (v := .slice a V.length c) (cnew (by simp) rfl)))
    clear KP0
    have hall := KP1.out.here
    have gr := hall.2.2.2.1
    clear hall
    refine (fine_yes p _ V _ gr hF).mono ?_
    rintro e w1 ⟨rfl, hB⟩
    have KP2 := Lib.hid (KP1.out.up (btr (bz ((w.alloc (.cells #[.int .i64 p, .slice a V.length c] 24)))) hB))
    clear KP1
    clear hB
    clear gr
    have hall := KP2.out.here
    have hR1 := hall.1
    have hR0 := hall.2.1
    clear hall
    have zR := World.block_lt_of_cell? _ _ hR0
    simp only at zR
    go_wp2_with fail
    clear hR1 hR0 zR
    refine (works_any _).mono ?_
    rintro e w2 ⟨rfl, hB⟩
    have KP3 := Lib.hid (KP2.out.up (btr (bz w1) hB))
    clear KP2
    clear hB
    have hall := KP3.out.here
    have gBelow := hall.2.2.2.2
    clear hall
    go_wp2
    go_ret
    exact ⟨rfl, gBelow⟩
  have hq2 : ¬ ((20 : Int) < (q.length : Int)) := by omega
  obtain ⟨n, rfl⟩ : ∃ n : Nat, p = n := ⟨p.toNat, by have := (okRow_of hF).p1; omega⟩
  obtain ⟨h8, h1, h40, hok⟩ := okn hF
  have HF := Lib.hid hF; have HO := Lib.hid hok; have HV := Lib.hid (okRow_of hF)
  clear hF hok
  obtain ⟨bt, rfl⟩ : ∃ bt : Nat, z = bt := ⟨z.toNat, by omega⟩
  have hfl := filL_len q n
  have hol := ownL_len bt n
  have hlr : (runV V (filL q n)).length = n := by rw [runV_length]; exact hfl
  obtain ⟨c1, HC1⟩ : ∃ c1, Hid ((if (patOf n V).isSome then (23 : Int) else 0) = c1) := ⟨_, Lib.hid rfl⟩
  obtain ⟨c2, HC2⟩ : ∃ c2, Hid (rchkE n V (ownL bt n) = c2) := ⟨_, Lib.hid rfl⟩
  obtain ⟨c3, HC3⟩ : ∃ c3, Hid ((if (patOf n V).isSome then (0 : Int) else 5) = c3) := ⟨_, Lib.hid rfl⟩
  obtain ⟨Q, HQ⟩ : ∃ Q, Hid (patOfL n V = Q) := ⟨_, Lib.hid rfl⟩
  have HD2 : Hid (c2 = 5 ∧ sortedB (runV V (ownL bt n)) = true ∨ c2 = 0 ∧ sortedB (runV V (ownL bt n)) = false) := Lib.hid (by
    rw [← HC2.out, rchk_bits HF.out hol (ownL_bits bt n)]
    cases sortedB (runV V (ownL bt n)) <;> simp)
  have HD1 : Hid ((c1 = 0 ∧ c3 = 5 ∧ Q = [] ∧ patOf n V = none) ∨ (c1 = 23 ∧ c3 = 0 ∧ ∃ t, Q = bitsOf n t ∧ patOf n V = some t)) := Lib.hid (by
    rw [← HC1.out, ← HC3.out, ← HQ.out]
    unfold patOfL
    cases patOf n V <;> simp)
  have KP0 := Lib.hid (((keepB (bz w)).and (keepP hx)).and (keepI hy))
  clear hx hy
  go_enter Try.func7, Try.ntmps7
  go_wp2_with fail
  have KP1 := Lib.hid (((KP0.out.up (bal (bz w) _)).and (keepC (w := (w.alloc (.cells #[.int .i64 n, .slice a V.length c] 24))) (p := ⟨w.heap.size, 0, none⟩) (v := .int .i64 n) (cnew (by simp) rfl))).and (keepC (w := (w.alloc (.cells #[.int .i64 n, .slice a V.length c] 24))) (p := ⟨w.heap.size, 1, none⟩) (v := .slice a V.length c) (cnew (by simp) rfl)))
  clear KP0
  have hall := KP1.out.here
  have gr := hall.2.2.2.1
  clear hall
  refine (fine_yes n _ V _ gr HF.out).mono ?_
  rintro e w1 ⟨rfl, hB⟩
  have KP2 := Lib.hid (KP1.out.up (btr (bz ((w.alloc (.cells #[.int .i64 n, .slice a V.length c] 24)))) hB))
  clear KP1
  clear hB
  clear gr
  have hall := KP2.out.here
  have hR1 := hall.1
  have hR0 := hall.2.1
  clear hall
  have zR := World.block_lt_of_cell? _ _ hR0
  simp only at zR
  go_wp2
  clear hR1 hR0 zR
  have hall := KP2.out.here
  have gR0 := hall.2.1
  clear hall
  have zR := World.block_lt_of_cell? _ _ gR0
  simp only at zR
  have GR0 := Lib.hid gR0
  clear gR0
  obtain ⟨wo, hwo⟩ : ∃ wo : World, wo = w1 := ⟨_, rfl⟩
  subst hwo
  go_loopw [7, 8, 25, 26, 27, 28, 29, 30, 31, 32, 33, 34, 35, 36, 37, 38] (fun v i _ _ _ _ _ _ _ _ _ _ _ _ _ _ wr => ∃ k : Nat, k ≤ n ∧ i = .int .i64 k ∧ Below wo.heap.size wo wr ∧ wr.ownsRow wo.heap.size 3 1 v (ownL bt k).length ((ownL bt k).map (Value.int .i64))) (fun v i _ _ _ _ _ _ _ _ _ _ _ _ _ _ _ => n - (intOf i).toNat)
  case atStart => exact ⟨0, Nat.zero_le _, rfl, bz _, World.ownsRow_nil _ _ _ _⟩
  case round =>
    obtain ⟨k, hk, rfl, hB, hO⟩ := hrel
    have HST := Lib.hid (ownL_succ bt k)
    have hll := ownL_len bt k
    have gR0 : wr.cell? ⟨w.heap.size, 0, none⟩ = some (.int .i64 n) := (hB.cell (p := ⟨w.heap.size, 0, none⟩) zR).trans GR0.out
    have zR2 := Nat.lt_of_lt_of_le zR hB.size
    have HO1 := Lib.hid hO; have HB := Lib.hid hB; clear hO hB
    by_cases hkn : k < n
    · have hkn2 : (k : Int) < (n : Int) := by omega
      go_wp2_with (at_builtin; refine wpList_append_num rfl _ _ rfl Try.underlying34 num3 HO1.out _ rfl rfl (by omega) HB.out.size ?_)
      intro v' w' hown' hgrow
      have hB8 := append_below (bal HB.out _) (HO1.out.alloc _) hgrow (Nat.le_refl _)
      have HP := Lib.hid hown'; have HB8 := Lib.hid hB8
      clear hown' hgrow hB8
      go_wp2
      refine ⟨⟨k + 1, by omega, by go_num, HB8.out, ?_⟩, by simp [intOf]; omega⟩
      have := HP.out
      rw [i64_and1, own_bit] at this
      rw [HST.out, List.length_append, List.map_append, hll]
      exact this
    · have hkE : n = k := by omega
      subst hkE
      have hO := RdI.of_owns (n := _) HO1.out
      have HOB := Lib.hid (ownL_bits bt n)
      clear hll HST
      generalize ownL bt n = O at *
      obtain ⟨aO, cO, hv⟩ := hO.ex n hol
      subst hv
      have KP3 := Lib.hid ((KP2.out.up (btr (bz wo) HB.out)).and (keepI hO))
      clear KP2
      clear hO HO1 HB gR0
      have hall := KP3.out.here
      have hR1 := hall.2.1
      have hR0 := hall.2.2.1
      clear hall
      have zR := World.block_lt_of_cell? _ _ hR0
      simp only at zR
      go_wp2
      clear hR1 hR0 zR
      refine wp_region_flow [] [([0, 2, 3], 1, true), ([], 4, true)] [5, 6] (by kernel_rfl) (by kernel_rfl) ?_
      intro w2 hB hh
      clear hh
      have KP4 := Lib.hid ((KP3.out.up (btr (bz wr) hB)).and (keepB (bz w2)))
      clear KP3
      clear hB
      have hall := KP4.out.here
      have hR1 := hall.2.2.1
      have hR0 := hall.2.2.2.1
      clear hall
      have zR := World.block_lt_of_cell? _ _ hR0
      simp only at zR
      have hL := @Later.cell w2
      simp only [flowP, flow, pickL, List.getElem?_cons_succ, List.getElem?_cons_zero]
      refine wpQuiet_nil ?_
      repeat (go_big_quiet_step (fail))
      refine wpQuiet_nil ?_
      go_wp2_with fail
      have hall := KP4.out.here
      have gr := hall.2.2.2.2.2.1
      clear hall
      refine (sorts_k n _ V c1 _ gr HF.out HC1.out).mono ?_
      rintro e w3 ⟨rfl, hB⟩
      have KP5 := Lib.hid (KP4.out.up (btr (bz w2) hB))
      clear KP4
      clear hB
      clear gr
      go_wp2
      have hall := KP5.out.here
      have gSw2 := hall.1
      clear hall
      refine seg_grow ⟨⟨_, gSw2⟩, rfl⟩ ?_
      clear gSw2
      repeat (go_big_quiet_step (fail))
      refine wpQuiet_nil ?_
      go_wp2_with fail
      have hall := KP5.out.here
      have gO := hall.2.1
      have gr := hall.2.2.2.2.2.1
      clear hall
      refine (chkpat_k n _ _ V O c2 _ gr gO HF.out (by omega) HC2.out).mono ?_
      rintro e w4 ⟨rfl, hB⟩
      have KP6 := Lib.hid (KP5.out.up (btr (bz w3) hB))
      clear KP5
      clear hB
      clear gO gr
      go_wp2
      have hall := KP6.out.here
      have gSw2 := hall.1
      clear hall
      refine seg_grow ⟨⟨_, gSw2⟩, rfl⟩ ?_
      clear gSw2
      repeat (go_big_quiet_step (fail))
      refine wpQuiet_nil ?_
      refine only_done ?_
      clear hR1 hR0 zR hL
      have hall := KP6.out.here
      have hR1 := hall.2.2.1
      have hR0 := hall.2.2.2.1
      clear hall
      have zR := World.block_lt_of_cell? _ _ hR0
      simp only at zR
      go_wp2_with fail
      clear hR1 hR0 zR
      have hall := KP6.out.here
      have gr := hall.2.2.2.2.2.1
      clear hall
      refine (pattern_k n _ V c3 Q _ gr HF.out HC3.out HQ.out).mono ?_
      rintro e w5 ⟨v, rfl, hRQ, hB⟩
      obtain ⟨aQ, cQ, hv⟩ := hRQ.ex _ rfl
      subst hv
      have KP7 := Lib.hid ((KP6.out.up (btr (bz w4) hB)).and (keepI hRQ))
      clear KP6
      clear hRQ hB
      clear gr
      have hall := KP7.out.here
      have hR1 := hall.2.2.2.1
      have hR0 := hall.2.2.2.2.1
      clear hall
      have zR := World.block_lt_of_cell? _ _ hR0
      simp only at zR
      go_wp2
      clear hR1 hR0 zR
      refine wp_region_flow [] [([0, 1, 2, 3], 4, true), ([], 5, true)] [6, 7, 9, 8, 10] (by kernel_rfl) (by kernel_rfl) ?_
      intro w6 hB hh
      clear hh
      have KP8 := Lib.hid ((KP7.out.up (btr (bz w5) hB)).and (keepB (bz w6)))
      clear KP7
      clear hB
      have hall := KP8.out.here
      have hR1 := hall.2.2.2.2.1
      have hR0 := hall.2.2.2.2.2.1
      clear hall
      have zR := World.block_lt_of_cell? _ _ hR0
      simp only at zR
      have hL := @Later.cell w6
      simp only [flowP, flow, pickL, List.getElem?_cons_succ, List.getElem?_cons_zero]
      refine wpQuiet_nil ?_
      repeat (go_big_quiet_step (fail))
      refine wpQuiet_nil ?_
      go_wp2_with fail
      have hall := KP8.out.here
      have gy := hall.2.2.2.2.2.2.1
      clear hall
      refine (filled_any n _ q _ gy HW.out h8 (by omega)).mono ?_
      rintro e w7 ⟨v, rfl, hRF, hB⟩
      obtain ⟨aF, cF, hv⟩ := hRF.ex n hfl
      subst hv
      have KP9 := Lib.hid ((KP8.out.up (btr (bz w6) hB)).and (keepI hRF))
      clear KP8
      clear hRF hB
      clear gy
      go_wp2
      have hall := KP9.out.here
      have gSw6 := hall.2.1
      clear hall
      refine seg_grow ⟨⟨_, gSw6⟩, rfl⟩ ?_
      clear gSw6
      repeat (go_big_quiet_step (fail))
      refine wpQuiet_nil ?_
      go_wp2_with fail
      have hall := KP9.out.here
      have gF := hall.1
      have gr := hall.2.2.2.2.2.2.2.2.1
      clear hall
      refine (ran_ok n _ _ V (filL q n) _ gr gF HV.out hfl).mono ?_
      rintro e w8 ⟨v, rfl, hRX, hB⟩
      obtain ⟨aX, cX, hv⟩ := hRX.ex n hlr
      subst hv
      have KP10 := Lib.hid ((KP9.out.up (btr (bz w7) hB)).and (keepI hRX))
      clear KP9
      clear hRX hB
      clear gF gr
      go_wp2
      have hall := KP10.out.here
      have gSw6 := hall.2.2.1
      clear hall
      refine seg_grow ⟨⟨_, gSw6⟩, rfl⟩ ?_
      clear gSw6
      repeat (go_big_quiet_step (fail))
      refine wpQuiet_nil ?_
      refine only_done ?_
      clear hR1 hR0 zR hL
      rcases HD1.out with ⟨rfl, rfl, rfl, hP⟩ | ⟨rfl, rfl, t, hQt, hP⟩
      · have HSRT := Lib.hid (sorts_all HO.out hP (filL q n) hfl)
        obtain rfl : c2 = 5 := by
          rcases HD2.out with h | h
          · exact h.1
          · have := sorts_all HO.out hP O hol
            rw [h.2] at this; cases this
        clear hP
        have hall := KP10.out.here
        have hR1 := hall.2.2.2.2.2.2.1
        have hR0 := hall.2.2.2.2.2.2.2.1
        clear hall
        have zR := World.block_lt_of_cell? _ _ hR0
        simp only at zR
        go_wp2_with fail
        clear hR1 hR0 zR
        have hall := KP10.out.here
        have gX := hall.1
        clear hall
        refine (sorted_k _ (runV V (filL q n)) _ gX (by omega) HSRT.out).mono ?_
        rintro e w9 ⟨rfl, hB⟩
        have KP11 := Lib.hid (KP10.out.up (btr (bz w8) hB))
        clear KP10
        clear hB
        clear gX
        have hall := KP11.out.here
        have hR1 := hall.2.2.2.2.2.2.1
        have hR0 := hall.2.2.2.2.2.2.2.1
        clear hall
        have zR := World.block_lt_of_cell? _ _ hR0
        simp only at zR
        go_wp2_with fail
        clear hR1 hR0 zR
        refine (works_any _).mono ?_
        rintro e w10 ⟨rfl, hB⟩
        have KP12 := Lib.hid (KP11.out.up (btr (bz w9) hB))
        clear KP11
        clear hB
        have hall := KP12.out.here
        have gBelow := hall.2.2.2.2.2.2.2.2.2.2
        clear hall
        go_wp2
        go_ret
        exact ⟨rfl, gBelow⟩
      · have HQL : Hid (Q.length = n) := Lib.hid (by rw [hQt]; exact bitsOf_len n t)
        have HR0 : Hid (rchkE n V Q = 0) := Lib.hid (by rw [hQt, rchk_bits HF.out (bitsOf_len n t) (bitsOf_bits n t), (patOf_some hP).2.1]; rfl)
        have HPFI : Hid (sortedB (runV V O) = false → ∀ i, i < n → (∀ j, j < i → O[j]?.getD 0 = Q[j]?.getD 0) → O[i]?.getD 0 ≠ Q[i]?.getD 0 → Q[i]?.getD 0 < O[i]?.getD 0) := Lib.hid (fun hs i hi he hne => by
          rw [hQt] at he hne ⊢; exact pat_first h8 hP hol HOB.out hs i hi he hne)
        clear hP hQt
        rcases HD2.out with ⟨rfl, hs⟩ | ⟨rfl, hs⟩
        · have HOS := Lib.hid hs
          clear hs
          have hall := KP10.out.here
          have hR1 := hall.2.2.2.2.2.2.1
          have hR0 := hall.2.2.2.2.2.2.2.1
          clear hall
          have zR := World.block_lt_of_cell? _ _ hR0
          simp only at zR
          go_wp2_with fail
          clear hR1 hR0 zR
          have hall := KP10.out.here
          have gQ := hall.2.2.2.1
          have gr := hall.2.2.2.2.2.2.2.2.2.1
          clear hall
          refine (chkpat_k n _ _ V Q 0 _ gr gQ HF.out (by have := HQL.out; omega) HR0.out).mono ?_
          rintro e w9 ⟨rfl, hB⟩
          have KP11 := Lib.hid (KP10.out.up (btr (bz w8) hB))
          clear KP10
          clear hB
          clear gQ gr
          have hall := KP11.out.here
          have hR1 := hall.2.2.2.2.2.2.1
          have hR0 := hall.2.2.2.2.2.2.2.1
          clear hall
          have zR := World.block_lt_of_cell? _ _ hR0
          simp only at zR
          go_wp2_with fail
          clear hR1 hR0 zR
          have hall := KP11.out.here
          have gQ := hall.2.2.2.1
          have gr := hall.2.2.2.2.2.2.2.2.2.1
          clear hall
          refine (rchkpat_k n _ _ V Q 0 _ gr gQ HF.out (by have := HQL.out; omega) HR0.out).mono ?_
          rintro e w10 ⟨rfl, hB⟩
          have KP12 := Lib.hid (KP11.out.up (btr (bz w9) hB))
          clear KP11
          clear hB
          clear gQ gr
          have hall := KP12.out.here
          have hR1 := hall.2.2.2.2.2.2.1
          have hR0 := hall.2.2.2.2.2.2.2.1
          clear hall
          have zR := World.block_lt_of_cell? _ _ hR0
          simp only at zR
          go_wp2
          clear hR1 hR0 zR
          go_loopw [15, 106, 107, 108, 109, 110, 111, 112, 113, 114, 115, 116, 117, 118, 119, 120, 121, 122, 123, 124, 125, 126, 127, 128, 129, 130, 131, 132, 133, 134, 135, 136] (fun i _ _ _ _ _ _ _ _ _ _ _ _ _ _ _ _ _ _ _ _ _ _ _ _ _ _ _ _ _ _ _ wr => i = .int .i64 0 ∧ Below w10.heap.size w10 wr) (fun i _ _ _ _ _ _ _ _ _ _ _ _ _ _ _ _ _ _ _ _ _ _ _ _ _ _ _ _ _ _ _ _ => 0)
          case atStart => exact ⟨rfl, bz _⟩
          case round =>
            obtain ⟨rfl, hB⟩ := hrel
            have KP13 := Lib.hid (KP12.out.up (btr (bz w10) hB))
            clear KP12
            clear hB
            have hall := KP13.out.here
            have hR1 := hall.2.2.2.2.2.2.1
            have hR0 := hall.2.2.2.2.2.2.2.1
            clear hall
            have zR := World.block_lt_of_cell? _ _ hR0
            simp only at zR
            go_wp2_with fail
            clear hR1 hR0 zR
            refine (works_any _).mono ?_
            rintro e w11 ⟨rfl, hB⟩
            have KP14 := Lib.hid (KP13.out.up (btr (bz wr) hB))
            clear KP13
            clear hB
            have hall := KP14.out.here
            have gBelow := hall.2.2.2.2.2.2.2.2.2.2
            clear hall
            go_wp2
            go_ret
            exact ⟨rfl, gBelow⟩
        · have HOS := Lib.hid hs
          clear hs
          have hall := KP10.out.here
          have hR1 := hall.2.2.2.2.2.2.1
          have hR0 := hall.2.2.2.2.2.2.2.1
          clear hall
          have zR := World.block_lt_of_cell? _ _ hR0
          simp only at zR
          go_wp2_with fail
          clear hR1 hR0 zR
          have hall := KP10.out.here
          have gQ := hall.2.2.2.1
          have gr := hall.2.2.2.2.2.2.2.2.2.1
          clear hall
          refine (chkpat_k n _ _ V Q 0 _ gr gQ HF.out (by have := HQL.out; omega) HR0.out).mono ?_
          rintro e w9 ⟨rfl, hB⟩
          have KP11 := Lib.hid (KP10.out.up (btr (bz w8) hB))
          clear KP10
          clear hB
          clear gQ gr
          have hall := KP11.out.here
          have hR1 := hall.2.2.2.2.2.2.1
          have hR0 := hall.2.2.2.2.2.2.2.1
          clear hall
          have zR := World.block_lt_of_cell? _ _ hR0
          simp only at zR
          go_wp2_with fail
          clear hR1 hR0 zR
          have hall := KP11.out.here
          have gQ := hall.2.2.2.1
          have gr := hall.2.2.2.2.2.2.2.2.2.1
          clear hall
          refine (rchkpat_k n _ _ V Q 0 _ gr gQ HF.out (by have := HQL.out; omega) HR0.out).mono ?_
          rintro e w10 ⟨rfl, hB⟩
          have KP12 := Lib.hid (KP11.out.up (btr (bz w9) hB))
          clear KP11
          clear hB
          clear gQ gr
          have hall := KP12.out.here
          have hR1 := hall.2.2.2.2.2.2.1
          have hR0 := hall.2.2.2.2.2.2.2.1
          clear hall
          have zR := World.block_lt_of_cell? _ _ hR0
          simp only at zR
          go_wp2
          clear hR1 hR0 zR
          have hall := KP12.out.here
          have gQ := hall.2.2.2.1
          have gO := hall.2.2.2.2.2.1
          have gR0 := hall.2.2.2.2.2.2.2.1
          clear hall
          obtain ⟨al, cl, hel, hcl, hml, hxl⟩ := gO.form
          rw [hol] at hel
          simp only [Value.slice.injEq, true_and] at hel
          obtain ⟨rfl, rfl⟩ := hel
          obtain ⟨ar, cr, her, hcr, hmr, hxr⟩ := gQ.form
          simp only [Value.slice.injEq, true_and] at her
          obtain ⟨rfl, rfl⟩ := her
          have zR := World.block_lt_of_cell? _ _ gR0
          simp only at zR
          clear hcl hml hcr hmr
          have HXO := Lib.hid hxl; have HXQ := Lib.hid hxr
          clear hxl hxr gO gQ gR0
          go_loopw [15, 106, 107, 108, 109, 110, 111, 112, 113, 114, 115, 116, 117, 118, 119, 120, 121, 122, 123, 124, 125, 126, 127, 128, 129, 130, 131, 132, 133, 134, 135, 136] (fun i _ _ _ _ _ _ _ _ _ _ _ _ _ _ _ _ _ _ _ _ _ _ _ _ _ _ _ _ _ _ _ wr => ∃ k : Nat, k ≤ n ∧ i = .int .i64 k ∧ Below w10.heap.size w10 wr ∧ ∀ j, j < k → O[j]?.getD 0 = Q[j]?.getD 0) (fun i _ _ _ _ _ _ _ _ _ _ _ _ _ _ _ _ _ _ _ _ _ _ _ _ _ _ _ _ _ _ _ _ => n - (intOf i).toNat)
          case atStart => exact ⟨0, Nat.zero_le _, rfl, bz _, fun j h => by omega⟩
          case round =>
            obtain ⟨k, hk, rfl, hB, hj⟩ := hrel
            have HJ := Lib.hid hj; clear hj
            by_cases hkn : k < n
            · have hkE : (k : Int) < (n : Int) := by omega
              have hkQ : (k : Int) < (Q.length : Int) := by have := HQL.out; omega
              have hkQ2 : k < Q.length := by have := HQL.out; omega
              obtain ⟨bo, oo, rfl, hbo, hco⟩ := HXO.out (by omega)
              obtain ⟨bq, oq, rfl, hbq, hcq⟩ := HXQ.out (by have := HQL.out; omega)
              have HPF := Lib.hid (HPFI.out HOS.out k hkn HJ.out)
              have go := hco k (by omega)
              have gq := hcq k hkQ2
              clear hco hcq
              have HBk := Lib.hid hB
              generalize huo : O[k]?.getD 0 = uo at *
              generalize huq : Q[k]?.getD 0 = uq at *
              have HUO := Lib.hid huo; have HUQ := Lib.hid huq
              clear huo huq
              have KP13 := Lib.hid (((((KP12.out.up (bz w10)).and (keepC go)).and (keepZ hbo)).and (keepC gq)).and (keepZ hbq))
              clear KP12
              clear go gq hbo hbq
              have KP14 := Lib.hid ((KP13.out.up (btr (bz w10) hB)).and (keepB hB))
              clear KP13
              clear hB
              by_cases hu : uo = uq
              · have hub : (uo != uq) = false := by simpa using hu
                have hall := KP14.out.here
                have hR1 := hall.2.2.2.2.2.2.2.2.2.2.2.1
                have hR0 := hall.2.2.2.2.2.2.2.2.2.2.2.2.1
                clear hall
                have zR := World.block_lt_of_cell? _ _ hR0
                simp only at zR
                go_wp2
                clear hR1 hR0 zR
                refine wp_region_flow [] [] [0, 1, 2, 3, 4, 5, 6, 7, 8] (by kernel_rfl) (by kernel_rfl) ?_
                intro w11 hB hh
                clear hh
                have KP15 := Lib.hid ((KP14.out.up (btr (bz wr) hB)).and (keepB (bz w11)))
                clear KP14
                clear hB
                have hall := KP15.out.here
                have hR1 := hall.2.2.2.2.2.2.2.2.2.2.2.2.1
                have hR0 := hall.2.2.2.2.2.2.2.2.2.2.2.2.2.1
                clear hall
                have zR := World.block_lt_of_cell? _ _ hR0
                simp only at zR
                have hall := KP15.out.here
                have kzq := hall.2.2.1
                have kcq := hall.2.2.2.1
                have kzo := hall.2.2.2.2.1
                have kco := hall.2.2.2.2.2.1
                clear hall
                have hL := @Later.cell w11
                simp only [flowP, flow, pickL, List.getElem?_cons_succ, List.getElem?_cons_zero]
                refine wpQuiet_nil ?_
                repeat (go_big_quiet_step (fail))
                refine wpQuiet_nil ?_
                refine only_done ?_
                clear hR1 hR0 zR kzq kcq kzo kco hL
                have hall := KP15.out.here
                have gB2 := hall.2.1
                clear hall
                go_wp2
                refine ⟨⟨k + 1, by omega, by go_num, gB2, fun j hj => ?_⟩, by simp [intOf]; omega⟩
                by_cases hjk : j = k
                · subst hjk; rw [HUO.out, HUQ.out, hu]
                · exact HJ.out j (by omega)
              · have hub : (uo != uq) = true := by simpa using hu
                have hgt : uq < uo := HPF.out hu
                have hall := KP14.out.here
                have hR1 := hall.2.2.2.2.2.2.2.2.2.2.2.1
                have hR0 := hall.2.2.2.2.2.2.2.2.2.2.2.2.1
                clear hall
                have zR := World.block_lt_of_cell? _ _ hR0
                simp only at zR
                go_wp2
                clear hR1 hR0 zR
                refine wp_region_flow [] [] [0, 1, 2, 3, 4, 5, 6, 7, 8] (by kernel_rfl) (by kernel_rfl) ?_
                intro w11 hB hh
                clear hh
                have KP15 := Lib.hid ((KP14.out.up (btr (bz wr) hB)).and (keepB (bz w11)))
                clear KP14
                clear hB
                have hall := KP15.out.here
                have hR1 := hall.2.2.2.2.2.2.2.2.2.2.2.2.1
                have hR0 := hall.2.2.2.2.2.2.2.2.2.2.2.2.2.1
                clear hall
                have zR := World.block_lt_of_cell? _ _ hR0
                simp only at zR
                have hall := KP15.out.here
                have kzq := hall.2.2.1
                have kcq := hall.2.2.2.1
                have kzo := hall.2.2.2.2.1
                have kco := hall.2.2.2.2.2.1
                clear hall
                have hL := @Later.cell w11
                simp only [flowP, flow, pickL, List.getElem?_cons_succ, List.getElem?_cons_zero]
                refine wpQuiet_nil ?_
                repeat (go_big_quiet_step (fail))
                refine wpQuiet_nil ?_
                refine only_done ?_
                clear hR1 hR0 zR kzq kcq kzo kco hL
                have hall := KP15.out.here
                have hR1 := hall.2.2.2.2.2.2.2.2.2.2.2.2.1
                have hR0 := hall.2.2.2.2.2.2.2.2.2.2.2.2.2.1
                clear hall
                have zR := World.block_lt_of_cell? _ _ hR0
                simp only at zR
                go_wp2
                clear hR1 hR0 zR
                refine wp_region_flow [] [([0, 1, 2, 3, 4, 5, 6, 7, 8, 9], 10, true)] [11, 12] (by kernel_rfl) (by kernel_rfl) ?_
                intro w12 hB hh
                clear hh
                have KP16 := Lib.hid ((KP15.out.up (btr (bz w11) hB)).and (keepB (bz w12)))
                clear KP15
                clear hB
                have hall := KP16.out.here
                have hR1 := hall.2.2.2.2.2.2.2.2.2.2.2.2.2.1
                have hR0 := hall.2.2.2.2.2.2.2.2.2.2.2.2.2.2.1
                clear hall
                have zR := World.block_lt_of_cell? _ _ hR0
                simp only at zR
                have hall := KP16.out.here
                have kzq := hall.2.2.2.1
                have kcq := hall.2.2.2.2.1
                have kzo := hall.2.2.2.2.2.1
                have kco := hall.2.2.2.2.2.2.1
                clear hall
                have hL := @Later.cell w12
                simp only [flowP, flow, pickL, List.getElem?_cons_succ, List.getElem?_cons_zero]
                refine wpQuiet_nil ?_
                repeat (go_big_quiet_step (fail))
                refine wpQuiet_nil ?_
                go_wp2_with fail
                refine (works_any _).mono ?_
                rintro e w13 ⟨rfl, hB⟩
                have KP17 := Lib.hid (KP16.out.up (btr (bz w12) hB))
                clear KP16
                clear hB
                go_wp2
                have hall := KP17.out.here
                have gSw12 := hall.1
                clear hall
                refine seg_grow ⟨⟨_, gSw12⟩, rfl⟩ ?_
                clear gSw12
                repeat (go_big_quiet_step (fail))
                refine wpQuiet_nil ?_
                refine only_done ?_
                clear hR1 hR0 zR kzq kcq kzo kco hL
                have hall := KP17.out.here
                have gBelow := hall.2.2.2.2.2.2.2.2.2.2.2.2.2.2.2.2.2
                clear hall
                go_wp2
                go_ret
                exact ⟨rfl, gBelow⟩
            · have hkE : ¬ ((k : Int) < (n : Int)) := by omega
              have KP13 := Lib.hid (KP12.out.up (btr (bz w10) hB))
              clear KP12
              clear hB
              have hall := KP13.out.here
              have hR1 := hall.2.2.2.2.2.2.1
              have hR0 := hall.2.2.2.2.2.2.2.1
              clear hall
              have zR := World.block_lt_of_cell? _ _ hR0
              simp only at zR
              go_wp2_with fail
              clear hR1 hR0 zR
              refine (works_any _).mono ?_
              rintro e w11 ⟨rfl, hB⟩
              have KP14 := Lib.hid (KP13.out.up (btr (bz wr) hB))
              clear KP13
              clear hB
              have hall := KP14.out.here
              have gBelow := hall.2.2.2.2.2.2.2.2.2.2
              clear hall
              go_wp2
              go_ret
              exact ⟨rfl, gBelow⟩
section
open Go.ChangeShapes Go.WideShapes Go.ChangeAt
set_option maxRecDepth 100000 in
theorem valveEither_lifted (os : Os) (started : os.Started) (H : Type) (enc : TypeId × Value → H) :
    ReturnsInHanded {} Try.checked os 7 .any (Rows.valveEitherSpec.pre6 enc Try.prog Try.f7 Rows.valveEitherRow.domain false) (Rows.valveEitherSpec.post enc Try.prog Try.f7 false true false false) := by
  refine returnsInHanded_of_change (C := Try.checked) Try.own started (by kernel_rfl) Try.func7
    (ChangeSpec.witness6 (enc := enc) (C := Try.checked) false ⟨#[], #[.agg #[.int .i64 0, .slice none 0 0], .slice none 0 0, .int .u8 0], []⟩ 8 (by kernel_rfl) (by kernel_rfl) (by kernel_rfl) (by kernel_rfl)) ?_
  intro W base args ds gs before hval0 hW _ _
  have hval : ∀ (j : Nat) t v, Try.f7.params[j]? = some t → args[j]? = some v → Value.okWide Try.prog W .any base t v := hval0
  have hW' := hW
  obtain ⟨p, q, hA0, hV, rfl, hfz, hnd⟩ := hW
  have hA : DataW.TrodAll enc Try.prog W 0 (fun _ => true) true Try.f7.params.toList args.toList ds p := hA0
  have hA2 := hA
  have hlt : ∀ x ∈ p, x.block < W.heap.size := fun x hx => hW'.lt x (List.mem_append_left _ hx)
  rw [Try.params7] at hA hval
  obtain ⟨v0, vs0, d0, ds0, p0, q0, hargs, rfl, rfl, h0, r0⟩ := trodAll_cons hA
  obtain ⟨v1, vs1, d1, ds1, p1, q1, rfl, rfl, rfl, h1, r1⟩ := trodAll_cons r0
  obtain ⟨v2, vs2, d2, ds2, p2, q2, rfl, rfl, rfl, h2, r2⟩ := trodAll_cons r1
  obtain ⟨rfl, rfl, rfl⟩ := trodAll_nil r2
  obtain rfl : args = #[v0, v1, v2] := by cases args; simp_all
  obtain ⟨rfl, rfl⟩ := trodVars_none hV
  obtain ⟨a0, x0, V0, rfl, hx0⟩ := open_row (hval 0 24 v0 rfl rfl) h0 (fun x hx => hlt x (by simp [hx]))
  obtain ⟨X1, hx1, hw1⟩ := open_ints_rd Try.underlying49 Try.underlying55 (by kernel_rfl) (hval 1 49 v1 rfl rfl) h1 (fun x hx => hlt x (by simp [hx]))
  obtain ⟨a2, rfl, rfl, rfl, w2⟩ := open_int Try.underlying5 (hval 2 5 v2 rfl rfl) h2
  clear hA0 hval0
  simp only [List.append_nil] at hW' hA2
  refine (either_walk a0 x0 v1 V0 X1 W hx0 hx1 (fun v hv => wf16 (hw1 v hv)) a2 (wf8 w2).1 (wf8 w2).2).mono fun e W' ⟨he, hb⟩ => ?_
  subst he
  exact ⟨_, rfl, law_post Try.laidOut Try.underlying4 hW' hA2 rfl rfl rfl rfl rfl (by kernel_rfl) hb⟩
theorem valveEither_holds : Rows.ValveEitherSaid :=
  OpenClaim.holds_of_wide 7 Try.f7 rfl rfl rfl rfl rfl rfl rfl ⟨rfl, rfl, rfl, rfl, rfl⟩ rfl rfl rfl rfl rfl (by kernel_rfl) Try.func7 (by kernel_rfl)
    (of_decide_eq_true (by kernel_rfl)) (by unfold Func.isWrapper; first | (rw [if_pos (by decide +kernel)]; kernel_rfl) | (rw [if_neg (by decide +kernel)]; exact ⟨rfl, rfl⟩))
    (fun os started H enc _ => valveEither_lifted os started H enc)
end
end Go.Proofs.Ytdnaipiiponhpaa
