/- ValveMade holds; no condition. -/
import Derived.Test.YtdnaipiiponhpaaH1
import Derived.Test.YtdnaipiiponhpaaGF
namespace Go.Proofs.Ytdnaipiiponhpaa
open Go.RowKit Go.Shelf

theorem sorts_r2 (p : Int) (x : Value) (V : List (Int × Int)) (w : World) (hx : RdP w x V) (hl : V.length ≤ 1000) :
    Calls Try.prog 27 #[.agg #[.int .i64 p, x]] w fun e w' => e = .returned (.int .i64 (rsortsE p V)) ∧ Below w.heap.size w w' := by
  have := sorts_any p x V w hx hl; rwa [sortsE_eq] at this
theorem rounds_r2 (p : Int) (x : Value) (V : List (Int × Int)) (w : World) (hx : RdP w x V) (hl : V.length ≤ 1000) :
    Calls Try.prog 36 #[.agg #[.int .i64 p, x]] w fun e w' => ∃ v, e = .returned (.tuple #[v, .int .i64 (checkR p V)]) ∧ RdI w' .i64 v (rrR p V) ∧ Below w.heap.size w w' := by
  have := rounds_any p x V w hx hl; rwa [roundsL_eq] at this
theorem bricks_ok (n : Nat) (h1 : 1 ≤ n) (h8 : n ≤ 8) (B : List (Int × Int)) (hB : bricksK n n = B) (w : World) : Calls Try.prog 43 #[.int .i64 n] w fun e w' => ∃ v, e = .returned (.tuple #[.agg #[.int .i64 n, v], .int .i64 0]) ∧ RdP w' v B ∧ Below w.heap.size w w' := by
  subst hB
  have := bricks_any n w
  unfold bricksP bricksE bricksL at this
  rw [if_neg (by omega), if_neg (by omega), if_neg (by omega), show ((n : Nat) : Int).toNat = n by omega] at this
  exact this
theorem merge_ok (n : Nat) (h1 : 1 ≤ n) (h8 : n ≤ 8) (B : List (Int × Int)) (hB : mergeN n = B) (w : World) : Calls Try.prog 45 #[.int .i64 n] w fun e w' => ∃ v, e = .returned (.tuple #[.agg #[.int .i64 n, v], .int .i64 0]) ∧ RdP w' v B ∧ Below w.heap.size w w' := by
  subst hB
  have := merge_any n w
  unfold bricksP bricksE mergeL at this
  rw [if_neg (by omega), if_neg (by omega), if_neg (by omega), show ((n : Nat) : Int).toNat = n by omega] at this
  exact this
theorem sorts_zero (n : Nat) (x : Value) (V : List (Int × Int)) (w : World) (hx : RdP w x V) (h : checkR n V = 0) (hn : patOf n V = none) : Calls Try.prog 27 #[.agg #[.int .i64 n, x]] w fun e w' => e = .returned (.int .i64 0) ∧ Below w.heap.size w w' := by
  have h40 := (okRow_of h).len
  have := sorts_r2 n x V w hx (by omega)
  unfold rsortsE at this
  rw [if_neg (by simpa using h), show ((n : Nat) : Int).toNat = n by omega, hn] at this
  exact this
theorem rounds_ok (n : Nat) (x : Value) (V : List (Int × Int)) (w : World) (hx : RdP w x V) (h : checkR n V = 0) : Calls Try.prog 36 #[.agg #[.int .i64 n, x]] w fun e w' => ∃ v, e = .returned (.tuple #[v, .int .i64 0]) ∧ RdI w' .i64 v (rrL V V.length) ∧ Below w.heap.size w w' := by
  have h40 := (okRow_of h).len
  have := rounds_r2 n x V w hx (by omega)
  unfold rrR at this
  rw [if_pos h, h] at this
  exact this
theorem sorted_yes (x : Value) (xs : List Int) (w : World) (hx : RdI w .i64 x xs) (hl : xs.length ≤ 1000) (hs : sortedB xs = true) : Calls Try.prog 50 #[x] w fun e w' => e = .returned (.bool true) ∧ Below w.heap.size w w' := by
  have := sorted_any x xs w hx hl
  rwa [hs] at this
theorem made_same : ∀ n : Nat, 1 ≤ n → n ≤ 8 → ∀ t, t < 2 ^ n → runV (bricksK n n) (bitsOf n t) = runV (mergeN n) (bitsOf n t) := by
  have : ∀ n : Fin 9, 1 ≤ n.val → ((List.range (2 ^ n.val)).all fun t => decide (runV (bricksK n n) (bitsOf n t) = runV (mergeN n) (bitsOf n t))) = true := by decide +kernel
  intro n h1 h8 t ht
  have := List.all_eq_true.1 (this ⟨n, by omega⟩ h1) t (List.mem_range.2 ht)
  simpa using this

set_option maxRecDepth 100000 in
set_option maxHeartbeats 8000000 in
theorem made_walk (pl : Int) (y : Value) (q : List Int) (w : World) (hp0 : 0 ≤ pl) (hp1 : pl ≤ 255) (hy : RdI w .i16 y q) (hw : ∀ v ∈ q, -32768 ≤ v ∧ v ≤ 32767) :
    Calls Try.prog 12 #[.int .u8 pl, y] w fun e w' => e = .returned (.bool true) ∧ Below w.heap.size w w' := by
  obtain ⟨b, d, rfl⟩ := hy.ex _ rfl
  have HW := Lib.hid hw; clear hw
  by_cases hq : 20 < q.length
  · have hq2 : (20 : Int) < (q.length : Int) := by omega
    have KP0 := Lib.hid (keepB (bz w))
    go_enter Try.func12, Try.ntmps12
    have hall := KP0.out.here
    clear hall
    go_wp2_with fail
    refine (works_any _).mono ?_
    rintro e w1 ⟨rfl, hB⟩
    have KP1 := Lib.hid (KP0.out.up (btr (bz w) hB))
    clear KP0
    clear hB
    have hall := KP1.out.here
    have gBelow := hall
    clear hall
    go_wp2
    go_ret
    exact ⟨rfl, gBelow⟩
  · have hq2 : ¬ ((20 : Int) < (q.length : Int)) := by omega
    obtain ⟨n, hn⟩ : ∃ n : Nat, (n : Int) = 1 + pl % 8 := ⟨(1 + pl % 8).toNat, by omega⟩
    have h1 : 1 ≤ n := by omega
    have h8 : n ≤ 8 := by omega
    have hn' : 1 + pl % 8 = (n : Int) := hn.symm
    obtain ⟨hc1, hc2, hle, hs1, hs2, hr⟩ := made_ok n h1 h8
    have HC1 := Lib.hid hc1; have HC2 := Lib.hid hc2; have HS1 := Lib.hid hs1; have HS2 := Lib.hid hs2; have HR := Lib.hid hr
    have hB40 := (okRow_of hc1).len; have hM40 := (okRow_of hc2).len
    have hgt : ¬ (((bricksK n n).length : Int) < ((mergeN n).length : Int)) := by omega
    have HO1 := Lib.hid (show OkV n (bricksK n n) from by have := OkV.of (okRow_of hc1); simpa using this)
    have HO2 := Lib.hid (show OkV n (mergeN n) from by have := OkV.of (okRow_of hc2); simpa using this)
    have HV1 := Lib.hid (okRow_of hc1); have HV2 := Lib.hid (okRow_of hc2)
    have hfl := filL_len q n
    have HSAME := Lib.hid (eq_one HO1.out HO2.out (made_same n h1 h8) (filL q n) hfl)
    have HSRT := Lib.hid (sorts_all HO1.out hs1 (filL q n) hfl)
    have hlr : (runV (bricksK n n) (filL q n)).length = n := by rw [runV_length]; exact hfl
    have hrl := rrL_len (bricksK n n) (bricksK n n).length
    have HRB : Hid (∀ j : Nat, (rrL (bricksK n n) (bricksK n n).length)[j]?.getD 0 ≤ (n : Int)) := Lib.hid fun j => by
      rcases Nat.lt_or_ge j (rrL (bricksK n n) (bricksK n n).length).length with h | h
      · rw [List.getElem?_eq_getElem h]; have := List.all_eq_true.1 HR.out _ (List.getElem_mem h); simpa using this
      · rw [List.getElem?_eq_none h]; simp
    clear hc1 hc2 hle hs1 hs2 hr hn
    generalize hBK : bricksK n n = B at *
    generalize hMK : mergeN n = M at *
    have HBK := Lib.hid hBK; have HMK := Lib.hid hMK
    clear hBK hMK
    have KP0 := Lib.hid ((keepB (bz w)).and (keepI hy))
    clear hy
    go_enter Try.func12, Try.ntmps12
    have hall := KP0.out.here
    clear hall
    go_wp2_with fail
    refine (bricks_ok n h1 h8 B HBK.out _).mono ?_
    rintro e w1 ⟨v, rfl, hRB, hB⟩
    obtain ⟨aB, cB, hv⟩ := hRB.ex (B.length) rfl
    subst hv
    have KP1 := Lib.hid ((KP0.out.up (btr (bz w) hB)).and (keepP hRB))
    clear KP0
    clear hRB hB
    have hall := KP1.out.here
    clear hall
    go_wp2_with fail
    have KP2 := Lib.hid (((KP1.out.up (bal (bz w1) _)).and (keepC (w := (w1.alloc (.cells #[.int .i64 n, .slice aB B.length cB] 24))) (p := ⟨w1.heap.size, 0, none⟩) (cnew (by simp) rfl))).and (keepC (w := (w1.alloc (.cells #[.int .i64 n, .slice aB B.length cB] 24))) (p := ⟨w1.heap.size, 1, none⟩) (cnew (by simp) rfl)))
    clear KP1
    refine (merge_ok n h1 h8 M HMK.out _).mono ?_
    rintro e w2 ⟨v, rfl, hRM, hB⟩
    obtain ⟨aM, cM, hv⟩ := hRM.ex (M.length) rfl
    subst hv
    have KP3 := Lib.hid ((KP2.out.up (btr (bz ((w1.alloc (.cells #[.int .i64 n, .slice aB B.length cB] 24)))) hB)).and (keepP hRM))
    clear KP2
    clear hRM hB
    have hall := KP3.out.here
    have hB1 := hall.2.1
    have hB0 := hall.2.2.1
    clear hall
    have zB := World.block_lt_of_cell? _ _ hB0
    simp only at zB
    go_wp2_with fail
    clear hB1 hB0 zB
    have KP4 := Lib.hid (((KP3.out.up (bal (bz w2) _)).and (keepC (w := (w2.alloc (.cells #[.int .i64 n, .slice aM M.length cM] 24))) (p := ⟨w2.heap.size, 0, none⟩) (cnew (by simp) rfl))).and (keepC (w := (w2.alloc (.cells #[.int .i64 n, .slice aM M.length cM] 24))) (p := ⟨w2.heap.size, 1, none⟩) (cnew (by simp) rfl)))
    clear KP3
    have hall := KP4.out.here
    have gB := hall.2.2.2.2.2.1
    clear hall
    refine (fine_yes n _ B _ gB HC1.out).mono ?_
    rintro e w3 ⟨rfl, hB⟩
    have KP5 := Lib.hid (KP4.out.up (btr (bz ((w2.alloc (.cells #[.int .i64 n, .slice aM M.length cM] 24)))) hB))
    clear KP4
    clear hB
    clear gB
    have hall := KP5.out.here
    have hM1 := hall.1
    have hM0 := hall.2.1
    have hB1 := hall.2.2.2.1
    have hB0 := hall.2.2.2.2.1
    clear hall
    have zB := World.block_lt_of_cell? _ _ hB0
    have zM := World.block_lt_of_cell? _ _ hM0
    simp only at zB zM
    go_wp2_with fail
    clear hM1 hM0 hB1 hB0 zB zM
    have hall := KP5.out.here
    have gM := hall.2.2.1
    clear hall
    refine (fine_yes n _ M _ gM HC2.out).mono ?_
    rintro e w4 ⟨rfl, hB⟩
    have KP6 := Lib.hid (KP5.out.up (btr (bz w3) hB))
    clear KP5
    clear hB
    clear gM
    have hall := KP6.out.here
    have hM1 := hall.1
    have hM0 := hall.2.1
    have hB1 := hall.2.2.2.1
    have hB0 := hall.2.2.2.2.1
    clear hall
    have zB := World.block_lt_of_cell? _ _ hB0
    have zM := World.block_lt_of_cell? _ _ hM0
    simp only at zB zM
    go_wp2_with fail
    clear hM1 hM0 hB1 hB0 zB zM
    have hall := KP6.out.here
    have gB := hall.2.2.2.2.2.1
    clear hall
    refine (sorts_zero n _ B _ gB HC1.out HS1.out).mono ?_
    rintro e w5 ⟨rfl, hB⟩
    have KP7 := Lib.hid (KP6.out.up (btr (bz w4) hB))
    clear KP6
    clear hB
    clear gB
    have hall := KP7.out.here
    have hM1 := hall.1
    have hM0 := hall.2.1
    have hB1 := hall.2.2.2.1
    have hB0 := hall.2.2.2.2.1
    clear hall
    have zB := World.block_lt_of_cell? _ _ hB0
    have zM := World.block_lt_of_cell? _ _ hM0
    simp only at zB zM
    go_wp2_with fail
    clear hM1 hM0 hB1 hB0 zB zM
    have hall := KP7.out.here
    have gM := hall.2.2.1
    clear hall
    refine (sorts_zero n _ M _ gM HC2.out HS2.out).mono ?_
    rintro e w6 ⟨rfl, hB⟩
    have KP8 := Lib.hid (KP7.out.up (btr (bz w5) hB))
    clear KP7
    clear hB
    clear gM
    have hall := KP8.out.here
    have hM1 := hall.1
    have hM0 := hall.2.1
    have hB1 := hall.2.2.2.1
    have hB0 := hall.2.2.2.2.1
    clear hall
    have zB := World.block_lt_of_cell? _ _ hB0
    have zM := World.block_lt_of_cell? _ _ hM0
    simp only at zB zM
    go_wp2_with fail
    clear hM1 hM0 hB1 hB0 zB zM
    have hall := KP8.out.here
    have gy := hall.2.2.2.2.2.2.1
    clear hall
    refine (filled_any n _ q _ gy HW.out h8 (by omega)).mono ?_
    rintro e w7 ⟨v, rfl, hRF, hB⟩
    obtain ⟨aF, cF, hv⟩ := hRF.ex n hfl
    subst hv
    have KP9 := Lib.hid ((KP8.out.up (btr (bz w6) hB)).and (keepI hRF))
    clear KP8
    clear hRF hB
    clear gy
    have hall := KP9.out.here
    have hM1 := hall.2.1
    have hM0 := hall.2.2.1
    have hB1 := hall.2.2.2.2.1
    have hB0 := hall.2.2.2.2.2.1
    clear hall
    have zB := World.block_lt_of_cell? _ _ hB0
    have zM := World.block_lt_of_cell? _ _ hM0
    simp only at zB zM
    go_wp2_with fail
    clear hM1 hM0 hB1 hB0 zB zM
    have hall := KP9.out.here
    have gF := hall.1
    have gB := hall.2.2.2.2.2.2.1
    clear hall
    refine (ran_ok n _ _ B (filL q n) _ gB gF HV1.out hfl).mono ?_
    rintro e w8 ⟨v, rfl, hRX, hB⟩
    obtain ⟨aX, cX, hv⟩ := hRX.ex n hlr
    subst hv
    have KP10 := Lib.hid ((KP9.out.up (btr (bz w7) hB)).and (keepI hRX))
    clear KP9
    clear hRX hB
    clear gF gB
    have hall := KP10.out.here
    have hM1 := hall.2.2.1
    have hM0 := hall.2.2.2.1
    have hB1 := hall.2.2.2.2.2.1
    have hB0 := hall.2.2.2.2.2.2.1
    clear hall
    have zB := World.block_lt_of_cell? _ _ hB0
    have zM := World.block_lt_of_cell? _ _ hM0
    simp only at zB zM
    go_wp2_with fail
    clear hM1 hM0 hB1 hB0 zB zM
    have hall := KP10.out.here
    have gF := hall.2.1
    have gM := hall.2.2.2.2.1
    clear hall
    refine (ran_ok n _ _ M (filL q n) _ gM gF HV2.out hfl).mono ?_
    rintro e w9 ⟨v, rfl, hRY, hB⟩
    obtain ⟨aY, cY, hv⟩ := hRY.ex n (by rw [← HSAME.out]; exact hlr)
    subst hv
    have KP11 := Lib.hid ((KP10.out.up (btr (bz w8) hB)).and (keepI hRY))
    clear KP10
    clear hRY hB
    clear gF gM
    have hall := KP11.out.here
    have hM1 := hall.2.2.2.1
    have hM0 := hall.2.2.2.2.1
    have hB1 := hall.2.2.2.2.2.2.1
    have hB0 := hall.2.2.2.2.2.2.2.1
    clear hall
    have zB := World.block_lt_of_cell? _ _ hB0
    have zM := World.block_lt_of_cell? _ _ hM0
    simp only at zB zM
    go_wp2_with fail
    clear hM1 hM0 hB1 hB0 zB zM
    have hall := KP11.out.here
    have gB := hall.2.2.2.2.2.2.2.2.1
    clear hall
    refine (rounds_ok n _ B _ gB HC1.out).mono ?_
    rintro e w10 ⟨v, rfl, hRL, hB⟩
    obtain ⟨aL, cL, hv⟩ := hRL.ex B.length hrl
    subst hv
    have KP12 := Lib.hid ((KP11.out.up (btr (bz w9) hB)).and (keepI hRL))
    clear KP11
    clear hRL hB
    clear gB
    have hall := KP12.out.here
    have hM1 := hall.2.2.2.2.1
    have hM0 := hall.2.2.2.2.2.1
    have hB1 := hall.2.2.2.2.2.2.2.1
    have hB0 := hall.2.2.2.2.2.2.2.2.1
    clear hall
    have zB := World.block_lt_of_cell? _ _ hB0
    have zM := World.block_lt_of_cell? _ _ hM0
    simp only at zB zM
    go_wp2_with fail
    clear hM1 hM0 hB1 hB0 zB zM
    have hall := KP12.out.here
    have gY := hall.2.1
    have gX := hall.2.2.1
    clear hall
    refine (longs_eq _ _ (runV B (filL q n)) _ gX (by rw [HSAME.out]; exact gY) (by omega)).mono ?_
    rintro e w11 ⟨rfl, hB⟩
    have KP13 := Lib.hid (KP12.out.up (btr (bz w10) hB))
    clear KP12
    clear hB
    clear gY gX
    have hall := KP13.out.here
    have hM1 := hall.2.2.2.2.1
    have hM0 := hall.2.2.2.2.2.1
    have hB1 := hall.2.2.2.2.2.2.2.1
    have hB0 := hall.2.2.2.2.2.2.2.2.1
    clear hall
    have zB := World.block_lt_of_cell? _ _ hB0
    have zM := World.block_lt_of_cell? _ _ hM0
    simp only at zB zM
    go_wp2_with fail
    clear hM1 hM0 hB1 hB0 zB zM
    have hall := KP13.out.here
    have gX := hall.2.2.1
    clear hall
    refine (sorted_yes _ (runV B (filL q n)) _ gX (by omega) HSRT.out).mono ?_
    rintro e w12 ⟨rfl, hB⟩
    have KP14 := Lib.hid (KP13.out.up (btr (bz w11) hB))
    clear KP13
    clear hB
    clear gX
    have hall := KP14.out.here
    have gL := hall.1
    have gBelow := hall.2.2.2.2.2.2.2.2.2.2.2
    clear hall
    obtain ⟨al, cl, hel, hcl, hml, hxl⟩ := gL.form
    rw [hrl] at hel
    simp only [Value.slice.injEq, true_and] at hel
    obtain ⟨rfl, rfl⟩ := hel
    clear hcl hml
    have HXL := Lib.hid hxl
    clear hxl gL KP14
    obtain ⟨wz, rfl⟩ : ∃ wz : World, wz = w12 := ⟨_, rfl⟩
    go_wp2
    go_loopw [17, 124, 125, 126, 127, 128, 129, 130, 131, 132, 133, 134, 135] (fun i _ _ _ _ _ _ _ _ _ _ _ _ wr => ∃ k : Nat, k ≤ B.length ∧ i = .int .i64 k ∧ Below wz.heap.size wz wr) (fun i _ _ _ _ _ _ _ _ _ _ _ _ _ => B.length - (intOf i).toNat)
    case atStart => exact ⟨0, Nat.zero_le _, rfl, bz _⟩
    case round =>
      obtain ⟨k, hk, rfl, hB⟩ := hrel
      by_cases hkB : k < B.length
      · obtain ⟨bx, ox, rfl, hbx, hcx⟩ := HXL.out (by omega)
        have gx := (hB.cell (p := ⟨bx, ox + k, none⟩) hbx).trans (hcx k (by omega))
        have hrb := HRB.out k
        clear hcx
        generalize (rrL B B.length)[k]?.getD 0 = u at *
        have hgu : ¬ ((n : Int) < u) := by omega
        have HB := Lib.hid hB; clear hB
        go_wp2
        exact ⟨⟨k + 1, by omega, by go_num, HB.out⟩, by simp [intOf]; omega⟩
      · have HB := Lib.hid (btr gBelow hB)
        clear hB
        go_wp2_with fail
        refine (works_any _).mono ?_
        rintro e w9 ⟨rfl, hB9⟩
        have HB9 := Lib.hid (btr HB.out hB9)
        clear hB9
        go_wp2
        go_ret
        exact ⟨rfl, HB9.out⟩
theorem wf16 {n : Int} (h : (Lit.int .i16 n).wf = true) : -32768 ≤ n ∧ n ≤ 32767 := by
  simp [Lit.wf, IntKind.min, IntKind.max, IntKind.signed, IntKind.bits] at h
  omega
theorem wf8 {n : Int} (h : (Lit.int .u8 n).wf = true) : 0 ≤ n ∧ n ≤ 255 := by
  simp [Lit.wf, IntKind.min, IntKind.max, IntKind.signed, IntKind.bits] at h
  omega
section
open Go.ChangeShapes Go.WideShapes Go.ChangeAt
set_option maxRecDepth 100000 in
theorem valveMade_lifted (os : Os) (started : os.Started) (H : Type) (enc : TypeId × Value → H) :
    ReturnsInHanded {} Try.checked os 12 .any (Rows.valveMadeSpec.pre6 enc Try.prog Try.f12 Rows.valveMadeRow.domain false) (Rows.valveMadeSpec.post enc Try.prog Try.f12 false true false false) := by
  refine returnsInHanded_of_change (C := Try.checked) Try.own started (by kernel_rfl) Try.func12
    (ChangeSpec.witness6 (enc := enc) (C := Try.checked) false ⟨#[], #[.int .u8 0, .slice none 0 0], []⟩ 8 (by kernel_rfl) (by kernel_rfl) (by kernel_rfl) (by kernel_rfl)) ?_
  intro W base args ds gs before hval0 hW _ _
  have hval : ∀ (j : Nat) t v, Try.f12.params[j]? = some t → args[j]? = some v → Value.okWide Try.prog W .any base t v := hval0
  have hW' := hW
  obtain ⟨p, q, hA0, hV, rfl, hfz, hnd⟩ := hW
  have hA : DataW.TrodAll enc Try.prog W 0 (fun _ => true) true Try.f12.params.toList args.toList ds p := hA0
  have hA2 := hA
  have hlt : ∀ x ∈ p, x.block < W.heap.size := fun x hx => hW'.lt x (List.mem_append_left _ hx)
  rw [Try.params12] at hA hval
  obtain ⟨v0, vs0, d0, ds0, p0, q0, hargs, rfl, rfl, h0, r0⟩ := trodAll_cons hA
  obtain ⟨v1, vs1, d1, ds1, p1, q1, rfl, rfl, rfl, h1, r1⟩ := trodAll_cons r0
  obtain ⟨rfl, rfl, rfl⟩ := trodAll_nil r1
  obtain rfl : args = #[v0, v1] := by cases args; simp_all
  obtain ⟨rfl, rfl⟩ := trodVars_none hV
  obtain ⟨a0, rfl, rfl, rfl, w0⟩ := open_int Try.underlying5 (hval 0 5 v0 rfl rfl) h0
  obtain ⟨X1, hx1, hw1⟩ := open_ints_rd Try.underlying49 Try.underlying55 (by kernel_rfl) (hval 1 49 v1 rfl rfl) h1 (fun x hx => hlt x (by simp [hx]))
  clear hA0 hval0
  simp only [List.append_nil] at hW' hA2
  refine (made_walk a0 v1 X1 W (wf8 w0).1 (wf8 w0).2 hx1 (fun v hv => wf16 (hw1 v hv))).mono fun e W' ⟨he, hb⟩ => ?_
  subst he
  exact ⟨_, rfl, law_post Try.laidOut Try.underlying4 hW' hA2 rfl rfl rfl rfl rfl (by kernel_rfl) hb⟩
theorem valveMade_holds : Rows.ValveMadeSaid :=
  OpenClaim.holds_of_wide 12 Try.f12 rfl rfl rfl rfl rfl rfl rfl ⟨rfl, rfl, rfl, rfl, rfl⟩ rfl rfl rfl rfl rfl (by kernel_rfl) Try.func12 (by kernel_rfl)
    (of_decide_eq_true (by kernel_rfl)) (by unfold Func.isWrapper; first | (rw [if_pos (by decide +kernel)]; kernel_rfl) | (rw [if_neg (by decide +kernel)]; exact ⟨rfl, rfl⟩))
    (fun os started H enc _ => valveMade_lifted os started H enc)
end
end Go.Proofs.Ytdnaipiiponhpaa
