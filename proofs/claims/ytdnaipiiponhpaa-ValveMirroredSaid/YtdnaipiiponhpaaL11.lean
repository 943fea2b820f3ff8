/- ValveMirrored holds; no condition. -/
import Derived.Test.YtdnaipiiponhpaaH2
import Derived.Test.YtdnaipiiponhpaaP9
namespace Go.Proofs.Ytdnaipiiponhpaa
open Go.RowKit Go.Shelf

theorem check_mirror {n : Nat} {V : List (Int × Int)} (h : checkR n V = 0) : checkR n (V.map (mirrorOne n)) = 0 := by
  have hk := okn h
  exact check_of_ok ⟨by omega, by omega, by simp; omega, mirror_ok hk.2.2.2⟩
theorem filL_in {q : List Int} (hw : ∀ v ∈ q, -32768 ≤ v ∧ v ≤ 32767) (n : Nat) : ∀ v ∈ filL q n, -32768 ≤ v ∧ v ≤ 32767 := by
  intro v hv
  obtain ⟨i, _, rfl⟩ := List.mem_map.1 hv
  by_cases h0 : i % q.length < q.length
  · rw [List.getElem?_eq_getElem h0]; exact hw _ (List.getElem_mem h0)
  · rw [List.getElem?_eq_none (by omega)]; simp
structure MirS (n : Nat) (V : List (Int × Int)) (M : List (Int × Int)) (D L : List Int) (m : Nat) (c1 : Int) (v a b : List Int) : Prop where
  ok : checkR n M = 0
  len : M.length = V.length
  mir : ∀ (x : Value) (w : World), RdP w x V → Calls Try.prog 41 #[.agg #[.int .i64 n, x]] w fun e w' => ∃ v, e = .returned (.tuple #[.agg #[.int .i64 n, v], .int .i64 0]) ∧ RdP w' v M ∧ Below w.heap.size w w'
  mir2 : ∀ (x : Value) (w : World), RdP w x M → Calls Try.prog 41 #[.agg #[.int .i64 n, x]] w fun e w' => ∃ v, e = .returned (.tuple #[.agg #[.int .i64 n, v], .int .i64 0]) ∧ RdP w' v V ∧ Below w.heap.size w w'
  im1 : imagesN n V = m
  im2 : imagesN n M = m
  nd1 : ∀ (x : Value) (w : World), RdP w x V → Calls Try.prog 32 #[.agg #[.int .i64 n, x]] w fun e w' => ∃ v, e = .returned (.tuple #[v, .int .i64 0]) ∧ RdI w' .i64 v D ∧ Below w.heap.size w w'
  nd2 : ∀ (x : Value) (w : World), RdP w x M → Calls Try.prog 32 #[.agg #[.int .i64 n, x]] w fun e w' => ∃ v, e = .returned (.tuple #[v, .int .i64 0]) ∧ RdI w' .i64 v D ∧ Below w.heap.size w w'
  dl : D.length ≤ 40
  rr1 : ∀ (x : Value) (w : World), RdP w x V → Calls Try.prog 36 #[.agg #[.int .i64 n, x]] w fun e w' => ∃ v, e = .returned (.tuple #[v, .int .i64 0]) ∧ RdI w' .i64 v L ∧ Below w.heap.size w w'
  rr2 : ∀ (x : Value) (w : World), RdP w x M → Calls Try.prog 36 #[.agg #[.int .i64 n, x]] w fun e w' => ∃ v, e = .returned (.tuple #[v, .int .i64 0]) ∧ RdI w' .i64 v L ∧ Below w.heap.size w w'
  ll : L.length ≤ 40
  so1 : (if (patOf n V).isSome then (23 : Int) else 0) = c1
  so2 : (if (patOf n M).isSome then (23 : Int) else 0) = c1
  vl : v.length = n
  vin : ∀ u ∈ v, -100000000 ≤ u ∧ u ≤ 100000000
  ra : ∀ (x y : Value) (w : World), RdP w x V → RdI w .i64 y v → Calls Try.prog 48 #[.agg #[.int .i64 n, x], y] w fun e w' => ∃ u, e = .returned (.tuple #[u, .bool true]) ∧ RdI w' .i64 u a ∧ Below w.heap.size w w'
  al : a.length = n
  ain : ∀ u ∈ a, -100000000 ≤ u ∧ u ≤ 100000000
  rb : ∀ (x y : Value) (w : World), RdP w x M → RdI w .i64 y b → Calls Try.prog 48 #[.agg #[.int .i64 n, x], y] w fun e w' => ∃ u, e = .returned (.tuple #[u, .bool true]) ∧ RdI w' .i64 u (oppL a) ∧ Below w.heap.size w w'
  op : ∀ (x : Value) (w : World), RdI w .i64 x v → Calls Try.prog 54 #[x] w fun e w' => ∃ u, e = .returned u ∧ RdI w' .i64 u b ∧ Below w.heap.size w w'
  bl : b.length = n
theorem mirS (n : Nat) (V : List (Int × Int)) (q : List Int) (h : checkR n V = 0) (hw : ∀ v ∈ q, -32768 ≤ v ∧ v ≤ 32767) : ∃ M D L m c1 a b, MirS n V M D L m c1 (filL q n) a b := by
  obtain ⟨h8, h1, h40, hok⟩ := okn h
  have hm := check_mirror h
  have hv := filL_len q n
  have hin := filL_in hw n
  have hok' : OkV (filL q n).length V := by rw [hv]; exact hok
  have hrun := run_mirror V (filL q n) hok'
  rw [hv] at hrun
  refine ⟨V.map (mirrorOne n), rneedL n V V.length, rrL V V.length, imagesN n V, if (patOf n V).isSome then (23 : Int) else 0, runV V (filL q n), oppL (filL q n), ?_⟩
  refine ⟨hm, by simp, fun x w hx => mirror_k n x V w hx h, fun x w hx => ?_, rfl, mirror_img h8 hok, fun x w hx => needless_ok n x V w hx h, fun x w hx => ?_, by have := rneedL_le n V V.length; omega, fun x w hx => rounds_k n x V w hx h, fun x w hx => ?_, by rw [rrL_len]; exact h40, rfl, by rw [mirror_sorts hok], hv, fun u hu => ?_, fun x y w hx hy => ran_ok n x y V _ w hx hy (okRow_of h) hv, by rw [runV_length]; exact hv, fun u hu => ?_, fun x y w hx hy => ?_, fun x w hx => opposite_any x _ w hx (fun u hu => by have := hin u hu; omega) (by omega), by rw [oppL_len]; exact hv⟩
  · have := mirror_k n x _ w hx hm
    rwa [mirror_twice] at this
  · have := needless_ok n x _ w hx hm
    rwa [List.length_map, mirror_needL hok] at this
  · have := rounds_k n x _ w hx hm
    rwa [List.length_map, mirror_rounds n V V.length (Nat.le_refl _)] at this
  · have := hin u hu; omega
  · have := runV_mem (fun x => -32768 ≤ x ∧ x ≤ 32767) V _ hok' hin u hu
    omega
  · have := ran_ok n x y _ _ w hx hy (okRow_of hm) (by rw [oppL_len]; exact hv)
    rwa [hrun] at this

set_option maxRecDepth 100000 in
set_option maxHeartbeats 60000000 in
theorem mirror_walk (p : Int) (x y : Value) (V : List (Int × Int)) (q : List Int) (w : World) (hx : RdP w x V) (hy : RdI w .i16 y q) (hw : ∀ v ∈ q, -32768 ≤ v ∧ v ≤ 32767) :
    Calls Try.prog 13 #[.agg #[.int .i64 p, x], y] w fun e w' => e = .returned (.bool true) ∧ Below w.heap.size w w' := by
  obtain ⟨a, c, rfl⟩ := hx.ex _ rfl
  obtain ⟨b, d, rfl⟩ := hy.ex _ rfl
  have HW := Lib.hid hw; clear hw
  by_cases hF : checkR p V ≠ 0
  ·
    have KP0 := Lib.hid (((keepB (bz w)).and (keepP hx)).and (keepI hy))
    clear hx hy
    go_enter Try.func13, Try.ntmps13
    go_wp2_with fail
    have KP1 := Lib.hid (((KP0.out.up (bal (bz w) _)).and (keepC (w := (w.alloc (.cells #[.int .i64 p, .slice a V.length c] 24))) (p := ⟨w.heap.size, 0, none⟩) (v := .int .i64 p) (cnew (by simp) rfl))).and (keepC (w := (w.alloc (.cells #[.int .i64 p, .slice a V.length c] 24))) (p := ⟨w.heap.size, 1, none⟩) (v := .slice a V.length c) (cnew (by simp) rfl)))
    clear KP0
    have hall := KP1.out.here
    have gr := hall.2.2.2.1
    clear hall
    refine (fine_no p _ V _ gr hF).mono ?_
    rintro e w1 ⟨rfl, hB⟩
    have KP2 := Lib.hid (KP1.out.up (btr (bz ((w.alloc (.cells #[.int .i64 p, .slice a V.length c] 24)))) hB))
    clear KP1
    clear hB
    clear gr
    have hall := KP2.out.here
    have hR1 := hall.1
    have hR0 := hall.2.1
    clear hall
    have zR := World.block_lt_of_cell? _ _ hR0
    simp only at zR
    go_wp2_with fail
    clear hR1 hR0 zR
    refine (works_any _).mono ?_
    rintro e w2 ⟨rfl, hB⟩
    have KP3 := Lib.hid (KP2.out.up (btr (bz w1) hB))
    clear KP2
    clear hB
    have hall := KP3.out.here
    have gBelow := hall.2.2.2.2
    clear hall
    go_wp2
    go_ret
    exact ⟨rfl, gBelow⟩
  have hF := Classical.not_not.1 hF
  by_cases hq : 20 < q.length
  ·
    have hq2 : (20 : Int) < (q.length : Int) := by omega
    have KP0 := Lib.hid (((keepB (bz w)).and (keepP hx)).and (keepI hy))
    clear hx hy
    go_enter Try.func13, Try.ntmps13
    go_wp2_with fail
    have KP1 := Lib.hid (((KP0.out.up (bal (bz w) _)).and (keepC (w := (w.alloc (.cells #[.int .i64 p, .slice a V.length c] 24))) (p := ⟨w.heap.size, 0, none⟩) (v := .int .i64 p) (cnew (by simp) rfl))).and (keepC (w := (w.alloc (.cells #[.int .i64 p, .slice a V.length c] 24))) (p := ⟨w.heap.size, 1, none⟩) (v := .slice a V.length c) (cnew (by simp) rfl)))
    clear KP0
    have hall := KP1.out.here
    have gr := hall.2.2.2.1
    clear hall
    refine (fine_yes p _ V _ gr hF).mono ?_
    rintro e w1 ⟨rfl, hB⟩
    have KP2 := Lib.hid (KP1.out.up (btr (bz ((w.alloc (.cells #[.int .i64 p, .slice a V.length c] 24)))) hB))
    clear KP1
    clear hB
    clear gr
    have hall := KP2.out.here
    have hR1 := hall.1
    have hR0 := hall.2.1
    clear hall
    have zR := World.block_lt_of_cell? _ _ hR0
    simp only at zR
    go_wp2_with fail
    clear hR1 hR0 zR
    refine (works_any _).mono ?_
    rintro e w2 ⟨rfl, hB⟩
    have KP3 := Lib.hid (KP2.out.up (btr (bz w1) hB))
    clear KP2
    clear hB
    have hall := KP3.out.here
    have gBelow := hall.2.2.2.2
    clear hall
    go_wp2
    go_ret
    exact ⟨rfl, gBelow⟩
  have hq2 : ¬ ((20 : Int) < (q.length : Int)) := by omega
  obtain ⟨n, rfl⟩ : ∃ n : Nat, p = n := ⟨p.toNat, by have := (okRow_of hF).p1; omega⟩
  obtain ⟨h8, h1, h40, hok⟩ := okn hF
  have HF := Lib.hid hF; have HO := Lib.hid hok; have HV := Lib.hid (okRow_of hF)
  clear hF hok
  have hfil := fun x w hx => filled_any n x q w hx HW.out h8 (by omega)
  have hmir := mirS n V q HF.out HW.out
  generalize filL q n = v at *
  obtain ⟨M, D, L, m, c1, a1, b1, hS⟩ := hmir
  have HS := Lib.hid hS; have HFIL := Lib.hid hfil
  clear hS hfil HW
  have KP0 := Lib.hid (((keepB (bz w)).and (keepP hx)).and (keepI hy))
  clear hx hy
  go_enter Try.func13, Try.ntmps13
  go_wp2_with fail
  have KP1 := Lib.hid (((KP0.out.up (bal (bz w) _)).and (keepC (w := (w.alloc (.cells #[.int .i64 n, .slice a V.length c] 24))) (p := ⟨w.heap.size, 0, none⟩) (v := .int .i64 n) (cnew (by simp) rfl))).and (keepC (w := (w.alloc (.cells #[.int .i64 n, .slice a V.length c] 24))) (p := ⟨w.heap.size, 1, none⟩) (v := .slice a V.length c) (cnew (by simp) rfl)))
  clear KP0
  have hall := KP1.out.here
  have gr := hall.2.2.2.1
  clear hall
  refine (fine_yes n _ V _ gr HF.out).mono ?_
  rintro e w1 ⟨rfl, hB⟩
  have KP2 := Lib.hid (KP1.out.up (btr (bz ((w.alloc (.cells #[.int .i64 n, .slice a V.length c] 24)))) hB))
  clear KP1
  clear hB
  clear gr
  have hall := KP2.out.here
  have hR1 := hall.1
  have hR0 := hall.2.1
  clear hall
  have zR := World.block_lt_of_cell? _ _ hR0
  simp only at zR
  go_wp2_with fail
  clear hR1 hR0 zR
  have hall := KP2.out.here
  have gr := hall.2.2.2.1
  clear hall
  refine (HS.out.mir _ _ gr).mono ?_
  rintro e w2 ⟨v, rfl, hRM, hB⟩
  obtain ⟨aM, cM, hv⟩ := hRM.ex (M.length) rfl
  subst hv
  have KP3 := Lib.hid ((KP2.out.up (btr (bz w1) hB)).and (keepP hRM))
  clear KP2
  clear hRM hB
  clear gr
  have hall := KP3.out.here
  have hR1 := hall.2.1
  have hR0 := hall.2.2.1
  clear hall
  have zR := World.block_lt_of_cell? _ _ hR0
  simp only at zR
  go_wp2_with fail
  clear hR1 hR0 zR
  have KP4 := Lib.hid (((KP3.out.up (bal (bz w2) _)).and (keepC (w := (w2.alloc (.cells #[.int .i64 n, .slice aM M.length cM] 24))) (p := ⟨w2.heap.size, 0, none⟩) (v := .int .i64 n) (cnew (by simp) rfl))).and (keepC (w := (w2.alloc (.cells #[.int .i64 n, .slice aM M.length cM] 24))) (p := ⟨w2.heap.size, 1, none⟩) (v := .slice aM M.length cM) (cnew (by simp) rfl)))
  clear KP3
  have hall := KP4.out.here
  have gM := hall.2.2.1
  clear hall
  refine (fine_yes n _ M _ gM HS.out.ok).mono ?_
  rintro e w3 ⟨rfl, hB⟩
  have KP5 := Lib.hid (KP4.out.up (btr (bz ((w2.alloc (.cells #[.int .i64 n, .slice aM M.length cM] 24)))) hB))
  clear KP4
  clear hB
  clear gM
  have hall := KP5.out.here
  have hM1 := hall.1
  have hM0 := hall.2.1
  have hR1 := hall.2.2.2.1
  have hR0 := hall.2.2.2.2.1
  clear hall
  have zR := World.block_lt_of_cell? _ _ hR0
  have zM := World.block_lt_of_cell? _ _ hM0
  simp only at zR zM
  go_wp2_with fail
  clear hM1 hM0 hR1 hR0 zR zM
  have hall := KP5.out.here
  have gM := hall.2.2.1
  clear hall
  refine (HS.out.mir2 _ _ gM).mono ?_
  rintro e w4 ⟨v, rfl, hRY, hB⟩
  obtain ⟨aY, cY, hv⟩ := hRY.ex (V.length) rfl
  subst hv
  have KP6 := Lib.hid ((KP5.out.up (btr (bz w3) hB)).and (keepP hRY))
  clear KP5
  clear hRY hB
  clear gM
  have hall := KP6.out.here
  have hM1 := hall.2.1
  have hM0 := hall.2.2.1
  have hR1 := hall.2.2.2.2.1
  have hR0 := hall.2.2.2.2.2.1
  clear hall
  have zR := World.block_lt_of_cell? _ _ hR0
  have zM := World.block_lt_of_cell? _ _ hM0
  simp only at zR zM
  go_wp2_with fail
  clear hM1 hM0 hR1 hR0 zR zM
  have KP7 := Lib.hid (((KP6.out.up (bal (bz w4) _)).and (keepC (w := (w4.alloc (.cells #[.int .i64 n, .slice aY V.length cY] 24))) (p := ⟨w4.heap.size, 0, none⟩) (v := .int .i64 n) (cnew (by simp) rfl))).and (keepC (w := (w4.alloc (.cells #[.int .i64 n, .slice aY V.length cY] 24))) (p := ⟨w4.heap.size, 1, none⟩) (v := .slice aY V.length cY) (cnew (by simp) rfl)))
  clear KP6
  have hall := KP7.out.here
  have gr := hall.2.2.2.2.2.2.2.2.2.1
  clear hall
  refine (images_k n _ V m _ gr HF.out HS.out.im1).mono ?_
  rintro e w5 ⟨rfl, hB⟩
  have KP8 := Lib.hid (KP7.out.up (btr (bz ((w4.alloc (.cells #[.int .i64 n, .slice aY V.length cY] 24)))) hB))
  clear KP7
  clear hB
  clear gr
  have hall := KP8.out.here
  have hY1 := hall.1
  have hY0 := hall.2.1
  have hM1 := hall.2.2.2.1
  have hM0 := hall.2.2.2.2.1
  have hR1 := hall.2.2.2.2.2.2.1
  have hR0 := hall.2.2.2.2.2.2.2.1
  clear hall
  have zR := World.block_lt_of_cell? _ _ hR0
  have zM := World.block_lt_of_cell? _ _ hM0
  have zY := World.block_lt_of_cell? _ _ hY0
  simp only at zR zM zY
  go_wp2_with fail
  clear hY1 hY0 hM1 hM0 hR1 hR0 zR zM zY
  have hall := KP8.out.here
  have gM := hall.2.2.2.2.2.1
  clear hall
  refine (images_k n _ M m _ gM HS.out.ok HS.out.im2).mono ?_
  rintro e w6 ⟨rfl, hB⟩
  have KP9 := Lib.hid (KP8.out.up (btr (bz w5) hB))
  clear KP8
  clear hB
  clear gM
  have hall := KP9.out.here
  have hY1 := hall.1
  have hY0 := hall.2.1
  have hM1 := hall.2.2.2.1
  have hM0 := hall.2.2.2.2.1
  have hR1 := hall.2.2.2.2.2.2.1
  have hR0 := hall.2.2.2.2.2.2.2.1
  clear hall
  have zR := World.block_lt_of_cell? _ _ hR0
  have zM := World.block_lt_of_cell? _ _ hM0
  have zY := World.block_lt_of_cell? _ _ hY0
  simp only at zR zM zY
  go_wp2_with fail
  clear hY1 hY0 hM1 hM0 hR1 hR0 zR zM zY
  have hall := KP9.out.here
  have gr := hall.2.2.2.2.2.2.2.2.2.1
  clear hall
  refine (HS.out.nd1 _ _ gr).mono ?_
  rintro e w7 ⟨v, rfl, hRC, hB⟩
  obtain ⟨aC, cC, hv⟩ := hRC.ex (D.length) rfl
  subst hv
  have KP10 := Lib.hid ((KP9.out.up (btr (bz w6) hB)).and (keepI hRC))
  clear KP9
  clear hRC hB
  clear gr
  have hall := KP10.out.here
  have hY1 := hall.2.1
  have hY0 := hall.2.2.1
  have hM1 := hall.2.2.2.2.1
  have hM0 := hall.2.2.2.2.2.1
  have hR1 := hall.2.2.2.2.2.2.2.1
  have hR0 := hall.2.2.2.2.2.2.2.2.1
  clear hall
  have zR := World.block_lt_of_cell? _ _ hR0
  have zM := World.block_lt_of_cell? _ _ hM0
  have zY := World.block_lt_of_cell? _ _ hY0
  simp only at zR zM zY
  go_wp2_with fail
  clear hY1 hY0 hM1 hM0 hR1 hR0 zR zM zY
  have hall := KP10.out.here
  have gM := hall.2.2.2.2.2.2.1
  clear hall
  refine (HS.out.nd2 _ _ gM).mono ?_
  rintro e w8 ⟨v, rfl, hRD, hB⟩
  obtain ⟨aD, cD, hv⟩ := hRD.ex (D.length) rfl
  subst hv
  have KP11 := Lib.hid ((KP10.out.up (btr (bz w7) hB)).and (keepI hRD))
  clear KP10
  clear hRD hB
  clear gM
  have hall := KP11.out.here
  have hY1 := hall.2.2.1
  have hY0 := hall.2.2.2.1
  have hM1 := hall.2.2.2.2.2.1
  have hM0 := hall.2.2.2.2.2.2.1
  have hR1 := hall.2.2.2.2.2.2.2.2.1
  have hR0 := hall.2.2.2.2.2.2.2.2.2.1
  clear hall
  have zR := World.block_lt_of_cell? _ _ hR0
  have zM := World.block_lt_of_cell? _ _ hM0
  have zY := World.block_lt_of_cell? _ _ hY0
  simp only at zR zM zY
  go_wp2_with fail
  clear hY1 hY0 hM1 hM0 hR1 hR0 zR zM zY
  have hall := KP11.out.here
  have gr := hall.2.2.2.2.2.2.2.2.2.2.2.1
  clear hall
  refine (HS.out.rr1 _ _ gr).mono ?_
  rintro e w9 ⟨v, rfl, hRK, hB⟩
  obtain ⟨aK, cK, hv⟩ := hRK.ex (L.length) rfl
  subst hv
  have KP12 := Lib.hid ((KP11.out.up (btr (bz w8) hB)).and (keepI hRK))
  clear KP11
  clear hRK hB
  clear gr
  have hall := KP12.out.here
  have hY1 := hall.2.2.2.1
  have hY0 := hall.2.2.2.2.1
  have hM1 := hall.2.2.2.2.2.2.1
  have hM0 := hall.2.2.2.2.2.2.2.1
  have hR1 := hall.2.2.2.2.2.2.2.2.2.1
  have hR0 := hall.2.2.2.2.2.2.2.2.2.2.1
  clear hall
  have zR := World.block_lt_of_cell? _ _ hR0
  have zM := World.block_lt_of_cell? _ _ hM0
  have zY := World.block_lt_of_cell? _ _ hY0
  simp only at zR zM zY
  go_wp2_with fail
  clear hY1 hY0 hM1 hM0 hR1 hR0 zR zM zY
  have hall := KP12.out.here
  have gM := hall.2.2.2.2.2.2.2.2.1
  clear hall
  refine (HS.out.rr2 _ _ gM).mono ?_
  rintro e w10 ⟨v, rfl, hRL, hB⟩
  obtain ⟨aL, cL, hv⟩ := hRL.ex (L.length) rfl
  subst hv
  have KP13 := Lib.hid ((KP12.out.up (btr (bz w9) hB)).and (keepI hRL))
  clear KP12
  clear hRL hB
  clear gM
  have hall := KP13.out.here
  have hY1 := hall.2.2.2.2.1
  have hY0 := hall.2.2.2.2.2.1
  have hM1 := hall.2.2.2.2.2.2.2.1
  have hM0 := hall.2.2.2.2.2.2.2.2.1
  have hR1 := hall.2.2.2.2.2.2.2.2.2.2.1
  have hR0 := hall.2.2.2.2.2.2.2.2.2.2.2.1
  clear hall
  have zR := World.block_lt_of_cell? _ _ hR0
  have zM := World.block_lt_of_cell? _ _ hM0
  have zY := World.block_lt_of_cell? _ _ hY0
  simp only at zR zM zY
  go_wp2
  clear hY1 hY0 hM1 hM0 hR1 hR0 zR zM zY
  refine wp_region_flow [] [([0, 1, 2, 3, 4, 5, 6, 7, 8, 9, 10, 11, 12, 13, 14, 15, 16, 17, 18, 19, 20, 21, 22, 23, 24, 25, 26, 27, 28], 29, true), ([30, 31, 32, 33, 34, 35, 36, 37, 38, 39], 40, true), ([41, 42, 43, 44, 45], 46, true), ([47, 48, 49, 50, 52], 51, true), ([], 53, true)] [54, 55] (by kernel_rfl) (by kernel_rfl) ?_
  intro w11 hB hh
  clear hh
  have KP14 := Lib.hid ((KP13.out.up (btr (bz w10) hB)).and (keepB (bz w11)))
  clear KP13
  clear hB
  have hall := KP14.out.here
  have hY1 := hall.2.2.2.2.2.1
  have hY0 := hall.2.2.2.2.2.2.1
  have hM1 := hall.2.2.2.2.2.2.2.2.1
  have hM0 := hall.2.2.2.2.2.2.2.2.2.1
  have hR1 := hall.2.2.2.2.2.2.2.2.2.2.2.1
  have hR0 := hall.2.2.2.2.2.2.2.2.2.2.2.2.1
  clear hall
  have zR := World.block_lt_of_cell? _ _ hR0
  have zM := World.block_lt_of_cell? _ _ hM0
  have zY := World.block_lt_of_cell? _ _ hY0
  simp only at zR zM zY
  have hL := @Later.cell w11
  simp only [flowP, flow, pickL, List.getElem?_cons_succ, List.getElem?_cons_zero]
  refine wpQuiet_nil ?_
  repeat (go_big_quiet_step (fail))
  refine wpQuiet_nil ?_
  go_wp2_with fail
  have hall := KP14.out.here
  have gY := hall.2.2.2.2.2.2.2.1
  have gr := hall.2.2.2.2.2.2.2.2.2.2.2.2.2.2.1
  clear hall
  refine (same_eq _ _ _ V _ gY gr (by omega)).mono ?_
  rintro e w12 ⟨rfl, hB⟩
  have KP15 := Lib.hid (KP14.out.up (btr (bz w11) hB))
  clear KP14
  clear hB
  clear gY gr
  go_wp2
  have hall := KP15.out.here
  have gSw11 := hall.1
  clear hall
  refine seg_grow ⟨⟨_, gSw11⟩, rfl⟩ ?_
  clear gSw11
  repeat (go_big_quiet_step (fail))
  refine wpQuiet_nil ?_
  go_wp2_with fail
  have hall := KP15.out.here
  have gD := hall.2.2.2.1
  have gC := hall.2.2.2.2.1
  clear hall
  refine (ints_eq _ _ D _ gC gD (by have := HS.out.dl; omega)).mono ?_
  rintro e w13 ⟨rfl, hB⟩
  have KP16 := Lib.hid (KP15.out.up (btr (bz w12) hB))
  clear KP15
  clear hB
  clear gD gC
  go_wp2
  have hall := KP16.out.here
  have gSw11 := hall.1
  clear hall
  refine seg_grow ⟨⟨_, gSw11⟩, rfl⟩ ?_
  clear gSw11
  repeat (go_big_quiet_step (fail))
  refine wpQuiet_nil ?_
  go_wp2_with fail
  have hall := KP16.out.here
  have gL := hall.2.1
  have gK := hall.2.2.1
  clear hall
  refine (ints_eq _ _ L _ gK gL (by have := HS.out.ll; omega)).mono ?_
  rintro e w14 ⟨rfl, hB⟩
  have KP17 := Lib.hid (KP16.out.up (btr (bz w13) hB))
  clear KP16
  clear hB
  clear gL gK
  go_wp2
  have hall := KP17.out.here
  have gSw11 := hall.1
  clear hall
  refine seg_grow ⟨⟨_, gSw11⟩, rfl⟩ ?_
  clear gSw11
  repeat (go_big_quiet_step (fail))
  refine wpQuiet_nil ?_
  go_wp2_with fail
  have hall := KP17.out.here
  have gr := hall.2.2.2.2.2.2.2.2.2.2.2.2.2.2.1
  clear hall
  refine (sorts_k n _ V c1 _ gr HF.out HS.out.so1).mono ?_
  rintro e w15 ⟨rfl, hB⟩
  have KP18 := Lib.hid (KP17.out.up (btr (bz w14) hB))
  clear KP17
  clear hB
  clear gr
  go_wp2
  have hall := KP18.out.here
  have gSw11 := hall.1
  clear hall
  refine seg_grow ⟨⟨_, gSw11⟩, rfl⟩ ?_
  clear gSw11
  repeat (go_big_quiet_step (fail))
  refine wpQuiet_nil ?_
  go_wp2_with fail
  have hall := KP18.out.here
  have gM := hall.2.2.2.2.2.2.2.2.2.2.1
  clear hall
  refine (sorts_k n _ M c1 _ gM HS.out.ok HS.out.so2).mono ?_
  rintro e w16 ⟨rfl, hB⟩
  have KP19 := Lib.hid (KP18.out.up (btr (bz w15) hB))
  clear KP18
  clear hB
  clear gM
  go_wp2
  have hall := KP19.out.here
  have gSw11 := hall.1
  clear hall
  refine seg_grow ⟨⟨_, gSw11⟩, rfl⟩ ?_
  clear gSw11
  repeat (go_big_quiet_step (fail))
  refine wpQuiet_nil ?_
  refine only_done ?_
  clear hY1 hY0 hM1 hM0 hR1 hR0 zR zM zY hL
  have hall := KP19.out.here
  have hY1 := hall.2.2.2.2.2.1
  have hY0 := hall.2.2.2.2.2.2.1
  have hM1 := hall.2.2.2.2.2.2.2.2.1
  have hM0 := hall.2.2.2.2.2.2.2.2.2.1
  have hR1 := hall.2.2.2.2.2.2.2.2.2.2.2.1
  have hR0 := hall.2.2.2.2.2.2.2.2.2.2.2.2.1
  clear hall
  have zR := World.block_lt_of_cell? _ _ hR0
  have zM := World.block_lt_of_cell? _ _ hM0
  have zY := World.block_lt_of_cell? _ _ hY0
  simp only at zR zM zY
  go_wp2_with fail
  clear hY1 hY0 hM1 hM0 hR1 hR0 zR zM zY
  have hall := KP19.out.here
  have gy := hall.2.2.2.2.2.2.2.2.2.2.2.2.2.1
  clear hall
  refine (HFIL.out _ _ gy).mono ?_
  rintro e w17 ⟨v, rfl, hRF, hB⟩
  obtain ⟨aF, cF, hv⟩ := hRF.ex n HS.out.vl
  subst hv
  have KP20 := Lib.hid ((KP19.out.up (btr (bz w16) hB)).and (keepI hRF))
  clear KP19
  clear hRF hB
  clear gy
  have hall := KP20.out.here
  have hY1 := hall.2.2.2.2.2.2.1
  have hY0 := hall.2.2.2.2.2.2.2.1
  have hM1 := hall.2.2.2.2.2.2.2.2.2.1
  have hM0 := hall.2.2.2.2.2.2.2.2.2.2.1
  have hR1 := hall.2.2.2.2.2.2.2.2.2.2.2.2.1
  have hR0 := hall.2.2.2.2.2.2.2.2.2.2.2.2.2.1
  clear hall
  have zR := World.block_lt_of_cell? _ _ hR0
  have zM := World.block_lt_of_cell? _ _ hM0
  have zY := World.block_lt_of_cell? _ _ hY0
  simp only at zR zM zY
  go_wp2_with fail
  clear hY1 hY0 hM1 hM0 hR1 hR0 zR zM zY
  have hall := KP20.out.here
  have gF := hall.1
  have gr := hall.2.2.2.2.2.2.2.2.2.2.2.2.2.2.2.1
  clear hall
  refine (HS.out.ra _ _ _ gr gF).mono ?_
  rintro e w18 ⟨v, rfl, hRA, hB⟩
  obtain ⟨aA, cA, hv⟩ := hRA.ex n HS.out.al
  subst hv
  have KP21 := Lib.hid ((KP20.out.up (btr (bz w17) hB)).and (keepI hRA))
  clear KP20
  clear hRA hB
  clear gF gr
  have hall := KP21.out.here
  have hY1 := hall.2.2.2.2.2.2.2.1
  have hY0 := hall.2.2.2.2.2.2.2.2.1
  have hM1 := hall.2.2.2.2.2.2.2.2.2.2.1
  have hM0 := hall.2.2.2.2.2.2.2.2.2.2.2.1
  have hR1 := hall.2.2.2.2.2.2.2.2.2.2.2.2.2.1
  have hR0 := hall.2.2.2.2.2.2.2.2.2.2.2.2.2.2.1
  clear hall
  have zR := World.block_lt_of_cell? _ _ hR0
  have zM := World.block_lt_of_cell? _ _ hM0
  have zY := World.block_lt_of_cell? _ _ hY0
  simp only at zR zM zY
  go_wp2
  clear hY1 hY0 hM1 hM0 hR1 hR0 zR zM zY
  refine wp_region_flow [] [([0, 1], 2, true), ([], 3, true)] [4, 5, 7, 6, 8] (by kernel_rfl) (by kernel_rfl) ?_
  intro w19 hB hh
  clear hh
  have KP22 := Lib.hid ((KP21.out.up (btr (bz w18) hB)).and (keepB (bz w19)))
  clear KP21
  clear hB
  have hall := KP22.out.here
  have hY1 := hall.2.2.2.2.2.2.2.2.1
  have hY0 := hall.2.2.2.2.2.2.2.2.2.1
  have hM1 := hall.2.2.2.2.2.2.2.2.2.2.2.1
  have hM0 := hall.2.2.2.2.2.2.2.2.2.2.2.2.1
  have hR1 := hall.2.2.2.2.2.2.2.2.2.2.2.2.2.2.1
  have hR0 := hall.2.2.2.2.2.2.2.2.2.2.2.2.2.2.2.1
  clear hall
  have zR := World.block_lt_of_cell? _ _ hR0
  have zM := World.block_lt_of_cell? _ _ hM0
  have zY := World.block_lt_of_cell? _ _ hY0
  simp only at zR zM zY
  have hL := @Later.cell w19
  simp only [flowP, flow, pickL, List.getElem?_cons_succ, List.getElem?_cons_zero]
  refine wpQuiet_nil ?_
  repeat (go_big_quiet_step (fail))
  refine wpQuiet_nil ?_
  go_wp2_with fail
  have hall := KP22.out.here
  have gF := hall.2.2.1
  clear hall
  refine (HS.out.op _ _ gF).mono ?_
  rintro e w20 ⟨v, rfl, hRO, hB⟩
  obtain ⟨aO, cO, hv⟩ := hRO.ex n HS.out.bl
  subst hv
  have KP23 := Lib.hid ((KP22.out.up (btr (bz w19) hB)).and (keepI hRO))
  clear KP22
  clear hRO hB
  clear gF
  go_wp2
  have hall := KP23.out.here
  have gSw19 := hall.2.1
  clear hall
  refine seg_grow ⟨⟨_, gSw19⟩, rfl⟩ ?_
  clear gSw19
  repeat (go_big_quiet_step (fail))
  refine wpQuiet_nil ?_
  go_wp2_with fail
  have hall := KP23.out.here
  have gO := hall.1
  have gM := hall.2.2.2.2.2.2.2.2.2.2.2.2.2.2.1
  clear hall
  refine (HS.out.rb _ _ _ gM gO).mono ?_
  rintro e w21 ⟨v, rfl, hRB, hB⟩
  obtain ⟨aB, cB, hv⟩ := hRB.ex n (by rw [oppL_len]; exact HS.out.al)
  subst hv
  have KP24 := Lib.hid ((KP23.out.up (btr (bz w20) hB)).and (keepI hRB))
  clear KP23
  clear hRB hB
  clear gO gM
  go_wp2
  have hall := KP24.out.here
  have gSw19 := hall.2.2.1
  clear hall
  refine seg_grow ⟨⟨_, gSw19⟩, rfl⟩ ?_
  clear gSw19
  repeat (go_big_quiet_step (fail))
  refine wpQuiet_nil ?_
  refine only_done ?_
  clear hY1 hY0 hM1 hM0 hR1 hR0 zR zM zY hL
  have hall := KP24.out.here
  have hY1 := hall.2.2.2.2.2.2.2.2.2.2.1
  have hY0 := hall.2.2.2.2.2.2.2.2.2.2.2.1
  have hM1 := hall.2.2.2.2.2.2.2.2.2.2.2.2.2.1
  have hM0 := hall.2.2.2.2.2.2.2.2.2.2.2.2.2.2.1
  have hR1 := hall.2.2.2.2.2.2.2.2.2.2.2.2.2.2.2.2.1
  have hR0 := hall.2.2.2.2.2.2.2.2.2.2.2.2.2.2.2.2.2.1
  clear hall
  have zR := World.block_lt_of_cell? _ _ hR0
  have zM := World.block_lt_of_cell? _ _ hM0
  have zY := World.block_lt_of_cell? _ _ hY0
  simp only at zR zM zY
  go_wp2_with fail
  clear hY1 hY0 hM1 hM0 hR1 hR0 zR zM zY
  have hall := KP24.out.here
  have gA := hall.2.2.2.1
  clear hall
  refine (opposite_any _ a1 _ gA HS.out.ain (by have := HS.out.al; omega)).mono ?_
  rintro e w22 ⟨v, rfl, hRZ, hB⟩
  obtain ⟨aZ, cZ, hv⟩ := hRZ.ex n (by rw [oppL_len]; exact HS.out.al)
  subst hv
  have KP25 := Lib.hid ((KP24.out.up (btr (bz w21) hB)).and (keepI hRZ))
  clear KP24
  clear hRZ hB
  clear gA
  have hall := KP25.out.here
  have hY1 := hall.2.2.2.2.2.2.2.2.2.2.2.1
  have hY0 := hall.2.2.2.2.2.2.2.2.2.2.2.2.1
  have hM1 := hall.2.2.2.2.2.2.2.2.2.2.2.2.2.2.1
  have hM0 := hall.2.2.2.2.2.2.2.2.2.2.2.2.2.2.2.1
  have hR1 := hall.2.2.2.2.2.2.2.2.2.2.2.2.2.2.2.2.2.1
  have hR0 := hall.2.2.2.2.2.2.2.2.2.2.2.2.2.2.2.2.2.2.1
  clear hall
  have zR := World.block_lt_of_cell? _ _ hR0
  have zM := World.block_lt_of_cell? _ _ hM0
  have zY := World.block_lt_of_cell? _ _ hY0
  simp only at zR zM zY
  go_wp2_with fail
  clear hY1 hY0 hM1 hM0 hR1 hR0 zR zM zY
  have hall := KP25.out.here
  have gZ := hall.1
  have gB := hall.2.1
  clear hall
  refine (longs_eq _ _ (oppL a1) _ gB gZ (by rw [oppL_len]; have := HS.out.al; omega)).mono ?_
  rintro e w23 ⟨rfl, hB⟩
  have KP26 := Lib.hid (KP25.out.up (btr (bz w22) hB))
  clear KP25
  clear hB
  clear gZ gB
  have hall := KP26.out.here
  have hY1 := hall.2.2.2.2.2.2.2.2.2.2.2.1
  have hY0 := hall.2.2.2.2.2.2.2.2.2.2.2.2.1
  have hM1 := hall.2.2.2.2.2.2.2.2.2.2.2.2.2.2.1
  have hM0 := hall.2.2.2.2.2.2.2.2.2.2.2.2.2.2.2.1
  have hR1 := hall.2.2.2.2.2.2.2.2.2.2.2.2.2.2.2.2.2.1
  have hR0 := hall.2.2.2.2.2.2.2.2.2.2.2.2.2.2.2.2.2.2.1
  clear hall
  have zR := World.block_lt_of_cell? _ _ hR0
  have zM := World.block_lt_of_cell? _ _ hM0
  have zY := World.block_lt_of_cell? _ _ hY0
  simp only at zR zM zY
  go_wp2_with fail
  clear hY1 hY0 hM1 hM0 hR1 hR0 zR zM zY
  refine (works_any _).mono ?_
  rintro e w24 ⟨rfl, hB⟩
  have KP27 := Lib.hid (KP26.out.up (btr (bz w23) hB))
  clear KP26
  clear hB
  have hall := KP27.out.here
  have gBelow := hall.2.2.2.2.2.2.2.2.2.2.2.2.2.2.2.2.2.2.2.2.2
  clear hall
  go_wp2
  go_ret
  exact ⟨rfl, gBelow⟩
section
open Go.ChangeShapes Go.WideShapes Go.ChangeAt
set_option maxRecDepth 100000 in
theorem valveMirrored_lifted (os : Os) (started : os.Started) (H : Type) (enc : TypeId × Value → H) :
    ReturnsInHanded {} Try.checked os 13 .any (Rows.valveMirroredSpec.pre6 enc Try.prog Try.f13 Rows.valveMirroredRow.domain false) (Rows.valveMirroredSpec.post enc Try.prog Try.f13 false true false false) := by
  refine returnsInHanded_of_change (C := Try.checked) Try.own started (by kernel_rfl) Try.func13
    (ChangeSpec.witness6 (enc := enc) (C := Try.checked) false ⟨#[], #[.agg #[.int .i64 0, .slice none 0 0], .slice none 0 0], []⟩ 8 (by kernel_rfl) (by kernel_rfl) (by kernel_rfl) (by kernel_rfl)) ?_
  intro W base args ds gs before hval0 hW _ _
  have hval : ∀ (j : Nat) t v, Try.f13.params[j]? = some t → args[j]? = some v → Value.okWide Try.prog W .any base t v := hval0
  have hW' := hW
  obtain ⟨p, q, hA0, hV, rfl, hfz, hnd⟩ := hW
  have hA : DataW.TrodAll enc Try.prog W 0 (fun _ => true) true Try.f13.params.toList args.toList ds p := hA0
  have hA2 := hA
  have hlt : ∀ x ∈ p, x.block < W.heap.size := fun x hx => hW'.lt x (List.mem_append_left _ hx)
  rw [Try.params13] at hA hval
  obtain ⟨v0, vs0, d0, ds0, p0, q0, hargs, rfl, rfl, h0, r0⟩ := trodAll_cons hA
  obtain ⟨v1, vs1, d1, ds1, p1, q1, rfl, rfl, rfl, h1, r1⟩ := trodAll_cons r0
  obtain ⟨rfl, rfl, rfl⟩ := trodAll_nil r1
  obtain rfl : args = #[v0, v1] := by cases args; simp_all
  obtain ⟨rfl, rfl⟩ := trodVars_none hV
  obtain ⟨a0, x0, V0, rfl, hx0⟩ := open_row (hval 0 24 v0 rfl rfl) h0 (fun x hx => hlt x (by simp [hx]))
  obtain ⟨X1, hx1, hw1⟩ := open_ints_rd Try.underlying49 Try.underlying55 (by kernel_rfl) (hval 1 49 v1 rfl rfl) h1 (fun x hx => hlt x (by simp [hx]))
  clear hA0 hval0
  simp only [List.append_nil] at hW' hA2
  refine (mirror_walk a0 x0 v1 V0 X1 W hx0 hx1 (fun v hv => wf16 (hw1 v hv))).mono fun e W' ⟨he, hb⟩ => ?_
  subst he
  exact ⟨_, rfl, law_post Try.laidOut Try.underlying4 hW' hA2 rfl rfl rfl rfl rfl (by kernel_rfl) hb⟩
theorem valveMirrored_holds : Rows.ValveMirroredSaid :=
  OpenClaim.holds_of_wide 13 Try.f13 rfl rfl rfl rfl rfl rfl rfl ⟨rfl, rfl, rfl, rfl, rfl⟩ rfl rfl rfl rfl rfl (by kernel_rfl) Try.func13 (by kernel_rfl)
    (of_decide_eq_true (by kernel_rfl)) (by unfold Func.isWrapper; first | (rw [if_pos (by decide +kernel)]; kernel_rfl) | (rw [if_neg (by decide +kernel)]; exact ⟨rfl, rfl⟩))
    (fun os started H enc _ => valveMirrored_lifted os started H enc)
end
end Go.Proofs.Ytdnaipiiponhpaa
