/- ValveImages holds; no condition. -/
import Derived.Test.YtdnaipiiponhpaaH5
import Derived.Test.YtdnaipiiponhpaaP8
namespace Go.Proofs.Ytdnaipiiponhpaa
open Go.RowKit Go.Shelf

theorem two_places {n a r : Nat} (hn : 2 ≤ n) (ha : a < n) (hr : r < n - 1) : (a + 1 + r) % n < n ∧ (a + 1 + r) % n ≠ a := by
  refine ⟨Nat.mod_lt _ (by omega), ?_⟩
  by_cases h : a + 1 + r < n
  · rw [Nat.mod_eq_of_lt h]; omega
  · rw [Nat.mod_eq_sub_mod (by omega), Nat.mod_eq_of_lt (by omega)]; omega
structure ImgS (n : Nat) (V : List (Int × Int)) (m pw : Nat) (c1 : Int) : Prop where
  im : imagesN n V = m
  gt : n < m
  le : m ≤ pw
  pw : wrap64 ((2 : Int) ^ n) = (pw : Int)
  so : (if (patOf n V).isSome then (23 : Int) else 0) = c1
  iff : (c1 = 0 ∧ m = n + 1) ∨ (c1 = 23 ∧ m ≠ n + 1)
  one : n = 1 → m = 2
theorem imgS (n : Nat) (V : List (Int × Int)) (h : checkR n V = 0) : ∃ m pw c1, ImgS n V m pw c1 := by
  obtain ⟨h8, h1, h40, hok⟩ := okn h
  have hle := img_le h8 hok
  have hge := img_ge n V
  have h256 := pow_le_8 n h8
  refine ⟨imagesN n V, 2 ^ n, _, rfl, hge, hle, ?_, rfl, ?_, fun h => ?_⟩
  · have e : (2 : Int) ^ n = ((2 ^ n : Nat) : Int) := by simp
    rw [e]; unfold wrap64; omega
  · have := img_sorts h8 hok
    cases hp : patOf n V with
    | none => left; exact ⟨rfl, this.2 hp⟩
    | some t => right; refine ⟨rfl, fun e => ?_⟩; rw [this.1 e] at hp; cases hp
  · subst h; simp at hle; omega
theorem check_more {n : Nat} {V : List (Int × Int)} (h : checkR n V = 0) (h39 : V.length < 40) {a b : Nat} (ha : a < n) (hb : b < n) (hne : b ≠ a) : checkR n (V ++ [(min (a : Int) b, max (a : Int) b)]) = 0 := by
  have hk := okn h
  refine check_of_ok ⟨by omega, by omega, by simp; omega, ?_⟩
  intro v hv
  rw [List.mem_append, List.mem_singleton] at hv
  rcases hv with hv | rfl
  · exact hk.2.2.2 v hv
  · simp only; omega
structure MoreS (n : Nat) (V : List (Int × Int)) (m m2 : Nat) (q1 q2 : Int) : Prop where
  ok : checkR n (V ++ [(q1, q2)]) = 0
  im : imagesN n (V ++ [(q1, q2)]) = m2
  le : m2 ≤ m
  gt : n < m2
theorem moreS (n : Nat) (V : List (Int × Int)) (m : Nat) (h : checkR n V = 0) (hm : imagesN n V = m) (h39 : V.length < 40) {a b : Nat} (ha : a < n) (hb : b < n) (hne : b ≠ a) : ∃ m2, MoreS n V m m2 (min (a : Int) b) (max (a : Int) b) := by
  have hc := check_more h h39 ha hb hne
  have hk := okn hc
  exact ⟨_, hc, rfl, by rw [← hm]; exact img_more hk.1 hk.2.2.2, img_ge _ _⟩

set_option maxRecDepth 100000 in
set_option maxHeartbeats 60000000 in
theorem images_walk (p z1 z2 : Int) (x : Value) (V : List (Int × Int)) (w : World) (hx : RdP w x V) (hz1 : 0 ≤ z1 ∧ z1 ≤ 255) (hz2 : 0 ≤ z2 ∧ z2 ≤ 255) :
    Calls Try.prog 9 #[.agg #[.int .i64 p, x], .int .u8 z1, .int .u8 z2] w fun e w' => e = .returned (.bool true) ∧ Below w.heap.size w w' := by
  obtain ⟨a, c, rfl⟩ := hx.ex _ rfl
  by_cases hF : checkR p V ≠ 0
  ·
    have KP0 := Lib.hid ((keepB (bz w)).and (keepP hx))
    clear hx
    go_enter Try.func9, Try.ntmps9
    go_wp2_with fail
    have KP1 := Lib.hid (((KP0.out.up (bal (bz w) _)).and (keepC (w := (w.alloc (.cells #[.int .i64 p, .slice a V.length c] 24))) (p := ⟨w.heap.size, 0, none⟩) (v := .int .i64 p) (cnew (by simp) rfl))).and (keepC (w := (w.alloc (.cells #[.int .i64 p, .slice a V.length c] 24))) (p := ⟨w.heap.size, 1, none⟩) (v := .slice a V.length c) (cnew (by simp) rfl)))
    clear KP0
    have hall := KP1.out.here
    have gr := hall.2.2.1
    clear hall
    refine (fine_no p _ V _ gr hF).mono ?_
    rintro e w1 ⟨rfl, hB⟩
    have KP2 := Lib.hid (KP1.out.up (btr (bz ((w.alloc (.cells #[.int .i64 p, .slice a V.length c] 24)))) hB))
    clear KP1
    clear hB
    clear gr
    have hall := KP2.out.here
    have hR1 := hall.1
    have hR0 := hall.2.1
    clear hall
    have zR := World.block_lt_of_cell? _ _ hR0
    simp only at zR
    go_wp2_with fail
    clear hR1 hR0 zR
    refine (works_any _).mono ?_
    rintro e w2 ⟨rfl, hB⟩
    have KP3 := Lib.hid (KP2.out.up (btr (bz w1) hB))
    clear KP2
    clear hB
    have hall := KP3.out.here
    have gBelow := hall.2.2.2
    clear hall
    go_wp2
    go_ret
    exact ⟨rfl, gBelow⟩
  have hF := Classical.not_not.1 hF
  by_cases h39 : 40 ≤ V.length
  ·
    have h39i : (40 : Int) ≤ (V.length : Int) := by omega
    have KP0 := Lib.hid ((keepB (bz w)).and (keepP hx))
    clear hx
    go_enter Try.func9, Try.ntmps9
    go_wp2_with fail
    have KP1 := Lib.hid (((KP0.out.up (bal (bz w) _)).and (keepC (w := (w.alloc (.cells #[.int .i64 p, .slice a V.length c] 24))) (p := ⟨w.heap.size, 0, none⟩) (v := .int .i64 p) (cnew (by simp) rfl))).and (keepC (w := (w.alloc (.cells #[.int .i64 p, .slice a V.length c] 24))) (p := ⟨w.heap.size, 1, none⟩) (v := .slice a V.length c) (cnew (by simp) rfl)))
    clear KP0
    have hall := KP1.out.here
    have gr := hall.2.2.1
    clear hall
    refine (fine_yes p _ V _ gr hF).mono ?_
    rintro e w1 ⟨rfl, hB⟩
    have KP2 := Lib.hid (KP1.out.up (btr (bz ((w.alloc (.cells #[.int .i64 p, .slice a V.length c] 24)))) hB))
    clear KP1
    clear hB
    clear gr
    have hall := KP2.out.here
    have hR1 := hall.1
    have hR0 := hall.2.1
    clear hall
    have zR := World.block_lt_of_cell? _ _ hR0
    simp only at zR
    go_wp2_with fail
    clear hR1 hR0 zR
    refine (works_any _).mono ?_
    rintro e w2 ⟨rfl, hB⟩
    have KP3 := Lib.hid (KP2.out.up (btr (bz w1) hB))
    clear KP2
    clear hB
    have hall := KP3.out.here
    have gBelow := hall.2.2.2
    clear hall
    go_wp2
    go_ret
    exact ⟨rfl, gBelow⟩
  have h39i : ¬ ((40 : Int) ≤ (V.length : Int)) := by omega
  obtain ⟨n, rfl⟩ : ∃ n : Nat, p = n := ⟨p.toNat, by have := (okRow_of hF).p1; omega⟩
  obtain ⟨h8, h1, h40, hok⟩ := okn hF
  have HF := Lib.hid hF
  obtain ⟨m, pw, c1, hS⟩ := imgS n V hF
  have HS := Lib.hid hS
  have hm1 : ¬ ((m : Int) ≤ (n : Int)) := by have := HS.out.gt; omega
  have hm2 : ¬ ((pw : Int) < (m : Int)) := by have := HS.out.le; omega
  have hpw := HS.out.pw
  clear hF hok hS
  have KP0 := Lib.hid ((keepB (bz w)).and (keepP hx))
  clear hx
  go_enter Try.func9, Try.ntmps9
  go_wp2_with fail
  have KP1 := Lib.hid (((KP0.out.up (bal (bz w) _)).and (keepC (w := (w.alloc (.cells #[.int .i64 n, .slice a V.length c] 24))) (p := ⟨w.heap.size, 0, none⟩) (v := .int .i64 n) (cnew (by simp) rfl))).and (keepC (w := (w.alloc (.cells #[.int .i64 n, .slice a V.length c] 24))) (p := ⟨w.heap.size, 1, none⟩) (v := .slice a V.length c) (cnew (by simp) rfl)))
  clear KP0
  have hall := KP1.out.here
  have gr := hall.2.2.1
  clear hall
  refine (fine_yes n _ V _ gr HF.out).mono ?_
  rintro e w1 ⟨rfl, hB⟩
  have KP2 := Lib.hid (KP1.out.up (btr (bz ((w.alloc (.cells #[.int .i64 n, .slice a V.length c] 24)))) hB))
  clear KP1
  clear hB
  clear gr
  have hall := KP2.out.here
  have hR1 := hall.1
  have hR0 := hall.2.1
  clear hall
  have zR := World.block_lt_of_cell? _ _ hR0
  simp only at zR
  go_wp2_with fail
  clear hR1 hR0 zR
  have hall := KP2.out.here
  have gr := hall.2.2.1
  clear hall
  refine (images_k n _ V m _ gr HF.out HS.out.im).mono ?_
  rintro e w2 ⟨rfl, hB⟩
  have KP3 := Lib.hid (KP2.out.up (btr (bz w1) hB))
  clear KP2
  clear hB
  clear gr
  rcases HS.out.iff with ⟨rfl, hmn⟩ | ⟨rfl, hmn⟩
  · have hme : ((m : Int) == (n : Int) + 1) = true := by rw [beq_iff_eq]; omega
    have HMN := Lib.hid hmn
    clear hmn
    have d1 : decide ((m : Int) ≤ (n : Int)) = false := decide_eq_false (by have := HS.out.gt; omega)
    have d2 : decide ((pw : Int) < (m : Int)) = false := decide_eq_false (by have := HS.out.le; omega)
    have d1n : decide (m ≤ n) = false := decide_eq_false (by have := HS.out.gt; omega)
    have d2n : decide (pw < m) = false := decide_eq_false (by have := HS.out.le; omega)
    have hall := KP3.out.here
    have hR1 := hall.1
    have hR0 := hall.2.1
    clear hall
    have zR := World.block_lt_of_cell? _ _ hR0
    simp only at zR
    go_wp2
    clear hR1 hR0 zR
    refine wp_region_flow [] [([0, 1, 2, 3, 4, 5, 6, 7, 8, 9, 10, 11, 12, 13, 14, 15, 16, 17, 18, 19, 20, 21], 22, true)] [23, 24, 25] (by kernel_rfl) (by kernel_rfl) ?_
    intro w3 hB hh
    clear hh
    have KP4 := Lib.hid ((KP3.out.up (btr (bz w2) hB)).and (keepB (bz w3)))
    clear KP3
    clear hB
    have hall := KP4.out.here
    have hR1 := hall.2.1
    have hR0 := hall.2.2.1
    clear hall
    have zR := World.block_lt_of_cell? _ _ hR0
    simp only at zR
    have hL := @Later.cell w3
    simp only [flowP, flow, pickL, List.getElem?_cons_succ, List.getElem?_cons_zero]
    refine wpQuiet_nil ?_
    repeat (go_big_quiet_step (fail))
    refine wpQuiet_nil ?_
    go_wp2_with fail
    have hall := KP4.out.here
    have gr := hall.2.2.2.1
    clear hall
    refine (sorts_k n _ V 0 _ gr HF.out HS.out.so).mono ?_
    rintro e w4 ⟨rfl, hB⟩
    have KP5 := Lib.hid (KP4.out.up (btr (bz w3) hB))
    clear KP4
    clear hB
    clear gr
    go_wp2
    have hall := KP5.out.here
    have gSw3 := hall.1
    clear hall
    refine seg_grow ⟨⟨_, gSw3⟩, rfl⟩ ?_
    clear gSw3
    repeat (go_big_quiet_step (fail))
    refine wpQuiet_nil ?_
    refine only_done ?_
    clear hR1 hR0 zR hL
    by_cases hn1 : n = 1
    · have hm3 : m = 2 := HS.out.one hn1
      have hn1b : ((n : Int) == 1) = true := by rw [beq_iff_eq]; omega
      have hm2b : ((m : Int) == 2) = true := by rw [beq_iff_eq]; omega
      clear hm3 hn1
      have hall := KP5.out.here
      have hR1 := hall.2.1
      have hR0 := hall.2.2.1
      clear hall
      have zR := World.block_lt_of_cell? _ _ hR0
      simp only at zR
      go_wp2_with fail
      clear hR1 hR0 zR
      refine (works_any _).mono ?_
      rintro e w5 ⟨rfl, hB⟩
      have KP6 := Lib.hid (KP5.out.up (btr (bz w4) hB))
      clear KP5
      clear hB
      have hall := KP6.out.here
      have gBelow := hall.2.2.2.2
      clear hall
      go_wp2
      go_ret
      exact ⟨rfl, gBelow⟩
    · have hn1b : ((n : Int) == 1) = false := by rw [beq_eq_false_iff_ne]; omega
      obtain ⟨k1, rfl⟩ : ∃ k1 : Nat, z1 = k1 := ⟨z1.toNat, by omega⟩
      obtain ⟨k2, rfl⟩ : ∃ k2 : Nat, z2 = k2 := ⟨z2.toNat, by omega⟩
      obtain ⟨pa, hpa⟩ : ∃ pa, pa = k1 % n := ⟨_, rfl⟩
      obtain ⟨pr, hpr⟩ : ∃ pr, pr = k2 % (n - 1) := ⟨_, rfl⟩
      obtain ⟨pb, hpb⟩ : ∃ pb, pb = (pa + 1 + pr) % n := ⟨_, rfl⟩
      have hpan : pa < n := by rw [hpa]; exact Nat.mod_lt _ h1
      have hprn : pr < n - 1 := by rw [hpr]; exact Nat.mod_lt _ (by omega)
      obtain ⟨hpbn, hpne⟩ := two_places (by omega) hpan hprn
      rw [← hpb] at hpbn hpne
      have t1 : (k1 : Int).tmod (n : Int) = (pa : Int) := by rw [hpa]; have := (Int.ofNat_tmod k1 n).symm; simpa using this
      have t2 : (k2 : Int).tmod ((n : Int) - 1) = (pr : Int) := by rw [hpr, show ((n : Int) - 1) = ((n - 1 : Nat) : Int) by omega]; have := (Int.ofNat_tmod k2 (n - 1)).symm; simpa using this
      have t3 : ((pa : Int) + 1 + (pr : Int)).tmod (n : Int) = (pb : Int) := by rw [hpb, show (pa : Int) + 1 + (pr : Int) = ((pa + 1 + pr : Nat) : Int) by omega]; have := (Int.ofNat_tmod (pa + 1 + pr) n).symm; simpa using this
      have hz1b : ((n : Int) == 0) = false := by rw [beq_eq_false_iff_ne]; omega
      have hz2b : ((n : Int) - 1 == 0) = false := by rw [beq_eq_false_iff_ne]; omega
      obtain ⟨m2, hM⟩ := moreS n V m HF.out HS.out.im (by omega) hpan hpbn hpne
      have HM := Lib.hid hM
      clear hM hpa hpr hpb hn1
      have hall := KP5.out.here
      have hR1 := hall.2.1
      have hR0 := hall.2.2.1
      clear hall
      have zR := World.block_lt_of_cell? _ _ hR0
      simp only at zR
      go_wp2
      clear hR1 hR0 zR
      refine wp_region_flow [] [] [0, 1, 2, 3, 4, 5, 6, 7, 8, 9, 10, 11, 12] (by kernel_rfl) (by kernel_rfl) ?_
      intro w5 hB hh
      clear hh
      have KP6 := Lib.hid ((KP5.out.up (btr (bz w4) hB)).and (keepB (bz w5)))
      clear KP5
      clear hB
      have hall := KP6.out.here
      have hR1 := hall.2.2.1
      have hR0 := hall.2.2.2.1
      clear hall
      have zR := World.block_lt_of_cell? _ _ hR0
      simp only at zR
      have hL := @Later.cell w5
      simp only [flowP, flow, pickL, List.getElem?_cons_succ, List.getElem?_cons_zero]
      refine wpQuiet_nil ?_
      repeat (go_big_quiet_step (fail))
      refine wpQuiet_nil ?_
      refine only_done ?_
      clear hR1 hR0 zR hL
      have hall := KP6.out.here
      have hR1 := hall.2.2.1
      have hR0 := hall.2.2.2.1
      clear hall
      have zR := World.block_lt_of_cell? _ _ hR0
      simp only at zR
      go_wp2
      clear hR1 hR0 zR
      rcases Nat.lt_or_ge pa pb with hab | hab
      · have hi1 : (pa : Int) < (pb : Int) := by omega
        have hi2 : ¬ ((pb : Int) < (pa : Int)) := by omega
        have hi3 : ¬ ((pb : Int) ≤ (pa : Int)) := by omega
        have hi4 : (pa : Int) ≤ (pb : Int) := by omega
        have HM : Hid (MoreS n V m m2 (pa : Int) (pb : Int)) := Lib.hid (by have := HM.out; rwa [show min (pa : Int) (pb : Int) = pa by omega, show max (pa : Int) (pb : Int) = pb by omega] at this)
        go_cut [11] (fun s11 wx => ∃ (g : Nat) (vA : Value) (G : World → Prop), s11 = .pointer (some ⟨g, 0, none⟩) ∧ Keep wx G ∧ ∀ w2, G w2 → w2.cell? ⟨g, 0, none⟩ = some (.int .i64 n) ∧ w2.cell? ⟨g, 1, none⟩ = some vA ∧ RdP w2 vA ([] ++ V ++ [((pa : Int), (pb : Int))]) ∧ Below w5.heap.size w5 w2)
        case first =>
          refine wp_region_U [0, 1, 3, 4, 6, 7, 8, 9, 10, 11, 12, 15] [] (by kernel_rfl) (by kernel_rfl) ?_
          intro w6 hB hh
          clear hh
          have KP7 := Lib.hid ((KP6.out.up (btr (bz w5) hB)).and (keepB hB))
          clear KP6
          clear hB
          have hall := KP7.out.here
          have gBq := hall.1
          have gR1 := hall.2.2.2.1
          have gR0 := hall.2.2.2.2.1
          have gr := hall.2.2.2.2.2.1
          clear hall
          have zR := World.block_lt_of_cell? _ _ gR0
          simp only at zR
          have hL := @Later.cell w6
          have HGR := Lib.hid gr; have HBQ := Lib.hid gBq
          clear gr gBq
          refine U_heads2 [0, 1, 3, 4, 6, 7, 8, 9, 10, 11, 12] (by kernel_rfl) ⟨⟨_, bz w6⟩, rfl⟩ ?_
          simp only [pickL, List.getElem?_cons_succ, List.getElem?_cons_zero]
          repeat (go_big_quiet_step (rfl))
          refine wpQuiet_nil ?_
          clear gR0 gR1 zR hL
          have HX0 := Lib.hid (X3.nil w6 (pa : Int) (pb : Int))
          refine U_all [2, 13, 16] (by kernel_rfl) (fun cc hcc => ?_)
          simp only [List.mem_cons, List.not_mem_nil, or_false] at hcc
          rcases hcc with rfl | rfl | rfl
          · simp only [pickL, List.getElem?_cons_succ, List.getElem?_cons_zero]
            go_wp2
            have HX1 := Lib.hid (HX0.out.a2 (w6.heap.size) (by simp))
            clear HX0
            refine seg_grow ⟨⟨_, HX1.out.le⟩, rfl⟩ ?_
            refine U_all [5, 13, 16] (by kernel_rfl) (fun cc hcc => ?_)
            simp only [List.mem_cons, List.not_mem_nil, or_false] at hcc
            rcases hcc with rfl | rfl | rfl
            · simp only [pickL, List.getElem?_cons_succ, List.getElem?_cons_zero]
              go_wp2_with (at_builtin; refine wpList_append_rows rfl _ _ rfl HX1.out.own rfl rfl (HGR.out.mono HX1.out.le) (by simp) (by omega) HX1.out.le.size ?_)
              intro v5 w105 h1 h2 h3
              obtain ⟨ao5, co5, hvo⟩ := owns_form h1
              subst hvo
              have HX2 := Lib.hid (HX1.out.grow (V := V) (by simpa using h1) h2 (by simpa using h3))
              clear h1 h2 h3 HX1
              go_wp2
              refine seg_grow ⟨⟨_, HX2.out.le⟩, rfl⟩ ?_
              refine U_two 13 16 (by kernel_rfl) ?_ ?_
              · simp only [pickL, List.getElem?_cons_succ, List.getElem?_cons_zero]
                go_wp2
                have HX3 := Lib.hid (HX2.out.a13 (w105.heap.size) (by simp))
                clear HX2
                refine seg_grow ⟨⟨_, HX3.out.le⟩, rfl⟩ ?_
                refine U_two 14 16 (by kernel_rfl) ?_ ?_
                · simp only [pickL, List.getElem?_cons_succ, List.getElem?_cons_zero]
                  go_wp2_with (at_builtin; refine wpList_append_rows rfl _ _ rfl HX3.out.own rfl rfl HX3.out.rd (by simp; omega) (by simp) HX3.out.le.size ?_)
                  intro v14 w114 h1 h2 h3
                  obtain ⟨ao14, co14, hvo⟩ := owns_form h1
                  subst hvo
                  have HX4 := Lib.hid (HX3.out.grow (V := [((pa : Int), (pb : Int))]) (by simpa using h1) h2 (by simpa using h3))
                  clear h1 h2 h3 HX3
                  go_wp2
                  refine seg_grow ⟨⟨_, HX4.out.le⟩, rfl⟩ ?_
                  refine U_heads2 [15] (by kernel_rfl) ⟨⟨_, HX4.out.le⟩, rfl⟩ ?_
                  simp only [pickL, List.getElem?_cons_succ, List.getElem?_cons_zero]
                  repeat (go_big_quiet_step (rfl))
                  refine wpQuiet_nil ?_
                  refine U_one 16 (by kernel_rfl) ?_
                  simp only [pickL, List.getElem?_cons_succ, List.getElem?_cons_zero]
                  go_wp2
                  have HX5 := Lib.hid (HX4.out.a16 (w114.heap.size) (by simp))
                  clear HX4
                  refine seg_grow ⟨⟨_, HX5.out.le⟩, rfl⟩ ?_
                  refine U_one 17 (by kernel_rfl) ?_
                  simp only [pickL, List.getElem?_cons_succ, List.getElem?_cons_zero]
                  obtain ⟨q0, q1, q2, q3, q4, q5⟩ := HX5.out.cell
                  obtain ⟨G, hKG, hG⟩ := HX5.out.put n
                  have HG := Lib.hid hG
                  clear hG
                  try simp at q0
                  try simp at q2
                  try simp at q3
                  try simp at q4
                  try simp at q5
                  go_wp2
                  try simp [go_sem] at hKG
                  have HKG := Lib.hid hKG
                  clear hKG
                  refine seg_grow ⟨⟨_, (HG.out _ HKG.out.here).2.2.2⟩, rfl⟩ ?_
                  refine U_done (by kernel_rfl) ?_
                  go_wp2_with fail
                  go_meet
                  exact ⟨_, _, G, rfl, HKG.out, fun w2 h => ⟨(HG.out w2 h).1, (HG.out w2 h).2.1, (HG.out w2 h).2.2.1, btr HBQ.out (HG.out w2 h).2.2.2⟩⟩
                · simp only [pickL, List.getElem?_cons_succ, List.getElem?_cons_zero]
                  go_wp2
                  have HX4 := Lib.hid (HX3.out.a16 (w105.heap.size + 1) (by simp))
                  clear HX3
                  refine seg_grow ⟨⟨_, HX4.out.le⟩, rfl⟩ ?_
                  refine U_one 14 (by kernel_rfl) ?_
                  simp only [pickL, List.getElem?_cons_succ, List.getElem?_cons_zero]
                  go_wp2_with (at_builtin; refine wpList_append_rows rfl _ _ rfl HX4.out.own rfl rfl HX4.out.rd (by simp; omega) (by simp) HX4.out.le.size ?_)
                  intro v14 w114 h1 h2 h3
                  obtain ⟨ao14, co14, hvo⟩ := owns_form h1
                  subst hvo
                  have HX5 := Lib.hid (HX4.out.grow (V := [((pa : Int), (pb : Int))]) (by simpa using h1) h2 (by simpa using h3))
                  clear h1 h2 h3 HX4
                  go_wp2
                  refine seg_grow ⟨⟨_, HX5.out.le⟩, rfl⟩ ?_
                  refine U_heads2 [15] (by kernel_rfl) ⟨⟨_, HX5.out.le⟩, rfl⟩ ?_
                  simp only [pickL, List.getElem?_cons_succ, List.getElem?_cons_zero]
                  repeat (go_big_quiet_step (rfl))
                  refine wpQuiet_nil ?_
                  refine U_one 17 (by kernel_rfl) ?_
                  simp only [pickL, List.getElem?_cons_succ, List.getElem?_cons_zero]
                  obtain ⟨q0, q1, q2, q3, q4, q5⟩ := HX5.out.cell
                  obtain ⟨G, hKG, hG⟩ := HX5.out.put n
                  have HG := Lib.hid hG
                  clear hG
                  try simp at q0
                  try simp at q2
                  try simp at q3
                  try simp at q4
                  try simp at q5
                  go_wp2
                  try simp [go_sem] at hKG
                  have HKG := Lib.hid hKG
                  clear hKG
                  refine seg_grow ⟨⟨_, (HG.out _ HKG.out.here).2.2.2⟩, rfl⟩ ?_
                  refine U_done (by kernel_rfl) ?_
                  go_wp2_with fail
                  go_meet
                  exact ⟨_, _, G, rfl, HKG.out, fun w2 h => ⟨(HG.out w2 h).1, (HG.out w2 h).2.1, (HG.out w2 h).2.2.1, btr HBQ.out (HG.out w2 h).2.2.2⟩⟩
              · simp only [pickL, List.getElem?_cons_succ, List.getElem?_cons_zero]
                go_wp2
                have HX3 := Lib.hid (HX2.out.a16 (w105.heap.size) (by simp))
                clear HX2
                refine seg_grow ⟨⟨_, HX3.out.le⟩, rfl⟩ ?_
                refine U_one 13 (by kernel_rfl) ?_
                simp only [pickL, List.getElem?_cons_succ, List.getElem?_cons_zero]
                go_wp2
                have HX4 := Lib.hid (HX3.out.a13 (w105.heap.size + 1) (by simp))
                clear HX3
                refine seg_grow ⟨⟨_, HX4.out.le⟩, rfl⟩ ?_
                refine U_one 14 (by kernel_rfl) ?_
                simp only [pickL, List.getElem?_cons_succ, List.getElem?_cons_zero]
                go_wp2_with (at_builtin; refine wpList_append_rows rfl _ _ rfl HX4.out.own rfl rfl HX4.out.rd (by simp; omega) (by simp) HX4.out.le.size ?_)
                intro v14 w114 h1 h2 h3
                obtain ⟨ao14, co14, hvo⟩ := owns_form h1
                subst hvo
                have HX5 := Lib.hid (HX4.out.grow (V := [((pa : Int), (pb : Int))]) (by simpa using h1) h2 (by simpa using h3))
                clear h1 h2 h3 HX4
                go_wp2
                refine seg_grow ⟨⟨_, HX5.out.le⟩, rfl⟩ ?_
                refine U_heads2 [15] (by kernel_rfl) ⟨⟨_, HX5.out.le⟩, rfl⟩ ?_
                simp only [pickL, List.getElem?_cons_succ, List.getElem?_cons_zero]
                repeat (go_big_quiet_step (rfl))
                refine wpQuiet_nil ?_
                refine U_one 17 (by kernel_rfl) ?_
                simp only [pickL, List.getElem?_cons_succ, List.getElem?_cons_zero]
                obtain ⟨q0, q1, q2, q3, q4, q5⟩ := HX5.out.cell
                obtain ⟨G, hKG, hG⟩ := HX5.out.put n
                have HG := Lib.hid hG
                clear hG
                try simp at q0
                try simp at q2
                try simp at q3
                try simp at q4
                try simp at q5
                go_wp2
                try simp [go_sem] at hKG
                have HKG := Lib.hid hKG
                clear hKG
                refine seg_grow ⟨⟨_, (HG.out _ HKG.out.here).2.2.2⟩, rfl⟩ ?_
                refine U_done (by kernel_rfl) ?_
                go_wp2_with fail
                go_meet
                exact ⟨_, _, G, rfl, HKG.out, fun w2 h => ⟨(HG.out w2 h).1, (HG.out w2 h).2.1, (HG.out w2 h).2.2.1, btr HBQ.out (HG.out w2 h).2.2.2⟩⟩
            · simp only [pickL, List.getElem?_cons_succ, List.getElem?_cons_zero]
              go_wp2
              have HX2 := Lib.hid (HX1.out.a13 (w6.heap.size + 1) (by simp))
              clear HX1
              refine seg_grow ⟨⟨_, HX2.out.le⟩, rfl⟩ ?_
              refine U_two 5 16 (by kernel_rfl) ?_ ?_
              · simp only [pickL, List.getElem?_cons_succ, List.getElem?_cons_zero]
                go_wp2_with (at_builtin; refine wpList_append_rows rfl _ _ rfl HX2.out.own rfl rfl (HGR.out.mono HX2.out.le) (by simp) (by omega) HX2.out.le.size ?_)
                intro v5 w105 h1 h2 h3
                obtain ⟨ao5, co5, hvo⟩ := owns_form h1
                subst hvo
                have HX3 := Lib.hid (HX2.out.grow (V := V) (by simpa using h1) h2 (by simpa using h3))
                clear h1 h2 h3 HX2
                go_wp2
                refine seg_grow ⟨⟨_, HX3.out.le⟩, rfl⟩ ?_
                refine U_two 14 16 (by kernel_rfl) ?_ ?_
                · simp only [pickL, List.getElem?_cons_succ, List.getElem?_cons_zero]
                  go_wp2_with (at_builtin; refine wpList_append_rows rfl _ _ rfl HX3.out.own rfl rfl HX3.out.rd (by simp; omega) (by simp) HX3.out.le.size ?_)
                  intro v14 w114 h1 h2 h3
                  obtain ⟨ao14, co14, hvo⟩ := owns_form h1
                  subst hvo
                  have HX4 := Lib.hid (HX3.out.grow (V := [((pa : Int), (pb : Int))]) (by simpa using h1) h2 (by simpa using h3))
                  clear h1 h2 h3 HX3
                  go_wp2
                  refine seg_grow ⟨⟨_, HX4.out.le⟩, rfl⟩ ?_
                  refine U_heads2 [15] (by kernel_rfl) ⟨⟨_, HX4.out.le⟩, rfl⟩ ?_
                  simp only [pickL, List.getElem?_cons_succ, List.getElem?_cons_zero]
                  repeat (go_big_quiet_step (rfl))
                  refine wpQuiet_nil ?_
                  refine U_one 16 (by kernel_rfl) ?_
                  simp only [pickL, List.getElem?_cons_succ, List.getElem?_cons_zero]
                  go_wp2
                  have HX5 := Lib.hid (HX4.out.a16 (w114.heap.size) (by simp))
                  clear HX4
                  refine seg_grow ⟨⟨_, HX5.out.le⟩, rfl⟩ ?_
                  refine U_one 17 (by kernel_rfl) ?_
                  simp only [pickL, List.getElem?_cons_succ, List.getElem?_cons_zero]
                  obtain ⟨q0, q1, q2, q3, q4, q5⟩ := HX5.out.cell
                  obtain ⟨G, hKG, hG⟩ := HX5.out.put n
                  have HG := Lib.hid hG
                  clear hG
                  try simp at q0
                  try simp at q2
                  try simp at q3
                  try simp at q4
                  try simp at q5
                  go_wp2
                  try simp [go_sem] at hKG
                  have HKG := Lib.hid hKG
                  clear hKG
                  refine seg_grow ⟨⟨_, (HG.out _ HKG.out.here).2.2.2⟩, rfl⟩ ?_
                  refine U_done (by kernel_rfl) ?_
                  go_wp2_with fail
                  go_meet
                  exact ⟨_, _, G, rfl, HKG.out, fun w2 h => ⟨(HG.out w2 h).1, (HG.out w2 h).2.1, (HG.out w2 h).2.2.1, btr HBQ.out (HG.out w2 h).2.2.2⟩⟩
                · simp only [pickL, List.getElem?_cons_succ, List.getElem?_cons_zero]
                  go_wp2
                  have HX4 := Lib.hid (HX3.out.a16 (w105.heap.size) (by simp))
                  clear HX3
                  refine seg_grow ⟨⟨_, HX4.out.le⟩, rfl⟩ ?_
                  refine U_one 14 (by kernel_rfl) ?_
                  simp only [pickL, List.getElem?_cons_succ, List.getElem?_cons_zero]
                  go_wp2_with (at_builtin; refine wpList_append_rows rfl _ _ rfl HX4.out.own rfl rfl HX4.out.rd (by simp; omega) (by simp) HX4.out.le.size ?_)
                  intro v14 w114 h1 h2 h3
                  obtain ⟨ao14, co14, hvo⟩ := owns_form h1
                  subst hvo
                  have HX5 := Lib.hid (HX4.out.grow (V := [((pa : Int), (pb : Int))]) (by simpa using h1) h2 (by simpa using h3))
                  clear h1 h2 h3 HX4
                  go_wp2
                  refine seg_grow ⟨⟨_, HX5.out.le⟩, rfl⟩ ?_
                  refine U_heads2 [15] (by kernel_rfl) ⟨⟨_, HX5.out.le⟩, rfl⟩ ?_
                  simp only [pickL, List.getElem?_cons_succ, List.getElem?_cons_zero]
                  repeat (go_big_quiet_step (rfl))
                  refine wpQuiet_nil ?_
                  refine U_one 17 (by kernel_rfl) ?_
                  simp only [pickL, List.getElem?_cons_succ, List.getElem?_cons_zero]
                  obtain ⟨q0, q1, q2, q3, q4, q5⟩ := HX5.out.cell
                  obtain ⟨G, hKG, hG⟩ := HX5.out.put n
                  have HG := Lib.hid hG
                  clear hG
                  try simp at q0
                  try simp at q2
                  try simp at q3
                  try simp at q4
                  try simp at q5
                  go_wp2
                  try simp [go_sem] at hKG
                  have HKG := Lib.hid hKG
                  clear hKG
                  refine seg_grow ⟨⟨_, (HG.out _ HKG.out.here).2.2.2⟩, rfl⟩ ?_
                  refine U_done (by kernel_rfl) ?_
                  go_wp2_with fail
                  go_meet
                  exact ⟨_, _, G, rfl, HKG.out, fun w2 h => ⟨(HG.out w2 h).1, (HG.out w2 h).2.1, (HG.out w2 h).2.2.1, btr HBQ.out (HG.out w2 h).2.2.2⟩⟩
              · simp only [pickL, List.getElem?_cons_succ, List.getElem?_cons_zero]
                go_wp2
                have HX3 := Lib.hid (HX2.out.a16 (w6.heap.size + 1 + 1) (by simp))
                clear HX2
                refine seg_grow ⟨⟨_, HX3.out.le⟩, rfl⟩ ?_
                refine U_one 5 (by kernel_rfl) ?_
                simp only [pickL, List.getElem?_cons_succ, List.getElem?_cons_zero]
                go_wp2_with (at_builtin; refine wpList_append_rows rfl _ _ rfl HX3.out.own rfl rfl (HGR.out.mono HX3.out.le) (by simp) (by omega) HX3.out.le.size ?_)
                intro v5 w105 h1 h2 h3
                obtain ⟨ao5, co5, hvo⟩ := owns_form h1
                subst hvo
                have HX4 := Lib.hid (HX3.out.grow (V := V) (by simpa using h1) h2 (by simpa using h3))
                clear h1 h2 h3 HX3
                go_wp2
                refine seg_grow ⟨⟨_, HX4.out.le⟩, rfl⟩ ?_
                refine U_one 14 (by kernel_rfl) ?_
                simp only [pickL, List.getElem?_cons_succ, List.getElem?_cons_zero]
                go_wp2_with (at_builtin; refine wpList_append_rows rfl _ _ rfl HX4.out.own rfl rfl HX4.out.rd (by simp; omega) (by simp) HX4.out.le.size ?_)
                intro v14 w114 h1 h2 h3
                obtain ⟨ao14, co14, hvo⟩ := owns_form h1
                subst hvo
                have HX5 := Lib.hid (HX4.out.grow (V := [((pa : Int), (pb : Int))]) (by simpa using h1) h2 (by simpa using h3))
                clear h1 h2 h3 HX4
                go_wp2
                refine seg_grow ⟨⟨_, HX5.out.le⟩, rfl⟩ ?_
                refine U_heads2 [15] (by kernel_rfl) ⟨⟨_, HX5.out.le⟩, rfl⟩ ?_
                simp only [pickL, List.getElem?_cons_succ, List.getElem?_cons_zero]
                repeat (go_big_quiet_step (rfl))
                refine wpQuiet_nil ?_
                refine U_one 17 (by kernel_rfl) ?_
                simp only [pickL, List.getElem?_cons_succ, List.getElem?_cons_zero]
                obtain ⟨q0, q1, q2, q3, q4, q5⟩ := HX5.out.cell
                obtain ⟨G, hKG, hG⟩ := HX5.out.put n
                have HG := Lib.hid hG
                clear hG
                try simp at q0
                try simp at q2
                try simp at q3
                try simp at q4
                try simp at q5
                go_wp2
                try simp [go_sem] at hKG
                have HKG := Lib.hid hKG
                clear hKG
                refine seg_grow ⟨⟨_, (HG.out _ HKG.out.here).2.2.2⟩, rfl⟩ ?_
                refine U_done (by kernel_rfl) ?_
                go_wp2_with fail
                go_meet
                exact ⟨_, _, G, rfl, HKG.out, fun w2 h => ⟨(HG.out w2 h).1, (HG.out w2 h).2.1, (HG.out w2 h).2.2.1, btr HBQ.out (HG.out w2 h).2.2.2⟩⟩
            · simp only [pickL, List.getElem?_cons_succ, List.getElem?_cons_zero]
              go_wp2
              have HX2 := Lib.hid (HX1.out.a16 (w6.heap.size + 1) (by simp))
              clear HX1
              refine seg_grow ⟨⟨_, HX2.out.le⟩, rfl⟩ ?_
              refine U_two 5 13 (by kernel_rfl) ?_ ?_
              · simp only [pickL, List.getElem?_cons_succ, List.getElem?_cons_zero]
                go_wp2_with (at_builtin; refine wpList_append_rows rfl _ _ rfl HX2.out.own rfl rfl (HGR.out.mono HX2.out.le) (by simp) (by omega) HX2.out.le.size ?_)
                intro v5 w105 h1 h2 h3
                obtain ⟨ao5, co5, hvo⟩ := owns_form h1
                subst hvo
                have HX3 := Lib.hid (HX2.out.grow (V := V) (by simpa using h1) h2 (by simpa using h3))
                clear h1 h2 h3 HX2
                go_wp2
                refine seg_grow ⟨⟨_, HX3.out.le⟩, rfl⟩ ?_
                refine U_one 13 (by kernel_rfl) ?_
                simp only [pickL, List.getElem?_cons_succ, List.getElem?_cons_zero]
                go_wp2
                have HX4 := Lib.hid (HX3.out.a13 (w105.heap.size) (by simp))
                clear HX3
                refine seg_grow ⟨⟨_, HX4.out.le⟩, rfl⟩ ?_
                refine U_one 14 (by kernel_rfl) ?_
                simp only [pickL, List.getElem?_cons_succ, List.getElem?_cons_zero]
                go_wp2_with (at_builtin; refine wpList_append_rows rfl _ _ rfl HX4.out.own rfl rfl HX4.out.rd (by simp; omega) (by simp) HX4.out.le.size ?_)
                intro v14 w114 h1 h2 h3
                obtain ⟨ao14, co14, hvo⟩ := owns_form h1
                subst hvo
                have HX5 := Lib.hid (HX4.out.grow (V := [((pa : Int), (pb : Int))]) (by simpa using h1) h2 (by simpa using h3))
                clear h1 h2 h3 HX4
                go_wp2
                refine seg_grow ⟨⟨_, HX5.out.le⟩, rfl⟩ ?_
                refine U_heads2 [15] (by kernel_rfl) ⟨⟨_, HX5.out.le⟩, rfl⟩ ?_
                simp only [pickL, List.getElem?_cons_succ, List.getElem?_cons_zero]
                repeat (go_big_quiet_step (rfl))
                refine wpQuiet_nil ?_
                refine U_one 17 (by kernel_rfl) ?_
                simp only [pickL, List.getElem?_cons_succ, List.getElem?_cons_zero]
                obtain ⟨q0, q1, q2, q3, q4, q5⟩ := HX5.out.cell
                obtain ⟨G, hKG, hG⟩ := HX5.out.put n
                have HG := Lib.hid hG
                clear hG
                try simp at q0
                try simp at q2
                try simp at q3
                try simp at q4
                try simp at q5
                go_wp2
                try simp [go_sem] at hKG
                have HKG := Lib.hid hKG
                clear hKG
                refine seg_grow ⟨⟨_, (HG.out _ HKG.out.here).2.2.2⟩, rfl⟩ ?_
                refine U_done (by kernel_rfl) ?_
                go_wp2_with fail
                go_meet
                exact ⟨_, _, G, rfl, HKG.out, fun w2 h => ⟨(HG.out w2 h).1, (HG.out w2 h).2.1, (HG.out w2 h).2.2.1, btr HBQ.out (HG.out w2 h).2.2.2⟩⟩
              · simp only [pickL, List.getElem?_cons_succ, List.getElem?_cons_zero]
                go_wp2
                have HX3 := Lib.hid (HX2.out.a13 (w6.heap.size + 1 + 1) (by simp))
                clear HX2
                refine seg_grow ⟨⟨_, HX3.out.le⟩, rfl⟩ ?_
                refine U_one 5 (by kernel_rfl) ?_
                simp only [pickL, List.getElem?_cons_succ, List.getElem?_cons_zero]
                go_wp2_with (at_builtin; refine wpList_append_rows rfl _ _ rfl HX3.out.own rfl rfl (HGR.out.mono HX3.out.le) (by simp) (by omega) HX3.out.le.size ?_)
                intro v5 w105 h1 h2 h3
                obtain ⟨ao5, co5, hvo⟩ := owns_form h1
                subst hvo
                have HX4 := Lib.hid (HX3.out.grow (V := V) (by simpa using h1) h2 (by simpa using h3))
                clear h1 h2 h3 HX3
                go_wp2
                refine seg_grow ⟨⟨_, HX4.out.le⟩, rfl⟩ ?_
                refine U_one 14 (by kernel_rfl) ?_
                simp only [pickL, List.getElem?_cons_succ, List.getElem?_cons_zero]
                go_wp2_with (at_builtin; refine wpList_append_rows rfl _ _ rfl HX4.out.own rfl rfl HX4.out.rd (by simp; omega) (by simp) HX4.out.le.size ?_)
                intro v14 w114 h1 h2 h3
                obtain ⟨ao14, co14, hvo⟩ := owns_form h1
                subst hvo
                have HX5 := Lib.hid (HX4.out.grow (V := [((pa : Int), (pb : Int))]) (by simpa using h1) h2 (by simpa using h3))
                clear h1 h2 h3 HX4
                go_wp2
                refine seg_grow ⟨⟨_, HX5.out.le⟩, rfl⟩ ?_
                refine U_heads2 [15] (by kernel_rfl) ⟨⟨_, HX5.out.le⟩, rfl⟩ ?_
                simp only [pickL, List.getElem?_cons_succ, List.getElem?_cons_zero]
                repeat (go_big_quiet_step (rfl))
                refine wpQuiet_nil ?_
                refine U_one 17 (by kernel_rfl) ?_
                simp only [pickL, List.getElem?_cons_succ, List.getElem?_cons_zero]
                obtain ⟨q0, q1, q2, q3, q4, q5⟩ := HX5.out.cell
                obtain ⟨G, hKG, hG⟩ := HX5.out.put n
                have HG := Lib.hid hG
                clear hG
                try simp at q0
                try simp at q2
                try simp at q3
                try simp at q4
                try simp at q5
                go_wp2
                try simp [go_sem] at hKG
                have HKG := Lib.hid hKG
                clear hKG
                refine seg_grow ⟨⟨_, (HG.out _ HKG.out.here).2.2.2⟩, rfl⟩ ?_
                refine U_done (by kernel_rfl) ?_
                go_wp2_with fail
                go_meet
                exact ⟨_, _, G, rfl, HKG.out, fun w2 h => ⟨(HG.out w2 h).1, (HG.out w2 h).2.1, (HG.out w2 h).2.2.1, btr HBQ.out (HG.out w2 h).2.2.2⟩⟩
          · simp only [pickL, List.getElem?_cons_succ, List.getElem?_cons_zero]
            go_wp2
            have HX1 := Lib.hid (HX0.out.a13 (w6.heap.size) (by simp))
            clear HX0
            refine seg_grow ⟨⟨_, HX1.out.le⟩, rfl⟩ ?_
            refine U_two 2 16 (by kernel_rfl) ?_ ?_
            · simp only [pickL, List.getElem?_cons_succ, List.getElem?_cons_zero]
              go_wp2
              have HX2 := Lib.hid (HX1.out.a2 (w6.heap.size + 1) (by simp))
              clear HX1
              refine seg_grow ⟨⟨_, HX2.out.le⟩, rfl⟩ ?_
              refine U_two 5 16 (by kernel_rfl) ?_ ?_
              · simp only [pickL, List.getElem?_cons_succ, List.getElem?_cons_zero]
                go_wp2_with (at_builtin; refine wpList_append_rows rfl _ _ rfl HX2.out.own rfl rfl (HGR.out.mono HX2.out.le) (by simp) (by omega) HX2.out.le.size ?_)
                intro v5 w105 h1 h2 h3
                obtain ⟨ao5, co5, hvo⟩ := owns_form h1
                subst hvo
                have HX3 := Lib.hid (HX2.out.grow (V := V) (by simpa using h1) h2 (by simpa using h3))
                clear h1 h2 h3 HX2
                go_wp2
                refine seg_grow ⟨⟨_, HX3.out.le⟩, rfl⟩ ?_
                refine U_two 14 16 (by kernel_rfl) ?_ ?_
                · simp only [pickL, List.getElem?_cons_succ, List.getElem?_cons_zero]
                  go_wp2_with (at_builtin; refine wpList_append_rows rfl _ _ rfl HX3.out.own rfl rfl HX3.out.rd (by simp; omega) (by simp) HX3.out.le.size ?_)
                  intro v14 w114 h1 h2 h3
                  obtain ⟨ao14, co14, hvo⟩ := owns_form h1
                  subst hvo
                  have HX4 := Lib.hid (HX3.out.grow (V := [((pa : Int), (pb : Int))]) (by simpa using h1) h2 (by simpa using h3))
                  clear h1 h2 h3 HX3
                  go_wp2
                  refine seg_grow ⟨⟨_, HX4.out.le⟩, rfl⟩ ?_
                  refine U_heads2 [15] (by kernel_rfl) ⟨⟨_, HX4.out.le⟩, rfl⟩ ?_
                  simp only [pickL, List.getElem?_cons_succ, List.getElem?_cons_zero]
                  repeat (go_big_quiet_step (rfl))
                  refine wpQuiet_nil ?_
                  refine U_one 16 (by kernel_rfl) ?_
                  simp only [pickL, List.getElem?_cons_succ, List.getElem?_cons_zero]
                  go_wp2
                  have HX5 := Lib.hid (HX4.out.a16 (w114.heap.size) (by simp))
                  clear HX4
                  refine seg_grow ⟨⟨_, HX5.out.le⟩, rfl⟩ ?_
                  refine U_one 17 (by kernel_rfl) ?_
                  simp only [pickL, List.getElem?_cons_succ, List.getElem?_cons_zero]
                  obtain ⟨q0, q1, q2, q3, q4, q5⟩ := HX5.out.cell
                  obtain ⟨G, hKG, hG⟩ := HX5.out.put n
                  have HG := Lib.hid hG
                  clear hG
                  try simp at q0
                  try simp at q2
                  try simp at q3
                  try simp at q4
                  try simp at q5
                  go_wp2
                  try simp [go_sem] at hKG
                  have HKG := Lib.hid hKG
                  clear hKG
                  refine seg_grow ⟨⟨_, (HG.out _ HKG.out.here).2.2.2⟩, rfl⟩ ?_
                  refine U_done (by kernel_rfl) ?_
                  go_wp2_with fail
                  go_meet
                  exact ⟨_, _, G, rfl, HKG.out, fun w2 h => ⟨(HG.out w2 h).1, (HG.out w2 h).2.1, (HG.out w2 h).2.2.1, btr HBQ.out (HG.out w2 h).2.2.2⟩⟩
                · simp only [pickL, List.getElem?_cons_succ, List.getElem?_cons_zero]
                  go_wp2
                  have HX4 := Lib.hid (HX3.out.a16 (w105.heap.size) (by simp))
                  clear HX3
                  refine seg_grow ⟨⟨_, HX4.out.le⟩, rfl⟩ ?_
                  refine U_one 14 (by kernel_rfl) ?_
                  simp only [pickL, List.getElem?_cons_succ, List.getElem?_cons_zero]
                  go_wp2_with (at_builtin; refine wpList_append_rows rfl _ _ rfl HX4.out.own rfl rfl HX4.out.rd (by simp; omega) (by simp) HX4.out.le.size ?_)
                  intro v14 w114 h1 h2 h3
                  obtain ⟨ao14, co14, hvo⟩ := owns_form h1
                  subst hvo
                  have HX5 := Lib.hid (HX4.out.grow (V := [((pa : Int), (pb : Int))]) (by simpa using h1) h2 (by simpa using h3))
                  clear h1 h2 h3 HX4
                  go_wp2
                  refine seg_grow ⟨⟨_, HX5.out.le⟩, rfl⟩ ?_
                  refine U_heads2 [15] (by kernel_rfl) ⟨⟨_, HX5.out.le⟩, rfl⟩ ?_
                  simp only [pickL, List.getElem?_cons_succ, List.getElem?_cons_zero]
                  repeat (go_big_quiet_step (rfl))
                  refine wpQuiet_nil ?_
                  refine U_one 17 (by kernel_rfl) ?_
                  simp only [pickL, List.getElem?_cons_succ, List.getElem?_cons_zero]
                  obtain ⟨q0, q1, q2, q3, q4, q5⟩ := HX5.out.cell
                  obtain ⟨G, hKG, hG⟩ := HX5.out.put n
                  have HG := Lib.hid hG
                  clear hG
                  try simp at q0
                  try simp at q2
                  try simp at q3
                  try simp at q4
                  try simp at q5
                  go_wp2
                  try simp [go_sem] at hKG
                  have HKG := Lib.hid hKG
                  clear hKG
                  refine seg_grow ⟨⟨_, (HG.out _ HKG.out.here).2.2.2⟩, rfl⟩ ?_
                  refine U_done (by kernel_rfl) ?_
                  go_wp2_with fail
                  go_meet
                  exact ⟨_, _, G, rfl, HKG.out, fun w2 h => ⟨(HG.out w2 h).1, (HG.out w2 h).2.1, (HG.out w2 h).2.2.1, btr HBQ.out (HG.out w2 h).2.2.2⟩⟩
              · simp only [pickL, List.getElem?_cons_succ, List.getElem?_cons_zero]
                go_wp2
                have HX3 := Lib.hid (HX2.out.a16 (w6.heap.size + 1 + 1) (by simp))
                clear HX2
                refine seg_grow ⟨⟨_, HX3.out.le⟩, rfl⟩ ?_
                refine U_one 5 (by kernel_rfl) ?_
                simp only [pickL, List.getElem?_cons_succ, List.getElem?_cons_zero]
                go_wp2_with (at_builtin; refine wpList_append_rows rfl _ _ rfl HX3.out.own rfl rfl (HGR.out.mono HX3.out.le) (by simp) (by omega) HX3.out.le.size ?_)
                intro v5 w105 h1 h2 h3
                obtain ⟨ao5, co5, hvo⟩ := owns_form h1
                subst hvo
                have HX4 := Lib.hid (HX3.out.grow (V := V) (by simpa using h1) h2 (by simpa using h3))
                clear h1 h2 h3 HX3
                go_wp2
                refine seg_grow ⟨⟨_, HX4.out.le⟩, rfl⟩ ?_
                refine U_one 14 (by kernel_rfl) ?_
                simp only [pickL, List.getElem?_cons_succ, List.getElem?_cons_zero]
                go_wp2_with (at_builtin; refine wpList_append_rows rfl _ _ rfl HX4.out.own rfl rfl HX4.out.rd (by simp; omega) (by simp) HX4.out.le.size ?_)
                intro v14 w114 h1 h2 h3
                obtain ⟨ao14, co14, hvo⟩ := owns_form h1
                subst hvo
                have HX5 := Lib.hid (HX4.out.grow (V := [((pa : Int), (pb : Int))]) (by simpa using h1) h2 (by simpa using h3))
                clear h1 h2 h3 HX4
                go_wp2
                refine seg_grow ⟨⟨_, HX5.out.le⟩, rfl⟩ ?_
                refine U_heads2 [15] (by kernel_rfl) ⟨⟨_, HX5.out.le⟩, rfl⟩ ?_
                simp only [pickL, List.getElem?_cons_succ, List.getElem?_cons_zero]
                repeat (go_big_quiet_step (rfl))
                refine wpQuiet_nil ?_
                refine U_one 17 (by kernel_rfl) ?_
                simp only [pickL, List.getElem?_cons_succ, List.getElem?_cons_zero]
                obtain ⟨q0, q1, q2, q3, q4, q5⟩ := HX5.out.cell
                obtain ⟨G, hKG, hG⟩ := HX5.out.put n
                have HG := Lib.hid hG
                clear hG
                try simp at q0
                try simp at q2
                try simp at q3
                try simp at q4
                try simp at q5
                go_wp2
                try simp [go_sem] at hKG
                have HKG := Lib.hid hKG
                clear hKG
                refine seg_grow ⟨⟨_, (HG.out _ HKG.out.here).2.2.2⟩, rfl⟩ ?_
                refine U_done (by kernel_rfl) ?_
                go_wp2_with fail
                go_meet
                exact ⟨_, _, G, rfl, HKG.out, fun w2 h => ⟨(HG.out w2 h).1, (HG.out w2 h).2.1, (HG.out w2 h).2.2.1, btr HBQ.out (HG.out w2 h).2.2.2⟩⟩
            · simp only [pickL, List.getElem?_cons_succ, List.getElem?_cons_zero]
              go_wp2
              have HX2 := Lib.hid (HX1.out.a16 (w6.heap.size + 1) (by simp))
              clear HX1
              refine seg_grow ⟨⟨_, HX2.out.le⟩, rfl⟩ ?_
              refine U_one 2 (by kernel_rfl) ?_
              simp only [pickL, List.getElem?_cons_succ, List.getElem?_cons_zero]
              go_wp2
              have HX3 := Lib.hid (HX2.out.a2 (w6.heap.size + 1 + 1) (by simp))
              clear HX2
              refine seg_grow ⟨⟨_, HX3.out.le⟩, rfl⟩ ?_
              refine U_one 5 (by kernel_rfl) ?_
              simp only [pickL, List.getElem?_cons_succ, List.getElem?_cons_zero]
              go_wp2_with (at_builtin; refine wpList_append_rows rfl _ _ rfl HX3.out.own rfl rfl (HGR.out.mono HX3.out.le) (by simp) (by omega) HX3.out.le.size ?_)
              intro v5 w105 h1 h2 h3
              obtain ⟨ao5, co5, hvo⟩ := owns_form h1
              subst hvo
              have HX4 := Lib.hid (HX3.out.grow (V := V) (by simpa using h1) h2 (by simpa using h3))
              clear h1 h2 h3 HX3
              go_wp2
              refine seg_grow ⟨⟨_, HX4.out.le⟩, rfl⟩ ?_
              refine U_one 14 (by kernel_rfl) ?_
              simp only [pickL, List.getElem?_cons_succ, List.getElem?_cons_zero]
              go_wp2_with (at_builtin; refine wpList_append_rows rfl _ _ rfl HX4.out.own rfl rfl HX4.out.rd (by simp; omega) (by simp) HX4.out.le.size ?_)
              intro v14 w114 h1 h2 h3
              obtain ⟨ao14, co14, hvo⟩ := owns_form h1
              subst hvo
              have HX5 := Lib.hid (HX4.out.grow (V := [((pa : Int), (pb : Int))]) (by simpa using h1) h2 (by simpa using h3))
              clear h1 h2 h3 HX4
              go_wp2
              refine seg_grow ⟨⟨_, HX5.out.le⟩, rfl⟩ ?_
              refine U_heads2 [15] (by kernel_rfl) ⟨⟨_, HX5.out.le⟩, rfl⟩ ?_
              simp only [pickL, List.getElem?_cons_succ, List.getElem?_cons_zero]
              repeat (go_big_quiet_step (rfl))
              refine wpQuiet_nil ?_
              refine U_one 17 (by kernel_rfl) ?_
              simp only [pickL, List.getElem?_cons_succ, List.getElem?_cons_zero]
              obtain ⟨q0, q1, q2, q3, q4, q5⟩ := HX5.out.cell
              obtain ⟨G, hKG, hG⟩ := HX5.out.put n
              have HG := Lib.hid hG
              clear hG
              try simp at q0
              try simp at q2
              try simp at q3
              try simp at q4
              try simp at q5
              go_wp2
              try simp [go_sem] at hKG
              have HKG := Lib.hid hKG
              clear hKG
              refine seg_grow ⟨⟨_, (HG.out _ HKG.out.here).2.2.2⟩, rfl⟩ ?_
              refine U_done (by kernel_rfl) ?_
              go_wp2_with fail
              go_meet
              exact ⟨_, _, G, rfl, HKG.out, fun w2 h => ⟨(HG.out w2 h).1, (HG.out w2 h).2.1, (HG.out w2 h).2.2.1, btr HBQ.out (HG.out w2 h).2.2.2⟩⟩
          · simp only [pickL, List.getElem?_cons_succ, List.getElem?_cons_zero]
            go_wp2
            have HX1 := Lib.hid (HX0.out.a16 (w6.heap.size) (by simp))
            clear HX0
            refine seg_grow ⟨⟨_, HX1.out.le⟩, rfl⟩ ?_
            refine U_two 2 13 (by kernel_rfl) ?_ ?_
            · simp only [pickL, List.getElem?_cons_succ, List.getElem?_cons_zero]
              go_wp2
              have HX2 := Lib.hid (HX1.out.a2 (w6.heap.size + 1) (by simp))
              clear HX1
              refine seg_grow ⟨⟨_, HX2.out.le⟩, rfl⟩ ?_
              refine U_two 5 13 (by kernel_rfl) ?_ ?_
              · simp only [pickL, List.getElem?_cons_succ, List.getElem?_cons_zero]
                go_wp2_with (at_builtin; refine wpList_append_rows rfl _ _ rfl HX2.out.own rfl rfl (HGR.out.mono HX2.out.le) (by simp) (by omega) HX2.out.le.size ?_)
                intro v5 w105 h1 h2 h3
                obtain ⟨ao5, co5, hvo⟩ := owns_form h1
                subst hvo
                have HX3 := Lib.hid (HX2.out.grow (V := V) (by simpa using h1) h2 (by simpa using h3))
                clear h1 h2 h3 HX2
                go_wp2
                refine seg_grow ⟨⟨_, HX3.out.le⟩, rfl⟩ ?_
                refine U_one 13 (by kernel_rfl) ?_
                simp only [pickL, List.getElem?_cons_succ, List.getElem?_cons_zero]
                go_wp2
                have HX4 := Lib.hid (HX3.out.a13 (w105.heap.size) (by simp))
                clear HX3
                refine seg_grow ⟨⟨_, HX4.out.le⟩, rfl⟩ ?_
                refine U_one 14 (by kernel_rfl) ?_
                simp only [pickL, List.getElem?_cons_succ, List.getElem?_cons_zero]
                go_wp2_with (at_builtin; refine wpList_append_rows rfl _ _ rfl HX4.out.own rfl rfl HX4.out.rd (by simp; omega) (by simp) HX4.out.le.size ?_)
                intro v14 w114 h1 h2 h3
                obtain ⟨ao14, co14, hvo⟩ := owns_form h1
                subst hvo
                have HX5 := Lib.hid (HX4.out.grow (V := [((pa : Int), (pb : Int))]) (by simpa using h1) h2 (by simpa using h3))
                clear h1 h2 h3 HX4
                go_wp2
                refine seg_grow ⟨⟨_, HX5.out.le⟩, rfl⟩ ?_
                refine U_heads2 [15] (by kernel_rfl) ⟨⟨_, HX5.out.le⟩, rfl⟩ ?_
                simp only [pickL, List.getElem?_cons_succ, List.getElem?_cons_zero]
                repeat (go_big_quiet_step (rfl))
                refine wpQuiet_nil ?_
                refine U_one 17 (by kernel_rfl) ?_
                simp only [pickL, List.getElem?_cons_succ, List.getElem?_cons_zero]
                obtain ⟨q0, q1, q2, q3, q4, q5⟩ := HX5.out.cell
                obtain ⟨G, hKG, hG⟩ := HX5.out.put n
                have HG := Lib.hid hG
                clear hG
                try simp at q0
                try simp at q2
                try simp at q3
                try simp at q4
                try simp at q5
                go_wp2
                try simp [go_sem] at hKG
                have HKG := Lib.hid hKG
                clear hKG
                refine seg_grow ⟨⟨_, (HG.out _ HKG.out.here).2.2.2⟩, rfl⟩ ?_
                refine U_done (by kernel_rfl) ?_
                go_wp2_with fail
                go_meet
                exact ⟨_, _, G, rfl, HKG.out, fun w2 h => ⟨(HG.out w2 h).1, (HG.out w2 h).2.1, (HG.out w2 h).2.2.1, btr HBQ.out (HG.out w2 h).2.2.2⟩⟩
              · simp only [pickL, List.getElem?_cons_succ, List.getElem?_cons_zero]
                go_wp2
                have HX3 := Lib.hid (HX2.out.a13 (w6.heap.size + 1 + 1) (by simp))
                clear HX2
                refine seg_grow ⟨⟨_, HX3.out.le⟩, rfl⟩ ?_
                refine U_one 5 (by kernel_rfl) ?_
                simp only [pickL, List.getElem?_cons_succ, List.getElem?_cons_zero]
                go_wp2_with (at_builtin; refine wpList_append_rows rfl _ _ rfl HX3.out.own rfl rfl (HGR.out.mono HX3.out.le) (by simp) (by omega) HX3.out.le.size ?_)
                intro v5 w105 h1 h2 h3
                obtain ⟨ao5, co5, hvo⟩ := owns_form h1
                subst hvo
                have HX4 := Lib.hid (HX3.out.grow (V := V) (by simpa using h1) h2 (by simpa using h3))
                clear h1 h2 h3 HX3
                go_wp2
                refine seg_grow ⟨⟨_, HX4.out.le⟩, rfl⟩ ?_
                refine U_one 14 (by kernel_rfl) ?_
                simp only [pickL, List.getElem?_cons_succ, List.getElem?_cons_zero]
                go_wp2_with (at_builtin; refine wpList_append_rows rfl _ _ rfl HX4.out.own rfl rfl HX4.out.rd (by simp; omega) (by simp) HX4.out.le.size ?_)
                intro v14 w114 h1 h2 h3
                obtain ⟨ao14, co14, hvo⟩ := owns_form h1
                subst hvo
                have HX5 := Lib.hid (HX4.out.grow (V := [((pa : Int), (pb : Int))]) (by simpa using h1) h2 (by simpa using h3))
                clear h1 h2 h3 HX4
                go_wp2
                refine seg_grow ⟨⟨_, HX5.out.le⟩, rfl⟩ ?_
                refine U_heads2 [15] (by kernel_rfl) ⟨⟨_, HX5.out.le⟩, rfl⟩ ?_
                simp only [pickL, List.getElem?_cons_succ, List.getElem?_cons_zero]
                repeat (go_big_quiet_step (rfl))
                refine wpQuiet_nil ?_
                refine U_one 17 (by kernel_rfl) ?_
                simp only [pickL, List.getElem?_cons_succ, List.getElem?_cons_zero]
                obtain ⟨q0, q1, q2, q3, q4, q5⟩ := HX5.out.cell
                obtain ⟨G, hKG, hG⟩ := HX5.out.put n
                have HG := Lib.hid hG
                clear hG
                try simp at q0
                try simp at q2
                try simp at q3
                try simp at q4
                try simp at q5
                go_wp2
                try simp [go_sem] at hKG
                have HKG := Lib.hid hKG
                clear hKG
                refine seg_grow ⟨⟨_, (HG.out _ HKG.out.here).2.2.2⟩, rfl⟩ ?_
                refine U_done (by kernel_rfl) ?_
                go_wp2_with fail
                go_meet
                exact ⟨_, _, G, rfl, HKG.out, fun w2 h => ⟨(HG.out w2 h).1, (HG.out w2 h).2.1, (HG.out w2 h).2.2.1, btr HBQ.out (HG.out w2 h).2.2.2⟩⟩
            · simp only [pickL, List.getElem?_cons_succ, List.getElem?_cons_zero]
              go_wp2
              have HX2 := Lib.hid (HX1.out.a13 (w6.heap.size + 1) (by simp))
              clear HX1
              refine seg_grow ⟨⟨_, HX2.out.le⟩, rfl⟩ ?_
              refine U_one 2 (by kernel_rfl) ?_
              simp only [pickL, List.getElem?_cons_succ, List.getElem?_cons_zero]
              go_wp2
              have HX3 := Lib.hid (HX2.out.a2 (w6.heap.size + 1 + 1) (by simp))
              clear HX2
              refine seg_grow ⟨⟨_, HX3.out.le⟩, rfl⟩ ?_
              refine U_one 5 (by kernel_rfl) ?_
              simp only [pickL, List.getElem?_cons_succ, List.getElem?_cons_zero]
              go_wp2_with (at_builtin; refine wpList_append_rows rfl _ _ rfl HX3.out.own rfl rfl (HGR.out.mono HX3.out.le) (by simp) (by omega) HX3.out.le.size ?_)
              intro v5 w105 h1 h2 h3
              obtain ⟨ao5, co5, hvo⟩ := owns_form h1
              subst hvo
              have HX4 := Lib.hid (HX3.out.grow (V := V) (by simpa using h1) h2 (by simpa using h3))
              clear h1 h2 h3 HX3
              go_wp2
              refine seg_grow ⟨⟨_, HX4.out.le⟩, rfl⟩ ?_
              refine U_one 14 (by kernel_rfl) ?_
              simp only [pickL, List.getElem?_cons_succ, List.getElem?_cons_zero]
              go_wp2_with (at_builtin; refine wpList_append_rows rfl _ _ rfl HX4.out.own rfl rfl HX4.out.rd (by simp; omega) (by simp) HX4.out.le.size ?_)
              intro v14 w114 h1 h2 h3
              obtain ⟨ao14, co14, hvo⟩ := owns_form h1
              subst hvo
              have HX5 := Lib.hid (HX4.out.grow (V := [((pa : Int), (pb : Int))]) (by simpa using h1) h2 (by simpa using h3))
              clear h1 h2 h3 HX4
              go_wp2
              refine seg_grow ⟨⟨_, HX5.out.le⟩, rfl⟩ ?_
              refine U_heads2 [15] (by kernel_rfl) ⟨⟨_, HX5.out.le⟩, rfl⟩ ?_
              simp only [pickL, List.getElem?_cons_succ, List.getElem?_cons_zero]
              repeat (go_big_quiet_step (rfl))
              refine wpQuiet_nil ?_
              refine U_one 17 (by kernel_rfl) ?_
              simp only [pickL, List.getElem?_cons_succ, List.getElem?_cons_zero]
              obtain ⟨q0, q1, q2, q3, q4, q5⟩ := HX5.out.cell
              obtain ⟨G, hKG, hG⟩ := HX5.out.put n
              have HG := Lib.hid hG
              clear hG
              try simp at q0
              try simp at q2
              try simp at q3
              try simp at q4
              try simp at q5
              go_wp2
              try simp [go_sem] at hKG
              have HKG := Lib.hid hKG
              clear hKG
              refine seg_grow ⟨⟨_, (HG.out _ HKG.out.here).2.2.2⟩, rfl⟩ ?_
              refine U_done (by kernel_rfl) ?_
              go_wp2_with fail
              go_meet
              exact ⟨_, _, G, rfl, HKG.out, fun w2 h => ⟨(HG.out w2 h).1, (HG.out w2 h).2.1, (HG.out w2 h).2.2.1, btr HBQ.out (HG.out w2 h).2.2.2⟩⟩
        case rest =>
          obtain ⟨g, vA, G, rfl, hKG, hG⟩ := hcut
          have hGh := hG _ hKG.here
          have hv := hGh.2.2.1
          obtain ⟨av, cv, hv'⟩ := hv.ex (V.length + 1) (by simp)
          subst hv'
          have hBw := hGh.2.2.2
          have hc0 := hGh.1; have hc1 := hGh.2.1
          clear hGh hG hKG
          simp only [List.nil_append] at hv
          have KP7 := Lib.hid ((((KP6.out.up (btr (bz w5) hBw)).and (keepC hc0)).and (keepC hc1)).and (keepP hv))
          clear KP6
          clear hBw hc0 hc1 hv
          have hall := KP7.out.here
          have hX1 := hall.2.1
          have hX0 := hall.2.2.1
          have hR1 := hall.2.2.2.2.2.1
          have hR0 := hall.2.2.2.2.2.2.1
          clear hall
          have zR := World.block_lt_of_cell? _ _ hR0
          have zX := World.block_lt_of_cell? _ _ hX0
          simp only at zR zX
          go_wp2_with fail
          clear hX1 hX0 hR1 hR0 zR zX
          have hall := KP7.out.here
          have gx := hall.1
          clear hall
          refine (images_k n _ (V ++ [((pa : Int), (pb : Int))]) m2 _ gx HM.out.ok HM.out.im).mono ?_
          rintro e w6 ⟨rfl, hB⟩
          have KP8 := Lib.hid (KP7.out.up (btr (bz wc) hB))
          clear KP7
          clear hB
          clear gx
          have e1 : decide ((m2 : Int) ≤ (m : Int)) = true := decide_eq_true (by have := HM.out.le; omega)
          have e2 : decide ((n : Int) < (m2 : Int)) = true := decide_eq_true (by have := HM.out.gt; omega)
          have e1n : decide (m2 ≤ m) = true := decide_eq_true HM.out.le
          have e2n : decide (n < m2) = true := decide_eq_true HM.out.gt
          have hall := KP8.out.here
          have hX1 := hall.2.1
          have hX0 := hall.2.2.1
          have hR1 := hall.2.2.2.2.2.1
          have hR0 := hall.2.2.2.2.2.2.1
          clear hall
          have zR := World.block_lt_of_cell? _ _ hR0
          have zX := World.block_lt_of_cell? _ _ hX0
          simp only at zR zX
          go_wp2_with fail
          clear hX1 hX0 hR1 hR0 zR zX
          refine (works_any _).mono ?_
          rintro e w7 ⟨rfl, hB⟩
          have KP9 := Lib.hid (KP8.out.up (btr (bz w6) hB))
          clear KP8
          clear hB
          have hall := KP9.out.here
          have gBelow := hall.2.2.2.2.2.2.2.2
          clear hall
          go_wp2
          go_ret
          exact ⟨rfl, gBelow⟩
      · have hi1 : (pb : Int) < (pa : Int) := by omega
        have hi2 : ¬ ((pa : Int) < (pb : Int)) := by omega
        have hi3 : ¬ ((pa : Int) ≤ (pb : Int)) := by omega
        have hi4 : (pb : Int) ≤ (pa : Int) := by omega
        have HM : Hid (MoreS n V m m2 (pb : Int) (pa : Int)) := Lib.hid (by have := HM.out; rwa [show min (pa : Int) (pb : Int) = pb by omega, show max (pa : Int) (pb : Int) = pa by omega] at this)
        go_cut [11] (fun s11 wx => ∃ (g : Nat) (vA : Value) (G : World → Prop), s11 = .pointer (some ⟨g, 0, none⟩) ∧ Keep wx G ∧ ∀ w2, G w2 → w2.cell? ⟨g, 0, none⟩ = some (.int .i64 n) ∧ w2.cell? ⟨g, 1, none⟩ = some vA ∧ RdP w2 vA ([] ++ V ++ [((pb : Int), (pa : Int))]) ∧ Below w5.heap.size w5 w2)
        case first =>
          refine wp_region_U [0, 1, 3, 4, 6, 7, 8, 9, 10, 11, 12, 15] [] (by kernel_rfl) (by kernel_rfl) ?_
          intro w6 hB hh
          clear hh
          have KP7 := Lib.hid ((KP6.out.up (btr (bz w5) hB)).and (keepB hB))
          clear KP6
          clear hB
          have hall := KP7.out.here
          have gBq := hall.1
          have gR1 := hall.2.2.2.1
          have gR0 := hall.2.2.2.2.1
          have gr := hall.2.2.2.2.2.1
          clear hall
          have zR := World.block_lt_of_cell? _ _ gR0
          simp only at zR
          have hL := @Later.cell w6
          have HGR := Lib.hid gr; have HBQ := Lib.hid gBq
          clear gr gBq
          refine U_heads2 [0, 1, 3, 4, 6, 7, 8, 9, 10, 11, 12] (by kernel_rfl) ⟨⟨_, bz w6⟩, rfl⟩ ?_
          simp only [pickL, List.getElem?_cons_succ, List.getElem?_cons_zero]
          repeat (go_big_quiet_step (rfl))
          refine wpQuiet_nil ?_
          clear gR0 gR1 zR hL
          have HX0 := Lib.hid (X3.nil w6 (pb : Int) (pa : Int))
          refine U_all [2, 13, 16] (by kernel_rfl) (fun cc hcc => ?_)
          simp only [List.mem_cons, List.not_mem_nil, or_false] at hcc
          rcases hcc with rfl | rfl | rfl
          · simp only [pickL, List.getElem?_cons_succ, List.getElem?_cons_zero]
            go_wp2
            have HX1 := Lib.hid (HX0.out.a2 (w6.heap.size) (by simp))
            clear HX0
            refine seg_grow ⟨⟨_, HX1.out.le⟩, rfl⟩ ?_
            refine U_all [5, 13, 16] (by kernel_rfl) (fun cc hcc => ?_)
            simp only [List.mem_cons, List.not_mem_nil, or_false] at hcc
            rcases hcc with rfl | rfl | rfl
            · simp only [pickL, List.getElem?_cons_succ, List.getElem?_cons_zero]
              go_wp2_with (at_builtin; refine wpList_append_rows rfl _ _ rfl HX1.out.own rfl rfl (HGR.out.mono HX1.out.le) (by simp) (by omega) HX1.out.le.size ?_)
              intro v5 w105 h1 h2 h3
              obtain ⟨ao5, co5, hvo⟩ := owns_form h1
              subst hvo
              have HX2 := Lib.hid (HX1.out.grow (V := V) (by simpa using h1) h2 (by simpa using h3))
              clear h1 h2 h3 HX1
              go_wp2
              refine seg_grow ⟨⟨_, HX2.out.le⟩, rfl⟩ ?_
              refine U_two 13 16 (by kernel_rfl) ?_ ?_
              · simp only [pickL, List.getElem?_cons_succ, List.getElem?_cons_zero]
                go_wp2
                have HX3 := Lib.hid (HX2.out.a13 (w105.heap.size) (by simp))
                clear HX2
                refine seg_grow ⟨⟨_, HX3.out.le⟩, rfl⟩ ?_
                refine U_two 14 16 (by kernel_rfl) ?_ ?_
                · simp only [pickL, List.getElem?_cons_succ, List.getElem?_cons_zero]
                  go_wp2_with (at_builtin; refine wpList_append_rows rfl _ _ rfl HX3.out.own rfl rfl HX3.out.rd (by simp; omega) (by simp) HX3.out.le.size ?_)
                  intro v14 w114 h1 h2 h3
                  obtain ⟨ao14, co14, hvo⟩ := owns_form h1
                  subst hvo
                  have HX4 := Lib.hid (HX3.out.grow (V := [((pb : Int), (pa : Int))]) (by simpa using h1) h2 (by simpa using h3))
                  clear h1 h2 h3 HX3
                  go_wp2
                  refine seg_grow ⟨⟨_, HX4.out.le⟩, rfl⟩ ?_
                  refine U_heads2 [15] (by kernel_rfl) ⟨⟨_, HX4.out.le⟩, rfl⟩ ?_
                  simp only [pickL, List.getElem?_cons_succ, List.getElem?_cons_zero]
                  repeat (go_big_quiet_step (rfl))
                  refine wpQuiet_nil ?_
                  refine U_one 16 (by kernel_rfl) ?_
                  simp only [pickL, List.getElem?_cons_succ, List.getElem?_cons_zero]
                  go_wp2
                  have HX5 := Lib.hid (HX4.out.a16 (w114.heap.size) (by simp))
                  clear HX4
                  refine seg_grow ⟨⟨_, HX5.out.le⟩, rfl⟩ ?_
                  refine U_one 17 (by kernel_rfl) ?_
                  simp only [pickL, List.getElem?_cons_succ, List.getElem?_cons_zero]
                  obtain ⟨q0, q1, q2, q3, q4, q5⟩ := HX5.out.cell
                  obtain ⟨G, hKG, hG⟩ := HX5.out.put n
                  have HG := Lib.hid hG
                  clear hG
                  try simp at q0
                  try simp at q2
                  try simp at q3
                  try simp at q4
                  try simp at q5
                  go_wp2
                  try simp [go_sem] at hKG
                  have HKG := Lib.hid hKG
                  clear hKG
                  refine seg_grow ⟨⟨_, (HG.out _ HKG.out.here).2.2.2⟩, rfl⟩ ?_
                  refine U_done (by kernel_rfl) ?_
                  go_wp2_with fail
                  go_meet
                  exact ⟨_, _, G, rfl, HKG.out, fun w2 h => ⟨(HG.out w2 h).1, (HG.out w2 h).2.1, (HG.out w2 h).2.2.1, btr HBQ.out (HG.out w2 h).2.2.2⟩⟩
                · simp only [pickL, List.getElem?_cons_succ, List.getElem?_cons_zero]
                  go_wp2
                  have HX4 := Lib.hid (HX3.out.a16 (w105.heap.size + 1) (by simp))
                  clear HX3
                  refine seg_grow ⟨⟨_, HX4.out.le⟩, rfl⟩ ?_
                  refine U_one 14 (by kernel_rfl) ?_
                  simp only [pickL, List.getElem?_cons_succ, List.getElem?_cons_zero]
                  go_wp2_with (at_builtin; refine wpList_append_rows rfl _ _ rfl HX4.out.own rfl rfl HX4.out.rd (by simp; omega) (by simp) HX4.out.le.size ?_)
                  intro v14 w114 h1 h2 h3
                  obtain ⟨ao14, co14, hvo⟩ := owns_form h1
                  subst hvo
                  have HX5 := Lib.hid (HX4.out.grow (V := [((pb : Int), (pa : Int))]) (by simpa using h1) h2 (by simpa using h3))
                  clear h1 h2 h3 HX4
                  go_wp2
                  refine seg_grow ⟨⟨_, HX5.out.le⟩, rfl⟩ ?_
                  refine U_heads2 [15] (by kernel_rfl) ⟨⟨_, HX5.out.le⟩, rfl⟩ ?_
                  simp only [pickL, List.getElem?_cons_succ, List.getElem?_cons_zero]
                  repeat (go_big_quiet_step (rfl))
                  refine wpQuiet_nil ?_
                  refine U_one 17 (by kernel_rfl) ?_
                  simp only [pickL, List.getElem?_cons_succ, List.getElem?_cons_zero]
                  obtain ⟨q0, q1, q2, q3, q4, q5⟩ := HX5.out.cell
                  obtain ⟨G, hKG, hG⟩ := HX5.out.put n
                  have HG := Lib.hid hG
                  clear hG
                  try simp at q0
                  try simp at q2
                  try simp at q3
                  try simp at q4
                  try simp at q5
                  go_wp2
                  try simp [go_sem] at hKG
                  have HKG := Lib.hid hKG
                  clear hKG
                  refine seg_grow ⟨⟨_, (HG.out _ HKG.out.here).2.2.2⟩, rfl⟩ ?_
                  refine U_done (by kernel_rfl) ?_
                  go_wp2_with fail
                  go_meet
                  exact ⟨_, _, G, rfl, HKG.out, fun w2 h => ⟨(HG.out w2 h).1, (HG.out w2 h).2.1, (HG.out w2 h).2.2.1, btr HBQ.out (HG.out w2 h).2.2.2⟩⟩
              · simp only [pickL, List.getElem?_cons_succ, List.getElem?_cons_zero]
                go_wp2
                have HX3 := Lib.hid (HX2.out.a16 (w105.heap.size) (by simp))
                clear HX2
                refine seg_grow ⟨⟨_, HX3.out.le⟩, rfl⟩ ?_
                refine U_one 13 (by kernel_rfl) ?_
                simp only [pickL, List.getElem?_cons_succ, List.getElem?_cons_zero]
                go_wp2
                have HX4 := Lib.hid (HX3.out.a13 (w105.heap.size + 1) (by simp))
                clear HX3
                refine seg_grow ⟨⟨_, HX4.out.le⟩, rfl⟩ ?_
                refine U_one 14 (by kernel_rfl) ?_
                simp only [pickL, List.getElem?_cons_succ, List.getElem?_cons_zero]
                go_wp2_with (at_builtin; refine wpList_append_rows rfl _ _ rfl HX4.out.own rfl rfl HX4.out.rd (by simp; omega) (by simp) HX4.out.le.size ?_)
                intro v14 w114 h1 h2 h3
                obtain ⟨ao14, co14, hvo⟩ := owns_form h1
                subst hvo
                have HX5 := Lib.hid (HX4.out.grow (V := [((pb : Int), (pa : Int))]) (by simpa using h1) h2 (by simpa using h3))
                clear h1 h2 h3 HX4
                go_wp2
                refine seg_grow ⟨⟨_, HX5.out.le⟩, rfl⟩ ?_
                refine U_heads2 [15] (by kernel_rfl) ⟨⟨_, HX5.out.le⟩, rfl⟩ ?_
                simp only [pickL, List.getElem?_cons_succ, List.getElem?_cons_zero]
                repeat (go_big_quiet_step (rfl))
                refine wpQuiet_nil ?_
                refine U_one 17 (by kernel_rfl) ?_
                simp only [pickL, List.getElem?_cons_succ, List.getElem?_cons_zero]
                obtain ⟨q0, q1, q2, q3, q4, q5⟩ := HX5.out.cell
                obtain ⟨G, hKG, hG⟩ := HX5.out.put n
                have HG := Lib.hid hG
                clear hG
                try simp at q0
                try simp at q2
                try simp at q3
                try simp at q4
                try simp at q5
                go_wp2
                try simp [go_sem] at hKG
                have HKG := Lib.hid hKG
                clear hKG
                refine seg_grow ⟨⟨_, (HG.out _ HKG.out.here).2.2.2⟩, rfl⟩ ?_
                refine U_done (by kernel_rfl) ?_
                go_wp2_with fail
                go_meet
                exact ⟨_, _, G, rfl, HKG.out, fun w2 h => ⟨(HG.out w2 h).1, (HG.out w2 h).2.1, (HG.out w2 h).2.2.1, btr HBQ.out (HG.out w2 h).2.2.2⟩⟩
            · simp only [pickL, List.getElem?_cons_succ, List.getElem?_cons_zero]
              go_wp2
              have HX2 := Lib.hid (HX1.out.a13 (w6.heap.size + 1) (by simp))
              clear HX1
              refine seg_grow ⟨⟨_, HX2.out.le⟩, rfl⟩ ?_
              refine U_two 5 16 (by kernel_rfl) ?_ ?_
              · simp only [pickL, List.getElem?_cons_succ, List.getElem?_cons_zero]
                go_wp2_with (at_builtin; refine wpList_append_rows rfl _ _ rfl HX2.out.own rfl rfl (HGR.out.mono HX2.out.le) (by simp) (by omega) HX2.out.le.size ?_)
                intro v5 w105 h1 h2 h3
                obtain ⟨ao5, co5, hvo⟩ := owns_form h1
                subst hvo
                have HX3 := Lib.hid (HX2.out.grow (V := V) (by simpa using h1) h2 (by simpa using h3))
                clear h1 h2 h3 HX2
                go_wp2
                refine seg_grow ⟨⟨_, HX3.out.le⟩, rfl⟩ ?_
                refine U_two 14 16 (by kernel_rfl) ?_ ?_
                · simp only [pickL, List.getElem?_cons_succ, List.getElem?_cons_zero]
                  go_wp2_with (at_builtin; refine wpList_append_rows rfl _ _ rfl HX3.out.own rfl rfl HX3.out.rd (by simp; omega) (by simp) HX3.out.le.size ?_)
                  intro v14 w114 h1 h2 h3
                  obtain ⟨ao14, co14, hvo⟩ := owns_form h1
                  subst hvo
                  have HX4 := Lib.hid (HX3.out.grow (V := [((pb : Int), (pa : Int))]) (by simpa using h1) h2 (by simpa using h3))
                  clear h1 h2 h3 HX3
                  go_wp2
                  refine seg_grow ⟨⟨_, HX4.out.le⟩, rfl⟩ ?_
                  refine U_heads2 [15] (by kernel_rfl) ⟨⟨_, HX4.out.le⟩, rfl⟩ ?_
                  simp only [pickL, List.getElem?_cons_succ, List.getElem?_cons_zero]
                  repeat (go_big_quiet_step (rfl))
                  refine wpQuiet_nil ?_
                  refine U_one 16 (by kernel_rfl) ?_
                  simp only [pickL, List.getElem?_cons_succ, List.getElem?_cons_zero]
                  go_wp2
                  have HX5 := Lib.hid (HX4.out.a16 (w114.heap.size) (by simp))
                  clear HX4
                  refine seg_grow ⟨⟨_, HX5.out.le⟩, rfl⟩ ?_
                  refine U_one 17 (by kernel_rfl) ?_
                  simp only [pickL, List.getElem?_cons_succ, List.getElem?_cons_zero]
                  obtain ⟨q0, q1, q2, q3, q4, q5⟩ := HX5.out.cell
                  obtain ⟨G, hKG, hG⟩ := HX5.out.put n
                  have HG := Lib.hid hG
                  clear hG
                  try simp at q0
                  try simp at q2
                  try simp at q3
                  try simp at q4
                  try simp at q5
                  go_wp2
                  try simp [go_sem] at hKG
                  have HKG := Lib.hid hKG
                  clear hKG
                  refine seg_grow ⟨⟨_, (HG.out _ HKG.out.here).2.2.2⟩, rfl⟩ ?_
                  refine U_done (by kernel_rfl) ?_
                  go_wp2_with fail
                  go_meet
                  exact ⟨_, _, G, rfl, HKG.out, fun w2 h => ⟨(HG.out w2 h).1, (HG.out w2 h).2.1, (HG.out w2 h).2.2.1, btr HBQ.out (HG.out w2 h).2.2.2⟩⟩
                · simp only [pickL, List.getElem?_cons_succ, List.getElem?_cons_zero]
                  go_wp2
                  have HX4 := Lib.hid (HX3.out.a16 (w105.heap.size) (by simp))
                  clear HX3
                  refine seg_grow ⟨⟨_, HX4.out.le⟩, rfl⟩ ?_
                  refine U_one 14 (by kernel_rfl) ?_
                  simp only [pickL, List.getElem?_cons_succ, List.getElem?_cons_zero]
                  go_wp2_with (at_builtin; refine wpList_append_rows rfl _ _ rfl HX4.out.own rfl rfl HX4.out.rd (by simp; omega) (by simp) HX4.out.le.size ?_)
                  intro v14 w114 h1 h2 h3
                  obtain ⟨ao14, co14, hvo⟩ := owns_form h1
                  subst hvo
                  have HX5 := Lib.hid (HX4.out.grow (V := [((pb : Int), (pa : Int))]) (by simpa using h1) h2 (by simpa using h3))
                  clear h1 h2 h3 HX4
                  go_wp2
                  refine seg_grow ⟨⟨_, HX5.out.le⟩, rfl⟩ ?_
                  refine U_heads2 [15] (by kernel_rfl) ⟨⟨_, HX5.out.le⟩, rfl⟩ ?_
                  simp only [pickL, List.getElem?_cons_succ, List.getElem?_cons_zero]
                  repeat (go_big_quiet_step (rfl))
                  refine wpQuiet_nil ?_
                  refine U_one 17 (by kernel_rfl) ?_
                  simp only [pickL, List.getElem?_cons_succ, List.getElem?_cons_zero]
                  obtain ⟨q0, q1, q2, q3, q4, q5⟩ := HX5.out.cell
                  obtain ⟨G, hKG, hG⟩ := HX5.out.put n
                  have HG := Lib.hid hG
                  clear hG
                  try simp at q0
                  try simp at q2
                  try simp at q3
                  try simp at q4
                  try simp at q5
                  go_wp2
                  try simp [go_sem] at hKG
                  have HKG := Lib.hid hKG
                  clear hKG
                  refine seg_grow ⟨⟨_, (HG.out _ HKG.out.here).2.2.2⟩, rfl⟩ ?_
                  refine U_done (by kernel_rfl) ?_
                  go_wp2_with fail
                  go_meet
                  exact ⟨_, _, G, rfl, HKG.out, fun w2 h => ⟨(HG.out w2 h).1, (HG.out w2 h).2.1, (HG.out w2 h).2.2.1, btr HBQ.out (HG.out w2 h).2.2.2⟩⟩
              · simp only [pickL, List.getElem?_cons_succ, List.getElem?_cons_zero]
                go_wp2
                have HX3 := Lib.hid (HX2.out.a16 (w6.heap.size + 1 + 1) (by simp))
                clear HX2
                refine seg_grow ⟨⟨_, HX3.out.le⟩, rfl⟩ ?_
                refine U_one 5 (by kernel_rfl) ?_
                simp only [pickL, List.getElem?_cons_succ, List.getElem?_cons_zero]
                go_wp2_with (at_builtin; refine wpList_append_rows rfl _ _ rfl HX3.out.own rfl rfl (HGR.out.mono HX3.out.le) (by simp) (by omega) HX3.out.le.size ?_)
                intro v5 w105 h1 h2 h3
                obtain ⟨ao5, co5, hvo⟩ := owns_form h1
                subst hvo
                have HX4 := Lib.hid (HX3.out.grow (V := V) (by simpa using h1) h2 (by simpa using h3))
                clear h1 h2 h3 HX3
                go_wp2
                refine seg_grow ⟨⟨_, HX4.out.le⟩, rfl⟩ ?_
                refine U_one 14 (by kernel_rfl) ?_
                simp only [pickL, List.getElem?_cons_succ, List.getElem?_cons_zero]
                go_wp2_with (at_builtin; refine wpList_append_rows rfl _ _ rfl HX4.out.own rfl rfl HX4.out.rd (by simp; omega) (by simp) HX4.out.le.size ?_)
                intro v14 w114 h1 h2 h3
                obtain ⟨ao14, co14, hvo⟩ := owns_form h1
                subst hvo
                have HX5 := Lib.hid (HX4.out.grow (V := [((pb : Int), (pa : Int))]) (by simpa using h1) h2 (by simpa using h3))
                clear h1 h2 h3 HX4
                go_wp2
                refine seg_grow ⟨⟨_, HX5.out.le⟩, rfl⟩ ?_
                refine U_heads2 [15] (by kernel_rfl) ⟨⟨_, HX5.out.le⟩, rfl⟩ ?_
                simp only [pickL, List.getElem?_cons_succ, List.getElem?_cons_zero]
                repeat (go_big_quiet_step (rfl))
                refine wpQuiet_nil ?_
                refine U_one 17 (by kernel_rfl) ?_
                simp only [pickL, List.getElem?_cons_succ, List.getElem?_cons_zero]
                obtain ⟨q0, q1, q2, q3, q4, q5⟩ := HX5.out.cell
                obtain ⟨G, hKG, hG⟩ := HX5.out.put n
                have HG := Lib.hid hG
                clear hG
                try simp at q0
                try simp at q2
                try simp at q3
                try simp at q4
                try simp at q5
                go_wp2
                try simp [go_sem] at hKG
                have HKG := Lib.hid hKG
                clear hKG
                refine seg_grow ⟨⟨_, (HG.out _ HKG.out.here).2.2.2⟩, rfl⟩ ?_
                refine U_done (by kernel_rfl) ?_
                go_wp2_with fail
                go_meet
                exact ⟨_, _, G, rfl, HKG.out, fun w2 h => ⟨(HG.out w2 h).1, (HG.out w2 h).2.1, (HG.out w2 h).2.2.1, btr HBQ.out (HG.out w2 h).2.2.2⟩⟩
            · simp only [pickL, List.getElem?_cons_succ, List.getElem?_cons_zero]
              go_wp2
              have HX2 := Lib.hid (HX1.out.a16 (w6.heap.size + 1) (by simp))
              clear HX1
              refine seg_grow ⟨⟨_, HX2.out.le⟩, rfl⟩ ?_
              refine U_two 5 13 (by kernel_rfl) ?_ ?_
              · simp only [pickL, List.getElem?_cons_succ, List.getElem?_cons_zero]
                go_wp2_with (at_builtin; refine wpList_append_rows rfl _ _ rfl HX2.out.own rfl rfl (HGR.out.mono HX2.out.le) (by simp) (by omega) HX2.out.le.size ?_)
                intro v5 w105 h1 h2 h3
                obtain ⟨ao5, co5, hvo⟩ := owns_form h1
                subst hvo
                have HX3 := Lib.hid (HX2.out.grow (V := V) (by simpa using h1) h2 (by simpa using h3))
                clear h1 h2 h3 HX2
                go_wp2
                refine seg_grow ⟨⟨_, HX3.out.le⟩, rfl⟩ ?_
                refine U_one 13 (by kernel_rfl) ?_
                simp only [pickL, List.getElem?_cons_succ, List.getElem?_cons_zero]
                go_wp2
                have HX4 := Lib.hid (HX3.out.a13 (w105.heap.size) (by simp))
                clear HX3
                refine seg_grow ⟨⟨_, HX4.out.le⟩, rfl⟩ ?_
                refine U_one 14 (by kernel_rfl) ?_
                simp only [pickL, List.getElem?_cons_succ, List.getElem?_cons_zero]
                go_wp2_with (at_builtin; refine wpList_append_rows rfl _ _ rfl HX4.out.own rfl rfl HX4.out.rd (by simp; omega) (by simp) HX4.out.le.size ?_)
                intro v14 w114 h1 h2 h3
                obtain ⟨ao14, co14, hvo⟩ := owns_form h1
                subst hvo
                have HX5 := Lib.hid (HX4.out.grow (V := [((pb : Int), (pa : Int))]) (by simpa using h1) h2 (by simpa using h3))
                clear h1 h2 h3 HX4
                go_wp2
                refine seg_grow ⟨⟨_, HX5.out.le⟩, rfl⟩ ?_
                refine U_heads2 [15] (by kernel_rfl) ⟨⟨_, HX5.out.le⟩, rfl⟩ ?_
                simp only [pickL, List.getElem?_cons_succ, List.getElem?_cons_zero]
                repeat (go_big_quiet_step (rfl))
                refine wpQuiet_nil ?_
                refine U_one 17 (by kernel_rfl) ?_
                simp only [pickL, List.getElem?_cons_succ, List.getElem?_cons_zero]
                obtain ⟨q0, q1, q2, q3, q4, q5⟩ := HX5.out.cell
                obtain ⟨G, hKG, hG⟩ := HX5.out.put n
                have HG := Lib.hid hG
                clear hG
                try simp at q0
                try simp at q2
                try simp at q3
                try simp at q4
                try simp at q5
                go_wp2
                try simp [go_sem] at hKG
                have HKG := Lib.hid hKG
                clear hKG
                refine seg_grow ⟨⟨_, (HG.out _ HKG.out.here).2.2.2⟩, rfl⟩ ?_
                refine U_done (by kernel_rfl) ?_
                go_wp2_with fail
                go_meet
                exact ⟨_, _, G, rfl, HKG.out, fun w2 h => ⟨(HG.out w2 h).1, (HG.out w2 h).2.1, (HG.out w2 h).2.2.1, btr HBQ.out (HG.out w2 h).2.2.2⟩⟩
              · simp only [pickL, List.getElem?_cons_succ, List.getElem?_cons_zero]
                go_wp2
                have HX3 := Lib.hid (HX2.out.a13 (w6.heap.size + 1 + 1) (by simp))
                clear HX2
                refine seg_grow ⟨⟨_, HX3.out.le⟩, rfl⟩ ?_
                refine U_one 5 (by kernel_rfl) ?_
                simp only [pickL, List.getElem?_cons_succ, List.getElem?_cons_zero]
                go_wp2_with (at_builtin; refine wpList_append_rows rfl _ _ rfl HX3.out.own rfl rfl (HGR.out.mono HX3.out.le) (by simp) (by omega) HX3.out.le.size ?_)
                intro v5 w105 h1 h2 h3
                obtain ⟨ao5, co5, hvo⟩ := owns_form h1
                subst hvo
                have HX4 := Lib.hid (HX3.out.grow (V := V) (by simpa using h1) h2 (by simpa using h3))
                clear h1 h2 h3 HX3
                go_wp2
                refine seg_grow ⟨⟨_, HX4.out.le⟩, rfl⟩ ?_
                refine U_one 14 (by kernel_rfl) ?_
                simp only [pickL, List.getElem?_cons_succ, List.getElem?_cons_zero]
                go_wp2_with (at_builtin; refine wpList_append_rows rfl _ _ rfl HX4.out.own rfl rfl HX4.out.rd (by simp; omega) (by simp) HX4.out.le.size ?_)
                intro v14 w114 h1 h2 h3
                obtain ⟨ao14, co14, hvo⟩ := owns_form h1
                subst hvo
                have HX5 := Lib.hid (HX4.out.grow (V := [((pb : Int), (pa : Int))]) (by simpa using h1) h2 (by simpa using h3))
                clear h1 h2 h3 HX4
                go_wp2
                refine seg_grow ⟨⟨_, HX5.out.le⟩, rfl⟩ ?_
                refine U_heads2 [15] (by kernel_rfl) ⟨⟨_, HX5.out.le⟩, rfl⟩ ?_
                simp only [pickL, List.getElem?_cons_succ, List.getElem?_cons_zero]
                repeat (go_big_quiet_step (rfl))
                refine wpQuiet_nil ?_
                refine U_one 17 (by kernel_rfl) ?_
                simp only [pickL, List.getElem?_cons_succ, List.getElem?_cons_zero]
                obtain ⟨q0, q1, q2, q3, q4, q5⟩ := HX5.out.cell
                obtain ⟨G, hKG, hG⟩ := HX5.out.put n
                have HG := Lib.hid hG
                clear hG
                try simp at q0
                try simp at q2
                try simp at q3
                try simp at q4
                try simp at q5
                go_wp2
                try simp [go_sem] at hKG
                have HKG := Lib.hid hKG
                clear hKG
                refine seg_grow ⟨⟨_, (HG.out _ HKG.out.here).2.2.2⟩, rfl⟩ ?_
                refine U_done (by kernel_rfl) ?_
                go_wp2_with fail
                go_meet
                exact ⟨_, _, G, rfl, HKG.out, fun w2 h => ⟨(HG.out w2 h).1, (HG.out w2 h).2.1, (HG.out w2 h).2.2.1, btr HBQ.out (HG.out w2 h).2.2.2⟩⟩
          · simp only [pickL, List.getElem?_cons_succ, List.getElem?_cons_zero]
            go_wp2
            have HX1 := Lib.hid (HX0.out.a13 (w6.heap.size) (by simp))
            clear HX0
            refine seg_grow ⟨⟨_, HX1.out.le⟩, rfl⟩ ?_
            refine U_two 2 16 (by kernel_rfl) ?_ ?_
            · simp only [pickL, List.getElem?_cons_succ, List.getElem?_cons_zero]
              go_wp2
              have HX2 := Lib.hid (HX1.out.a2 (w6.heap.size + 1) (by simp))
              clear HX1
              refine seg_grow ⟨⟨_, HX2.out.le⟩, rfl⟩ ?_
              refine U_two 5 16 (by kernel_rfl) ?_ ?_
              · simp only [pickL, List.getElem?_cons_succ, List.getElem?_cons_zero]
                go_wp2_with (at_builtin; refine wpList_append_rows rfl _ _ rfl HX2.out.own rfl rfl (HGR.out.mono HX2.out.le) (by simp) (by omega) HX2.out.le.size ?_)
                intro v5 w105 h1 h2 h3
                obtain ⟨ao5, co5, hvo⟩ := owns_form h1
                subst hvo
                have HX3 := Lib.hid (HX2.out.grow (V := V) (by simpa using h1) h2 (by simpa using h3))
                clear h1 h2 h3 HX2
                go_wp2
                refine seg_grow ⟨⟨_, HX3.out.le⟩, rfl⟩ ?_
                refine U_two 14 16 (by kernel_rfl) ?_ ?_
                · simp only [pickL, List.getElem?_cons_succ, List.getElem?_cons_zero]
                  go_wp2_with (at_builtin; refine wpList_append_rows rfl _ _ rfl HX3.out.own rfl rfl HX3.out.rd (by simp; omega) (by simp) HX3.out.le.size ?_)
                  intro v14 w114 h1 h2 h3
                  obtain ⟨ao14, co14, hvo⟩ := owns_form h1
                  subst hvo
                  have HX4 := Lib.hid (HX3.out.grow (V := [((pb : Int), (pa : Int))]) (by simpa using h1) h2 (by simpa using h3))
                  clear h1 h2 h3 HX3
                  go_wp2
                  refine seg_grow ⟨⟨_, HX4.out.le⟩, rfl⟩ ?_
                  refine U_heads2 [15] (by kernel_rfl) ⟨⟨_, HX4.out.le⟩, rfl⟩ ?_
                  simp only [pickL, List.getElem?_cons_succ, List.getElem?_cons_zero]
                  repeat (go_big_quiet_step (rfl))
                  refine wpQuiet_nil ?_
                  refine U_one 16 (by kernel_rfl) ?_
                  simp only [pickL, List.getElem?_cons_succ, List.getElem?_cons_zero]
                  go_wp2
                  have HX5 := Lib.hid (HX4.out.a16 (w114.heap.size) (by simp))
                  clear HX4
                  refine seg_grow ⟨⟨_, HX5.out.le⟩, rfl⟩ ?_
                  refine U_one 17 (by kernel_rfl) ?_
                  simp only [pickL, List.getElem?_cons_succ, List.getElem?_cons_zero]
                  obtain ⟨q0, q1, q2, q3, q4, q5⟩ := HX5.out.cell
                  obtain ⟨G, hKG, hG⟩ := HX5.out.put n
                  have HG := Lib.hid hG
                  clear hG
                  try simp at q0
                  try simp at q2
                  try simp at q3
                  try simp at q4
                  try simp at q5
                  go_wp2
                  try simp [go_sem] at hKG
                  have HKG := Lib.hid hKG
                  clear hKG
                  refine seg_grow ⟨⟨_, (HG.out _ HKG.out.here).2.2.2⟩, rfl⟩ ?_
                  refine U_done (by kernel_rfl) ?_
                  go_wp2_with fail
                  go_meet
                  exact ⟨_, _, G, rfl, HKG.out, fun w2 h => ⟨(HG.out w2 h).1, (HG.out w2 h).2.1, (HG.out w2 h).2.2.1, btr HBQ.out (HG.out w2 h).2.2.2⟩⟩
                · simp only [pickL, List.getElem?_cons_succ, List.getElem?_cons_zero]
                  go_wp2
                  have HX4 := Lib.hid (HX3.out.a16 (w105.heap.size) (by simp))
                  clear HX3
                  refine seg_grow ⟨⟨_, HX4.out.le⟩, rfl⟩ ?_
                  refine U_one 14 (by kernel_rfl) ?_
                  simp only [pickL, List.getElem?_cons_succ, List.getElem?_cons_zero]
                  go_wp2_with (at_builtin; refine wpList_append_rows rfl _ _ rfl HX4.out.own rfl rfl HX4.out.rd (by simp; omega) (by simp) HX4.out.le.size ?_)
                  intro v14 w114 h1 h2 h3
                  obtain ⟨ao14, co14, hvo⟩ := owns_form h1
                  subst hvo
                  have HX5 := Lib.hid (HX4.out.grow (V := [((pb : Int), (pa : Int))]) (by simpa using h1) h2 (by simpa using h3))
                  clear h1 h2 h3 HX4
                  go_wp2
                  refine seg_grow ⟨⟨_, HX5.out.le⟩, rfl⟩ ?_
                  refine U_heads2 [15] (by kernel_rfl) ⟨⟨_, HX5.out.le⟩, rfl⟩ ?_
                  simp only [pickL, List.getElem?_cons_succ, List.getElem?_cons_zero]
                  repeat (go_big_quiet_step (rfl))
                  refine wpQuiet_nil ?_
                  refine U_one 17 (by kernel_rfl) ?_
                  simp only [pickL, List.getElem?_cons_succ, List.getElem?_cons_zero]
                  obtain ⟨q0, q1, q2, q3, q4, q5⟩ := HX5.out.cell
                  obtain ⟨G, hKG, hG⟩ := HX5.out.put n
                  have HG := Lib.hid hG
                  clear hG
                  try simp at q0
                  try simp at q2
                  try simp at q3
                  try simp at q4
                  try simp at q5
                  go_wp2
                  try simp [go_sem] at hKG
                  have HKG := Lib.hid hKG
                  clear hKG
                  refine seg_grow ⟨⟨_, (HG.out _ HKG.out.here).2.2.2⟩, rfl⟩ ?_
                  refine U_done (by kernel_rfl) ?_
                  go_wp2_with fail
                  go_meet
                  exact ⟨_, _, G, rfl, HKG.out, fun w2 h => ⟨(HG.out w2 h).1, (HG.out w2 h).2.1, (HG.out w2 h).2.2.1, btr HBQ.out (HG.out w2 h).2.2.2⟩⟩
              · simp only [pickL, List.getElem?_cons_succ, List.getElem?_cons_zero]
                go_wp2
                have HX3 := Lib.hid (HX2.out.a16 (w6.heap.size + 1 + 1) (by simp))
                clear HX2
                refine seg_grow ⟨⟨_, HX3.out.le⟩, rfl⟩ ?_
                refine U_one 5 (by kernel_rfl) ?_
                simp only [pickL, List.getElem?_cons_succ, List.getElem?_cons_zero]
                go_wp2_with (at_builtin; refine wpList_append_rows rfl _ _ rfl HX3.out.own rfl rfl (HGR.out.mono HX3.out.le) (by simp) (by omega) HX3.out.le.size ?_)
                intro v5 w105 h1 h2 h3
                obtain ⟨ao5, co5, hvo⟩ := owns_form h1
                subst hvo
                have HX4 := Lib.hid (HX3.out.grow (V := V) (by simpa using h1) h2 (by simpa using h3))
                clear h1 h2 h3 HX3
                go_wp2
                refine seg_grow ⟨⟨_, HX4.out.le⟩, rfl⟩ ?_
                refine U_one 14 (by kernel_rfl) ?_
                simp only [pickL, List.getElem?_cons_succ, List.getElem?_cons_zero]
                go_wp2_with (at_builtin; refine wpList_append_rows rfl _ _ rfl HX4.out.own rfl rfl HX4.out.rd (by simp; omega) (by simp) HX4.out.le.size ?_)
                intro v14 w114 h1 h2 h3
                obtain ⟨ao14, co14, hvo⟩ := owns_form h1
                subst hvo
                have HX5 := Lib.hid (HX4.out.grow (V := [((pb : Int), (pa : Int))]) (by simpa using h1) h2 (by simpa using h3))
                clear h1 h2 h3 HX4
                go_wp2
                refine seg_grow ⟨⟨_, HX5.out.le⟩, rfl⟩ ?_
                refine U_heads2 [15] (by kernel_rfl) ⟨⟨_, HX5.out.le⟩, rfl⟩ ?_
                simp only [pickL, List.getElem?_cons_succ, List.getElem?_cons_zero]
                repeat (go_big_quiet_step (rfl))
                refine wpQuiet_nil ?_
                refine U_one 17 (by kernel_rfl) ?_
                simp only [pickL, List.getElem?_cons_succ, List.getElem?_cons_zero]
                obtain ⟨q0, q1, q2, q3, q4, q5⟩ := HX5.out.cell
                obtain ⟨G, hKG, hG⟩ := HX5.out.put n
                have HG := Lib.hid hG
                clear hG
                try simp at q0
                try simp at q2
                try simp at q3
                try simp at q4
                try simp at q5
                go_wp2
                try simp [go_sem] at hKG
                have HKG := Lib.hid hKG
                clear hKG
                refine seg_grow ⟨⟨_, (HG.out _ HKG.out.here).2.2.2⟩, rfl⟩ ?_
                refine U_done (by kernel_rfl) ?_
                go_wp2_with fail
                go_meet
                exact ⟨_, _, G, rfl, HKG.out, fun w2 h => ⟨(HG.out w2 h).1, (HG.out w2 h).2.1, (HG.out w2 h).2.2.1, btr HBQ.out (HG.out w2 h).2.2.2⟩⟩
            · simp only [pickL, List.getElem?_cons_succ, List.getElem?_cons_zero]
              go_wp2
              have HX2 := Lib.hid (HX1.out.a16 (w6.heap.size + 1) (by simp))
              clear HX1
              refine seg_grow ⟨⟨_, HX2.out.le⟩, rfl⟩ ?_
              refine U_one 2 (by kernel_rfl) ?_
              simp only [pickL, List.getElem?_cons_succ, List.getElem?_cons_zero]
              go_wp2
              have HX3 := Lib.hid (HX2.out.a2 (w6.heap.size + 1 + 1) (by simp))
              clear HX2
              refine seg_grow ⟨⟨_, HX3.out.le⟩, rfl⟩ ?_
              refine U_one 5 (by kernel_rfl) ?_
              simp only [pickL, List.getElem?_cons_succ, List.getElem?_cons_zero]
              go_wp2_with (at_builtin; refine wpList_append_rows rfl _ _ rfl HX3.out.own rfl rfl (HGR.out.mono HX3.out.le) (by simp) (by omega) HX3.out.le.size ?_)
              intro v5 w105 h1 h2 h3
              obtain ⟨ao5, co5, hvo⟩ := owns_form h1
              subst hvo
              have HX4 := Lib.hid (HX3.out.grow (V := V) (by simpa using h1) h2 (by simpa using h3))
              clear h1 h2 h3 HX3
              go_wp2
              refine seg_grow ⟨⟨_, HX4.out.le⟩, rfl⟩ ?_
              refine U_one 14 (by kernel_rfl) ?_
              simp only [pickL, List.getElem?_cons_succ, List.getElem?_cons_zero]
              go_wp2_with (at_builtin; refine wpList_append_rows rfl _ _ rfl HX4.out.own rfl rfl HX4.out.rd (by simp; omega) (by simp) HX4.out.le.size ?_)
              intro v14 w114 h1 h2 h3
              obtain ⟨ao14, co14, hvo⟩ := owns_form h1
              subst hvo
              have HX5 := Lib.hid (HX4.out.grow (V := [((pb : Int), (pa : Int))]) (by simpa using h1) h2 (by simpa using h3))
              clear h1 h2 h3 HX4
              go_wp2
              refine seg_grow ⟨⟨_, HX5.out.le⟩, rfl⟩ ?_
              refine U_heads2 [15] (by kernel_rfl) ⟨⟨_, HX5.out.le⟩, rfl⟩ ?_
              simp only [pickL, List.getElem?_cons_succ, List.getElem?_cons_zero]
              repeat (go_big_quiet_step (rfl))
              refine wpQuiet_nil ?_
              refine U_one 17 (by kernel_rfl) ?_
              simp only [pickL, List.getElem?_cons_succ, List.getElem?_cons_zero]
              obtain ⟨q0, q1, q2, q3, q4, q5⟩ := HX5.out.cell
              obtain ⟨G, hKG, hG⟩ := HX5.out.put n
              have HG := Lib.hid hG
              clear hG
              try simp at q0
              try simp at q2
              try simp at q3
              try simp at q4
              try simp at q5
              go_wp2
              try simp [go_sem] at hKG
              have HKG := Lib.hid hKG
              clear hKG
              refine seg_grow ⟨⟨_, (HG.out _ HKG.out.here).2.2.2⟩, rfl⟩ ?_
              refine U_done (by kernel_rfl) ?_
              go_wp2_with fail
              go_meet
              exact ⟨_, _, G, rfl, HKG.out, fun w2 h => ⟨(HG.out w2 h).1, (HG.out w2 h).2.1, (HG.out w2 h).2.2.1, btr HBQ.out (HG.out w2 h).2.2.2⟩⟩
          · simp only [pickL, List.getElem?_cons_succ, List.getElem?_cons_zero]
            go_wp2
            have HX1 := Lib.hid (HX0.out.a16 (w6.heap.size) (by simp))
            clear HX0
            refine seg_grow ⟨⟨_, HX1.out.le⟩, rfl⟩ ?_
            refine U_two 2 13 (by kernel_rfl) ?_ ?_
            · simp only [pickL, List.getElem?_cons_succ, List.getElem?_cons_zero]
              go_wp2
              have HX2 := Lib.hid (HX1.out.a2 (w6.heap.size + 1) (by simp))
              clear HX1
              refine seg_grow ⟨⟨_, HX2.out.le⟩, rfl⟩ ?_
              refine U_two 5 13 (by kernel_rfl) ?_ ?_
              · simp only [pickL, List.getElem?_cons_succ, List.getElem?_cons_zero]
                go_wp2_with (at_builtin; refine wpList_append_rows rfl _ _ rfl HX2.out.own rfl rfl (HGR.out.mono HX2.out.le) (by simp) (by omega) HX2.out.le.size ?_)
                intro v5 w105 h1 h2 h3
                obtain ⟨ao5, co5, hvo⟩ := owns_form h1
                subst hvo
                have HX3 := Lib.hid (HX2.out.grow (V := V) (by simpa using h1) h2 (by simpa using h3))
                clear h1 h2 h3 HX2
                go_wp2
                refine seg_grow ⟨⟨_, HX3.out.le⟩, rfl⟩ ?_
                refine U_one 13 (by kernel_rfl) ?_
                simp only [pickL, List.getElem?_cons_succ, List.getElem?_cons_zero]
                go_wp2
                have HX4 := Lib.hid (HX3.out.a13 (w105.heap.size) (by simp))
                clear HX3
                refine seg_grow ⟨⟨_, HX4.out.le⟩, rfl⟩ ?_
                refine U_one 14 (by kernel_rfl) ?_
                simp only [pickL, List.getElem?_cons_succ, List.getElem?_cons_zero]
                go_wp2_with (at_builtin; refine wpList_append_rows rfl _ _ rfl HX4.out.own rfl rfl HX4.out.rd (by simp; omega) (by simp) HX4.out.le.size ?_)
                intro v14 w114 h1 h2 h3
                obtain ⟨ao14, co14, hvo⟩ := owns_form h1
                subst hvo
                have HX5 := Lib.hid (HX4.out.grow (V := [((pb : Int), (pa : Int))]) (by simpa using h1) h2 (by simpa using h3))
                clear h1 h2 h3 HX4
                go_wp2
                refine seg_grow ⟨⟨_, HX5.out.le⟩, rfl⟩ ?_
                refine U_heads2 [15] (by kernel_rfl) ⟨⟨_, HX5.out.le⟩, rfl⟩ ?_
                simp only [pickL, List.getElem?_cons_succ, List.getElem?_cons_zero]
                repeat (go_big_quiet_step (rfl))
                refine wpQuiet_nil ?_
                refine U_one 17 (by kernel_rfl) ?_
                simp only [pickL, List.getElem?_cons_succ, List.getElem?_cons_zero]
                obtain ⟨q0, q1, q2, q3, q4, q5⟩ := HX5.out.cell
                obtain ⟨G, hKG, hG⟩ := HX5.out.put n
                have HG := Lib.hid hG
                clear hG
                try simp at q0
                try simp at q2
                try simp at q3
                try simp at q4
                try simp at q5
                go_wp2
                try simp [go_sem] at hKG
                have HKG := Lib.hid hKG
                clear hKG
                refine seg_grow ⟨⟨_, (HG.out _ HKG.out.here).2.2.2⟩, rfl⟩ ?_
                refine U_done (by kernel_rfl) ?_
                go_wp2_with fail
                go_meet
                exact ⟨_, _, G, rfl, HKG.out, fun w2 h => ⟨(HG.out w2 h).1, (HG.out w2 h).2.1, (HG.out w2 h).2.2.1, btr HBQ.out (HG.out w2 h).2.2.2⟩⟩
              · simp only [pickL, List.getElem?_cons_succ, List.getElem?_cons_zero]
                go_wp2
                have HX3 := Lib.hid (HX2.out.a13 (w6.heap.size + 1 + 1) (by simp))
                clear HX2
                refine seg_grow ⟨⟨_, HX3.out.le⟩, rfl⟩ ?_
                refine U_one 5 (by kernel_rfl) ?_
                simp only [pickL, List.getElem?_cons_succ, List.getElem?_cons_zero]
                go_wp2_with (at_builtin; refine wpList_append_rows rfl _ _ rfl HX3.out.own rfl rfl (HGR.out.mono HX3.out.le) (by simp) (by omega) HX3.out.le.size ?_)
                intro v5 w105 h1 h2 h3
                obtain ⟨ao5, co5, hvo⟩ := owns_form h1
                subst hvo
                have HX4 := Lib.hid (HX3.out.grow (V := V) (by simpa using h1) h2 (by simpa using h3))
                clear h1 h2 h3 HX3
                go_wp2
                refine seg_grow ⟨⟨_, HX4.out.le⟩, rfl⟩ ?_
                refine U_one 14 (by kernel_rfl) ?_
                simp only [pickL, List.getElem?_cons_succ, List.getElem?_cons_zero]
                go_wp2_with (at_builtin; refine wpList_append_rows rfl _ _ rfl HX4.out.own rfl rfl HX4.out.rd (by simp; omega) (by simp) HX4.out.le.size ?_)
                intro v14 w114 h1 h2 h3
                obtain ⟨ao14, co14, hvo⟩ := owns_form h1
                subst hvo
                have HX5 := Lib.hid (HX4.out.grow (V := [((pb : Int), (pa : Int))]) (by simpa using h1) h2 (by simpa using h3))
                clear h1 h2 h3 HX4
                go_wp2
                refine seg_grow ⟨⟨_, HX5.out.le⟩, rfl⟩ ?_
                refine U_heads2 [15] (by kernel_rfl) ⟨⟨_, HX5.out.le⟩, rfl⟩ ?_
                simp only [pickL, List.getElem?_cons_succ, List.getElem?_cons_zero]
                repeat (go_big_quiet_step (rfl))
                refine wpQuiet_nil ?_
                refine U_one 17 (by kernel_rfl) ?_
                simp only [pickL, List.getElem?_cons_succ, List.getElem?_cons_zero]
                obtain ⟨q0, q1, q2, q3, q4, q5⟩ := HX5.out.cell
                obtain ⟨G, hKG, hG⟩ := HX5.out.put n
                have HG := Lib.hid hG
                clear hG
                try simp at q0
                try simp at q2
                try simp at q3
                try simp at q4
                try simp at q5
                go_wp2
                try simp [go_sem] at hKG
                have HKG := Lib.hid hKG
                clear hKG
                refine seg_grow ⟨⟨_, (HG.out _ HKG.out.here).2.2.2⟩, rfl⟩ ?_
                refine U_done (by kernel_rfl) ?_
                go_wp2_with fail
                go_meet
                exact ⟨_, _, G, rfl, HKG.out, fun w2 h => ⟨(HG.out w2 h).1, (HG.out w2 h).2.1, (HG.out w2 h).2.2.1, btr HBQ.out (HG.out w2 h).2.2.2⟩⟩
            · simp only [pickL, List.getElem?_cons_succ, List.getElem?_cons_zero]
              go_wp2
              have HX2 := Lib.hid (HX1.out.a13 (w6.heap.size + 1) (by simp))
              clear HX1
              refine seg_grow ⟨⟨_, HX2.out.le⟩, rfl⟩ ?_
              refine U_one 2 (by kernel_rfl) ?_
              simp only [pickL, List.getElem?_cons_succ, List.getElem?_cons_zero]
              go_wp2
              have HX3 := Lib.hid (HX2.out.a2 (w6.heap.size + 1 + 1) (by simp))
              clear HX2
              refine seg_grow ⟨⟨_, HX3.out.le⟩, rfl⟩ ?_
              refine U_one 5 (by kernel_rfl) ?_
              simp only [pickL, List.getElem?_cons_succ, List.getElem?_cons_zero]
              go_wp2_with (at_builtin; refine wpList_append_rows rfl _ _ rfl HX3.out.own rfl rfl (HGR.out.mono HX3.out.le) (by simp) (by omega) HX3.out.le.size ?_)
              intro v5 w105 h1 h2 h3
              obtain ⟨ao5, co5, hvo⟩ := owns_form h1
              subst hvo
              have HX4 := Lib.hid (HX3.out.grow (V := V) (by simpa using h1) h2 (by simpa using h3))
              clear h1 h2 h3 HX3
              go_wp2
              refine seg_grow ⟨⟨_, HX4.out.le⟩, rfl⟩ ?_
              refine U_one 14 (by kernel_rfl) ?_
              simp only [pickL, List.getElem?_cons_succ, List.getElem?_cons_zero]
              go_wp2_with (at_builtin; refine wpList_append_rows rfl _ _ rfl HX4.out.own rfl rfl HX4.out.rd (by simp; omega) (by simp) HX4.out.le.size ?_)
              intro v14 w114 h1 h2 h3
              obtain ⟨ao14, co14, hvo⟩ := owns_form h1
              subst hvo
              have HX5 := Lib.hid (HX4.out.grow (V := [((pb : Int), (pa : Int))]) (by simpa using h1) h2 (by simpa using h3))
              clear h1 h2 h3 HX4
              go_wp2
              refine seg_grow ⟨⟨_, HX5.out.le⟩, rfl⟩ ?_
              refine U_heads2 [15] (by kernel_rfl) ⟨⟨_, HX5.out.le⟩, rfl⟩ ?_
              simp only [pickL, List.getElem?_cons_succ, List.getElem?_cons_zero]
              repeat (go_big_quiet_step (rfl))
              refine wpQuiet_nil ?_
              refine U_one 17 (by kernel_rfl) ?_
              simp only [pickL, List.getElem?_cons_succ, List.getElem?_cons_zero]
              obtain ⟨q0, q1, q2, q3, q4, q5⟩ := HX5.out.cell
              obtain ⟨G, hKG, hG⟩ := HX5.out.put n
              have HG := Lib.hid hG
              clear hG
              try simp at q0
              try simp at q2
              try simp at q3
              try simp at q4
              try simp at q5
              go_wp2
              try simp [go_sem] at hKG
              have HKG := Lib.hid hKG
              clear hKG
              refine seg_grow ⟨⟨_, (HG.out _ HKG.out.here).2.2.2⟩, rfl⟩ ?_
              refine U_done (by kernel_rfl) ?_
              go_wp2_with fail
              go_meet
              exact ⟨_, _, G, rfl, HKG.out, fun w2 h => ⟨(HG.out w2 h).1, (HG.out w2 h).2.1, (HG.out w2 h).2.2.1, btr HBQ.out (HG.out w2 h).2.2.2⟩⟩
        case rest =>
          obtain ⟨g, vA, G, rfl, hKG, hG⟩ := hcut
          have hGh := hG _ hKG.here
          have hv := hGh.2.2.1
          obtain ⟨av, cv, hv'⟩ := hv.ex (V.length + 1) (by simp)
          subst hv'
          have hBw := hGh.2.2.2
          have hc0 := hGh.1; have hc1 := hGh.2.1
          clear hGh hG hKG
          simp only [List.nil_append] at hv
          have KP7 := Lib.hid ((((KP6.out.up (btr (bz w5) hBw)).and (keepC hc0)).and (keepC hc1)).and (keepP hv))
          clear KP6
          clear hBw hc0 hc1 hv
          have hall := KP7.out.here
          have hX1 := hall.2.1
          have hX0 := hall.2.2.1
          have hR1 := hall.2.2.2.2.2.1
          have hR0 := hall.2.2.2.2.2.2.1
          clear hall
          have zR := World.block_lt_of_cell? _ _ hR0
          have zX := World.block_lt_of_cell? _ _ hX0
          simp only at zR zX
          go_wp2_with fail
          clear hX1 hX0 hR1 hR0 zR zX
          have hall := KP7.out.here
          have gx := hall.1
          clear hall
          refine (images_k n _ (V ++ [((pb : Int), (pa : Int))]) m2 _ gx HM.out.ok HM.out.im).mono ?_
          rintro e w6 ⟨rfl, hB⟩
          have KP8 := Lib.hid (KP7.out.up (btr (bz wc) hB))
          clear KP7
          clear hB
          clear gx
          have e1 : decide ((m2 : Int) ≤ (m : Int)) = true := decide_eq_true (by have := HM.out.le; omega)
          have e2 : decide ((n : Int) < (m2 : Int)) = true := decide_eq_true (by have := HM.out.gt; omega)
          have e1n : decide (m2 ≤ m) = true := decide_eq_true HM.out.le
          have e2n : decide (n < m2) = true := decide_eq_true HM.out.gt
          have hall := KP8.out.here
          have hX1 := hall.2.1
          have hX0 := hall.2.2.1
          have hR1 := hall.2.2.2.2.2.1
          have hR0 := hall.2.2.2.2.2.2.1
          clear hall
          have zR := World.block_lt_of_cell? _ _ hR0
          have zX := World.block_lt_of_cell? _ _ hX0
          simp only at zR zX
          go_wp2_with fail
          clear hX1 hX0 hR1 hR0 zR zX
          refine (works_any _).mono ?_
          rintro e w7 ⟨rfl, hB⟩
          have KP9 := Lib.hid (KP8.out.up (btr (bz w6) hB))
          clear KP8
          clear hB
          have hall := KP9.out.here
          have gBelow := hall.2.2.2.2.2.2.2.2
          clear hall
          go_wp2
          go_ret
          exact ⟨rfl, gBelow⟩
  · have hme : ((m : Int) == (n : Int) + 1) = false := by rw [beq_eq_false_iff_ne]; omega
    have HMN := Lib.hid hmn
    clear hmn
    have d1 : decide ((m : Int) ≤ (n : Int)) = false := decide_eq_false (by have := HS.out.gt; omega)
    have d2 : decide ((pw : Int) < (m : Int)) = false := decide_eq_false (by have := HS.out.le; omega)
    have d1n : decide (m ≤ n) = false := decide_eq_false (by have := HS.out.gt; omega)
    have d2n : decide (pw < m) = false := decide_eq_false (by have := HS.out.le; omega)
    have hall := KP3.out.here
    have hR1 := hall.1
    have hR0 := hall.2.1
    clear hall
    have zR := World.block_lt_of_cell? _ _ hR0
    simp only at zR
    go_wp2
    clear hR1 hR0 zR
    refine wp_region_flow [] [([0, 1, 2, 3, 4, 5, 6, 7, 8, 9, 10, 11, 12, 13, 14, 15, 16, 17, 18, 19, 20, 21], 22, true)] [23, 24, 25] (by kernel_rfl) (by kernel_rfl) ?_
    intro w3 hB hh
    clear hh
    have KP4 := Lib.hid ((KP3.out.up (btr (bz w2) hB)).and (keepB (bz w3)))
    clear KP3
    clear hB
    have hall := KP4.out.here
    have hR1 := hall.2.1
    have hR0 := hall.2.2.1
    clear hall
    have zR := World.block_lt_of_cell? _ _ hR0
    simp only at zR
    have hL := @Later.cell w3
    simp only [flowP, flow, pickL, List.getElem?_cons_succ, List.getElem?_cons_zero]
    refine wpQuiet_nil ?_
    repeat (go_big_quiet_step (fail))
    refine wpQuiet_nil ?_
    go_wp2_with fail
    have hall := KP4.out.here
    have gr := hall.2.2.2.1
    clear hall
    refine (sorts_k n _ V 23 _ gr HF.out HS.out.so).mono ?_
    rintro e w4 ⟨rfl, hB⟩
    have KP5 := Lib.hid (KP4.out.up (btr (bz w3) hB))
    clear KP4
    clear hB
    clear gr
    go_wp2
    have hall := KP5.out.here
    have gSw3 := hall.1
    clear hall
    refine seg_grow ⟨⟨_, gSw3⟩, rfl⟩ ?_
    clear gSw3
    repeat (go_big_quiet_step (fail))
    refine wpQuiet_nil ?_
    refine only_done ?_
    clear hR1 hR0 zR hL
    by_cases hn1 : n = 1
    · have hm3 : m = 2 := HS.out.one hn1
      have hn1b : ((n : Int) == 1) = true := by rw [beq_iff_eq]; omega
      have hm2b : ((m : Int) == 2) = true := by rw [beq_iff_eq]; omega
      clear hm3 hn1
      have hall := KP5.out.here
      have hR1 := hall.2.1
      have hR0 := hall.2.2.1
      clear hall
      have zR := World.block_lt_of_cell? _ _ hR0
      simp only at zR
      go_wp2_with fail
      clear hR1 hR0 zR
      refine (works_any _).mono ?_
      rintro e w5 ⟨rfl, hB⟩
      have KP6 := Lib.hid (KP5.out.up (btr (bz w4) hB))
      clear KP5
      clear hB
      have hall := KP6.out.here
      have gBelow := hall.2.2.2.2
      clear hall
      go_wp2
      go_ret
      exact ⟨rfl, gBelow⟩
    · have hn1b : ((n : Int) == 1) = false := by rw [beq_eq_false_iff_ne]; omega
      obtain ⟨k1, rfl⟩ : ∃ k1 : Nat, z1 = k1 := ⟨z1.toNat, by omega⟩
      obtain ⟨k2, rfl⟩ : ∃ k2 : Nat, z2 = k2 := ⟨z2.toNat, by omega⟩
      obtain ⟨pa, hpa⟩ : ∃ pa, pa = k1 % n := ⟨_, rfl⟩
      obtain ⟨pr, hpr⟩ : ∃ pr, pr = k2 % (n - 1) := ⟨_, rfl⟩
      obtain ⟨pb, hpb⟩ : ∃ pb, pb = (pa + 1 + pr) % n := ⟨_, rfl⟩
      have hpan : pa < n := by rw [hpa]; exact Nat.mod_lt _ h1
      have hprn : pr < n - 1 := by rw [hpr]; exact Nat.mod_lt _ (by omega)
      obtain ⟨hpbn, hpne⟩ := two_places (by omega) hpan hprn
      rw [← hpb] at hpbn hpne
      have t1 : (k1 : Int).tmod (n : Int) = (pa : Int) := by rw [hpa]; have := (Int.ofNat_tmod k1 n).symm; simpa using this
      have t2 : (k2 : Int).tmod ((n : Int) - 1) = (pr : Int) := by rw [hpr, show ((n : Int) - 1) = ((n - 1 : Nat) : Int) by omega]; have := (Int.ofNat_tmod k2 (n - 1)).symm; simpa using this
      have t3 : ((pa : Int) + 1 + (pr : Int)).tmod (n : Int) = (pb : Int) := by rw [hpb, show (pa : Int) + 1 + (pr : Int) = ((pa + 1 + pr : Nat) : Int) by omega]; have := (Int.ofNat_tmod (pa + 1 + pr) n).symm; simpa using this
      have hz1b : ((n : Int) == 0) = false := by rw [beq_eq_false_iff_ne]; omega
      have hz2b : ((n : Int) - 1 == 0) = false := by rw [beq_eq_false_iff_ne]; omega
      obtain ⟨m2, hM⟩ := moreS n V m HF.out HS.out.im (by omega) hpan hpbn hpne
      have HM := Lib.hid hM
      clear hM hpa hpr hpb hn1
      have hall := KP5.out.here
      have hR1 := hall.2.1
      have hR0 := hall.2.2.1
      clear hall
      have zR := World.block_lt_of_cell? _ _ hR0
      simp only at zR
      go_wp2
      clear hR1 hR0 zR
      refine wp_region_flow [] [] [0, 1, 2, 3, 4, 5, 6, 7, 8, 9, 10, 11, 12] (by kernel_rfl) (by kernel_rfl) ?_
      intro w5 hB hh
      clear hh
      have KP6 := Lib.hid ((KP5.out.up (btr (bz w4) hB)).and (keepB (bz w5)))
      clear KP5
      clear hB
      have hall := KP6.out.here
      have hR1 := hall.2.2.1
      have hR0 := hall.2.2.2.1
      clear hall
      have zR := World.block_lt_of_cell? _ _ hR0
      simp only at zR
      have hL := @Later.cell w5
      simp only [flowP, flow, pickL, List.getElem?_cons_succ, List.getElem?_cons_zero]
      refine wpQuiet_nil ?_
      repeat (go_big_quiet_step (fail))
      refine wpQuiet_nil ?_
      refine only_done ?_
      clear hR1 hR0 zR hL
      have hall := KP6.out.here
      have hR1 := hall.2.2.1
      have hR0 := hall.2.2.2.1
      clear hall
      have zR := World.block_lt_of_cell? _ _ hR0
      simp only at zR
      go_wp2
      clear hR1 hR0 zR
      rcases Nat.lt_or_ge pa pb with hab | hab
      · have hi1 : (pa : Int) < (pb : Int) := by omega
        have hi2 : ¬ ((pb : Int) < (pa : Int)) := by omega
        have hi3 : ¬ ((pb : Int) ≤ (pa : Int)) := by omega
        have hi4 : (pa : Int) ≤ (pb : Int) := by omega
        have HM : Hid (MoreS n V m m2 (pa : Int) (pb : Int)) := Lib.hid (by have := HM.out; rwa [show min (pa : Int) (pb : Int) = pa by omega, show max (pa : Int) (pb : Int) = pb by omega] at this)
        go_cut [11] (fun s11 wx => ∃ (g : Nat) (vA : Value) (G : World → Prop), s11 = .pointer (some ⟨g, 0, none⟩) ∧ Keep wx G ∧ ∀ w2, G w2 → w2.cell? ⟨g, 0, none⟩ = some (.int .i64 n) ∧ w2.cell? ⟨g, 1, none⟩ = some vA ∧ RdP w2 vA ([] ++ V ++ [((pa : Int), (pb : Int))]) ∧ Below w5.heap.size w5 w2)
        case first =>
          refine wp_region_U [0, 1, 3, 4, 6, 7, 8, 9, 10, 11, 12, 15] [] (by kernel_rfl) (by kernel_rfl) ?_
          intro w6 hB hh
          clear hh
          have KP7 := Lib.hid ((KP6.out.up (btr (bz w5) hB)).and (keepB hB))
          clear KP6
          clear hB
          have hall := KP7.out.here
          have gBq := hall.1
          have gR1 := hall.2.2.2.1
          have gR0 := hall.2.2.2.2.1
          have gr := hall.2.2.2.2.2.1
          clear hall
          have zR := World.block_lt_of_cell? _ _ gR0
          simp only at zR
          have hL := @Later.cell w6
          have HGR := Lib.hid gr; have HBQ := Lib.hid gBq
          clear gr gBq
          refine U_heads2 [0, 1, 3, 4, 6, 7, 8, 9, 10, 11, 12] (by kernel_rfl) ⟨⟨_, bz w6⟩, rfl⟩ ?_
          simp only [pickL, List.getElem?_cons_succ, List.getElem?_cons_zero]
          repeat (go_big_quiet_step (rfl))
          refine wpQuiet_nil ?_
          clear gR0 gR1 zR hL
          have HX0 := Lib.hid (X3.nil w6 (pa : Int) (pb : Int))
          refine U_all [2, 13, 16] (by kernel_rfl) (fun cc hcc => ?_)
          simp only [List.mem_cons, List.not_mem_nil, or_false] at hcc
          rcases hcc with rfl | rfl | rfl
          · simp only [pickL, List.getElem?_cons_succ, List.getElem?_cons_zero]
            go_wp2
            have HX1 := Lib.hid (HX0.out.a2 (w6.heap.size) (by simp))
            clear HX0
            refine seg_grow ⟨⟨_, HX1.out.le⟩, rfl⟩ ?_
            refine U_all [5, 13, 16] (by kernel_rfl) (fun cc hcc => ?_)
            simp only [List.mem_cons, List.not_mem_nil, or_false] at hcc
            rcases hcc with rfl | rfl | rfl
            · simp only [pickL, List.getElem?_cons_succ, List.getElem?_cons_zero]
              go_wp2_with (at_builtin; refine wpList_append_rows rfl _ _ rfl HX1.out.own rfl rfl (HGR.out.mono HX1.out.le) (by simp) (by omega) HX1.out.le.size ?_)
              intro v5 w105 h1 h2 h3
              obtain ⟨ao5, co5, hvo⟩ := owns_form h1
              subst hvo
              have HX2 := Lib.hid (HX1.out.grow (V := V) (by simpa using h1) h2 (by simpa using h3))
              clear h1 h2 h3 HX1
              go_wp2
              refine seg_grow ⟨⟨_, HX2.out.le⟩, rfl⟩ ?_
              refine U_two 13 16 (by kernel_rfl) ?_ ?_
              · simp only [pickL, List.getElem?_cons_succ, List.getElem?_cons_zero]
                go_wp2
                have HX3 := Lib.hid (HX2.out.a13 (w105.heap.size) (by simp))
                clear HX2
                refine seg_grow ⟨⟨_, HX3.out.le⟩, rfl⟩ ?_
                refine U_two 14 16 (by kernel_rfl) ?_ ?_
                · simp only [pickL, List.getElem?_cons_succ, List.getElem?_cons_zero]
                  go_wp2_with (at_builtin; refine wpList_append_rows rfl _ _ rfl HX3.out.own rfl rfl HX3.out.rd (by simp; omega) (by simp) HX3.out.le.size ?_)
                  intro v14 w114 h1 h2 h3
                  obtain ⟨ao14, co14, hvo⟩ := owns_form h1
                  subst hvo
                  have HX4 := Lib.hid (HX3.out.grow (V := [((pa : Int), (pb : Int))]) (by simpa using h1) h2 (by simpa using h3))
                  clear h1 h2 h3 HX3
                  go_wp2
                  refine seg_grow ⟨⟨_, HX4.out.le⟩, rfl⟩ ?_
                  refine U_heads2 [15] (by kernel_rfl) ⟨⟨_, HX4.out.le⟩, rfl⟩ ?_
                  simp only [pickL, List.getElem?_cons_succ, List.getElem?_cons_zero]
                  repeat (go_big_quiet_step (rfl))
                  refine wpQuiet_nil ?_
                  refine U_one 16 (by kernel_rfl) ?_
                  simp only [pickL, List.getElem?_cons_succ, List.getElem?_cons_zero]
                  go_wp2
                  have HX5 := Lib.hid (HX4.out.a16 (w114.heap.size) (by simp))
                  clear HX4
                  refine seg_grow ⟨⟨_, HX5.out.le⟩, rfl⟩ ?_
                  refine U_one 17 (by kernel_rfl) ?_
                  simp only [pickL, List.getElem?_cons_succ, List.getElem?_cons_zero]
                  obtain ⟨q0, q1, q2, q3, q4, q5⟩ := HX5.out.cell
                  obtain ⟨G, hKG, hG⟩ := HX5.out.put n
                  have HG := Lib.hid hG
                  clear hG
                  try simp at q0
                  try simp at q2
                  try simp at q3
                  try simp at q4
                  try simp at q5
                  go_wp2
                  try simp [go_sem] at hKG
                  have HKG := Lib.hid hKG
                  clear hKG
                  refine seg_grow ⟨⟨_, (HG.out _ HKG.out.here).2.2.2⟩, rfl⟩ ?_
                  refine U_done (by kernel_rfl) ?_
                  go_wp2_with fail
                  go_meet
                  exact ⟨_, _, G, rfl, HKG.out, fun w2 h => ⟨(HG.out w2 h).1, (HG.out w2 h).2.1, (HG.out w2 h).2.2.1, btr HBQ.out (HG.out w2 h).2.2.2⟩⟩
                · simp only [pickL, List.getElem?_cons_succ, List.getElem?_cons_zero]
                  go_wp2
                  have HX4 := Lib.hid (HX3.out.a16 (w105.heap.size + 1) (by simp))
                  clear HX3
                  refine seg_grow ⟨⟨_, HX4.out.le⟩, rfl⟩ ?_
                  refine U_one 14 (by kernel_rfl) ?_
                  simp only [pickL, List.getElem?_cons_succ, List.getElem?_cons_zero]
                  go_wp2_with (at_builtin; refine wpList_append_rows rfl _ _ rfl HX4.out.own rfl rfl HX4.out.rd (by simp; omega) (by simp) HX4.out.le.size ?_)
                  intro v14 w114 h1 h2 h3
                  obtain ⟨ao14, co14, hvo⟩ := owns_form h1
                  subst hvo
                  have HX5 := Lib.hid (HX4.out.grow (V := [((pa : Int), (pb : Int))]) (by simpa using h1) h2 (by simpa using h3))
                  clear h1 h2 h3 HX4
                  go_wp2
                  refine seg_grow ⟨⟨_, HX5.out.le⟩, rfl⟩ ?_
                  refine U_heads2 [15] (by kernel_rfl) ⟨⟨_, HX5.out.le⟩, rfl⟩ ?_
                  simp only [pickL, List.getElem?_cons_succ, List.getElem?_cons_zero]
                  repeat (go_big_quiet_step (rfl))
                  refine wpQuiet_nil ?_
                  refine U_one 17 (by kernel_rfl) ?_
                  simp only [pickL, List.getElem?_cons_succ, List.getElem?_cons_zero]
                  obtain ⟨q0, q1, q2, q3, q4, q5⟩ := HX5.out.cell
                  obtain ⟨G, hKG, hG⟩ := HX5.out.put n
                  have HG := Lib.hid hG
                  clear hG
                  try simp at q0
                  try simp at q2
                  try simp at q3
                  try simp at q4
                  try simp at q5
                  go_wp2
                  try simp [go_sem] at hKG
                  have HKG := Lib.hid hKG
                  clear hKG
                  refine seg_grow ⟨⟨_, (HG.out _ HKG.out.here).2.2.2⟩, rfl⟩ ?_
                  refine U_done (by kernel_rfl) ?_
                  go_wp2_with fail
                  go_meet
                  exact ⟨_, _, G, rfl, HKG.out, fun w2 h => ⟨(HG.out w2 h).1, (HG.out w2 h).2.1, (HG.out w2 h).2.2.1, btr HBQ.out (HG.out w2 h).2.2.2⟩⟩
              · simp only [pickL, List.getElem?_cons_succ, List.getElem?_cons_zero]
                go_wp2
                have HX3 := Lib.hid (HX2.out.a16 (w105.heap.size) (by simp))
                clear HX2
                refine seg_grow ⟨⟨_, HX3.out.le⟩, rfl⟩ ?_
                refine U_one 13 (by kernel_rfl) ?_
                simp only [pickL, List.getElem?_cons_succ, List.getElem?_cons_zero]
                go_wp2
                have HX4 := Lib.hid (HX3.out.a13 (w105.heap.size + 1) (by simp))
                clear HX3
                refine seg_grow ⟨⟨_, HX4.out.le⟩, rfl⟩ ?_
                refine U_one 14 (by kernel_rfl) ?_
                simp only [pickL, List.getElem?_cons_succ, List.getElem?_cons_zero]
                go_wp2_with (at_builtin; refine wpList_append_rows rfl _ _ rfl HX4.out.own rfl rfl HX4.out.rd (by simp; omega) (by simp) HX4.out.le.size ?_)
                intro v14 w114 h1 h2 h3
                obtain ⟨ao14, co14, hvo⟩ := owns_form h1
                subst hvo
                have HX5 := Lib.hid (HX4.out.grow (V := [((pa : Int), (pb : Int))]) (by simpa using h1) h2 (by simpa using h3))
                clear h1 h2 h3 HX4
                go_wp2
                refine seg_grow ⟨⟨_, HX5.out.le⟩, rfl⟩ ?_
                refine U_heads2 [15] (by kernel_rfl) ⟨⟨_, HX5.out.le⟩, rfl⟩ ?_
                simp only [pickL, List.getElem?_cons_succ, List.getElem?_cons_zero]
                repeat (go_big_quiet_step (rfl))
                refine wpQuiet_nil ?_
                refine U_one 17 (by kernel_rfl) ?_
                simp only [pickL, List.getElem?_cons_succ, List.getElem?_cons_zero]
                obtain ⟨q0, q1, q2, q3, q4, q5⟩ := HX5.out.cell
                obtain ⟨G, hKG, hG⟩ := HX5.out.put n
                have HG := Lib.hid hG
                clear hG
                try simp at q0
                try simp at q2
                try simp at q3
                try simp at q4
                try simp at q5
                go_wp2
                try simp [go_sem] at hKG
                have HKG := Lib.hid hKG
                clear hKG
                refine seg_grow ⟨⟨_, (HG.out _ HKG.out.here).2.2.2⟩, rfl⟩ ?_
                refine U_done (by kernel_rfl) ?_
                go_wp2_with fail
                go_meet
                exact ⟨_, _, G, rfl, HKG.out, fun w2 h => ⟨(HG.out w2 h).1, (HG.out w2 h).2.1, (HG.out w2 h).2.2.1, btr HBQ.out (HG.out w2 h).2.2.2⟩⟩
            · simp only [pickL, List.getElem?_cons_succ, List.getElem?_cons_zero]
              go_wp2
              have HX2 := Lib.hid (HX1.out.a13 (w6.heap.size + 1) (by simp))
              clear HX1
              refine seg_grow ⟨⟨_, HX2.out.le⟩, rfl⟩ ?_
              refine U_two 5 16 (by kernel_rfl) ?_ ?_
              · simp only [pickL, List.getElem?_cons_succ, List.getElem?_cons_zero]
                go_wp2_with (at_builtin; refine wpList_append_rows rfl _ _ rfl HX2.out.own rfl rfl (HGR.out.mono HX2.out.le) (by simp) (by omega) HX2.out.le.size ?_)
                intro v5 w105 h1 h2 h3
                obtain ⟨ao5, co5, hvo⟩ := owns_form h1
                subst hvo
                have HX3 := Lib.hid (HX2.out.grow (V := V) (by simpa using h1) h2 (by simpa using h3))
                clear h1 h2 h3 HX2
                go_wp2
                refine seg_grow ⟨⟨_, HX3.out.le⟩, rfl⟩ ?_
                refine U_two 14 16 (by kernel_rfl) ?_ ?_
                · simp only [pickL, List.getElem?_cons_succ, List.getElem?_cons_zero]
                  go_wp2_with (at_builtin; refine wpList_append_rows rfl _ _ rfl HX3.out.own rfl rfl HX3.out.rd (by simp; omega) (by simp) HX3.out.le.size ?_)
                  intro v14 w114 h1 h2 h3
                  obtain ⟨ao14, co14, hvo⟩ := owns_form h1
                  subst hvo
                  have HX4 := Lib.hid (HX3.out.grow (V := [((pa : Int), (pb : Int))]) (by simpa using h1) h2 (by simpa using h3))
                  clear h1 h2 h3 HX3
                  go_wp2
                  refine seg_grow ⟨⟨_, HX4.out.le⟩, rfl⟩ ?_
                  refine U_heads2 [15] (by kernel_rfl) ⟨⟨_, HX4.out.le⟩, rfl⟩ ?_
                  simp only [pickL, List.getElem?_cons_succ, List.getElem?_cons_zero]
                  repeat (go_big_quiet_step (rfl))
                  refine wpQuiet_nil ?_
                  refine U_one 16 (by kernel_rfl) ?_
                  simp only [pickL, List.getElem?_cons_succ, List.getElem?_cons_zero]
                  go_wp2
                  have HX5 := Lib.hid (HX4.out.a16 (w114.heap.size) (by simp))
                  clear HX4
                  refine seg_grow ⟨⟨_, HX5.out.le⟩, rfl⟩ ?_
                  refine U_one 17 (by kernel_rfl) ?_
                  simp only [pickL, List.getElem?_cons_succ, List.getElem?_cons_zero]
                  obtain ⟨q0, q1, q2, q3, q4, q5⟩ := HX5.out.cell
                  obtain ⟨G, hKG, hG⟩ := HX5.out.put n
                  have HG := Lib.hid hG
                  clear hG
                  try simp at q0
                  try simp at q2
                  try simp at q3
                  try simp at q4
                  try simp at q5
                  go_wp2
                  try simp [go_sem] at hKG
                  have HKG := Lib.hid hKG
                  clear hKG
                  refine seg_grow ⟨⟨_, (HG.out _ HKG.out.here).2.2.2⟩, rfl⟩ ?_
                  refine U_done (by kernel_rfl) ?_
                  go_wp2_with fail
                  go_meet
                  exact ⟨_, _, G, rfl, HKG.out, fun w2 h => ⟨(HG.out w2 h).1, (HG.out w2 h).2.1, (HG.out w2 h).2.2.1, btr HBQ.out (HG.out w2 h).2.2.2⟩⟩
                · simp only [pickL, List.getElem?_cons_succ, List.getElem?_cons_zero]
                  go_wp2
                  have HX4 := Lib.hid (HX3.out.a16 (w105.heap.size) (by simp))
                  clear HX3
                  refine seg_grow ⟨⟨_, HX4.out.le⟩, rfl⟩ ?_
                  refine U_one 14 (by kernel_rfl) ?_
                  simp only [pickL, List.getElem?_cons_succ, List.getElem?_cons_zero]
                  go_wp2_with (at_builtin; refine wpList_append_rows rfl _ _ rfl HX4.out.own rfl rfl HX4.out.rd (by simp; omega) (by simp) HX4.out.le.size ?_)
                  intro v14 w114 h1 h2 h3
                  obtain ⟨ao14, co14, hvo⟩ := owns_form h1
                  subst hvo
                  have HX5 := Lib.hid (HX4.out.grow (V := [((pa : Int), (pb : Int))]) (by simpa using h1) h2 (by simpa using h3))
                  clear h1 h2 h3 HX4
                  go_wp2
                  refine seg_grow ⟨⟨_, HX5.out.le⟩, rfl⟩ ?_
                  refine U_heads2 [15] (by kernel_rfl) ⟨⟨_, HX5.out.le⟩, rfl⟩ ?_
                  simp only [pickL, List.getElem?_cons_succ, List.getElem?_cons_zero]
                  repeat (go_big_quiet_step (rfl))
                  refine wpQuiet_nil ?_
                  refine U_one 17 (by kernel_rfl) ?_
                  simp only [pickL, List.getElem?_cons_succ, List.getElem?_cons_zero]
                  obtain ⟨q0, q1, q2, q3, q4, q5⟩ := HX5.out.cell
                  obtain ⟨G, hKG, hG⟩ := HX5.out.put n
                  have HG := Lib.hid hG
                  clear hG
                  try simp at q0
                  try simp at q2
                  try simp at q3
                  try simp at q4
                  try simp at q5
                  go_wp2
                  try simp [go_sem] at hKG
                  have HKG := Lib.hid hKG
                  clear hKG
                  refine seg_grow ⟨⟨_, (HG.out _ HKG.out.here).2.2.2⟩, rfl⟩ ?_
                  refine U_done (by kernel_rfl) ?_
                  go_wp2_with fail
                  go_meet
                  exact ⟨_, _, G, rfl, HKG.out, fun w2 h => ⟨(HG.out w2 h).1, (HG.out w2 h).2.1, (HG.out w2 h).2.2.1, btr HBQ.out (HG.out w2 h).2.2.2⟩⟩
              · simp only [pickL, List.getElem?_cons_succ, List.getElem?_cons_zero]
                go_wp2
                have HX3 := Lib.hid (HX2.out.a16 (w6.heap.size + 1 + 1) (by simp))
                clear HX2
                refine seg_grow ⟨⟨_, HX3.out.le⟩, rfl⟩ ?_
                refine U_one 5 (by kernel_rfl) ?_
                simp only [pickL, List.getElem?_cons_succ, List.getElem?_cons_zero]
                go_wp2_with (at_builtin; refine wpList_append_rows rfl _ _ rfl HX3.out.own rfl rfl (HGR.out.mono HX3.out.le) (by simp) (by omega) HX3.out.le.size ?_)
                intro v5 w105 h1 h2 h3
                obtain ⟨ao5, co5, hvo⟩ := owns_form h1
                subst hvo
                have HX4 := Lib.hid (HX3.out.grow (V := V) (by simpa using h1) h2 (by simpa using h3))
                clear h1 h2 h3 HX3
                go_wp2
                refine seg_grow ⟨⟨_, HX4.out.le⟩, rfl⟩ ?_
                refine U_one 14 (by kernel_rfl) ?_
                simp only [pickL, List.getElem?_cons_succ, List.getElem?_cons_zero]
                go_wp2_with (at_builtin; refine wpList_append_rows rfl _ _ rfl HX4.out.own rfl rfl HX4.out.rd (by simp; omega) (by simp) HX4.out.le.size ?_)
                intro v14 w114 h1 h2 h3
                obtain ⟨ao14, co14, hvo⟩ := owns_form h1
                subst hvo
                have HX5 := Lib.hid (HX4.out.grow (V := [((pa : Int), (pb : Int))]) (by simpa using h1) h2 (by simpa using h3))
                clear h1 h2 h3 HX4
                go_wp2
                refine seg_grow ⟨⟨_, HX5.out.le⟩, rfl⟩ ?_
                refine U_heads2 [15] (by kernel_rfl) ⟨⟨_, HX5.out.le⟩, rfl⟩ ?_
                simp only [pickL, List.getElem?_cons_succ, List.getElem?_cons_zero]
                repeat (go_big_quiet_step (rfl))
                refine wpQuiet_nil ?_
                refine U_one 17 (by kernel_rfl) ?_
                simp only [pickL, List.getElem?_cons_succ, List.getElem?_cons_zero]
                obtain ⟨q0, q1, q2, q3, q4, q5⟩ := HX5.out.cell
                obtain ⟨G, hKG, hG⟩ := HX5.out.put n
                have HG := Lib.hid hG
                clear hG
                try simp at q0
                try simp at q2
                try simp at q3
                try simp at q4
                try simp at q5
                go_wp2
                try simp [go_sem] at hKG
                have HKG := Lib.hid hKG
                clear hKG
                refine seg_grow ⟨⟨_, (HG.out _ HKG.out.here).2.2.2⟩, rfl⟩ ?_
                refine U_done (by kernel_rfl) ?_
                go_wp2_with fail
                go_meet
                exact ⟨_, _, G, rfl, HKG.out, fun w2 h => ⟨(HG.out w2 h).1, (HG.out w2 h).2.1, (HG.out w2 h).2.2.1, btr HBQ.out (HG.out w2 h).2.2.2⟩⟩
            · simp only [pickL, List.getElem?_cons_succ, List.getElem?_cons_zero]
              go_wp2
              have HX2 := Lib.hid (HX1.out.a16 (w6.heap.size + 1) (by simp))
              clear HX1
              refine seg_grow ⟨⟨_, HX2.out.le⟩, rfl⟩ ?_
              refine U_two 5 13 (by kernel_rfl) ?_ ?_
              · simp only [pickL, List.getElem?_cons_succ, List.getElem?_cons_zero]
                go_wp2_with (at_builtin; refine wpList_append_rows rfl _ _ rfl HX2.out.own rfl rfl (HGR.out.mono HX2.out.le) (by simp) (by omega) HX2.out.le.size ?_)
                intro v5 w105 h1 h2 h3
                obtain ⟨ao5, co5, hvo⟩ := owns_form h1
                subst hvo
                have HX3 := Lib.hid (HX2.out.grow (V := V) (by simpa using h1) h2 (by simpa using h3))
                clear h1 h2 h3 HX2
                go_wp2
                refine seg_grow ⟨⟨_, HX3.out.le⟩, rfl⟩ ?_
                refine U_one 13 (by kernel_rfl) ?_
                simp only [pickL, List.getElem?_cons_succ, List.getElem?_cons_zero]
                go_wp2
                have HX4 := Lib.hid (HX3.out.a13 (w105.heap.size) (by simp))
                clear HX3
                refine seg_grow ⟨⟨_, HX4.out.le⟩, rfl⟩ ?_
                refine U_one 14 (by kernel_rfl) ?_
                simp only [pickL, List.getElem?_cons_succ, List.getElem?_cons_zero]
                go_wp2_with (at_builtin; refine wpList_append_rows rfl _ _ rfl HX4.out.own rfl rfl HX4.out.rd (by simp; omega) (by simp) HX4.out.le.size ?_)
                intro v14 w114 h1 h2 h3
                obtain ⟨ao14, co14, hvo⟩ := owns_form h1
                subst hvo
                have HX5 := Lib.hid (HX4.out.grow (V := [((pa : Int), (pb : Int))]) (by simpa using h1) h2 (by simpa using h3))
                clear h1 h2 h3 HX4
                go_wp2
                refine seg_grow ⟨⟨_, HX5.out.le⟩, rfl⟩ ?_
                refine U_heads2 [15] (by kernel_rfl) ⟨⟨_, HX5.out.le⟩, rfl⟩ ?_
                simp only [pickL, List.getElem?_cons_succ, List.getElem?_cons_zero]
                repeat (go_big_quiet_step (rfl))
                refine wpQuiet_nil ?_
                refine U_one 17 (by kernel_rfl) ?_
                simp only [pickL, List.getElem?_cons_succ, List.getElem?_cons_zero]
                obtain ⟨q0, q1, q2, q3, q4, q5⟩ := HX5.out.cell
                obtain ⟨G, hKG, hG⟩ := HX5.out.put n
                have HG := Lib.hid hG
                clear hG
                try simp at q0
                try simp at q2
                try simp at q3
                try simp at q4
                try simp at q5
                go_wp2
                try simp [go_sem] at hKG
                have HKG := Lib.hid hKG
                clear hKG
                refine seg_grow ⟨⟨_, (HG.out _ HKG.out.here).2.2.2⟩, rfl⟩ ?_
                refine U_done (by kernel_rfl) ?_
                go_wp2_with fail
                go_meet
                exact ⟨_, _, G, rfl, HKG.out, fun w2 h => ⟨(HG.out w2 h).1, (HG.out w2 h).2.1, (HG.out w2 h).2.2.1, btr HBQ.out (HG.out w2 h).2.2.2⟩⟩
              · simp only [pickL, List.getElem?_cons_succ, List.getElem?_cons_zero]
                go_wp2
                have HX3 := Lib.hid (HX2.out.a13 (w6.heap.size + 1 + 1) (by simp))
                clear HX2
                refine seg_grow ⟨⟨_, HX3.out.le⟩, rfl⟩ ?_
                refine U_one 5 (by kernel_rfl) ?_
                simp only [pickL, List.getElem?_cons_succ, List.getElem?_cons_zero]
                go_wp2_with (at_builtin; refine wpList_append_rows rfl _ _ rfl HX3.out.own rfl rfl (HGR.out.mono HX3.out.le) (by simp) (by omega) HX3.out.le.size ?_)
                intro v5 w105 h1 h2 h3
                obtain ⟨ao5, co5, hvo⟩ := owns_form h1
                subst hvo
                have HX4 := Lib.hid (HX3.out.grow (V := V) (by simpa using h1) h2 (by simpa using h3))
                clear h1 h2 h3 HX3
                go_wp2
                refine seg_grow ⟨⟨_, HX4.out.le⟩, rfl⟩ ?_
                refine U_one 14 (by kernel_rfl) ?_
                simp only [pickL, List.getElem?_cons_succ, List.getElem?_cons_zero]
                go_wp2_with (at_builtin; refine wpList_append_rows rfl _ _ rfl HX4.out.own rfl rfl HX4.out.rd (by simp; omega) (by simp) HX4.out.le.size ?_)
                intro v14 w114 h1 h2 h3
                obtain ⟨ao14, co14, hvo⟩ := owns_form h1
                subst hvo
                have HX5 := Lib.hid (HX4.out.grow (V := [((pa : Int), (pb : Int))]) (by simpa using h1) h2 (by simpa using h3))
                clear h1 h2 h3 HX4
                go_wp2
                refine seg_grow ⟨⟨_, HX5.out.le⟩, rfl⟩ ?_
                refine U_heads2 [15] (by kernel_rfl) ⟨⟨_, HX5.out.le⟩, rfl⟩ ?_
                simp only [pickL, List.getElem?_cons_succ, List.getElem?_cons_zero]
                repeat (go_big_quiet_step (rfl))
                refine wpQuiet_nil ?_
                refine U_one 17 (by kernel_rfl) ?_
                simp only [pickL, List.getElem?_cons_succ, List.getElem?_cons_zero]
                obtain ⟨q0, q1, q2, q3, q4, q5⟩ := HX5.out.cell
                obtain ⟨G, hKG, hG⟩ := HX5.out.put n
                have HG := Lib.hid hG
                clear hG
                try simp at q0
                try simp at q2
                try simp at q3
                try simp at q4
                try simp at q5
                go_wp2
                try simp [go_sem] at hKG
                have HKG := Lib.hid hKG
                clear hKG
                refine seg_grow ⟨⟨_, (HG.out _ HKG.out.here).2.2.2⟩, rfl⟩ ?_
                refine U_done (by kernel_rfl) ?_
                go_wp2_with fail
                go_meet
                exact ⟨_, _, G, rfl, HKG.out, fun w2 h => ⟨(HG.out w2 h).1, (HG.out w2 h).2.1, (HG.out w2 h).2.2.1, btr HBQ.out (HG.out w2 h).2.2.2⟩⟩
          · simp only [pickL, List.getElem?_cons_succ, List.getElem?_cons_zero]
            go_wp2
            have HX1 := Lib.hid (HX0.out.a13 (w6.heap.size) (by simp))
            clear HX0
            refine seg_grow ⟨⟨_, HX1.out.le⟩, rfl⟩ ?_
            refine U_two 2 16 (by kernel_rfl) ?_ ?_
            · simp only [pickL, List.getElem?_cons_succ, List.getElem?_cons_zero]
              go_wp2
              have HX2 := Lib.hid (HX1.out.a2 (w6.heap.size + 1) (by simp))
              clear HX1
              refine seg_grow ⟨⟨_, HX2.out.le⟩, rfl⟩ ?_
              refine U_two 5 16 (by kernel_rfl) ?_ ?_
              · simp only [pickL, List.getElem?_cons_succ, List.getElem?_cons_zero]
                go_wp2_with (at_builtin; refine wpList_append_rows rfl _ _ rfl HX2.out.own rfl rfl (HGR.out.mono HX2.out.le) (by simp) (by omega) HX2.out.le.size ?_)
                intro v5 w105 h1 h2 h3
                obtain ⟨ao5, co5, hvo⟩ := owns_form h1
                subst hvo
                have HX3 := Lib.hid (HX2.out.grow (V := V) (by simpa using h1) h2 (by simpa using h3))
                clear h1 h2 h3 HX2
                go_wp2
                refine seg_grow ⟨⟨_, HX3.out.le⟩, rfl⟩ ?_
                refine U_two 14 16 (by kernel_rfl) ?_ ?_
                · simp only [pickL, List.getElem?_cons_succ, List.getElem?_cons_zero]
                  go_wp2_with (at_builtin; refine wpList_append_rows rfl _ _ rfl HX3.out.own rfl rfl HX3.out.rd (by simp; omega) (by simp) HX3.out.le.size ?_)
                  intro v14 w114 h1 h2 h3
                  obtain ⟨ao14, co14, hvo⟩ := owns_form h1
                  subst hvo
                  have HX4 := Lib.hid (HX3.out.grow (V := [((pa : Int), (pb : Int))]) (by simpa using h1) h2 (by simpa using h3))
                  clear h1 h2 h3 HX3
                  go_wp2
                  refine seg_grow ⟨⟨_, HX4.out.le⟩, rfl⟩ ?_
                  refine U_heads2 [15] (by kernel_rfl) ⟨⟨_, HX4.out.le⟩, rfl⟩ ?_
                  simp only [pickL, List.getElem?_cons_succ, List.getElem?_cons_zero]
                  repeat (go_big_quiet_step (rfl))
                  refine wpQuiet_nil ?_
                  refine U_one 16 (by kernel_rfl) ?_
                  simp only [pickL, List.getElem?_cons_succ, List.getElem?_cons_zero]
                  go_wp2
                  have HX5 := Lib.hid (HX4.out.a16 (w114.heap.size) (by simp))
                  clear HX4
                  refine seg_grow ⟨⟨_, HX5.out.le⟩, rfl⟩ ?_
                  refine U_one 17 (by kernel_rfl) ?_
                  simp only [pickL, List.getElem?_cons_succ, List.getElem?_cons_zero]
                  obtain ⟨q0, q1, q2, q3, q4, q5⟩ := HX5.out.cell
                  obtain ⟨G, hKG, hG⟩ := HX5.out.put n
                  have HG := Lib.hid hG
                  clear hG
                  try simp at q0
                  try simp at q2
                  try simp at q3
                  try simp at q4
                  try simp at q5
                  go_wp2
                  try simp [go_sem] at hKG
                  have HKG := Lib.hid hKG
                  clear hKG
                  refine seg_grow ⟨⟨_, (HG.out _ HKG.out.here).2.2.2⟩, rfl⟩ ?_
                  refine U_done (by kernel_rfl) ?_
                  go_wp2_with fail
                  go_meet
                  exact ⟨_, _, G, rfl, HKG.out, fun w2 h => ⟨(HG.out w2 h).1, (HG.out w2 h).2.1, (HG.out w2 h).2.2.1, btr HBQ.out (HG.out w2 h).2.2.2⟩⟩
                · simp only [pickL, List.getElem?_cons_succ, List.getElem?_cons_zero]
                  go_wp2
                  have HX4 := Lib.hid (HX3.out.a16 (w105.heap.size) (by simp))
                  clear HX3
                  refine seg_grow ⟨⟨_, HX4.out.le⟩, rfl⟩ ?_
                  refine U_one 14 (by kernel_rfl) ?_
                  simp only [pickL, List.getElem?_cons_succ, List.getElem?_cons_zero]
                  go_wp2_with (at_builtin; refine wpList_append_rows rfl _ _ rfl HX4.out.own rfl rfl HX4.out.rd (by simp; omega) (by simp) HX4.out.le.size ?_)
                  intro v14 w114 h1 h2 h3
                  obtain ⟨ao14, co14, hvo⟩ := owns_form h1
                  subst hvo
                  have HX5 := Lib.hid (HX4.out.grow (V := [((pa : Int), (pb : Int))]) (by simpa using h1) h2 (by simpa using h3))
                  clear h1 h2 h3 HX4
                  go_wp2
                  refine seg_grow ⟨⟨_, HX5.out.le⟩, rfl⟩ ?_
                  refine U_heads2 [15] (by kernel_rfl) ⟨⟨_, HX5.out.le⟩, rfl⟩ ?_
                  simp only [pickL, List.getElem?_cons_succ, List.getElem?_cons_zero]
                  repeat (go_big_quiet_step (rfl))
                  refine wpQuiet_nil ?_
                  refine U_one 17 (by kernel_rfl) ?_
                  simp only [pickL, List.getElem?_cons_succ, List.getElem?_cons_zero]
                  obtain ⟨q0, q1, q2, q3, q4, q5⟩ := HX5.out.cell
                  obtain ⟨G, hKG, hG⟩ := HX5.out.put n
                  have HG := Lib.hid hG
                  clear hG
                  try simp at q0
                  try simp at q2
                  try simp at q3
                  try simp at q4
                  try simp at q5
                  go_wp2
                  try simp [go_sem] at hKG
                  have HKG := Lib.hid hKG
                  clear hKG
                  refine seg_grow ⟨⟨_, (HG.out _ HKG.out.here).2.2.2⟩, rfl⟩ ?_
                  refine U_done (by kernel_rfl) ?_
                  go_wp2_with fail
                  go_meet
                  exact ⟨_, _, G, rfl, HKG.out, fun w2 h => ⟨(HG.out w2 h).1, (HG.out w2 h).2.1, (HG.out w2 h).2.2.1, btr HBQ.out (HG.out w2 h).2.2.2⟩⟩
              · simp only [pickL, List.getElem?_cons_succ, List.getElem?_cons_zero]
                go_wp2
                have HX3 := Lib.hid (HX2.out.a16 (w6.heap.size + 1 + 1) (by simp))
                clear HX2
                refine seg_grow ⟨⟨_, HX3.out.le⟩, rfl⟩ ?_
                refine U_one 5 (by kernel_rfl) ?_
                simp only [pickL, List.getElem?_cons_succ, List.getElem?_cons_zero]
                go_wp2_with (at_builtin; refine wpList_append_rows rfl _ _ rfl HX3.out.own rfl rfl (HGR.out.mono HX3.out.le) (by simp) (by omega) HX3.out.le.size ?_)
                intro v5 w105 h1 h2 h3
                obtain ⟨ao5, co5, hvo⟩ := owns_form h1
                subst hvo
                have HX4 := Lib.hid (HX3.out.grow (V := V) (by simpa using h1) h2 (by simpa using h3))
                clear h1 h2 h3 HX3
                go_wp2
                refine seg_grow ⟨⟨_, HX4.out.le⟩, rfl⟩ ?_
                refine U_one 14 (by kernel_rfl) ?_
                simp only [pickL, List.getElem?_cons_succ, List.getElem?_cons_zero]
                go_wp2_with (at_builtin; refine wpList_append_rows rfl _ _ rfl HX4.out.own rfl rfl HX4.out.rd (by simp; omega) (by simp) HX4.out.le.size ?_)
                intro v14 w114 h1 h2 h3
                obtain ⟨ao14, co14, hvo⟩ := owns_form h1
                subst hvo
                have HX5 := Lib.hid (HX4.out.grow (V := [((pa : Int), (pb : Int))]) (by simpa using h1) h2 (by simpa using h3))
                clear h1 h2 h3 HX4
                go_wp2
                refine seg_grow ⟨⟨_, HX5.out.le⟩, rfl⟩ ?_
                refine U_heads2 [15] (by kernel_rfl) ⟨⟨_, HX5.out.le⟩, rfl⟩ ?_
                simp only [pickL, List.getElem?_cons_succ, List.getElem?_cons_zero]
                repeat (go_big_quiet_step (rfl))
                refine wpQuiet_nil ?_
                refine U_one 17 (by kernel_rfl) ?_
                simp only [pickL, List.getElem?_cons_succ, List.getElem?_cons_zero]
                obtain ⟨q0, q1, q2, q3, q4, q5⟩ := HX5.out.cell
                obtain ⟨G, hKG, hG⟩ := HX5.out.put n
                have HG := Lib.hid hG
                clear hG
                try simp at q0
                try simp at q2
                try simp at q3
                try simp at q4
                try simp at q5
                go_wp2
                try simp [go_sem] at hKG
                have HKG := Lib.hid hKG
                clear hKG
                refine seg_grow ⟨⟨_, (HG.out _ HKG.out.here).2.2.2⟩, rfl⟩ ?_
                refine U_done (by kernel_rfl) ?_
                go_wp2_with fail
                go_meet
                exact ⟨_, _, G, rfl, HKG.out, fun w2 h => ⟨(HG.out w2 h).1, (HG.out w2 h).2.1, (HG.out w2 h).2.2.1, btr HBQ.out (HG.out w2 h).2.2.2⟩⟩
            · simp only [pickL, List.getElem?_cons_succ, List.getElem?_cons_zero]
              go_wp2
              have HX2 := Lib.hid (HX1.out.a16 (w6.heap.size + 1) (by simp))
              clear HX1
              refine seg_grow ⟨⟨_, HX2.out.le⟩, rfl⟩ ?_
              refine U_one 2 (by kernel_rfl) ?_
              simp only [pickL, List.getElem?_cons_succ, List.getElem?_cons_zero]
              go_wp2
              have HX3 := Lib.hid (HX2.out.a2 (w6.heap.size + 1 + 1) (by simp))
              clear HX2
              refine seg_grow ⟨⟨_, HX3.out.le⟩, rfl⟩ ?_
              refine U_one 5 (by kernel_rfl) ?_
              simp only [pickL, List.getElem?_cons_succ, List.getElem?_cons_zero]
              go_wp2_with (at_builtin; refine wpList_append_rows rfl _ _ rfl HX3.out.own rfl rfl (HGR.out.mono HX3.out.le) (by simp) (by omega) HX3.out.le.size ?_)
              intro v5 w105 h1 h2 h3
              obtain ⟨ao5, co5, hvo⟩ := owns_form h1
              subst hvo
              have HX4 := Lib.hid (HX3.out.grow (V := V) (by simpa using h1) h2 (by simpa using h3))
              clear h1 h2 h3 HX3
              go_wp2
              refine seg_grow ⟨⟨_, HX4.out.le⟩, rfl⟩ ?_
              refine U_one 14 (by kernel_rfl) ?_
              simp only [pickL, List.getElem?_cons_succ, List.getElem?_cons_zero]
              go_wp2_with (at_builtin; refine wpList_append_rows rfl _ _ rfl HX4.out.own rfl rfl HX4.out.rd (by simp; omega) (by simp) HX4.out.le.size ?_)
              intro v14 w114 h1 h2 h3
              obtain ⟨ao14, co14, hvo⟩ := owns_form h1
              subst hvo
              have HX5 := Lib.hid (HX4.out.grow (V := [((pa : Int), (pb : Int))]) (by simpa using h1) h2 (by simpa using h3))
              clear h1 h2 h3 HX4
              go_wp2
              refine seg_grow ⟨⟨_, HX5.out.le⟩, rfl⟩ ?_
              refine U_heads2 [15] (by kernel_rfl) ⟨⟨_, HX5.out.le⟩, rfl⟩ ?_
              simp only [pickL, List.getElem?_cons_succ, List.getElem?_cons_zero]
              repeat (go_big_quiet_step (rfl))
              refine wpQuiet_nil ?_
              refine U_one 17 (by kernel_rfl) ?_
              simp only [pickL, List.getElem?_cons_succ, List.getElem?_cons_zero]
              obtain ⟨q0, q1, q2, q3, q4, q5⟩ := HX5.out.cell
              obtain ⟨G, hKG, hG⟩ := HX5.out.put n
              have HG := Lib.hid hG
              clear hG
              try simp at q0
              try simp at q2
              try simp at q3
              try simp at q4
              try simp at q5
              go_wp2
              try simp [go_sem] at hKG
              have HKG := Lib.hid hKG
              clear hKG
              refine seg_grow ⟨⟨_, (HG.out _ HKG.out.here).2.2.2⟩, rfl⟩ ?_
              refine U_done (by kernel_rfl) ?_
              go_wp2_with fail
              go_meet
              exact ⟨_, _, G, rfl, HKG.out, fun w2 h => ⟨(HG.out w2 h).1, (HG.out w2 h).2.1, (HG.out w2 h).2.2.1, btr HBQ.out (HG.out w2 h).2.2.2⟩⟩
          · simp only [pickL, List.getElem?_cons_succ, List.getElem?_cons_zero]
            go_wp2
            have HX1 := Lib.hid (HX0.out.a16 (w6.heap.size) (by simp))
            clear HX0
            refine seg_grow ⟨⟨_, HX1.out.le⟩, rfl⟩ ?_
            refine U_two 2 13 (by kernel_rfl) ?_ ?_
            · simp only [pickL, List.getElem?_cons_succ, List.getElem?_cons_zero]
              go_wp2
              have HX2 := Lib.hid (HX1.out.a2 (w6.heap.size + 1) (by simp))
              clear HX1
              refine seg_grow ⟨⟨_, HX2.out.le⟩, rfl⟩ ?_
              refine U_two 5 13 (by kernel_rfl) ?_ ?_
              · simp only [pickL, List.getElem?_cons_succ, List.getElem?_cons_zero]
                go_wp2_with (at_builtin; refine wpList_append_rows rfl _ _ rfl HX2.out.own rfl rfl (HGR.out.mono HX2.out.le) (by simp) (by omega) HX2.out.le.size ?_)
                intro v5 w105 h1 h2 h3
                obtain ⟨ao5, co5, hvo⟩ := owns_form h1
                subst hvo
                have HX3 := Lib.hid (HX2.out.grow (V := V) (by simpa using h1) h2 (by simpa using h3))
                clear h1 h2 h3 HX2
                go_wp2
                refine seg_grow ⟨⟨_, HX3.out.le⟩, rfl⟩ ?_
                refine U_one 13 (by kernel_rfl) ?_
                simp only [pickL, List.getElem?_cons_succ, List.getElem?_cons_zero]
                go_wp2
                have HX4 := Lib.hid (HX3.out.a13 (w105.heap.size) (by simp))
                clear HX3
                refine seg_grow ⟨⟨_, HX4.out.le⟩, rfl⟩ ?_
                refine U_one 14 (by kernel_rfl) ?_
                simp only [pickL, List.getElem?_cons_succ, List.getElem?_cons_zero]
                go_wp2_with (at_builtin; refine wpList_append_rows rfl _ _ rfl HX4.out.own rfl rfl HX4.out.rd (by simp; omega) (by simp) HX4.out.le.size ?_)
                intro v14 w114 h1 h2 h3
                obtain ⟨ao14, co14, hvo⟩ := owns_form h1
                subst hvo
                have HX5 := Lib.hid (HX4.out.grow (V := [((pa : Int), (pb : Int))]) (by simpa using h1) h2 (by simpa using h3))
                clear h1 h2 h3 HX4
                go_wp2
                refine seg_grow ⟨⟨_, HX5.out.le⟩, rfl⟩ ?_
                refine U_heads2 [15] (by kernel_rfl) ⟨⟨_, HX5.out.le⟩, rfl⟩ ?_
                simp only [pickL, List.getElem?_cons_succ, List.getElem?_cons_zero]
                repeat (go_big_quiet_step (rfl))
                refine wpQuiet_nil ?_
                refine U_one 17 (by kernel_rfl) ?_
                simp only [pickL, List.getElem?_cons_succ, List.getElem?_cons_zero]
                obtain ⟨q0, q1, q2, q3, q4, q5⟩ := HX5.out.cell
                obtain ⟨G, hKG, hG⟩ := HX5.out.put n
                have HG := Lib.hid hG
                clear hG
                try simp at q0
                try simp at q2
                try simp at q3
                try simp at q4
                try simp at q5
                go_wp2
                try simp [go_sem] at hKG
                have HKG := Lib.hid hKG
                clear hKG
                refine seg_grow ⟨⟨_, (HG.out _ HKG.out.here).2.2.2⟩, rfl⟩ ?_
                refine U_done (by kernel_rfl) ?_
                go_wp2_with fail
                go_meet
                exact ⟨_, _, G, rfl, HKG.out, fun w2 h => ⟨(HG.out w2 h).1, (HG.out w2 h).2.1, (HG.out w2 h).2.2.1, btr HBQ.out (HG.out w2 h).2.2.2⟩⟩
              · simp only [pickL, List.getElem?_cons_succ, List.getElem?_cons_zero]
                go_wp2
                have HX3 := Lib.hid (HX2.out.a13 (w6.heap.size + 1 + 1) (by simp))
                clear HX2
                refine seg_grow ⟨⟨_, HX3.out.le⟩, rfl⟩ ?_
                refine U_one 5 (by kernel_rfl) ?_
                simp only [pickL, List.getElem?_cons_succ, List.getElem?_cons_zero]
                go_wp2_with (at_builtin; refine wpList_append_rows rfl _ _ rfl HX3.out.own rfl rfl (HGR.out.mono HX3.out.le) (by simp) (by omega) HX3.out.le.size ?_)
                intro v5 w105 h1 h2 h3
                obtain ⟨ao5, co5, hvo⟩ := owns_form h1
                subst hvo
                have HX4 := Lib.hid (HX3.out.grow (V := V) (by simpa using h1) h2 (by simpa using h3))
                clear h1 h2 h3 HX3
                go_wp2
                refine seg_grow ⟨⟨_, HX4.out.le⟩, rfl⟩ ?_
                refine U_one 14 (by kernel_rfl) ?_
                simp only [pickL, List.getElem?_cons_succ, List.getElem?_cons_zero]
                go_wp2_with (at_builtin; refine wpList_append_rows rfl _ _ rfl HX4.out.own rfl rfl HX4.out.rd (by simp; omega) (by simp) HX4.out.le.size ?_)
                intro v14 w114 h1 h2 h3
                obtain ⟨ao14, co14, hvo⟩ := owns_form h1
                subst hvo
                have HX5 := Lib.hid (HX4.out.grow (V := [((pa : Int), (pb : Int))]) (by simpa using h1) h2 (by simpa using h3))
                clear h1 h2 h3 HX4
                go_wp2
                refine seg_grow ⟨⟨_, HX5.out.le⟩, rfl⟩ ?_
                refine U_heads2 [15] (by kernel_rfl) ⟨⟨_, HX5.out.le⟩, rfl⟩ ?_
                simp only [pickL, List.getElem?_cons_succ, List.getElem?_cons_zero]
                repeat (go_big_quiet_step (rfl))
                refine wpQuiet_nil ?_
                refine U_one 17 (by kernel_rfl) ?_
                simp only [pickL, List.getElem?_cons_succ, List.getElem?_cons_zero]
                obtain ⟨q0, q1, q2, q3, q4, q5⟩ := HX5.out.cell
                obtain ⟨G, hKG, hG⟩ := HX5.out.put n
                have HG := Lib.hid hG
                clear hG
                try simp at q0
                try simp at q2
                try simp at q3
                try simp at q4
                try simp at q5
                go_wp2
                try simp [go_sem] at hKG
                have HKG := Lib.hid hKG
                clear hKG
                refine seg_grow ⟨⟨_, (HG.out _ HKG.out.here).2.2.2⟩, rfl⟩ ?_
                refine U_done (by kernel_rfl) ?_
                go_wp2_with fail
                go_meet
                exact ⟨_, _, G, rfl, HKG.out, fun w2 h => ⟨(HG.out w2 h).1, (HG.out w2 h).2.1, (HG.out w2 h).2.2.1, btr HBQ.out (HG.out w2 h).2.2.2⟩⟩
            · simp only [pickL, List.getElem?_cons_succ, List.getElem?_cons_zero]
              go_wp2
              have HX2 := Lib.hid (HX1.out.a13 (w6.heap.size + 1) (by simp))
              clear HX1
              refine seg_grow ⟨⟨_, HX2.out.le⟩, rfl⟩ ?_
              refine U_one 2 (by kernel_rfl) ?_
              simp only [pickL, List.getElem?_cons_succ, List.getElem?_cons_zero]
              go_wp2
              have HX3 := Lib.hid (HX2.out.a2 (w6.heap.size + 1 + 1) (by simp))
              clear HX2
              refine seg_grow ⟨⟨_, HX3.out.le⟩, rfl⟩ ?_
              refine U_one 5 (by kernel_rfl) ?_
              simp only [pickL, List.getElem?_cons_succ, List.getElem?_cons_zero]
              go_wp2_with (at_builtin; refine wpList_append_rows rfl _ _ rfl HX3.out.own rfl rfl (HGR.out.mono HX3.out.le) (by simp) (by omega) HX3.out.le.size ?_)
              intro v5 w105 h1 h2 h3
              obtain ⟨ao5, co5, hvo⟩ := owns_form h1
              subst hvo
              have HX4 := Lib.hid (HX3.out.grow (V := V) (by simpa using h1) h2 (by simpa using h3))
              clear h1 h2 h3 HX3
              go_wp2
              refine seg_grow ⟨⟨_, HX4.out.le⟩, rfl⟩ ?_
              refine U_one 14 (by kernel_rfl) ?_
              simp only [pickL, List.getElem?_cons_succ, List.getElem?_cons_zero]
              go_wp2_with (at_builtin; refine wpList_append_rows rfl _ _ rfl HX4.out.own rfl rfl HX4.out.rd (by simp; omega) (by simp) HX4.out.le.size ?_)
              intro v14 w114 h1 h2 h3
              obtain ⟨ao14, co14, hvo⟩ := owns_form h1
              subst hvo
              have HX5 := Lib.hid (HX4.out.grow (V := [((pa : Int), (pb : Int))]) (by simpa using h1) h2 (by simpa using h3))
              clear h1 h2 h3 HX4
              go_wp2
              refine seg_grow ⟨⟨_, HX5.out.le⟩, rfl⟩ ?_
              refine U_heads2 [15] (by kernel_rfl) ⟨⟨_, HX5.out.le⟩, rfl⟩ ?_
              simp only [pickL, List.getElem?_cons_succ, List.getElem?_cons_zero]
              repeat (go_big_quiet_step (rfl))
              refine wpQuiet_nil ?_
              refine U_one 17 (by kernel_rfl) ?_
              simp only [pickL, List.getElem?_cons_succ, List.getElem?_cons_zero]
              obtain ⟨q0, q1, q2, q3, q4, q5⟩ := HX5.out.cell
              obtain ⟨G, hKG, hG⟩ := HX5.out.put n
              have HG := Lib.hid hG
              clear hG
              try simp at q0
              try simp at q2
              try simp at q3
              try simp at q4
              try simp at q5
              go_wp2
              try simp [go_sem] at hKG
              have HKG := Lib.hid hKG
              clear hKG
              refine seg_grow ⟨⟨_, (HG.out _ HKG.out.here).2.2.2⟩, rfl⟩ ?_
              refine U_done (by kernel_rfl) ?_
              go_wp2_with fail
              go_meet
              exact ⟨_, _, G, rfl, HKG.out, fun w2 h => ⟨(HG.out w2 h).1, (HG.out w2 h).2.1, (HG.out w2 h).2.2.1, btr HBQ.out (HG.out w2 h).2.2.2⟩⟩
        case rest =>
          obtain ⟨g, vA, G, rfl, hKG, hG⟩ := hcut
          have hGh := hG _ hKG.here
          have hv := hGh.2.2.1
          obtain ⟨av, cv, hv'⟩ := hv.ex (V.length + 1) (by simp)
          subst hv'
          have hBw := hGh.2.2.2
          have hc0 := hGh.1; have hc1 := hGh.2.1
          clear hGh hG hKG
          simp only [List.nil_append] at hv
          have KP7 := Lib.hid ((((KP6.out.up (btr (bz w5) hBw)).and (keepC hc0)).and (keepC hc1)).and (keepP hv))
          clear KP6
          clear hBw hc0 hc1 hv
          have hall := KP7.out.here
          have hX1 := hall.2.1
          have hX0 := hall.2.2.1
          have hR1 := hall.2.2.2.2.2.1
          have hR0 := hall.2.2.2.2.2.2.1
          clear hall
          have zR := World.block_lt_of_cell? _ _ hR0
          have zX := World.block_lt_of_cell? _ _ hX0
          simp only at zR zX
          go_wp2_with fail
          clear hX1 hX0 hR1 hR0 zR zX
          have hall := KP7.out.here
          have gx := hall.1
          clear hall
          refine (images_k n _ (V ++ [((pa : Int), (pb : Int))]) m2 _ gx HM.out.ok HM.out.im).mono ?_
          rintro e w6 ⟨rfl, hB⟩
          have KP8 := Lib.hid (KP7.out.up (btr (bz wc) hB))
          clear KP7
          clear hB
          clear gx
          have e1 : decide ((m2 : Int) ≤ (m : Int)) = true := decide_eq_true (by have := HM.out.le; omega)
          have e2 : decide ((n : Int) < (m2 : Int)) = true := decide_eq_true (by have := HM.out.gt; omega)
          have e1n : decide (m2 ≤ m) = true := decide_eq_true HM.out.le
          have e2n : decide (n < m2) = true := decide_eq_true HM.out.gt
          have hall := KP8.out.here
          have hX1 := hall.2.1
          have hX0 := hall.2.2.1
          have hR1 := hall.2.2.2.2.2.1
          have hR0 := hall.2.2.2.2.2.2.1
          clear hall
          have zR := World.block_lt_of_cell? _ _ hR0
          have zX := World.block_lt_of_cell? _ _ hX0
          simp only at zR zX
          go_wp2_with fail
          clear hX1 hX0 hR1 hR0 zR zX
          refine (works_any _).mono ?_
          rintro e w7 ⟨rfl, hB⟩
          have KP9 := Lib.hid (KP8.out.up (btr (bz w6) hB))
          clear KP8
          clear hB
          have hall := KP9.out.here
          have gBelow := hall.2.2.2.2.2.2.2.2
          clear hall
          go_wp2
          go_ret
          exact ⟨rfl, gBelow⟩
      · have hi1 : (pb : Int) < (pa : Int) := by omega
        have hi2 : ¬ ((pa : Int) < (pb : Int)) := by omega
        have hi3 : ¬ ((pa : Int) ≤ (pb : Int)) := by omega
        have hi4 : (pb : Int) ≤ (pa : Int) := by omega
        have HM : Hid (MoreS n V m m2 (pb : Int) (pa : Int)) := Lib.hid (by have := HM.out; rwa [show min (pa : Int) (pb : Int) = pb by omega, show max (pa : Int) (pb : Int) = pa by omega] at this)
        go_cut [11] (fun s11 wx => ∃ (g : Nat) (vA : Value) (G : World → Prop), s11 = .pointer (some ⟨g, 0, none⟩) ∧ Keep wx G ∧ ∀ w2, G w2 → w2.cell? ⟨g, 0, none⟩ = some (.int .i64 n) ∧ w2.cell? ⟨g, 1, none⟩ = some vA ∧ RdP w2 vA ([] ++ V ++ [((pb : Int), (pa : Int))]) ∧ Below w5.heap.size w5 w2)
        case first =>
          refine wp_region_U [0, 1, 3, 4, 6, 7, 8, 9, 10, 11, 12, 15] [] (by kernel_rfl) (by kernel_rfl) ?_
          intro w6 hB hh
          clear hh
          have KP7 := Lib.hid ((KP6.out.up (btr (bz w5) hB)).and (keepB hB))
          clear KP6
          clear hB
          have hall := KP7.out.here
          have gBq := hall.1
          have gR1 := hall.2.2.2.1
          have gR0 := hall.2.2.2.2.1
          have gr := hall.2.2.2.2.2.1
          clear hall
          have zR := World.block_lt_of_cell? _ _ gR0
          simp only at zR
          have hL := @Later.cell w6
          have HGR := Lib.hid gr; have HBQ := Lib.hid gBq
          clear gr gBq
          refine U_heads2 [0, 1, 3, 4, 6, 7, 8, 9, 10, 11, 12] (by kernel_rfl) ⟨⟨_, bz w6⟩, rfl⟩ ?_
          simp only [pickL, List.getElem?_cons_succ, List.getElem?_cons_zero]
          repeat (go_big_quiet_step (rfl))
          refine wpQuiet_nil ?_
          clear gR0 gR1 zR hL
          have HX0 := Lib.hid (X3.nil w6 (pb : Int) (pa : Int))
          refine U_all [2, 13, 16] (by kernel_rfl) (fun cc hcc => ?_)
          simp only [List.mem_cons, List.not_mem_nil, or_false] at hcc
          rcases hcc with rfl | rfl | rfl
          · simp only [pickL, List.getElem?_cons_succ, List.getElem?_cons_zero]
            go_wp2
            have HX1 := Lib.hid (HX0.out.a2 (w6.heap.size) (by simp))
            clear HX0
            refine seg_grow ⟨⟨_, HX1.out.le⟩, rfl⟩ ?_
            refine U_all [5, 13, 16] (by kernel_rfl) (fun cc hcc => ?_)
            simp only [List.mem_cons, List.not_mem_nil, or_false] at hcc
            rcases hcc with rfl | rfl | rfl
            · simp only [pickL, List.getElem?_cons_succ, List.getElem?_cons_zero]
              go_wp2_with (at_builtin; refine wpList_append_rows rfl _ _ rfl HX1.out.own rfl rfl (HGR.out.mono HX1.out.le) (by simp) (by omega) HX1.out.le.size ?_)
              intro v5 w105 h1 h2 h3
              obtain ⟨ao5, co5, hvo⟩ := owns_form h1
              subst hvo
              have HX2 := Lib.hid (HX1.out.grow (V := V) (by simpa using h1) h2 (by simpa using h3))
              clear h1 h2 h3 HX1
              go_wp2
              refine seg_grow ⟨⟨_, HX2.out.le⟩, rfl⟩ ?_
              refine U_two 13 16 (by kernel_rfl) ?_ ?_
              · simp only [pickL, List.getElem?_cons_succ, List.getElem?_cons_zero]
                go_wp2
                have HX3 := Lib.hid (HX2.out.a13 (w105.heap.size) (by simp))
                clear HX2
                refine seg_grow ⟨⟨_, HX3.out.le⟩, rfl⟩ ?_
                refine U_two 14 16 (by kernel_rfl) ?_ ?_
                · simp only [pickL, List.getElem?_cons_succ, List.getElem?_cons_zero]
                  go_wp2_with (at_builtin; refine wpList_append_rows rfl _ _ rfl HX3.out.own rfl rfl HX3.out.rd (by simp; omega) (by simp) HX3.out.le.size ?_)
                  intro v14 w114 h1 h2 h3
                  obtain ⟨ao14, co14, hvo⟩ := owns_form h1
                  subst hvo
                  have HX4 := Lib.hid (HX3.out.grow (V := [((pb : Int), (pa : Int))]) (by simpa using h1) h2 (by simpa using h3))
                  clear h1 h2 h3 HX3
                  go_wp2
                  refine seg_grow ⟨⟨_, HX4.out.le⟩, rfl⟩ ?_
                  refine U_heads2 [15] (by kernel_rfl) ⟨⟨_, HX4.out.le⟩, rfl⟩ ?_
                  simp only [pickL, List.getElem?_cons_succ, List.getElem?_cons_zero]
                  repeat (go_big_quiet_step (rfl))
                  refine wpQuiet_nil ?_
                  refine U_one 16 (by kernel_rfl) ?_
                  simp only [pickL, List.getElem?_cons_succ, List.getElem?_cons_zero]
                  go_wp2
                  have HX5 := Lib.hid (HX4.out.a16 (w114.heap.size) (by simp))
                  clear HX4
                  refine seg_grow ⟨⟨_, HX5.out.le⟩, rfl⟩ ?_
                  refine U_one 17 (by kernel_rfl) ?_
                  simp only [pickL, List.getElem?_cons_succ, List.getElem?_cons_zero]
                  obtain ⟨q0, q1, q2, q3, q4, q5⟩ := HX5.out.cell
                  obtain ⟨G, hKG, hG⟩ := HX5.out.put n
                  have HG := Lib.hid hG
                  clear hG
                  try simp at q0
                  try simp at q2
                  try simp at q3
                  try simp at q4
                  try simp at q5
                  go_wp2
                  try simp [go_sem] at hKG
                  have HKG := Lib.hid hKG
                  clear hKG
                  refine seg_grow ⟨⟨_, (HG.out _ HKG.out.here).2.2.2⟩, rfl⟩ ?_
                  refine U_done (by kernel_rfl) ?_
                  go_wp2_with fail
                  go_meet
                  exact ⟨_, _, G, rfl, HKG.out, fun w2 h => ⟨(HG.out w2 h).1, (HG.out w2 h).2.1, (HG.out w2 h).2.2.1, btr HBQ.out (HG.out w2 h).2.2.2⟩⟩
                · simp only [pickL, List.getElem?_cons_succ, List.getElem?_cons_zero]
                  go_wp2
                  have HX4 := Lib.hid (HX3.out.a16 (w105.heap.size + 1) (by simp))
                  clear HX3
                  refine seg_grow ⟨⟨_, HX4.out.le⟩, rfl⟩ ?_
                  refine U_one 14 (by kernel_rfl) ?_
                  simp only [pickL, List.getElem?_cons_succ, List.getElem?_cons_zero]
                  go_wp2_with (at_builtin; refine wpList_append_rows rfl _ _ rfl HX4.out.own rfl rfl HX4.out.rd (by simp; omega) (by simp) HX4.out.le.size ?_)
                  intro v14 w114 h1 h2 h3
                  obtain ⟨ao14, co14, hvo⟩ := owns_form h1
                  subst hvo
                  have HX5 := Lib.hid (HX4.out.grow (V := [((pb : Int), (pa : Int))]) (by simpa using h1) h2 (by simpa using h3))
                  clear h1 h2 h3 HX4
                  go_wp2
                  refine seg_grow ⟨⟨_, HX5.out.le⟩, rfl⟩ ?_
                  refine U_heads2 [15] (by kernel_rfl) ⟨⟨_, HX5.out.le⟩, rfl⟩ ?_
                  simp only [pickL, List.getElem?_cons_succ, List.getElem?_cons_zero]
                  repeat (go_big_quiet_step (rfl))
                  refine wpQuiet_nil ?_
                  refine U_one 17 (by kernel_rfl) ?_
                  simp only [pickL, List.getElem?_cons_succ, List.getElem?_cons_zero]
                  obtain ⟨q0, q1, q2, q3, q4, q5⟩ := HX5.out.cell
                  obtain ⟨G, hKG, hG⟩ := HX5.out.put n
                  have HG := Lib.hid hG
                  clear hG
                  try simp at q0
                  try simp at q2
                  try simp at q3
                  try simp at q4
                  try simp at q5
                  go_wp2
                  try simp [go_sem] at hKG
                  have HKG := Lib.hid hKG
                  clear hKG
                  refine seg_grow ⟨⟨_, (HG.out _ HKG.out.here).2.2.2⟩, rfl⟩ ?_
                  refine U_done (by kernel_rfl) ?_
                  go_wp2_with fail
                  go_meet
                  exact ⟨_, _, G, rfl, HKG.out, fun w2 h => ⟨(HG.out w2 h).1, (HG.out w2 h).2.1, (HG.out w2 h).2.2.1, btr HBQ.out (HG.out w2 h).2.2.2⟩⟩
              · simp only [pickL, List.getElem?_cons_succ, List.getElem?_cons_zero]
                go_wp2
                have HX3 := Lib.hid (HX2.out.a16 (w105.heap.size) (by simp))
                clear HX2
                refine seg_grow ⟨⟨_, HX3.out.le⟩, rfl⟩ ?_
                refine U_one 13 (by kernel_rfl) ?_
                simp only [pickL, List.getElem?_cons_succ, List.getElem?_cons_zero]
                go_wp2
                have HX4 := Lib.hid (HX3.out.a13 (w105.heap.size + 1) (by simp))
                clear HX3
                refine seg_grow ⟨⟨_, HX4.out.le⟩, rfl⟩ ?_
                refine U_one 14 (by kernel_rfl) ?_
                simp only [pickL, List.getElem?_cons_succ, List.getElem?_cons_zero]
                go_wp2_with (at_builtin; refine wpList_append_rows rfl _ _ rfl HX4.out.own rfl rfl HX4.out.rd (by simp; omega) (by simp) HX4.out.le.size ?_)
                intro v14 w114 h1 h2 h3
                obtain ⟨ao14, co14, hvo⟩ := owns_form h1
                subst hvo
                have HX5 := Lib.hid (HX4.out.grow (V := [((pb : Int), (pa : Int))]) (by simpa using h1) h2 (by simpa using h3))
                clear h1 h2 h3 HX4
                go_wp2
                refine seg_grow ⟨⟨_, HX5.out.le⟩, rfl⟩ ?_
                refine U_heads2 [15] (by kernel_rfl) ⟨⟨_, HX5.out.le⟩, rfl⟩ ?_
                simp only [pickL, List.getElem?_cons_succ, List.getElem?_cons_zero]
                repeat (go_big_quiet_step (rfl))
                refine wpQuiet_nil ?_
                refine U_one 17 (by kernel_rfl) ?_
                simp only [pickL, List.getElem?_cons_succ, List.getElem?_cons_zero]
                obtain ⟨q0, q1, q2, q3, q4, q5⟩ := HX5.out.cell
                obtain ⟨G, hKG, hG⟩ := HX5.out.put n
                have HG := Lib.hid hG
                clear hG
                try simp at q0
                try simp at q2
                try simp at q3
                try simp at q4
                try simp at q5
                go_wp2
                try simp [go_sem] at hKG
                have HKG := Lib.hid hKG
                clear hKG
                refine seg_grow ⟨⟨_, (HG.out _ HKG.out.here).2.2.2⟩, rfl⟩ ?_
                refine U_done (by kernel_rfl) ?_
                go_wp2_with fail
                go_meet
                exact ⟨_, _, G, rfl, HKG.out, fun w2 h => ⟨(HG.out w2 h).1, (HG.out w2 h).2.1, (HG.out w2 h).2.2.1, btr HBQ.out (HG.out w2 h).2.2.2⟩⟩
            · simp only [pickL, List.getElem?_cons_succ, List.getElem?_cons_zero]
              go_wp2
              have HX2 := Lib.hid (HX1.out.a13 (w6.heap.size + 1) (by simp))
              clear HX1
              refine seg_grow ⟨⟨_, HX2.out.le⟩, rfl⟩ ?_
              refine U_two 5 16 (by kernel_rfl) ?_ ?_
              · simp only [pickL, List.getElem?_cons_succ, List.getElem?_cons_zero]
                go_wp2_with (at_builtin; refine wpList_append_rows rfl _ _ rfl HX2.out.own rfl rfl (HGR.out.mono HX2.out.le) (by simp) (by omega) HX2.out.le.size ?_)
                intro v5 w105 h1 h2 h3
                obtain ⟨ao5, co5, hvo⟩ := owns_form h1
                subst hvo
                have HX3 := Lib.hid (HX2.out.grow (V := V) (by simpa using h1) h2 (by simpa using h3))
                clear h1 h2 h3 HX2
                go_wp2
                refine seg_grow ⟨⟨_, HX3.out.le⟩, rfl⟩ ?_
                refine U_two 14 16 (by kernel_rfl) ?_ ?_
                · simp only [pickL, List.getElem?_cons_succ, List.getElem?_cons_zero]
                  go_wp2_with (at_builtin; refine wpList_append_rows rfl _ _ rfl HX3.out.own rfl rfl HX3.out.rd (by simp; omega) (by simp) HX3.out.le.size ?_)
                  intro v14 w114 h1 h2 h3
                  obtain ⟨ao14, co14, hvo⟩ := owns_form h1
                  subst hvo
                  have HX4 := Lib.hid (HX3.out.grow (V := [((pb : Int), (pa : Int))]) (by simpa using h1) h2 (by simpa using h3))
                  clear h1 h2 h3 HX3
                  go_wp2
                  refine seg_grow ⟨⟨_, HX4.out.le⟩, rfl⟩ ?_
                  refine U_heads2 [15] (by kernel_rfl) ⟨⟨_, HX4.out.le⟩, rfl⟩ ?_
                  simp only [pickL, List.getElem?_cons_succ, List.getElem?_cons_zero]
                  repeat (go_big_quiet_step (rfl))
                  refine wpQuiet_nil ?_
                  refine U_one 16 (by kernel_rfl) ?_
                  simp only [pickL, List.getElem?_cons_succ, List.getElem?_cons_zero]
                  go_wp2
                  have HX5 := Lib.hid (HX4.out.a16 (w114.heap.size) (by simp))
                  clear HX4
                  refine seg_grow ⟨⟨_, HX5.out.le⟩, rfl⟩ ?_
                  refine U_one 17 (by kernel_rfl) ?_
                  simp only [pickL, List.getElem?_cons_succ, List.getElem?_cons_zero]
                  obtain ⟨q0, q1, q2, q3, q4, q5⟩ := HX5.out.cell
                  obtain ⟨G, hKG, hG⟩ := HX5.out.put n
                  have HG := Lib.hid hG
                  clear hG
                  try simp at q0
                  try simp at q2
                  try simp at q3
                  try simp at q4
                  try simp at q5
                  go_wp2
                  try simp [go_sem] at hKG
                  have HKG := Lib.hid hKG
                  clear hKG
                  refine seg_grow ⟨⟨_, (HG.out _ HKG.out.here).2.2.2⟩, rfl⟩ ?_
                  refine U_done (by kernel_rfl) ?_
                  go_wp2_with fail
                  go_meet
                  exact ⟨_, _, G, rfl, HKG.out, fun w2 h => ⟨(HG.out w2 h).1, (HG.out w2 h).2.1, (HG.out w2 h).2.2.1, btr HBQ.out (HG.out w2 h).2.2.2⟩⟩
                · simp only [pickL, List.getElem?_cons_succ, List.getElem?_cons_zero]
                  go_wp2
                  have HX4 := Lib.hid (HX3.out.a16 (w105.heap.size) (by simp))
                  clear HX3
                  refine seg_grow ⟨⟨_, HX4.out.le⟩, rfl⟩ ?_
                  refine U_one 14 (by kernel_rfl) ?_
                  simp only [pickL, List.getElem?_cons_succ, List.getElem?_cons_zero]
                  go_wp2_with (at_builtin; refine wpList_append_rows rfl _ _ rfl HX4.out.own rfl rfl HX4.out.rd (by simp; omega) (by simp) HX4.out.le.size ?_)
                  intro v14 w114 h1 h2 h3
                  obtain ⟨ao14, co14, hvo⟩ := owns_form h1
                  subst hvo
                  have HX5 := Lib.hid (HX4.out.grow (V := [((pb : Int), (pa : Int))]) (by simpa using h1) h2 (by simpa using h3))
                  clear h1 h2 h3 HX4
                  go_wp2
                  refine seg_grow ⟨⟨_, HX5.out.le⟩, rfl⟩ ?_
                  refine U_heads2 [15] (by kernel_rfl) ⟨⟨_, HX5.out.le⟩, rfl⟩ ?_
                  simp only [pickL, List.getElem?_cons_succ, List.getElem?_cons_zero]
                  repeat (go_big_quiet_step (rfl))
                  refine wpQuiet_nil ?_
                  refine U_one 17 (by kernel_rfl) ?_
                  simp only [pickL, List.getElem?_cons_succ, List.getElem?_cons_zero]
                  obtain ⟨q0, q1, q2, q3, q4, q5⟩ := HX5.out.cell
                  obtain ⟨G, hKG, hG⟩ := HX5.out.put n
                  have HG := Lib.hid hG
                  clear hG
                  try simp at q0
                  try simp at q2
                  try simp at q3
                  try simp at q4
                  try simp at q5
                  go_wp2
                  try simp [go_sem] at hKG
                  have HKG := Lib.hid hKG
                  clear hKG
                  refine seg_grow ⟨⟨_, (HG.out _ HKG.out.here).2.2.2⟩, rfl⟩ ?_
                  refine U_done (by kernel_rfl) ?_
                  go_wp2_with fail
                  go_meet
                  exact ⟨_, _, G, rfl, HKG.out, fun w2 h => ⟨(HG.out w2 h).1, (HG.out w2 h).2.1, (HG.out w2 h).2.2.1, btr HBQ.out (HG.out w2 h).2.2.2⟩⟩
              · simp only [pickL, List.getElem?_cons_succ, List.getElem?_cons_zero]
                go_wp2
                have HX3 := Lib.hid (HX2.out.a16 (w6.heap.size + 1 + 1) (by simp))
                clear HX2
                refine seg_grow ⟨⟨_, HX3.out.le⟩, rfl⟩ ?_
                refine U_one 5 (by kernel_rfl) ?_
                simp only [pickL, List.getElem?_cons_succ, List.getElem?_cons_zero]
                go_wp2_with (at_builtin; refine wpList_append_rows rfl _ _ rfl HX3.out.own rfl rfl (HGR.out.mono HX3.out.le) (by simp) (by omega) HX3.out.le.size ?_)
                intro v5 w105 h1 h2 h3
                obtain ⟨ao5, co5, hvo⟩ := owns_form h1
                subst hvo
                have HX4 := Lib.hid (HX3.out.grow (V := V) (by simpa using h1) h2 (by simpa using h3))
                clear h1 h2 h3 HX3
                go_wp2
                refine seg_grow ⟨⟨_, HX4.out.le⟩, rfl⟩ ?_
                refine U_one 14 (by kernel_rfl) ?_
                simp only [pickL, List.getElem?_cons_succ, List.getElem?_cons_zero]
                go_wp2_with (at_builtin; refine wpList_append_rows rfl _ _ rfl HX4.out.own rfl rfl HX4.out.rd (by simp; omega) (by simp) HX4.out.le.size ?_)
                intro v14 w114 h1 h2 h3
                obtain ⟨ao14, co14, hvo⟩ := owns_form h1
                subst hvo
                have HX5 := Lib.hid (HX4.out.grow (V := [((pb : Int), (pa : Int))]) (by simpa using h1) h2 (by simpa using h3))
                clear h1 h2 h3 HX4
                go_wp2
                refine seg_grow ⟨⟨_, HX5.out.le⟩, rfl⟩ ?_
                refine U_heads2 [15] (by kernel_rfl) ⟨⟨_, HX5.out.le⟩, rfl⟩ ?_
                simp only [pickL, List.getElem?_cons_succ, List.getElem?_cons_zero]
                repeat (go_big_quiet_step (rfl))
                refine wpQuiet_nil ?_
                refine U_one 17 (by kernel_rfl) ?_
                simp only [pickL, List.getElem?_cons_succ, List.getElem?_cons_zero]
                obtain ⟨q0, q1, q2, q3, q4, q5⟩ := HX5.out.cell
                obtain ⟨G, hKG, hG⟩ := HX5.out.put n
                have HG := Lib.hid hG
                clear hG
                try simp at q0
                try simp at q2
                try simp at q3
                try simp at q4
                try simp at q5
                go_wp2
                try simp [go_sem] at hKG
                have HKG := Lib.hid hKG
                clear hKG
                refine seg_grow ⟨⟨_, (HG.out _ HKG.out.here).2.2.2⟩, rfl⟩ ?_
                refine U_done (by kernel_rfl) ?_
                go_wp2_with fail
                go_meet
                exact ⟨_, _, G, rfl, HKG.out, fun w2 h => ⟨(HG.out w2 h).1, (HG.out w2 h).2.1, (HG.out w2 h).2.2.1, btr HBQ.out (HG.out w2 h).2.2.2⟩⟩
            · simp only [pickL, List.getElem?_cons_succ, List.getElem?_cons_zero]
              go_wp2
              have HX2 := Lib.hid (HX1.out.a16 (w6.heap.size + 1) (by simp))
              clear HX1
              refine seg_grow ⟨⟨_, HX2.out.le⟩, rfl⟩ ?_
              refine U_two 5 13 (by kernel_rfl) ?_ ?_
              · simp only [pickL, List.getElem?_cons_succ, List.getElem?_cons_zero]
                go_wp2_with (at_builtin; refine wpList_append_rows rfl _ _ rfl HX2.out.own rfl rfl (HGR.out.mono HX2.out.le) (by simp) (by omega) HX2.out.le.size ?_)
                intro v5 w105 h1 h2 h3
                obtain ⟨ao5, co5, hvo⟩ := owns_form h1
                subst hvo
                have HX3 := Lib.hid (HX2.out.grow (V := V) (by simpa using h1) h2 (by simpa using h3))
                clear h1 h2 h3 HX2
                go_wp2
                refine seg_grow ⟨⟨_, HX3.out.le⟩, rfl⟩ ?_
                refine U_one 13 (by kernel_rfl) ?_
                simp only [pickL, List.getElem?_cons_succ, List.getElem?_cons_zero]
                go_wp2
                have HX4 := Lib.hid (HX3.out.a13 (w105.heap.size) (by simp))
                clear HX3
                refine seg_grow ⟨⟨_, HX4.out.le⟩, rfl⟩ ?_
                refine U_one 14 (by kernel_rfl) ?_
                simp only [pickL, List.getElem?_cons_succ, List.getElem?_cons_zero]
                go_wp2_with (at_builtin; refine wpList_append_rows rfl _ _ rfl HX4.out.own rfl rfl HX4.out.rd (by simp; omega) (by simp) HX4.out.le.size ?_)
                intro v14 w114 h1 h2 h3
                obtain ⟨ao14, co14, hvo⟩ := owns_form h1
                subst hvo
                have HX5 := Lib.hid (HX4.out.grow (V := [((pb : Int), (pa : Int))]) (by simpa using h1) h2 (by simpa using h3))
                clear h1 h2 h3 HX4
                go_wp2
                refine seg_grow ⟨⟨_, HX5.out.le⟩, rfl⟩ ?_
                refine U_heads2 [15] (by kernel_rfl) ⟨⟨_, HX5.out.le⟩, rfl⟩ ?_
                simp only [pickL, List.getElem?_cons_succ, List.getElem?_cons_zero]
                repeat (go_big_quiet_step (rfl))
                refine wpQuiet_nil ?_
                refine U_one 17 (by kernel_rfl) ?_
                simp only [pickL, List.getElem?_cons_succ, List.getElem?_cons_zero]
                obtain ⟨q0, q1, q2, q3, q4, q5⟩ := HX5.out.cell
                obtain ⟨G, hKG, hG⟩ := HX5.out.put n
                have HG := Lib.hid hG
                clear hG
                try simp at q0
                try simp at q2
                try simp at q3
                try simp at q4
                try simp at q5
                go_wp2
                try simp [go_sem] at hKG
                have HKG := Lib.hid hKG
                clear hKG
                refine seg_grow ⟨⟨_, (HG.out _ HKG.out.here).2.2.2⟩, rfl⟩ ?_
                refine U_done (by kernel_rfl) ?_
                go_wp2_with fail
                go_meet
                exact ⟨_, _, G, rfl, HKG.out, fun w2 h => ⟨(HG.out w2 h).1, (HG.out w2 h).2.1, (HG.out w2 h).2.2.1, btr HBQ.out (HG.out w2 h).2.2.2⟩⟩
              · simp only [pickL, List.getElem?_cons_succ, List.getElem?_cons_zero]
                go_wp2
                have HX3 := Lib.hid (HX2.out.a13 (w6.heap.size + 1 + 1) (by simp))
                clear HX2
                refine seg_grow ⟨⟨_, HX3.out.le⟩, rfl⟩ ?_
                refine U_one 5 (by kernel_rfl) ?_
                simp only [pickL, List.getElem?_cons_succ, List.getElem?_cons_zero]
                go_wp2_with (at_builtin; refine wpList_append_rows rfl _ _ rfl HX3.out.own rfl rfl (HGR.out.mono HX3.out.le) (by simp) (by omega) HX3.out.le.size ?_)
                intro v5 w105 h1 h2 h3
                obtain ⟨ao5, co5, hvo⟩ := owns_form h1
                subst hvo
                have HX4 := Lib.hid (HX3.out.grow (V := V) (by simpa using h1) h2 (by simpa using h3))
                clear h1 h2 h3 HX3
                go_wp2
                refine seg_grow ⟨⟨_, HX4.out.le⟩, rfl⟩ ?_
                refine U_one 14 (by kernel_rfl) ?_
                simp only [pickL, List.getElem?_cons_succ, List.getElem?_cons_zero]
                go_wp2_with (at_builtin; refine wpList_append_rows rfl _ _ rfl HX4.out.own rfl rfl HX4.out.rd (by simp; omega) (by simp) HX4.out.le.size ?_)
                intro v14 w114 h1 h2 h3
                obtain ⟨ao14, co14, hvo⟩ := owns_form h1
                subst hvo
                have HX5 := Lib.hid (HX4.out.grow (V := [((pb : Int), (pa : Int))]) (by simpa using h1) h2 (by simpa using h3))
                clear h1 h2 h3 HX4
                go_wp2
                refine seg_grow ⟨⟨_, HX5.out.le⟩, rfl⟩ ?_
                refine U_heads2 [15] (by kernel_rfl) ⟨⟨_, HX5.out.le⟩, rfl⟩ ?_
                simp only [pickL, List.getElem?_cons_succ, List.getElem?_cons_zero]
                repeat (go_big_quiet_step (rfl))
                refine wpQuiet_nil ?_
                refine U_one 17 (by kernel_rfl) ?_
                simp only [pickL, List.getElem?_cons_succ, List.getElem?_cons_zero]
                obtain ⟨q0, q1, q2, q3, q4, q5⟩ := HX5.out.cell
                obtain ⟨G, hKG, hG⟩ := HX5.out.put n
                have HG := Lib.hid hG
                clear hG
                try simp at q0
                try simp at q2
                try simp at q3
                try simp at q4
                try simp at q5
                go_wp2
                try simp [go_sem] at hKG
                have HKG := Lib.hid hKG
                clear hKG
                refine seg_grow ⟨⟨_, (HG.out _ HKG.out.here).2.2.2⟩, rfl⟩ ?_
                refine U_done (by kernel_rfl) ?_
                go_wp2_with fail
                go_meet
                exact ⟨_, _, G, rfl, HKG.out, fun w2 h => ⟨(HG.out w2 h).1, (HG.out w2 h).2.1, (HG.out w2 h).2.2.1, btr HBQ.out (HG.out w2 h).2.2.2⟩⟩
          · simp only [pickL, List.getElem?_cons_succ, List.getElem?_cons_zero]
            go_wp2
            have HX1 := Lib.hid (HX0.out.a13 (w6.heap.size) (by simp))
            clear HX0
            refine seg_grow ⟨⟨_, HX1.out.le⟩, rfl⟩ ?_
            refine U_two 2 16 (by kernel_rfl) ?_ ?_
            · simp only [pickL, List.getElem?_cons_succ, List.getElem?_cons_zero]
              go_wp2
              have HX2 := Lib.hid (HX1.out.a2 (w6.heap.size + 1) (by simp))
              clear HX1
              refine seg_grow ⟨⟨_, HX2.out.le⟩, rfl⟩ ?_
              refine U_two 5 16 (by kernel_rfl) ?_ ?_
              · simp only [pickL, List.getElem?_cons_succ, List.getElem?_cons_zero]
                go_wp2_with (at_builtin; refine wpList_append_rows rfl _ _ rfl HX2.out.own rfl rfl (HGR.out.mono HX2.out.le) (by simp) (by omega) HX2.out.le.size ?_)
                intro v5 w105 h1 h2 h3
                obtain ⟨ao5, co5, hvo⟩ := owns_form h1
                subst hvo
                have HX3 := Lib.hid (HX2.out.grow (V := V) (by simpa using h1) h2 (by simpa using h3))
                clear h1 h2 h3 HX2
                go_wp2
                refine seg_grow ⟨⟨_, HX3.out.le⟩, rfl⟩ ?_
                refine U_two 14 16 (by kernel_rfl) ?_ ?_
                · simp only [pickL, List.getElem?_cons_succ, List.getElem?_cons_zero]
                  go_wp2_with (at_builtin; refine wpList_append_rows rfl _ _ rfl HX3.out.own rfl rfl HX3.out.rd (by simp; omega) (by simp) HX3.out.le.size ?_)
                  intro v14 w114 h1 h2 h3
                  obtain ⟨ao14, co14, hvo⟩ := owns_form h1
                  subst hvo
                  have HX4 := Lib.hid (HX3.out.grow (V := [((pb : Int), (pa : Int))]) (by simpa using h1) h2 (by simpa using h3))
                  clear h1 h2 h3 HX3
                  go_wp2
                  refine seg_grow ⟨⟨_, HX4.out.le⟩, rfl⟩ ?_
                  refine U_heads2 [15] (by kernel_rfl) ⟨⟨_, HX4.out.le⟩, rfl⟩ ?_
                  simp only [pickL, List.getElem?_cons_succ, List.getElem?_cons_zero]
                  repeat (go_big_quiet_step (rfl))
                  refine wpQuiet_nil ?_
                  refine U_one 16 (by kernel_rfl) ?_
                  simp only [pickL, List.getElem?_cons_succ, List.getElem?_cons_zero]
                  go_wp2
                  have HX5 := Lib.hid (HX4.out.a16 (w114.heap.size) (by simp))
                  clear HX4
                  refine seg_grow ⟨⟨_, HX5.out.le⟩, rfl⟩ ?_
                  refine U_one 17 (by kernel_rfl) ?_
                  simp only [pickL, List.getElem?_cons_succ, List.getElem?_cons_zero]
                  obtain ⟨q0, q1, q2, q3, q4, q5⟩ := HX5.out.cell
                  obtain ⟨G, hKG, hG⟩ := HX5.out.put n
                  have HG := Lib.hid hG
                  clear hG
                  try simp at q0
                  try simp at q2
                  try simp at q3
                  try simp at q4
                  try simp at q5
                  go_wp2
                  try simp [go_sem] at hKG
                  have HKG := Lib.hid hKG
                  clear hKG
                  refine seg_grow ⟨⟨_, (HG.out _ HKG.out.here).2.2.2⟩, rfl⟩ ?_
                  refine U_done (by kernel_rfl) ?_
                  go_wp2_with fail
                  go_meet
                  exact ⟨_, _, G, rfl, HKG.out, fun w2 h => ⟨(HG.out w2 h).1, (HG.out w2 h).2.1, (HG.out w2 h).2.2.1, btr HBQ.out (HG.out w2 h).2.2.2⟩⟩
                · simp only [pickL, List.getElem?_cons_succ, List.getElem?_cons_zero]
                  go_wp2
                  have HX4 := Lib.hid (HX3.out.a16 (w105.heap.size) (by simp))
                  clear HX3
                  refine seg_grow ⟨⟨_, HX4.out.le⟩, rfl⟩ ?_
                  refine U_one 14 (by kernel_rfl) ?_
                  simp only [pickL, List.getElem?_cons_succ, List.getElem?_cons_zero]
                  go_wp2_with (at_builtin; refine wpList_append_rows rfl _ _ rfl HX4.out.own rfl rfl HX4.out.rd (by simp; omega) (by simp) HX4.out.le.size ?_)
                  intro v14 w114 h1 h2 h3
                  obtain ⟨ao14, co14, hvo⟩ := owns_form h1
                  subst hvo
                  have HX5 := Lib.hid (HX4.out.grow (V := [((pb : Int), (pa : Int))]) (by simpa using h1) h2 (by simpa using h3))
                  clear h1 h2 h3 HX4
                  go_wp2
                  refine seg_grow ⟨⟨_, HX5.out.le⟩, rfl⟩ ?_
                  refine U_heads2 [15] (by kernel_rfl) ⟨⟨_, HX5.out.le⟩, rfl⟩ ?_
                  simp only [pickL, List.getElem?_cons_succ, List.getElem?_cons_zero]
                  repeat (go_big_quiet_step (rfl))
                  refine wpQuiet_nil ?_
                  refine U_one 17 (by kernel_rfl) ?_
                  simp only [pickL, List.getElem?_cons_succ, List.getElem?_cons_zero]
                  obtain ⟨q0, q1, q2, q3, q4, q5⟩ := HX5.out.cell
                  obtain ⟨G, hKG, hG⟩ := HX5.out.put n
                  have HG := Lib.hid hG
                  clear hG
                  try simp at q0
                  try simp at q2
                  try simp at q3
                  try simp at q4
                  try simp at q5
                  go_wp2
                  try simp [go_sem] at hKG
                  have HKG := Lib.hid hKG
                  clear hKG
                  refine seg_grow ⟨⟨_, (HG.out _ HKG.out.here).2.2.2⟩, rfl⟩ ?_
                  refine U_done (by kernel_rfl) ?_
                  go_wp2_with fail
                  go_meet
                  exact ⟨_, _, G, rfl, HKG.out, fun w2 h => ⟨(HG.out w2 h).1, (HG.out w2 h).2.1, (HG.out w2 h).2.2.1, btr HBQ.out (HG.out w2 h).2.2.2⟩⟩
              · simp only [pickL, List.getElem?_cons_succ, List.getElem?_cons_zero]
                go_wp2
                have HX3 := Lib.hid (HX2.out.a16 (w6.heap.size + 1 + 1) (by simp))
                clear HX2
                refine seg_grow ⟨⟨_, HX3.out.le⟩, rfl⟩ ?_
                refine U_one 5 (by kernel_rfl) ?_
                simp only [pickL, List.getElem?_cons_succ, List.getElem?_cons_zero]
                go_wp2_with (at_builtin; refine wpList_append_rows rfl _ _ rfl HX3.out.own rfl rfl (HGR.out.mono HX3.out.le) (by simp) (by omega) HX3.out.le.size ?_)
                intro v5 w105 h1 h2 h3
                obtain ⟨ao5, co5, hvo⟩ := owns_form h1
                subst hvo
                have HX4 := Lib.hid (HX3.out.grow (V := V) (by simpa using h1) h2 (by simpa using h3))
                clear h1 h2 h3 HX3
                go_wp2
                refine seg_grow ⟨⟨_, HX4.out.le⟩, rfl⟩ ?_
                refine U_one 14 (by kernel_rfl) ?_
                simp only [pickL, List.getElem?_cons_succ, List.getElem?_cons_zero]
                go_wp2_with (at_builtin; refine wpList_append_rows rfl _ _ rfl HX4.out.own rfl rfl HX4.out.rd (by simp; omega) (by simp) HX4.out.le.size ?_)
                intro v14 w114 h1 h2 h3
                obtain ⟨ao14, co14, hvo⟩ := owns_form h1
                subst hvo
                have HX5 := Lib.hid (HX4.out.grow (V := [((pb : Int), (pa : Int))]) (by simpa using h1) h2 (by simpa using h3))
                clear h1 h2 h3 HX4
                go_wp2
                refine seg_grow ⟨⟨_, HX5.out.le⟩, rfl⟩ ?_
                refine U_heads2 [15] (by kernel_rfl) ⟨⟨_, HX5.out.le⟩, rfl⟩ ?_
                simp only [pickL, List.getElem?_cons_succ, List.getElem?_cons_zero]
                repeat (go_big_quiet_step (rfl))
                refine wpQuiet_nil ?_
                refine U_one 17 (by kernel_rfl) ?_
                simp only [pickL, List.getElem?_cons_succ, List.getElem?_cons_zero]
                obtain ⟨q0, q1, q2, q3, q4, q5⟩ := HX5.out.cell
                obtain ⟨G, hKG, hG⟩ := HX5.out.put n
                have HG := Lib.hid hG
                clear hG
                try simp at q0
                try simp at q2
                try simp at q3
                try simp at q4
                try simp at q5
                go_wp2
                try simp [go_sem] at hKG
                have HKG := Lib.hid hKG
                clear hKG
                refine seg_grow ⟨⟨_, (HG.out _ HKG.out.here).2.2.2⟩, rfl⟩ ?_
                refine U_done (by kernel_rfl) ?_
                go_wp2_with fail
                go_meet
                exact ⟨_, _, G, rfl, HKG.out, fun w2 h => ⟨(HG.out w2 h).1, (HG.out w2 h).2.1, (HG.out w2 h).2.2.1, btr HBQ.out (HG.out w2 h).2.2.2⟩⟩
            · simp only [pickL, List.getElem?_cons_succ, List.getElem?_cons_zero]
              go_wp2
              have HX2 := Lib.hid (HX1.out.a16 (w6.heap.size + 1) (by simp))
              clear HX1
              refine seg_grow ⟨⟨_, HX2.out.le⟩, rfl⟩ ?_
              refine U_one 2 (by kernel_rfl) ?_
              simp only [pickL, List.getElem?_cons_succ, List.getElem?_cons_zero]
              go_wp2
              have HX3 := Lib.hid (HX2.out.a2 (w6.heap.size + 1 + 1) (by simp))
              clear HX2
              refine seg_grow ⟨⟨_, HX3.out.le⟩, rfl⟩ ?_
              refine U_one 5 (by kernel_rfl) ?_
              simp only [pickL, List.getElem?_cons_succ, List.getElem?_cons_zero]
              go_wp2_with (at_builtin; refine wpList_append_rows rfl _ _ rfl HX3.out.own rfl rfl (HGR.out.mono HX3.out.le) (by simp) (by omega) HX3.out.le.size ?_)
              intro v5 w105 h1 h2 h3
              obtain ⟨ao5, co5, hvo⟩ := owns_form h1
              subst hvo
              have HX4 := Lib.hid (HX3.out.grow (V := V) (by simpa using h1) h2 (by simpa using h3))
              clear h1 h2 h3 HX3
              go_wp2
              refine seg_grow ⟨⟨_, HX4.out.le⟩, rfl⟩ ?_
              refine U_one 14 (by kernel_rfl) ?_
              simp only [pickL, List.getElem?_cons_succ, List.getElem?_cons_zero]
              go_wp2_with (at_builtin; refine wpList_append_rows rfl _ _ rfl HX4.out.own rfl rfl HX4.out.rd (by simp; omega) (by simp) HX4.out.le.size ?_)
              intro v14 w114 h1 h2 h3
              obtain ⟨ao14, co14, hvo⟩ := owns_form h1
              subst hvo
              have HX5 := Lib.hid (HX4.out.grow (V := [((pb : Int), (pa : Int))]) (by simpa using h1) h2 (by simpa using h3))
              clear h1 h2 h3 HX4
              go_wp2
              refine seg_grow ⟨⟨_, HX5.out.le⟩, rfl⟩ ?_
              refine U_heads2 [15] (by kernel_rfl) ⟨⟨_, HX5.out.le⟩, rfl⟩ ?_
              simp only [pickL, List.getElem?_cons_succ, List.getElem?_cons_zero]
              repeat (go_big_quiet_step (rfl))
              refine wpQuiet_nil ?_
              refine U_one 17 (by kernel_rfl) ?_
              simp only [pickL, List.getElem?_cons_succ, List.getElem?_cons_zero]
              obtain ⟨q0, q1, q2, q3, q4, q5⟩ := HX5.out.cell
              obtain ⟨G, hKG, hG⟩ := HX5.out.put n
              have HG := Lib.hid hG
              clear hG
              try simp at q0
              try simp at q2
              try simp at q3
              try simp at q4
              try simp at q5
              go_wp2
              try simp [go_sem] at hKG
              have HKG := Lib.hid hKG
              clear hKG
              refine seg_grow ⟨⟨_, (HG.out _ HKG.out.here).2.2.2⟩, rfl⟩ ?_
              refine U_done (by kernel_rfl) ?_
              go_wp2_with fail
              go_meet
              exact ⟨_, _, G, rfl, HKG.out, fun w2 h => ⟨(HG.out w2 h).1, (HG.out w2 h).2.1, (HG.out w2 h).2.2.1, btr HBQ.out (HG.out w2 h).2.2.2⟩⟩
          · simp only [pickL, List.getElem?_cons_succ, List.getElem?_cons_zero]
            go_wp2
            have HX1 := Lib.hid (HX0.out.a16 (w6.heap.size) (by simp))
            clear HX0
            refine seg_grow ⟨⟨_, HX1.out.le⟩, rfl⟩ ?_
            refine U_two 2 13 (by kernel_rfl) ?_ ?_
            · simp only [pickL, List.getElem?_cons_succ, List.getElem?_cons_zero]
              go_wp2
              have HX2 := Lib.hid (HX1.out.a2 (w6.heap.size + 1) (by simp))
              clear HX1
              refine seg_grow ⟨⟨_, HX2.out.le⟩, rfl⟩ ?_
              refine U_two 5 13 (by kernel_rfl) ?_ ?_
              · simp only [pickL, List.getElem?_cons_succ, List.getElem?_cons_zero]
                go_wp2_with (at_builtin; refine wpList_append_rows rfl _ _ rfl HX2.out.own rfl rfl (HGR.out.mono HX2.out.le) (by simp) (by omega) HX2.out.le.size ?_)
                intro v5 w105 h1 h2 h3
                obtain ⟨ao5, co5, hvo⟩ := owns_form h1
                subst hvo
                have HX3 := Lib.hid (HX2.out.grow (V := V) (by simpa using h1) h2 (by simpa using h3))
                clear h1 h2 h3 HX2
                go_wp2
                refine seg_grow ⟨⟨_, HX3.out.le⟩, rfl⟩ ?_
                refine U_one 13 (by kernel_rfl) ?_
                simp only [pickL, List.getElem?_cons_succ, List.getElem?_cons_zero]
                go_wp2
                have HX4 := Lib.hid (HX3.out.a13 (w105.heap.size) (by simp))
                clear HX3
                refine seg_grow ⟨⟨_, HX4.out.le⟩, rfl⟩ ?_
                refine U_one 14 (by kernel_rfl) ?_
                simp only [pickL, List.getElem?_cons_succ, List.getElem?_cons_zero]
                go_wp2_with (at_builtin; refine wpList_append_rows rfl _ _ rfl HX4.out.own rfl rfl HX4.out.rd (by simp; omega) (by simp) HX4.out.le.size ?_)
                intro v14 w114 h1 h2 h3
                obtain ⟨ao14, co14, hvo⟩ := owns_form h1
                subst hvo
                have HX5 := Lib.hid (HX4.out.grow (V := [((pb : Int), (pa : Int))]) (by simpa using h1) h2 (by simpa using h3))
                clear h1 h2 h3 HX4
                go_wp2
                refine seg_grow ⟨⟨_, HX5.out.le⟩, rfl⟩ ?_
                refine U_heads2 [15] (by kernel_rfl) ⟨⟨_, HX5.out.le⟩, rfl⟩ ?_
                simp only [pickL, List.getElem?_cons_succ, List.getElem?_cons_zero]
                repeat (go_big_quiet_step (rfl))
                refine wpQuiet_nil ?_
                refine U_one 17 (by kernel_rfl) ?_
                simp only [pickL, List.getElem?_cons_succ, List.getElem?_cons_zero]
                obtain ⟨q0, q1, q2, q3, q4, q5⟩ := HX5.out.cell
                obtain ⟨G, hKG, hG⟩ := HX5.out.put n
                have HG := Lib.hid hG
                clear hG
                try simp at q0
                try simp at q2
                try simp at q3
                try simp at q4
                try simp at q5
                go_wp2
                try simp [go_sem] at hKG
                have HKG := Lib.hid hKG
                clear hKG
                refine seg_grow ⟨⟨_, (HG.out _ HKG.out.here).2.2.2⟩, rfl⟩ ?_
                refine U_done (by kernel_rfl) ?_
                go_wp2_with fail
                go_meet
                exact ⟨_, _, G, rfl, HKG.out, fun w2 h => ⟨(HG.out w2 h).1, (HG.out w2 h).2.1, (HG.out w2 h).2.2.1, btr HBQ.out (HG.out w2 h).2.2.2⟩⟩
              · simp only [pickL, List.getElem?_cons_succ, List.getElem?_cons_zero]
                go_wp2
                have HX3 := Lib.hid (HX2.out.a13 (w6.heap.size + 1 + 1) (by simp))
                clear HX2
                refine seg_grow ⟨⟨_, HX3.out.le⟩, rfl⟩ ?_
                refine U_one 5 (by kernel_rfl) ?_
                simp only [pickL, List.getElem?_cons_succ, List.getElem?_cons_zero]
                go_wp2_with (at_builtin; refine wpList_append_rows rfl _ _ rfl HX3.out.own rfl rfl (HGR.out.mono HX3.out.le) (by simp) (by omega) HX3.out.le.size ?_)
                intro v5 w105 h1 h2 h3
                obtain ⟨ao5, co5, hvo⟩ := owns_form h1
                subst hvo
                have HX4 := Lib.hid (HX3.out.grow (V := V) (by simpa using h1) h2 (by simpa using h3))
                clear h1 h2 h3 HX3
                go_wp2
                refine seg_grow ⟨⟨_, HX4.out.le⟩, rfl⟩ ?_
                refine U_one 14 (by kernel_rfl) ?_
                simp only [pickL, List.getElem?_cons_succ, List.getElem?_cons_zero]
                go_wp2_with (at_builtin; refine wpList_append_rows rfl _ _ rfl HX4.out.own rfl rfl HX4.out.rd (by simp; omega) (by simp) HX4.out.le.size ?_)
                intro v14 w114 h1 h2 h3
                obtain ⟨ao14, co14, hvo⟩ := owns_form h1
                subst hvo
                have HX5 := Lib.hid (HX4.out.grow (V := [((pb : Int), (pa : Int))]) (by simpa using h1) h2 (by simpa using h3))
                clear h1 h2 h3 HX4
                go_wp2
                refine seg_grow ⟨⟨_, HX5.out.le⟩, rfl⟩ ?_
                refine U_heads2 [15] (by kernel_rfl) ⟨⟨_, HX5.out.le⟩, rfl⟩ ?_
                simp only [pickL, List.getElem?_cons_succ, List.getElem?_cons_zero]
                repeat (go_big_quiet_step (rfl))
                refine wpQuiet_nil ?_
                refine U_one 17 (by kernel_rfl) ?_
                simp only [pickL, List.getElem?_cons_succ, List.getElem?_cons_zero]
                obtain ⟨q0, q1, q2, q3, q4, q5⟩ := HX5.out.cell
                obtain ⟨G, hKG, hG⟩ := HX5.out.put n
                have HG := Lib.hid hG
                clear hG
                try simp at q0
                try simp at q2
                try simp at q3
                try simp at q4
                try simp at q5
                go_wp2
                try simp [go_sem] at hKG
                have HKG := Lib.hid hKG
                clear hKG
                refine seg_grow ⟨⟨_, (HG.out _ HKG.out.here).2.2.2⟩, rfl⟩ ?_
                refine U_done (by kernel_rfl) ?_
                go_wp2_with fail
                go_meet
                exact ⟨_, _, G, rfl, HKG.out, fun w2 h => ⟨(HG.out w2 h).1, (HG.out w2 h).2.1, (HG.out w2 h).2.2.1, btr HBQ.out (HG.out w2 h).2.2.2⟩⟩
            · simp only [pickL, List.getElem?_cons_succ, List.getElem?_cons_zero]
              go_wp2
              have HX2 := Lib.hid (HX1.out.a13 (w6.heap.size + 1) (by simp))
              clear HX1
              refine seg_grow ⟨⟨_, HX2.out.le⟩, rfl⟩ ?_
              refine U_one 2 (by kernel_rfl) ?_
              simp only [pickL, List.getElem?_cons_succ, List.getElem?_cons_zero]
              go_wp2
              have HX3 := Lib.hid (HX2.out.a2 (w6.heap.size + 1 + 1) (by simp))
              clear HX2
              refine seg_grow ⟨⟨_, HX3.out.le⟩, rfl⟩ ?_
              refine U_one 5 (by kernel_rfl) ?_
              simp only [pickL, List.getElem?_cons_succ, List.getElem?_cons_zero]
              go_wp2_with (at_builtin; refine wpList_append_rows rfl _ _ rfl HX3.out.own rfl rfl (HGR.out.mono HX3.out.le) (by simp) (by omega) HX3.out.le.size ?_)
              intro v5 w105 h1 h2 h3
              obtain ⟨ao5, co5, hvo⟩ := owns_form h1
              subst hvo
              have HX4 := Lib.hid (HX3.out.grow (V := V) (by simpa using h1) h2 (by simpa using h3))
              clear h1 h2 h3 HX3
              go_wp2
              refine seg_grow ⟨⟨_, HX4.out.le⟩, rfl⟩ ?_
              refine U_one 14 (by kernel_rfl) ?_
              simp only [pickL, List.getElem?_cons_succ, List.getElem?_cons_zero]
              go_wp2_with (at_builtin; refine wpList_append_rows rfl _ _ rfl HX4.out.own rfl rfl HX4.out.rd (by simp; omega) (by simp) HX4.out.le.size ?_)
              intro v14 w114 h1 h2 h3
              obtain ⟨ao14, co14, hvo⟩ := owns_form h1
              subst hvo
              have HX5 := Lib.hid (HX4.out.grow (V := [((pb : Int), (pa : Int))]) (by simpa using h1) h2 (by simpa using h3))
              clear h1 h2 h3 HX4
              go_wp2
              refine seg_grow ⟨⟨_, HX5.out.le⟩, rfl⟩ ?_
              refine U_heads2 [15] (by kernel_rfl) ⟨⟨_, HX5.out.le⟩, rfl⟩ ?_
              simp only [pickL, List.getElem?_cons_succ, List.getElem?_cons_zero]
              repeat (go_big_quiet_step (rfl))
              refine wpQuiet_nil ?_
              refine U_one 17 (by kernel_rfl) ?_
              simp only [pickL, List.getElem?_cons_succ, List.getElem?_cons_zero]
              obtain ⟨q0, q1, q2, q3, q4, q5⟩ := HX5.out.cell
              obtain ⟨G, hKG, hG⟩ := HX5.out.put n
              have HG := Lib.hid hG
              clear hG
              try simp at q0
              try simp at q2
              try simp at q3
              try simp at q4
              try simp at q5
              go_wp2
              try simp [go_sem] at hKG
              have HKG := Lib.hid hKG
              clear hKG
              refine seg_grow ⟨⟨_, (HG.out _ HKG.out.here).2.2.2⟩, rfl⟩ ?_
              refine U_done (by kernel_rfl) ?_
              go_wp2_with fail
              go_meet
              exact ⟨_, _, G, rfl, HKG.out, fun w2 h => ⟨(HG.out w2 h).1, (HG.out w2 h).2.1, (HG.out w2 h).2.2.1, btr HBQ.out (HG.out w2 h).2.2.2⟩⟩
        case rest =>
          obtain ⟨g, vA, G, rfl, hKG, hG⟩ := hcut
          have hGh := hG _ hKG.here
          have hv := hGh.2.2.1
          obtain ⟨av, cv, hv'⟩ := hv.ex (V.length + 1) (by simp)
          subst hv'
          have hBw := hGh.2.2.2
          have hc0 := hGh.1; have hc1 := hGh.2.1
          clear hGh hG hKG
          simp only [List.nil_append] at hv
          have KP7 := Lib.hid ((((KP6.out.up (btr (bz w5) hBw)).and (keepC hc0)).and (keepC hc1)).and (keepP hv))
          clear KP6
          clear hBw hc0 hc1 hv
          have hall := KP7.out.here
          have hX1 := hall.2.1
          have hX0 := hall.2.2.1
          have hR1 := hall.2.2.2.2.2.1
          have hR0 := hall.2.2.2.2.2.2.1
          clear hall
          have zR := World.block_lt_of_cell? _ _ hR0
          have zX := World.block_lt_of_cell? _ _ hX0
          simp only at zR zX
          go_wp2_with fail
          clear hX1 hX0 hR1 hR0 zR zX
          have hall := KP7.out.here
          have gx := hall.1
          clear hall
          refine (images_k n _ (V ++ [((pb : Int), (pa : Int))]) m2 _ gx HM.out.ok HM.out.im).mono ?_
          rintro e w6 ⟨rfl, hB⟩
          have KP8 := Lib.hid (KP7.out.up (btr (bz wc) hB))
          clear KP7
          clear hB
          clear gx
          have e1 : decide ((m2 : Int) ≤ (m : Int)) = true := decide_eq_true (by have := HM.out.le; omega)
          have e2 : decide ((n : Int) < (m2 : Int)) = true := decide_eq_true (by have := HM.out.gt; omega)
          have e1n : decide (m2 ≤ m) = true := decide_eq_true HM.out.le
          have e2n : decide (n < m2) = true := decide_eq_true HM.out.gt
          have hall := KP8.out.here
          have hX1 := hall.2.1
          have hX0 := hall.2.2.1
          have hR1 := hall.2.2.2.2.2.1
          have hR0 := hall.2.2.2.2.2.2.1
          clear hall
          have zR := World.block_lt_of_cell? _ _ hR0
          have zX := World.block_lt_of_cell? _ _ hX0
          simp only at zR zX
          go_wp2_with fail
          clear hX1 hX0 hR1 hR0 zR zX
          refine (works_any _).mono ?_
          rintro e w7 ⟨rfl, hB⟩
          have KP9 := Lib.hid (KP8.out.up (btr (bz w6) hB))
          clear KP8
          clear hB
          have hall := KP9.out.here
          have gBelow := hall.2.2.2.2.2.2.2.2
          clear hall
          go_wp2
          go_ret
          exact ⟨rfl, gBelow⟩
section
open Go.ChangeShapes Go.WideShapes Go.ChangeAt
set_option maxRecDepth 100000 in
theorem valveImages_lifted (os : Os) (started : os.Started) (H : Type) (enc : TypeId × Value → H) :
    ReturnsInHanded {} Try.checked os 9 .any (Rows.valveImagesSpec.pre6 enc Try.prog Try.f9 Rows.valveImagesRow.domain false) (Rows.valveImagesSpec.post enc Try.prog Try.f9 false true false false) := by
  refine returnsInHanded_of_change (C := Try.checked) Try.own started (by kernel_rfl) Try.func9
    (ChangeSpec.witness6 (enc := enc) (C := Try.checked) false ⟨#[], #[.agg #[.int .i64 0, .slice none 0 0], .int .u8 0, .int .u8 0], []⟩ 8 (by kernel_rfl) (by kernel_rfl) (by kernel_rfl) (by kernel_rfl)) ?_
  intro W base args ds gs before hval0 hW _ _
  have hval : ∀ (j : Nat) t v, Try.f9.params[j]? = some t → args[j]? = some v → Value.okWide Try.prog W .any base t v := hval0
  have hW' := hW
  obtain ⟨p, q, hA0, hV, rfl, hfz, hnd⟩ := hW
  have hA : DataW.TrodAll enc Try.prog W 0 (fun _ => true) true Try.f9.params.toList args.toList ds p := hA0
  have hA2 := hA
  have hlt : ∀ x ∈ p, x.block < W.heap.size := fun x hx => hW'.lt x (List.mem_append_left _ hx)
  rw [Try.params9] at hA hval
  obtain ⟨v0, vs0, d0, ds0, p0, q0, hargs, rfl, rfl, h0, r0⟩ := trodAll_cons hA
  obtain ⟨v1, vs1, d1, ds1, p1, q1, rfl, rfl, rfl, h1, r1⟩ := trodAll_cons r0
  obtain ⟨v2, vs2, d2, ds2, p2, q2, rfl, rfl, rfl, h2, r2⟩ := trodAll_cons r1
  obtain ⟨rfl, rfl, rfl⟩ := trodAll_nil r2
  obtain rfl : args = #[v0, v1, v2] := by cases args; simp_all
  obtain ⟨rfl, rfl⟩ := trodVars_none hV
  obtain ⟨a0, x0, V0, rfl, hx0⟩ := open_row (hval 0 24 v0 rfl rfl) h0 (fun x hx => hlt x (by simp [hx]))
  obtain ⟨a1, rfl, rfl, rfl, w1⟩ := open_int Try.underlying5 (hval 1 5 v1 rfl rfl) h1
  obtain ⟨a2, rfl, rfl, rfl, w2⟩ := open_int Try.underlying5 (hval 2 5 v2 rfl rfl) h2
  clear hA0 hval0
  simp only [List.append_nil] at hW' hA2
  refine (images_walk a0 a1 a2 x0 V0 W hx0 (wf8 w1) (wf8 w2)).mono fun e W' ⟨he, hb⟩ => ?_
  subst he
  exact ⟨_, rfl, law_post Try.laidOut Try.underlying4 hW' hA2 rfl rfl rfl rfl rfl (by kernel_rfl) hb⟩
theorem valveImages_holds : Rows.ValveImagesSaid :=
  OpenClaim.holds_of_wide 9 Try.f9 rfl rfl rfl rfl rfl rfl rfl ⟨rfl, rfl, rfl, rfl, rfl⟩ rfl rfl rfl rfl rfl (by kernel_rfl) Try.func9 (by kernel_rfl)
    (of_decide_eq_true (by kernel_rfl)) (by unfold Func.isWrapper; first | (rw [if_pos (by decide +kernel)]; kernel_rfl) | (rw [if_neg (by decide +kernel)]; exact ⟨rfl, rfl⟩))
    (fun os started H enc _ => valveImages_lifted os started H enc)
end
end Go.Proofs.Ytdnaipiiponhpaa
