/- fine and built: what they answer; a valid sequence for built. -/
import Derived.Test.YtnnfahdhmodejaaMWk
import Derived.Test.YtnnfahdhmodejaaMGJ
namespace Go.Proofs.Ytnnfahdhmodejaa
open Go.RowKit Go.Shelf


theorem great_lit (v : Value) (R : List (List Int)) (w : World) (hx : RdLL w v R) (hR : Sml R) : Calls Try.prog 16 #[v] w fun e w' => e = .returned (.bool false) ∧ Below w.heap.size w w' := by
  refine (great_any v R w hx).mono ?_
  rintro e w' ⟨rfl, rfl⟩
  rw [sml_great hR]; exact ⟨rfl, bz w⟩
theorem rrackc_lit (v : Value) (R : List (List Int)) (c : Int) (w : World) (hx : RdLL w v R) (hR : Sml R) (h : rackC R = c) :
    Calls Try.prog 19 #[v] w fun e w' => e = .returned (.int .i64 c) ∧ Below w.heap.size w w' := by
  have := rrack_any v R w hx hR; rw [h] at this; exact this
theorem rorderc_lit (v : Value) (R : List (List Int)) (c : Int) (w : World) (hx : RdLL w v R) (hR : Sml R) (h : orderC R = c) :
    Calls Try.prog 21 #[v] w fun e w' => e = .returned (.int .i64 c) ∧ Below w.heap.size w w' := by
  have := rorder_any v R w hx hR; rw [h] at this; exact this
theorem shape_lit (v : Value) (R : List (List Int)) (l : List Int) (w : World) (hx : RdLL w v R) (hR : Sml R) (h : shpI R = l) :
    Calls Try.prog 41 #[v] w fun e w' => ∃ u, e = .returned u ∧ RdI w' .i64 u l ∧ Below w.heap.size w w' := by
  subst h
  refine (shape_any v R w hx hR).mono ?_
  rintro e w' ⟨u, rfl, hu, hB⟩
  exact ⟨u, rfl, RdI.of_owns hu, hB⟩
theorem sum_lit (x : Value) (xs : List Int) (n : Int) (w : World) (hx0 : RdI w .i64 x xs) (hl : xs.length ≤ 1000) (hb : ∀ i, i < xs.length → 0 ≤ elt xs i ∧ elt xs i ≤ 1000) (h : sumL xs = n) :
    Calls Try.prog 84 #[x] w fun e w' => e = .returned (.int .i64 n) ∧ Below w.heap.size w w' := by
  subst h
  refine (rsum_any x xs w hx0 hl hb).mono ?_
  rintro e w' ⟨rfl, rfl⟩
  exact ⟨rfl, bz w⟩
theorem shp_bd {R : List (List Int)} (h : Sml R) : (shpI R).length ≤ 1000 ∧ ∀ i, i < (shpI R).length → 0 ≤ elt (shpI R) i ∧ elt (shpI R) i ≤ 1000 := by
  refine ⟨by have := h.1; simp [shpI]; omega, fun i hi => ?_⟩
  simp only [shpI, List.length_map] at hi
  have := h.2 i
  rw [row_lt hi] at this
  have e : elt (shpI R) i = (R[i].length : Int) := by unfold elt shpI; simp [hi]
  rw [e]; omega
theorem foldl_sum : ∀ (l : List Int) (a : Int), l.foldl (· + ·) a = a + l.foldl (· + ·) 0
  | [], a => by simp
  | x :: l, a => by
    simp only [List.foldl_cons]
    rw [foldl_sum l (a + x), foldl_sum l (0 + x)]
    omega
theorem sum_shp : ∀ (R : List (List Int)), sumL (shpI R) = (R.flatten.length : Int)
  | [] => rfl
  | l :: R => by
    have ih := sum_shp R
    unfold sumL shpI at ih ⊢
    simp only [List.map_cons, List.foldl_cons, List.flatten_cons, List.length_append]
    rw [foldl_sum, ih]; push_cast; omega
theorem built_sml {s : List Int} (h : seqC s = 0) : Sml (bldR s s.length).1 ∧ Sml (bldR s s.length).2 := by
  have := buildE_sml s
  unfold buildE at this
  rwa [if_neg (by simp [h])] at this
theorem buildE_ok {s : List Int} (h : seqC s = 0) : buildE s = ((bldR s s.length).1, (bldR s s.length).2, 0) := by
  unfold buildE; rw [if_neg (by simp [h])]
theorem seqC_ok {s : List Int} (h : seqC s = 0) : s.length ≤ 12 ∧ ∀ x ∈ s, 1 ≤ x ∧ x ≤ 99 := by
  unfold seqC at h
  split at h
  · omega
  · split at h
    · omega
    · rename_i h1 h2
      refine ⟨by omega, fun x hx => outB_bd ?_⟩
      have := List.any_eq_false.1 (by simpa using h2) x hx
      simpa using this
theorem wf8 {n : Int} (h : (Lit.int .u8 n).wf = true) : 0 ≤ n ∧ n ≤ 255 := by
  simp [Lit.wf, IntKind.min, IntKind.max, IntKind.signed, IntKind.bits] at h
  omega
theorem wf16 {n : Int} (h : (Lit.int .u16 n).wf = true) : 0 ≤ n ∧ n ≤ 65535 := by
  simp [Lit.wf, IntKind.min, IntKind.max, IntKind.signed, IntKind.bits] at h
  omega
set_option maxRecDepth 100000 in
theorem fine_any (x : Value) (s : List Int) (w : World) (hx0 : RdI w .i64 x s) : Calls Try.prog 38 #[x] w fun e w' => e = .returned (.bool (decide (seqC s = 0))) ∧ w = w' := by
  have HX := Lib.hid hx0
  obtain ⟨a, ca, rfl, _, _, _⟩ := hx0.form
  clear hx0
  by_cases h : s.length ≤ 20
  · have t1 : decide ((s.length : Int) ≤ 20) = true := decide_eq_true (by omega)
    have t2 : (s.length : Int) ≤ 20 := by omega
    have HC := Lib.hid (rseq_any (.slice a s.length ca) s w HX.out (by omega))
    generalize seqC s = q at *
    go_enter Try.func38, Try.ntmps38
    go_wp2_with fail
    refine HC.out.mono ?_
    rintro e w' ⟨rfl, rfl⟩
    go_wp2_with fail
    go_ret
    refine ⟨?_, rfl⟩
    first | rfl | (congr 2; simp [beq_eq_decide]) | skip
  · have t1 : decide ((s.length : Int) ≤ 20) = false := decide_eq_false (by omega)
    have t2 : ¬ (s.length : Int) ≤ 20 := by omega
    have e : seqC s ≠ 0 := fun h0 => by have := (seqC_ok h0).1; omega
    have HE := Lib.hid (decide_eq_false e)
    clear e
    go_enter Try.func38, Try.ntmps38
    go_wp2_with fail
    go_ret
    refine ⟨?_, rfl⟩
    rw [HE.out]; rfl

set_option maxRecDepth 100000 in
set_option maxHeartbeats 1600000 in
theorem built_any (x : Value) (s : List Int) (w : World) (hx0 : RdI w .i64 x s) (hs : seqC s = 0) :
    Calls Try.prog 39 #[x] w fun e w' => ∃ u v, e = .returned (.tuple #[u, v, .bool true]) ∧ RdLL w' u (bldR s s.length).1 ∧ RdLL w' v (bldR s s.length).2 ∧ Below w.heap.size w w' := by
  have HX := Lib.hid hx0
  obtain ⟨a, ca, rfl, _, _, _⟩ := hx0.form
  have hok := built_ok hs
  have hlen := (seqC_ok hs).1
  have HS := Lib.hid (built_sml hs)
  have HE := Lib.hid (buildE_ok hs)
  have HC := Lib.hid hok
  have HN := Lib.hid (show s.length ≤ 1000 by omega)
  clear hok hlen hs
  generalize (bldR s s.length).1 = R at *
  generalize (bldR s s.length).2 = O at *
  have HSU := Lib.hid (show sumL (shpI R) = (s.length : Int) by rw [sum_shp, HC.out.2.2.2])
  have HSB := Lib.hid (shp_bd HS.out.1)
  have KP0 := Lib.hid ((keepB (bz w)).and (keepI hx0))
  clear hx0 HX
  go_enter Try.func39, Try.ntmps39
  go_wp2_with fail
  have gx := KP0.out.here.1
  refine (build_lit _ _ _ _ _ _ gx HN.out HE.out).mono ?_
  rintro e w1 ⟨vr, vo, rfl, hRr, hRo, hB⟩
  obtain ⟨ptr, qtr, hv⟩ := exL hRr R.length rfl
  subst hv
  obtain ⟨pto, qto, hv⟩ := exL hRo O.length rfl
  subst hv
  have KP1 := Lib.hid (((KP0.out.up hB).and (keepL hRr)).and (keepL hRo))
  clear KP0
  clear hB hRr hRo
  clear gx
  go_wp2_with fail
  have gr := KP1.out.here.2.1
  refine (great_lit _ R _ gr HS.out.1).mono ?_
  rintro e w2 ⟨rfl, hB⟩
  have KP2 := Lib.hid (KP1.out.up hB)
  clear KP1
  clear hB
  clear gr
  go_wp2_with fail
  have go := KP2.out.here.1
  refine (great_lit _ O _ go HS.out.2).mono ?_
  rintro e w3 ⟨rfl, hB⟩
  have KP3 := Lib.hid (KP2.out.up hB)
  clear KP2
  clear hB
  clear go
  go_wp2_with fail
  have gr := KP3.out.here.2.1
  refine (rrackc_lit _ R 0 _ gr HS.out.1 HC.out.1).mono ?_
  rintro e w4 ⟨rfl, hB⟩
  have KP4 := Lib.hid (KP3.out.up hB)
  clear KP3
  clear hB
  clear gr
  go_wp2_with fail
  have go := KP4.out.here.1
  refine (rorderc_lit _ O 0 _ go HS.out.2 HC.out.2.1).mono ?_
  rintro e w5 ⟨rfl, hB⟩
  have KP5 := Lib.hid (KP4.out.up hB)
  clear KP4
  clear hB
  clear go
  go_wp2_with fail
  have gr := KP5.out.here.2.1
  refine (shape_lit _ R (shpI R) _ gr HS.out.1 rfl).mono ?_
  rintro e w6 ⟨vsr, rfl, hRsr, hB⟩
  obtain ⟨ptsr, qtsr, hv⟩ := exI hRsr (shpI R).length rfl
  subst hv
  have KP6 := Lib.hid ((KP5.out.up hB).and (keepI hRsr))
  clear KP5
  clear hB hRsr
  clear gr
  go_wp2_with fail
  have go := KP6.out.here.2.1
  refine (shape_lit _ O (shpI R) _ go HS.out.2 HC.out.2.2.1.symm).mono ?_
  rintro e w7 ⟨vso, rfl, hRso, hB⟩
  obtain ⟨ptso, qtso, hv⟩ := exI hRso (shpI R).length rfl
  subst hv
  have KP7 := Lib.hid ((KP6.out.up hB).and (keepI hRso))
  clear KP6
  clear hB hRso
  clear go
  go_wp2_with fail
  have gsr := KP7.out.here.2.1
  have gso := KP7.out.here.1
  refine (ints_lit _ _ (shpI R) _ gsr gso HSB.out.1).mono ?_
  rintro e w8 ⟨rfl, hB⟩
  have KP8 := Lib.hid (KP7.out.up hB)
  clear KP7
  clear hB
  clear gsr gso
  go_wp2_with fail
  have gr := KP8.out.here.2.2.2.1
  refine (shape_lit _ R (shpI R) _ gr HS.out.1 rfl).mono ?_
  rintro e w9 ⟨vst, rfl, hRst, hB⟩
  obtain ⟨ptst, qtst, hv⟩ := exI hRst (shpI R).length rfl
  subst hv
  have KP9 := Lib.hid ((KP8.out.up hB).and (keepI hRst))
  clear KP8
  clear hB hRst
  clear gr
  go_wp2_with fail
  have gst := KP9.out.here.1
  refine (sum_lit _ (shpI R) (s.length : Int) _ gst HSB.out.1 HSB.out.2 HSU.out).mono ?_
  rintro e w10 ⟨rfl, hB⟩
  have KP10 := Lib.hid (KP9.out.up hB)
  clear KP9
  clear hB
  clear gst
  go_wp2_with fail
  have gBelow := KP10.out.here.2.2.2.2.2.2
  have gr := KP10.out.here.2.2.2.2.1
  have go := KP10.out.here.2.2.2.1
  go_ret3
  exact ⟨_, _, rfl, gr, go, gBelow⟩
end Go.Proofs.Ytnnfahdhmodejaa
