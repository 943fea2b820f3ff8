/- RackBack: a sequence is read back from its rack and its order; a rack and an order of one shape are those of a sequence; no condition. -/
import Derived.Test.YtnnfahdhmodejaaMLg
import Derived.Test.YtnnfahdhmodejaaML11
import Derived.Test.YtnnfahdhmodejaaML12
import Derived.Test.YtnnfahdhmodejaaMGI
namespace Go.Proofs.Ytnnfahdhmodejaa
open Go.RowKit Go.Shelf

theorem readE_ok {R O : List (List Int)} (h1 : rackC R = 0) (h2 : orderC O = 0) (h3 : shpI R = shpI O) : readE R O = (readR O R.flatten.length R [], 0) := by
  unfold readE
  rw [h1, h2, if_neg (by simp), if_neg (by simp), if_pos h3]
/-- A given order: its sequence with the rack. -/
theorem given_back {s bs : List Int} (hs : seqC s = 0) : ∃ (G : List (List Int)) (t : List Int), GV bs s.length (List.replicate (shpI (bldR s s.length).1).length []) (shpI (bldR s s.length).1) = G ∧ readE (bldR s s.length).1 (bldR s s.length).2 = (s, 0) ∧ readE (bldR s s.length).1 G = (t, 0) ∧ seqC t = 0 ∧
    (bldR t t.length).1 = (bldR s s.length).1 ∧ (bldR t t.length).2 = G ∧ (t = s ↔ G = (bldR s s.length).2) ∧ Sml G := by
  obtain ⟨h1, h2, h3, h4⟩ := built_ok hs
  obtain ⟨hsh, hsum⟩ := shp_built hs
  have hstd := GV_std hsh bs s.length _ _ (Nat.le_refl _) (GI.init hsh hsum)
  have hback := read_back s
  have hT := (bld_pair s s.length).tab
  have hrev := bld_flat s s.length (Nat.le_refl _)
  rw [List.take_length] at hrev
  have h12 := (seqC_ok hs).1
  generalize hG : GV bs s.length (List.replicate (shpI (bldR s s.length).1).length []) (shpI (bldR s s.length).1) = G at *
  obtain ⟨g1, g2, g3⟩ := hstd
  have hR : (readE (bldR s s.length).1 (bldR s s.length).2) = (s, 0) := by rw [readE_ok h1 h2 h3, h4, hback]
  generalize hRR : (bldR s s.length).1 = R at *
  generalize hOO : (bldR s s.length).2 = O at *
  have hl : G.length = R.length := by rw [g2]; simp [shpI]
  have he : ∀ i, i < R.length → elt (shpI R) i = ((row R i).length : Int) := fun i hi => by unfold elt shpI; simp [hi, row]
  have hrow : ∀ i, (row G i).length = (row R i).length := fun i => by
    rcases Nat.lt_or_ge i R.length with hi | hi
    · have h5 := g3 i (by simpa [shpI] using hi)
      rw [he i hi] at h5
      omega
    · rw [row_ge (R := G) (by omega), row_ge (R := R) hi]
  have hfl : G.flatten.length = s.length := by rw [flat_len2 hl hrow, h4]
  have hoc : orderC G = 0 := orderC_of h12 hfl g1
  have hsp : shpI R = shpI G := by
    unfold shpI
    apply List.ext_getElem (by simp [hl])
    intro i a1 a2
    simp only [List.length_map] at a1 a2
    have := hrow i
    rw [row_lt a1, row_lt a2] at this
    simp [this]
  have hb := bld_read s.length R G hT g1 hl hrow
  have htl := readR_len G s.length R
  have hre := readE_ok h1 hoc hsp
  rw [h4] at hre
  generalize readR G s.length R [] = t at *
  have hp := bld_flat t s.length (by omega)
  rw [hb, List.take_of_length_le (by omega)] at hp
  refine ⟨G, t, rfl, hR, hre, ?_, by rw [htl, hb], by rw [htl, hb], ⟨fun e => ?_, fun e => ?_⟩, ?_⟩
  · rw [seqC_perm (hrev.symm.trans hp), hs]
  · rw [e] at hb
    rw [← hOO, hb]
  · have h6 : readE R G = (s, 0) := by rw [e]; exact hR
    rw [h6] at hre
    exact (Prod.mk.inj hre).1.symm
  · have := buildE_sml t
    unfold buildE at this
    rw [if_neg (by simp [seqC_perm (hrev.symm.trans hp), hs]), htl, hb] at this
    exact this.2
theorem given_lit (x y : Value) (sh bs : List Int) (N : Nat) (G : List (List Int)) (w : World) (hx0 : RdI w .i64 x sh) (hy0 : RdI w .u8 y bs) (hsh : Shp sh) (hN : sumZ sh = (N : Int)) (hbs : ∀ i, i < bs.length → 0 ≤ elt bs i ∧ elt bs i ≤ 255) (h : GV bs N (List.replicate sh.length []) sh = G) :
    Calls Try.prog 40 #[x, y] w fun e w' => ∃ u, e = .returned u ∧ RdLL w' u G ∧ Below w.heap.size w w' := by
  subst h; exact given_any x y sh bs N w hx0 hy0 hsh hN hbs
theorem finet_lit (x : Value) (s : List Int) (w : World) (hx0 : RdI w .i64 x s) (h : seqC s = 0) : Calls Try.prog 38 #[x] w fun e w' => e = .returned (.bool true) ∧ Below w.heap.size w w' := by
  refine (fine_any x s w hx0).mono ?_
  rintro e w' ⟨rfl, rfl⟩
  rw [decide_eq_true h]; exact ⟨rfl, bz w⟩
theorem lintsb_lit (x y : Value) (xs ys : List Int) (b : Bool) (w : World) (hx : RdI w .i64 x xs) (hy : RdI w .i64 y ys) (h1 : xs.length ≤ 1000) (h2 : ys.length ≤ 1000) (h : decide (xs = ys) = b) :
    Calls Try.prog 33 #[x, y] w fun e w' => e = .returned (.bool b) ∧ Below w.heap.size w w' := by subst h; exact lints_any x y xs ys w hx hy h1 h2
theorem sameb_lit (x y : Value) (R S : List (List Int)) (b : Bool) (w : World) (hx : RdLL w x R) (hy : RdLL w y S) (hR : Sml R) (hS : Sml S) (h : decide (R = S) = b) :
    Calls Try.prog 26 #[x, y] w fun e w' => e = .returned (.bool b) ∧ Below w.heap.size w w' := by subst h; exact same_any x y R S w hx hy hR hS
set_option maxRecDepth 100000 in
set_option maxHeartbeats 3200000 in
theorem back_core (x y : Value) (s bs : List Int) (w : World) (hx0 : RdI w .i64 x s) (hy0 : RdI w .u8 y bs) (hbs : ∀ i, i < bs.length → 0 ≤ elt bs i ∧ elt bs i ≤ 255) (hs : seqC s = 0) (h30 : bs.length ≤ 30) :
    Calls Try.prog 7 #[x, y] w fun e w' => e = .returned (.bool true) ∧ Below w.heap.size w w' := by
  obtain ⟨G, t, hG1, hG2, hG3, hG4, hG5, hG6, hG7, hG8⟩ := given_back (bs := bs) hs
  have HSR := Lib.hid (built_sml hs)
  have HSH := Lib.hid (shp_built hs)
  have HSS := Lib.hid hs
  have HB3 := Lib.hid hbs
  have HSL := Lib.hid (show s.length ≤ 1000 by have := (seqC_ok hs).1; omega)
  have HTL := Lib.hid (show t.length ≤ 1000 by have := (seqC_ok hG4).1; omega)
  have H1 := Lib.hid hG1; have H2 := Lib.hid hG2; have H3 := Lib.hid hG3; have H4 := Lib.hid hG4; have H5 := Lib.hid hG5; have H6 := Lib.hid hG6; have H8 := Lib.hid hG8
  have H7 : Hid (decide (G = (bldR s s.length).2) = decide (t = s)) := Lib.hid (by rw [decide_eq_decide]; exact hG7.symm)
  have HBT := Lib.hid (fun xv wz h => built_lit xv t _ _ wz h H4.out H5.out H6.out)
  have n1 : ¬ (30 : Int) < (bs.length : Int) := by omega
  have HF := Lib.hid (fine_any x s w hx0)
  rw [decide_eq_true hs] at HF
  obtain ⟨al, ca, rfl, _, _, _⟩ := hx0.form
  obtain ⟨bl, cb, rfl, _, _, _⟩ := hy0.form
  have KP0 := Lib.hid (((keepB (bz w)).and (keepI hx0)).and (keepI hy0))
  have HBU := Lib.hid (fun wz h => built_any (.slice al s.length ca) s wz h HSS.out)
  generalize (bldR s s.length).1 = R at *
  generalize (bldR s s.length).2 = O at *
  have HD : Hid (decide (t = s) = decide (t = s)) := Lib.hid rfl
  generalize hdd : decide (t = s) = dd at H7
  have HDD := Lib.hid hdd
  have n2 : (dd == dd) = true := by simp
  clear hx0 hy0 hs hbs hG1 hG2 hG3 hG4 hG5 hG6 hG7 hG8 hdd HD
  go_enter Try.func7, Try.ntmps7
  go_wp2_with fail
  refine HF.out.mono ?_
  rintro e w' ⟨rfl, rfl⟩
  go_wp2_with fail
  have gx := KP0.out.here.2.1
  refine (HBU.out _ gx).mono ?_
  rintro e w1 ⟨vr, vo, rfl, hRr, hRo, hB⟩
  obtain ⟨ptr, qtr, hv⟩ := exL hRr R.length rfl
  subst hv
  obtain ⟨pto, qto, hv⟩ := exL hRo O.length rfl
  subst hv
  have KP1 := Lib.hid (((KP0.out.up hB).and (keepL hRr)).and (keepL hRo))
  clear KP0
  clear hB hRr hRo
  clear gx
  go_wp2_with fail
  have gr := KP1.out.here.2.1
  have go := KP1.out.here.1
  refine (read_lit _ _ R O s 0 _ gr go HSR.out.1 HSR.out.2 H2.out).mono ?_
  rintro e w2 ⟨vk, rfl, hRk, hB⟩
  obtain ⟨ptk, qtk, hv⟩ := exI hRk s.length rfl
  subst hv
  have KP2 := Lib.hid ((KP1.out.up hB).and (keepI hRk))
  clear KP1
  clear hB hRk
  clear gr go
  go_wp2_with fail
  have gr := KP2.out.here.2.2.1
  refine (shape_lit _ R (shpI R) _ gr HSR.out.1 rfl).mono ?_
  rintro e w3 ⟨vl, rfl, hRl, hB⟩
  obtain ⟨ptl, qtl, hv⟩ := exI hRl (shpI R).length rfl
  subst hv
  have KP3 := Lib.hid ((KP2.out.up hB).and (keepI hRl))
  clear KP2
  clear hB hRl
  clear gr
  go_wp2_with fail
  have gl := KP3.out.here.1
  have gy := KP3.out.here.2.2.2.2.1
  refine (given_lit _ _ (shpI R) bs s.length G _ gl gy HSH.out.1 HSH.out.2 HB3.out H1.out).mono ?_
  rintro e w4 ⟨vg, rfl, hRg, hB⟩
  obtain ⟨ptg, qtg, hv⟩ := exL hRg G.length rfl
  subst hv
  have KP4 := Lib.hid ((KP3.out.up hB).and (keepL hRg))
  clear KP3
  clear hB hRg
  clear gl gy
  go_wp2_with fail
  have gr := KP4.out.here.2.2.2.2.1
  have gg := KP4.out.here.1
  refine (read_lit _ _ R G t 0 _ gr gg HSR.out.1 H8.out H3.out).mono ?_
  rintro e w5 ⟨vt, rfl, hRt, hB⟩
  obtain ⟨ptt, qtt, hv⟩ := exI hRt t.length rfl
  subst hv
  have KP5 := Lib.hid ((KP4.out.up hB).and (keepI hRt))
  clear KP4
  clear hB hRt
  clear gr gg
  go_wp2_with fail
  have gk := KP5.out.here.2.2.2.1
  have gx := KP5.out.here.2.2.2.2.2.2.2.1
  refine (ints_lit _ _ s _ gk gx HSL.out).mono ?_
  rintro e w6 ⟨rfl, hB⟩
  have KP6 := Lib.hid (KP5.out.up hB)
  clear KP5
  clear hB
  clear gk gx
  go_wp2_with fail
  have gt := KP6.out.here.1
  refine (finet_lit _ t _ gt H4.out).mono ?_
  rintro e w7 ⟨rfl, hB⟩
  have KP7 := Lib.hid (KP6.out.up hB)
  clear KP6
  clear hB
  clear gt
  go_wp2_with fail
  have gt := KP7.out.here.1
  refine (HBT.out _ _ gt).mono ?_
  rintro e w8 ⟨vx2, vy2, rfl, hRx2, hRy2, hB⟩
  obtain ⟨ptx2, qtx2, hv⟩ := exL hRx2 R.length rfl
  subst hv
  obtain ⟨pty2, qty2, hv⟩ := exL hRy2 G.length rfl
  subst hv
  have KP8 := Lib.hid (((KP7.out.up hB).and (keepL hRx2)).and (keepL hRy2))
  clear KP7
  clear hB hRx2 hRy2
  clear gt
  go_wp2_with fail
  have gx2 := KP8.out.here.2.1
  have gr := KP8.out.here.2.2.2.2.2.2.2.1
  refine (same_lit _ _ R _ gx2 gr HSR.out.1).mono ?_
  rintro e w9 ⟨rfl, hB⟩
  have KP9 := Lib.hid (KP8.out.up hB)
  clear KP8
  clear hB
  clear gx2 gr
  go_wp2_with fail
  have gy2 := KP9.out.here.1
  have gg := KP9.out.here.2.2.2.1
  refine (same_lit _ _ G _ gy2 gg H8.out).mono ?_
  rintro e w10 ⟨rfl, hB⟩
  have KP10 := Lib.hid (KP9.out.up hB)
  clear KP9
  clear hB
  clear gy2 gg
  go_wp2_with fail
  have gt := KP10.out.here.2.2.1
  have gx := KP10.out.here.2.2.2.2.2.2.2.2.2.1
  refine (lintsb_lit _ _ t s dd _ gt gx HTL.out HSL.out HDD.out).mono ?_
  rintro e w11 ⟨rfl, hB⟩
  have KP11 := Lib.hid (KP10.out.up hB)
  clear KP10
  clear hB
  clear gt gx
  go_wp2_with fail
  have gg := KP11.out.here.2.2.2.1
  have go := KP11.out.here.2.2.2.2.2.2.1
  refine (sameb_lit _ _ G O dd _ gg go H8.out HSR.out.2 H7.out).mono ?_
  rintro e w12 ⟨rfl, hB⟩
  have KP12 := Lib.hid (KP11.out.up hB)
  clear KP11
  clear hB
  clear gg go
  go_wp2_with fail
  refine (works_any _).mono ?_
  rintro e w13 ⟨rfl, hB⟩
  have KP13 := Lib.hid (KP12.out.up hB)
  clear KP12
  clear hB
  go_wp2_with fail
  have gBelow := KP13.out.here.2.2.2.2.2.2.2.2.2.2
  go_ret
  exact ⟨rfl, gBelow⟩
set_option maxRecDepth 100000 in
set_option maxHeartbeats 3200000 in
theorem rackBack_walk (x y : Value) (s bs : List Int) (w : World) (hx0 : RdI w .i64 x s) (hy0 : RdI w .u8 y bs) (hbs : ∀ i, i < bs.length → 0 ≤ elt bs i ∧ elt bs i ≤ 255) :
    Calls Try.prog 7 #[x, y] w fun e w' => e = .returned (.bool true) ∧ Below w.heap.size w w' := by
  by_cases hs : seqC s = 0
  · by_cases hl : bs.length ≤ 30
    · exact back_core x y s bs w hx0 hy0 hbs hs hl
    · have HF := Lib.hid (fine_any x s w hx0)
      rw [decide_eq_true hs] at HF
      obtain ⟨al, ca, rfl, _, _, _⟩ := hx0.form
      obtain ⟨bl, cb, rfl, _, _, _⟩ := hy0.form
      have n1 : (30 : Int) < (bs.length : Int) := by omega
      clear hx0 hs
      have KP0 := Lib.hid (keepB (bz w))
      go_enter Try.func7, Try.ntmps7
      go_wp2_with fail
      refine HF.out.mono ?_
      rintro e w' ⟨rfl, rfl⟩
      go_wp2_with fail
      refine (works_any _).mono ?_
      rintro e w1 ⟨rfl, hB⟩
      have KP1 := Lib.hid (KP0.out.up hB)
      clear KP0
      clear hB
      go_wp2_with fail
      have gBelow := KP1.out.here
      go_ret
      exact ⟨rfl, gBelow⟩
  · have HF := Lib.hid (fine_any x s w hx0)
    rw [decide_eq_false hs] at HF
    obtain ⟨al, ca, rfl, _, _, _⟩ := hx0.form
    obtain ⟨bl, cb, rfl, _, _, _⟩ := hy0.form
    clear hx0 hs
    have KP0 := Lib.hid (keepB (bz w))
    go_enter Try.func7, Try.ntmps7
    go_wp2_with fail
    refine HF.out.mono ?_
    rintro e w' ⟨rfl, rfl⟩
    go_wp2_with fail
    refine (works_any _).mono ?_
    rintro e w1 ⟨rfl, hB⟩
    have KP1 := Lib.hid (KP0.out.up hB)
    clear KP0
    clear hB
    go_wp2_with fail
    have gBelow := KP1.out.here
    go_ret
    exact ⟨rfl, gBelow⟩
section
open Go.ChangeShapes Go.WideShapes Go.ChangeAt
set_option maxRecDepth 100000 in
theorem rackBack_lifted (os : Os) (started : os.Started) (H : Type) (enc : TypeId × Value → H) :
    ReturnsInHanded {} Try.checked os 7 .any (Rows.rackBackSpec.pre6 enc Try.prog Try.f7 Rows.rackBackRow.domain false) (Rows.rackBackSpec.post enc Try.prog Try.f7 false true false false) := by
  refine returnsInHanded_of_change (C := Try.checked) Try.own started (by kernel_rfl) Try.func7
    (ChangeSpec.witness6 (enc := enc) (C := Try.checked) false ⟨#[], #[.slice none 0 0, .slice none 0 0], []⟩ 8 (by kernel_rfl) (by kernel_rfl) (by kernel_rfl) (by kernel_rfl)) ?_
  intro W base args ds gs before hval0 hW _ _
  have hval : ∀ (j : Nat) t v, Try.f7.params[j]? = some t → args[j]? = some v → Value.okWide Try.prog W .any base t v := hval0
  have hW' := hW
  obtain ⟨p, q, hA0, hV, rfl, hfz, hnd⟩ := hW
  have hA : DataW.TrodAll enc Try.prog W 0 (fun _ => true) true Try.f7.params.toList args.toList ds p := hA0
  have hA2 := hA
  have hlt : ∀ x ∈ p, x.block < W.heap.size := fun x hx => hW'.lt x (List.mem_append_left _ hx)
  rw [Try.params7] at hA hval
  obtain ⟨v0, vs0, d0, ds0, p0, q0, hargs, rfl, rfl, h0, r0⟩ := trodAll_cons hA
  obtain ⟨v1, vs1, d1, ds1, p1, q1, rfl, rfl, rfl, h1, r1⟩ := trodAll_cons r0
  obtain ⟨rfl, rfl, rfl⟩ := trodAll_nil r1
  obtain rfl : args = #[v0, v1] := by cases args; simp_all
  obtain ⟨rfl, rfl⟩ := trodVars_none hV
  obtain ⟨X0, hx0, hw0⟩ := open_ints_rd Try.underlying31 Try.underlying3 (by kernel_rfl) (hval 0 31 v0 rfl rfl) h0 (fun x hx => hlt x (by simp [hx]))
  obtain ⟨X1, hx1, hw1⟩ := open_ints_rd Try.underlying44 Try.underlying5 (by kernel_rfl) (hval 1 44 v1 rfl rfl) h1 (fun x hx => hlt x (by simp [hx]))
  clear hA0 hval0
  simp only [List.append_nil] at hW' hA2
  refine (rackBack_walk v0 v1 X0 X1 W hx0 hx1 (fun i hi => wf8 (hw1 _ (elt_mem hi)))).mono fun e W' ⟨he, hb⟩ => ?_
  subst he
  exact ⟨_, rfl, law_post Try.laidOut Try.underlying4 hW' hA2 rfl rfl rfl rfl rfl (by kernel_rfl) hb⟩
theorem rackBack_holds : Rows.RackBackSaid :=
  OpenClaim.holds_of_wide 7 Try.f7 rfl rfl rfl rfl rfl rfl rfl ⟨rfl, rfl, rfl, rfl, rfl⟩ rfl rfl rfl rfl rfl (by kernel_rfl) Try.func7 (by kernel_rfl)
    (of_decide_eq_true (by kernel_rfl)) (by unfold Func.isWrapper; first | (rw [if_pos (by decide +kernel)]; kernel_rfl) | (rw [if_neg (by decide +kernel)]; exact ⟨rfl, rfl⟩))
    (fun os started H enc _ => rackBack_lifted os started H enc)
end
end Go.Proofs.Ytnnfahdhmodejaa
