/- BarrelGroup holds; no condition. -/
import Derived.Test.YtooddicegkiiiaaP12
namespace Go.Proofs.Ytooddicegkiiiaa
open Go.RowKit Go.Shelf

/-- Of the pairs of a list up to some place, one clashes. -/
def CLs (V : List (Int × Int)) (S : List Nat) (i k : Nat) : Prop := ∃ j m, m < j ∧ j < S.length ∧ (j < i ∨ (j = i ∧ m < k)) ∧ clB (pin V (S[m]?.getD 0)) (pin V (S[j]?.getD 0)) = true
def IsCl (V : List (Int × Int)) (S : List Nat) (i k : Nat) (cb : Bool) : Prop := cb = true ↔ CLs V S i k
theorem CLs.zero (V : List (Int × Int)) (S : List Nat) : ¬ CLs V S 0 0 := by rintro ⟨j, m, h1, h2, h3, _⟩; omega
theorem CLs.next {V : List (Int × Int)} {S : List Nat} {i : Nat} : CLs V S (i + 1) 0 ↔ CLs V S i i := by
  constructor
  · rintro ⟨j, m, h1, h2, h3, h4⟩; exact ⟨j, m, h1, h2, by omega, h4⟩
  · rintro ⟨j, m, h1, h2, h3, h4⟩; exact ⟨j, m, h1, h2, by omega, h4⟩
theorem CLs.step {V : List (Int × Int)} {S : List Nat} {i k : Nat} (hi : i < S.length) (hk : k < i) : CLs V S i (k + 1) ↔ CLs V S i k ∨ clB (pin V (S[k]?.getD 0)) (pin V (S[i]?.getD 0)) = true := by
  constructor
  · rintro ⟨j, m, h1, h2, h3, h4⟩
    by_cases e : j = i ∧ m = k
    · obtain ⟨rfl, rfl⟩ := e; exact .inr h4
    · exact .inl ⟨j, m, h1, h2, by omega, h4⟩
  · rintro (⟨j, m, h1, h2, h3, h4⟩ | h)
    · exact ⟨j, m, h1, h2, by omega, h4⟩
    · exact ⟨i, k, hk, hi, by omega, h⟩
theorem CLs.all {V : List (Int × Int)} {S : List Nat} : CLs V S S.length 0 ↔ ¬ Grp V S := by
  rw [grp_iff]
  constructor
  · rintro ⟨j, m, h1, h2, h3, h4⟩ h
    rw [h m j h1 h2] at h4; cases h4
  · intro h
    apply Classical.byContradiction
    intro hne
    refine h fun m j h1 h2 => ?_
    cases hc : clB (pin V (S[m]?.getD 0)) (pin V (S[j]?.getD 0)) with
    | false => rfl
    | true => exact absurd ⟨j, m, h1, h2, by omega, hc⟩ hne
theorem cg_all {V : List (Int × Int)} (hc : checkP V = 0) {S : List Nat} (hi : Inc V S) : (Grp V S → cgE V (natL S) = 0) ∧ (¬ Grp V S → cgE V (natL S) = 21) := by
  have h1 : incB V.length 0 (natL S) = true := incB_of S 0 hi.1 (fun i hx => ⟨Nat.zero_le _, hi.2 i hx⟩)
  unfold cgE
  rw [if_neg (by simpa using hc), if_pos h1, ixs_natL]
  exact ⟨fun h => if_pos h, fun h => if_neg h⟩
theorem grp_one {V : List (Int × Int)} (hc : checkP V = 0) : 1 ≤ (grpN V).length := by
  have h1 := (okPins_of hc).l1
  have := ((grp_top hc).beats (x := [0]) (beg_iff.2 ⟨⟨by simp, by simp; omega⟩, by simp [Grp]⟩)).1
  simpa using this
/-- Of a group that is as long as the first greatest one, the first number that differs is greater. -/
theorem grp_first {V : List (Int × Int)} (hc : checkP V = 0) {S : List Nat} (hi : Inc V S) (hg : Grp V S) : S.length ≤ (grpN V).length ∧ (S.length = (grpN V).length → ∀ k, k < S.length → (∀ j, j < k → S[j]?.getD 0 = (grpN V)[j]?.getD 0) → S[k]?.getD 0 ≠ (grpN V)[k]?.getD 0 → (grpN V)[k]?.getD 0 < S[k]?.getD 0) := by
  obtain ⟨h1, h2⟩ := (grp_top hc).beats (beg_iff.2 ⟨hi, hg⟩)
  refine ⟨h1, fun he k hk hj hne => ?_⟩
  rcases h2 he with h | h
  · exact absurd (by rw [h]) hne
  · obtain ⟨i, i1, i2, i3⟩ := bef_first _ _ h he.symm
    rcases Nat.lt_trichotomy i k with hlt | rfl | hgt
    · have := hj i hlt; omega
    · exact i3
    · exact absurd (i2 k hgt).symm hne

set_option maxRecDepth 100000 in
set_option maxHeartbeats 16000000 in
theorem barrelGroup_walk (x : Value) (V : List (Int × Int)) (b : Nat) (w : World) (hx : RdP w x V) (hb : b ≤ 255) :
    Calls Try.prog 15 #[x, .int .u8 b] w fun e w' => e = .returned (.bool true) ∧ Below w.heap.size w w' := by
  obtain ⟨a, c, rfl⟩ := hx.ex _ rfl
  have CW := Lib.hid (fun wz (hB : Below w.heap.size w wz) => works_any wz)
  have CF := Lib.hid (fun wz (hB : Below w.heap.size w wz) => fine_any _ V wz (hx.mono hB))
  by_cases hc : checkP V = 0
  · rw [hc] at CF
    have hV := okPins_of hc
    have h5 := hV.l5; have hl1 := hV.l1
    have hG1 := grp_one hc
    have hGi := (beg_iff.1 (grp_top hc).1).1
    have hGg := (beg_iff.1 (grp_top hc).1).2
    have CG := Lib.hid (fun wz (hB : Below w.heap.size w wz) => group_any _ V wz (hx.mono hB) (by omega))
    unfold GrpOk at CG
    rw [hc] at CG
    have CL := Lib.hid (fun wz (hB : Below w.heap.size w wz) => listed_any b V.length wz (by omega))
    have hGl := hGi.len
    have HCG := Lib.hid (fun v wz (hB : Below w.heap.size w wz) (hy : RdI wz .i64 v (natL (grpN V))) => checkgroup_any (.slice a V.length c) v V (natL (grpN V)) wz (hx.mono hB) hy (by omega) (by rw [natL_len]; omega))
    have HRG := Lib.hid (fun v wz (hB : Below w.heap.size w wz) (hy : RdI wz .i64 v (natL (grpN V))) => rcheckgroup_any (.slice a V.length c) v V (natL (grpN V)) wz (hx.mono hB) hy (by omega) (by rw [natL_len]; omega))
    rw [(cg_all hc hGi).1 hGg] at HCG HRG
    have hSi : Inc V (lst b V.length) := lst_inc b V.length
    have HFI := Lib.hid (fun hg => grp_first hc hSi hg)
    obtain ⟨S, hS⟩ : ∃ S, lst b V.length = S := ⟨_, rfl⟩
    rw [hS] at hSi HFI CL
    have hSl := hSi.len
    have HSI := Lib.hid hSi
    have HSG := Lib.hid (fun v wz (hB : Below w.heap.size w wz) (hy : RdI wz .i64 v (natL S)) => checkgroup_any (.slice a V.length c) v V (natL S) wz (hx.mono hB) hy (by omega) (by rw [natL_len]; omega))
    have HCA := Lib.hid (cg_all hc hSi)
    have HSM := Lib.hid (fun v wz (hB : Below w.heap.size w wz) (hy : RdI wz .i64 v (natL S)) => some_any (.slice a V.length c) v V S wz (hx.mono hB) hy hSi.2 (by omega))
    have HTO := Lib.hid (fun (h1 : 1 ≤ S.length) v wz (hy : RdP wz v (S.map (pin V))) => together_ok v (S.map (pin V)) wz hy (check_of_ok ⟨by rw [List.length_map]; exact h1, by rw [List.length_map]; omega, okv_map hV.v hSi.2⟩))
    have HFR : Hid (jO (S.map (pin V)) = true ↔ Grp V S) := Lib.hid (by rw [jO_free (okv_map hV.v hSi.2), grp_free])
    have HCK := Lib.hid (fun (i k : Nat) (hi : i < V.length) (hk : k < V.length) (hik : i ≠ k) => cc_at hc hi hk hik)
    have HGC := Lib.hid (fun (i k : Nat) (hi : i < V.length) h => clB_gcd (a := pin V i) (b := pin V k) (hV.v.at hi).1 h)
    have CK := Lib.hid (fun wz (hB : Below w.heap.size w wz) => (fun (i k : Nat) => checkclash_any _ V i k wz (hx.mono hB) (by omega)))
    clear hc hV hGi hGg hx hS hSi
    generalize hGn : grpN V = G at *
    clear hGn
    have KB0 := Lib.hid (bz w)
    go_enter Try.func15, Try.ntmps15
    go_wp2_with fail
    refine (CF.out _ KB0.out).mono ?_
    rintro e w1 ⟨rfl, hk⟩
    have KB1 := Lib.hid (btr KB0.out hk)
    clear KB0 hk
    go_wp2_with fail
    refine (CG.out _ KB1.out).mono ?_
    rintro e w2 ⟨v, rfl, fG, hk⟩
    obtain ⟨aG, cG, hv⟩ := fG.ex G.length (natL_len _)
    subst hv
    have KB2 := Lib.hid (btr KB1.out hk)
    have HG2 := Lib.hid fG
    clear KB1 fG hk
    go_wp2_with fail
    refine (HCG.out _ _ KB2.out HG2.out).mono ?_
    rintro e w3 ⟨rfl, hk⟩
    have KB3 := Lib.hid (btr KB2.out hk)
    have HG3 := Lib.hid (HG2.out.mono hk)
    clear KB2 HG2 hk
    go_wp2_with fail
    refine (HRG.out _ _ KB3.out HG3.out).mono ?_
    rintro e w4 ⟨rfl, hk⟩
    have KB4 := Lib.hid (btr KB3.out hk)
    have HG4 := Lib.hid (HG3.out.mono hk)
    clear KB3 HG3 hk
    go_wp2_with fail
    refine (CL.out _ KB4.out).mono ?_
    rintro e w5 ⟨v, rfl, fS, hk⟩
    obtain ⟨aS, cS, hv⟩ := fS.ex S.length (natL_len _)
    subst hv
    have KB5 := Lib.hid (btr KB4.out hk)
    have HG5 := Lib.hid (HG4.out.mono hk)
    have HS5 := Lib.hid fS
    clear KB4 HG4 fS hk
    go_wp2_with fail
    have hz : w5.heap.size ≤ w5.heap.size := Nat.le_refl _
    clear hz
    go_loopw [8, 9, 10, 11, 12] (fun s8 s9 _ _ _ wr => ∃ (i : Nat) (cb : Bool), i ≤ S.length ∧ s8 = .bool cb ∧ s9 = .int .i64 i ∧ Hid (IsCl V S i 0 cb) ∧ Below w5.heap.size w5 wr) (fun _ i _ _ _ _ => S.length - (intOf i).toNat)
    case atStart => exact ⟨0, false, Nat.zero_le _, rfl, rfl, Lib.hid ⟨fun h => (by cases h), fun h => absurd h (CLs.zero V S)⟩, bz _⟩
    case round =>
      obtain ⟨i, cb, hi, rfl, rfl, HCB, hBr⟩ := hrel
      have KBL := Lib.hid hBr
      clear hBr
      by_cases hlt : i < S.length
      · go_wp2_with fail
        go_loopw [8, 10, 11, 12] (fun s8 s10 _ _ wq => ∃ (k : Nat) (cc : Bool), k ≤ i ∧ s8 = .bool cc ∧ s10 = .int .i64 k ∧ Hid (IsCl V S i k cc) ∧ Below w5.heap.size w5 wq) (fun _ k _ _ _ => i - (intOf k).toNat)
        case atStart => exact ⟨0, cb, Nat.zero_le _, rfl, rfl, HCB, KBL.out⟩
        case round =>
          obtain ⟨k, cc, hk, rfl, rfl, HCC, hBr⟩ := hrel
          clear KBL HCB
          have KBL := Lib.hid hBr
          clear hBr
          by_cases hki : k < i
          · obtain ⟨_, _, e, _, _, hce⟩ := HS5.out.form
            rw [natL_len] at e hce
            cases e
            obtain ⟨bs, os, rfl, hbs, hce⟩ := hce (by omega)
            have g0 := hce k (by omega)
            have g1 := hce i (by omega)
            rw [natL_get S k (by omega)] at g0
            rw [natL_get S i (by omega)] at g1
            obtain ⟨j1, j2⟩ := HSI.out.lt hki hlt
            have hst := CLs.step (V := V) hlt hki
            obtain ⟨e1, e2⟩ := HCK.out (S[k]?.getD 0) (S[i]?.getD 0) (by omega) j2 (by omega)
            have hgc := HGC.out (S[k]?.getD 0) (S[i]?.getD 0) (by omega)
            have CKK := Lib.hid (fun wz (hB : Below w5.heap.size w5 wz) => CK.out wz (btr KB5.out hB) (S[k]?.getD 0) (S[i]?.getD 0))
            rw [e1, e2] at CKK
            have HC0 := Lib.hid (fun wz (hB : Below w5.heap.size w5 wz) => (hB.cell (p := ⟨bs, os + k, none⟩) hbs).trans g0)
            have HC1 := Lib.hid (fun wz (hB : Below w5.heap.size w5 wz) => (hB.cell (p := ⟨bs, os + i, none⟩) hbs).trans g1)
            have HZB := Lib.hid (fun wz (hB : Below w5.heap.size w5 wz) => Nat.lt_of_lt_of_le hbs hB.size)
            clear e1 e2 g0 g1 hce hbs
            generalize gcdI (pin V (S[k]?.getD 0)).1 (pin V (S[i]?.getD 0)).1 = gg at *
            generalize clB (pin V (S[k]?.getD 0)) (pin V (S[i]?.getD 0)) = cl at *
            generalize S[k]?.getD 0 = sk at *
            generalize S[i]?.getD 0 = si at *
            have HST := Lib.hid hst
            clear hst
            cases cl
            · rw [if_neg (by decide), if_neg (by decide)] at CKK
              clear hgc
              cases cc
              · have HCN : Hid (IsCl V S i (k + 1) false) := Lib.hid ⟨fun h => (by cases h), fun h => (HST.out.1 h).elim (fun h => HCC.out.2 h) (fun h => (by cases h))⟩
                go_upto_region 14 with fail
                refine wp_region_flow [] [([0, 1, 2, 3, 4, 5, 6, 7, 8], 9, true)] [10, 11, 12, 13, 14] (by kernel_rfl) (by kernel_rfl) ?_
                intro w31 hk hh
                clear hh
                have KB31 := Lib.hid (btr KBL.out hk)
                have c0 := HC0.out _ KB31.out
                have c1 := HC1.out _ KB31.out
                have zb := HZB.out _ KB31.out
                have hL := @Later.cell w31
                have HW := Lib.hid (bz w31)
                clear KBL hk
                simp only [flowP, flow, pickL, List.getElem?_cons_succ, List.getElem?_cons_zero]
                refine wpQuiet_nil ?_
                repeat (go_big_quiet_step (fail))
                refine wpQuiet_nil ?_
                go_wp2_with fail
                refine (CKK.out _ KB31.out).mono ?_
                rintro e w32 ⟨rfl, hk⟩
                have KB32 := Lib.hid (btr KB31.out hk)
                have HW2 := Lib.hid (btr HW.out hk)
                clear HW KB31
                go_wp2
                refine seg_grow ⟨⟨_, HW2.out⟩, rfl⟩ ?_
                have HW := HW2
                clear HW2 hk
                repeat (go_big_quiet_step (fail))
                refine wpQuiet_nil ?_
                refine only_done ?_
                clear HW c0 c1 zb hL
                go_wp2_with fail
                go_roundw
                case rel => exact ⟨k + 1, false, by omega, rfl, by go_num, HCN, KB32.out⟩
                case measure => simp [intOf]; omega
              · have HCN : Hid (IsCl V S i (k + 1) true) := Lib.hid ⟨fun _ => HST.out.2 (.inl (HCC.out.1 rfl)), fun _ => rfl⟩
                go_upto_region 14 with fail
                refine wp_region_flow [] [([0, 1, 2, 3, 4, 5, 6, 7, 8], 9, true)] [10, 11, 12, 13, 14] (by kernel_rfl) (by kernel_rfl) ?_
                intro w31 hk hh
                clear hh
                have KB31 := Lib.hid (btr KBL.out hk)
                have c0 := HC0.out _ KB31.out
                have c1 := HC1.out _ KB31.out
                have zb := HZB.out _ KB31.out
                have hL := @Later.cell w31
                have HW := Lib.hid (bz w31)
                clear KBL hk
                simp only [flowP, flow, pickL, List.getElem?_cons_succ, List.getElem?_cons_zero]
                refine wpQuiet_nil ?_
                repeat (go_big_quiet_step (fail))
                refine wpQuiet_nil ?_
                go_wp2_with fail
                refine (CKK.out _ KB31.out).mono ?_
                rintro e w32 ⟨rfl, hk⟩
                have KB32 := Lib.hid (btr KB31.out hk)
                have HW2 := Lib.hid (btr HW.out hk)
                clear HW KB31
                go_wp2
                refine seg_grow ⟨⟨_, HW2.out⟩, rfl⟩ ?_
                have HW := HW2
                clear HW2 hk
                repeat (go_big_quiet_step (fail))
                refine wpQuiet_nil ?_
                refine only_done ?_
                clear HW c0 c1 zb hL
                go_wp2_with fail
                go_roundw
                case rel => exact ⟨k + 1, true, by omega, rfl, by go_num, HCN, KB32.out⟩
                case measure => simp [intOf]; omega
            · have hgg := hgc rfl
              rw [if_pos rfl, if_pos rfl] at CKK
              have d1 : decide (gg < 2) = false := decide_eq_false (by omega)
              clear hgc
              cases cc
              · have HCN : Hid (IsCl V S i (k + 1) true) := Lib.hid ⟨fun _ => HST.out.2 (.inr rfl), fun _ => rfl⟩
                go_upto_region 14 with fail
                refine wp_region_flow [] [([0, 1, 2, 3, 4, 5, 6, 7, 8], 9, true)] [10, 11, 12, 13, 14] (by kernel_rfl) (by kernel_rfl) ?_
                intro w31 hk hh
                clear hh
                have KB31 := Lib.hid (btr KBL.out hk)
                have c0 := HC0.out _ KB31.out
                have c1 := HC1.out _ KB31.out
                have zb := HZB.out _ KB31.out
                have hL := @Later.cell w31
                have HW := Lib.hid (bz w31)
                clear KBL hk
                simp only [flowP, flow, pickL, List.getElem?_cons_succ, List.getElem?_cons_zero]
                refine wpQuiet_nil ?_
                repeat (go_big_quiet_step (fail))
                refine wpQuiet_nil ?_
                go_wp2_with fail
                refine (CKK.out _ KB31.out).mono ?_
                rintro e w32 ⟨rfl, hk⟩
                have KB32 := Lib.hid (btr KB31.out hk)
                have HW2 := Lib.hid (btr HW.out hk)
                clear HW KB31
                go_wp2
                refine seg_grow ⟨⟨_, HW2.out⟩, rfl⟩ ?_
                have HW := HW2
                clear HW2 hk
                repeat (go_big_quiet_step (fail))
                refine wpQuiet_nil ?_
                refine only_done ?_
                clear HW c0 c1 zb hL
                go_wp2_with fail
                go_roundw
                case rel => exact ⟨k + 1, true, by omega, rfl, by go_num, HCN, KB32.out⟩
                case measure => simp [intOf]; omega
              · have HCN : Hid (IsCl V S i (k + 1) true) := Lib.hid ⟨fun _ => HST.out.2 (.inr rfl), fun _ => rfl⟩
                go_upto_region 14 with fail
                refine wp_region_flow [] [([0, 1, 2, 3, 4, 5, 6, 7, 8], 9, true)] [10, 11, 12, 13, 14] (by kernel_rfl) (by kernel_rfl) ?_
                intro w31 hk hh
                clear hh
                have KB31 := Lib.hid (btr KBL.out hk)
                have c0 := HC0.out _ KB31.out
                have c1 := HC1.out _ KB31.out
                have zb := HZB.out _ KB31.out
                have hL := @Later.cell w31
                have HW := Lib.hid (bz w31)
                clear KBL hk
                simp only [flowP, flow, pickL, List.getElem?_cons_succ, List.getElem?_cons_zero]
                refine wpQuiet_nil ?_
                repeat (go_big_quiet_step (fail))
                refine wpQuiet_nil ?_
                go_wp2_with fail
                refine (CKK.out _ KB31.out).mono ?_
                rintro e w32 ⟨rfl, hk⟩
                have KB32 := Lib.hid (btr KB31.out hk)
                have HW2 := Lib.hid (btr HW.out hk)
                clear HW KB31
                go_wp2
                refine seg_grow ⟨⟨_, HW2.out⟩, rfl⟩ ?_
                have HW := HW2
                clear HW2 hk
                repeat (go_big_quiet_step (fail))
                refine wpQuiet_nil ?_
                refine only_done ?_
                clear HW c0 c1 zb hL
                go_wp2_with fail
                go_roundw
                case rel => exact ⟨k + 1, true, by omega, rfl, by go_num, HCN, KB32.out⟩
                case measure => simp [intOf]; omega
          · have hke : k = i := by omega
            subst hke
            have HCN : Hid (IsCl V S (k + 1) 0 cc) := Lib.hid (by unfold IsCl; rw [CLs.next]; exact HCC.out)
            clear HCC
            go_wp2_with fail
            go_roundw
            case rel => exact ⟨k + 1, cc, by omega, rfl, by go_num, HCN, KBL.out⟩
            case measure => simp [intOf]; omega
      · have hie : i = S.length := by omega
        have hcb := HCB.out
        unfold IsCl at hcb
        rw [hie, CLs.all] at hcb
        have KBE := Lib.hid (btr KB5.out KBL.out)
        have HSE0 := Lib.hid (HS5.out.mono KBL.out)
        have HGE0 := Lib.hid (HG5.out.mono KBL.out)
        have HIE := Lib.hid hie
        clear HCB hie KBL KB5 HS5 HG5 CG CL HCG HRG CF
        cases cb
        · have hgr : Grp V S := Classical.byContradiction fun h => by have := hcb.2 h; cases this
          obtain ⟨f1, f2⟩ := HFI.out hgr
          have hfr := HFR.out.2 hgr
          have hca := HCA.out.1 hgr
          rw [hca] at HSG
          have HF2 := Lib.hid f2
          clear hcb hgr HFI HFR HCA hca f2
          by_cases hs1 : 1 ≤ S.length
          · have HTO1 := Lib.hid (fun v wz hy => HTO.out hs1 v wz hy)
            rw [hfr] at HTO1
            clear HTO hfr
            generalize hU : S.map (pin V) = U at *
            clear hU
            go_wp2_with fail
            refine (HSG.out _ _ KBE.out HSE0.out).mono ?_
            rintro e w41 ⟨rfl, hk⟩
            have KB41 := Lib.hid (btr KBE.out hk)
            have HSE41 := Lib.hid (HSE0.out.mono hk)
            have HGE41 := Lib.hid (HGE0.out.mono hk)
            clear KBE HSE0 HGE0 hk
            go_wp2_with fail
            refine (HSM.out _ _ KB41.out HSE41.out).mono ?_
            rintro e w42 ⟨v, rfl, fU, hk⟩
            have KB42 := Lib.hid (btr KB41.out hk)
            have HSE42 := Lib.hid (HSE41.out.mono hk)
            have HGE42 := Lib.hid (HGE41.out.mono hk)
            have HU42 := Lib.hid fU
            clear KB41 HSE41 HGE41 fU hk
            go_wp2_with fail
            refine (HTO1.out _ _ HU42.out).mono ?_
            rintro e w43 ⟨rfl, hk⟩
            have KB43 := Lib.hid (btr KB42.out hk)
            have HSE43 := Lib.hid (HSE42.out.mono hk)
            have HGE43 := Lib.hid (HGE42.out.mono hk)
            have HU43 := Lib.hid (HU42.out.mono hk)
            clear KB42 HSE42 HGE42 HU42 hk
            by_cases hlg : S.length < G.length
            · go_wp2_with fail
              refine (CW.out _ KB43.out).mono ?_
              rintro e w44 ⟨rfl, hk⟩
              have KB44 := Lib.hid (btr KB43.out hk)
              have HSE44 := Lib.hid (HSE43.out.mono hk)
              have HGE44 := Lib.hid (HGE43.out.mono hk)
              have HU44 := Lib.hid (HU43.out.mono hk)
              clear KB43 HSE43 HGE43 HU43 hk
              go_wp2_with fail
              go_ret
              exact ⟨rfl, KB44.out⟩
            · have hle : S.length = G.length := by omega
              have HF3 := Lib.hid (HF2.out hle)
              have hel : ((S.length : Int) == (G.length : Int)) = true := by rw [hle]; simp
              have hel2 : (S.length == G.length) = true := by rw [hle]; simp
              have HLE := Lib.hid hle
              clear hle HF2
              go_wp2_with fail
              go_loopw [18] (fun i wr => ∃ k : Nat, k ≤ G.length ∧ i = .int .i64 k ∧ Hid (∀ j, j < k → S[j]?.getD 0 = G[j]?.getD 0) ∧ Below w43.heap.size w43 wr) (fun i _ => G.length - (intOf i).toNat)
              case atStart => exact ⟨0, Nat.zero_le _, rfl, Lib.hid (fun j h => by omega), bz _⟩
              case round =>
                obtain ⟨k, hk, rfl, HEQ, hBr⟩ := hrel
                have KBL := Lib.hid hBr
                clear hBr
                by_cases hlt : k < G.length
                · have hls := HLE.out
                  obtain ⟨_, _, e, _, _, hce⟩ := HSE43.out.form
                  rw [natL_len] at e hce
                  cases e
                  obtain ⟨bs, os, rfl, hbs, hce⟩ := hce (by omega)
                  have g0 := hce k (by omega)
                  rw [natL_get S k (by omega)] at g0
                  obtain ⟨_, _, e, _, _, hcg⟩ := HGE43.out.form
                  rw [natL_len] at e hcg
                  cases e
                  obtain ⟨bg, og, rfl, hbg, hcg⟩ := hcg (by omega)
                  have g1 := hcg k (by omega)
                  rw [natL_get G k (by omega)] at g1
                  have hfi := HF3.out k (by omega) HEQ.out
                  have HC0 := Lib.hid (fun wz (hB : Below w43.heap.size w43 wz) => (hB.cell (p := ⟨bs, os + k, none⟩) hbs).trans g0)
                  have HC1 := Lib.hid (fun wz (hB : Below w43.heap.size w43 wz) => (hB.cell (p := ⟨bg, og + k, none⟩) hbg).trans g1)
                  have HZS := Lib.hid (fun wz (hB : Below w43.heap.size w43 wz) => Nat.lt_of_lt_of_le hbs hB.size)
                  have HZG := Lib.hid (fun wz (hB : Below w43.heap.size w43 wz) => Nat.lt_of_lt_of_le hbg hB.size)
                  have CWW := Lib.hid (fun wz (hB : Below w43.heap.size w43 wz) => CW.out wz (btr KB43.out hB))
                  have HNX := Lib.hid (fun (h : S[k]?.getD 0 = G[k]?.getD 0) => (show ∀ j, j < k + 1 → S[j]?.getD 0 = G[j]?.getD 0 from fun j hj => by
                    by_cases e : j = k
                    · subst e; exact h
                    · exact HEQ.out j (by omega)))
                  clear g0 g1 hce hcg hbs hbg HEQ hls
                  generalize S[k]?.getD 0 = sk at *
                  generalize G[k]?.getD 0 = gk at *
                  by_cases hsg : sk = gk
                  · have HNN := Lib.hid (HNX.out hsg)
                    have t1 : ((sk : Int) != (gk : Int)) = false := by rw [hsg]; simp
                    have t2 : (sk != gk) = false := by rw [hsg]; simp
                    clear hsg hfi HNX
                    go_upto_region 30 with fail
                    refine wp_region_flow [] [] [0, 1, 2, 3, 4, 5, 6, 7, 8] (by kernel_rfl) (by kernel_rfl) ?_
                    intro w71 hk hh
                    clear hh
                    have KB71 := Lib.hid (btr KBL.out hk)
                    have c0 := HC0.out _ KB71.out
                    have c1 := HC1.out _ KB71.out
                    have zs := HZS.out _ KB71.out
                    have zg := HZG.out _ KB71.out
                    have hL := @Later.cell w71
                    have HW := Lib.hid (bz w71)
                    clear KBL hk
                    simp only [flowP, flow, pickL, List.getElem?_cons_succ, List.getElem?_cons_zero]
                    refine wpQuiet_nil ?_
                    repeat (go_big_quiet_step (fail))
                    refine wpQuiet_nil ?_
                    refine only_done ?_
                    clear HW c0 c1 zs zg hL
                    go_wp2_with fail
                    go_roundw
                    case rel => exact ⟨k + 1, by omega, by go_num, HNN, KB71.out⟩
                    case measure => simp [intOf]; omega
                  · have hgt := hfi hsg
                    have t1 : ((sk : Int) != (gk : Int)) = true := by rw [bne_iff_ne]; omega
                    have t2 : (sk != gk) = true := by rw [bne_iff_ne]; omega
                    have t3 : decide ((gk : Int) < (sk : Int)) = true := decide_eq_true (by omega)
                    have t4 : decide (gk < sk) = true := decide_eq_true hgt
                    clear hfi HNX
                    go_upto_region 30 with fail
                    refine wp_region_flow [] [] [0, 1, 2, 3, 4, 5, 6, 7, 8] (by kernel_rfl) (by kernel_rfl) ?_
                    intro w71 hk hh
                    clear hh
                    have KB71 := Lib.hid (btr KBL.out hk)
                    have c0 := HC0.out _ KB71.out
                    have c1 := HC1.out _ KB71.out
                    have zs := HZS.out _ KB71.out
                    have zg := HZG.out _ KB71.out
                    have hL := @Later.cell w71
                    have HW := Lib.hid (bz w71)
                    clear KBL hk
                    simp only [flowP, flow, pickL, List.getElem?_cons_succ, List.getElem?_cons_zero]
                    refine wpQuiet_nil ?_
                    repeat (go_big_quiet_step (fail))
                    refine wpQuiet_nil ?_
                    refine only_done ?_
                    clear HW c0 c1 zs zg hL
                    go_upto_region 31 with fail
                    refine wp_region_flow [] [([0, 1, 2, 3, 4, 5, 6, 7, 8, 9], 10, true)] [11, 12] (by kernel_rfl) (by kernel_rfl) ?_
                    intro w72 hk hh
                    clear hh
                    have KB72 := Lib.hid (btr KB71.out hk)
                    have c0 := HC0.out _ KB72.out
                    have c1 := HC1.out _ KB72.out
                    have zs := HZS.out _ KB72.out
                    have zg := HZG.out _ KB72.out
                    have hL := @Later.cell w72
                    have HW := Lib.hid (bz w72)
                    clear KB71 hk
                    simp only [flowP, flow, pickL, List.getElem?_cons_succ, List.getElem?_cons_zero]
                    refine wpQuiet_nil ?_
                    repeat (go_big_quiet_step (fail))
                    refine wpQuiet_nil ?_
                    go_wp2_with fail
                    refine (CWW.out _ KB72.out).mono ?_
                    rintro e w73 ⟨rfl, hk⟩
                    have KB73 := Lib.hid (btr KB72.out hk)
                    have HW2 := Lib.hid (btr HW.out hk)
                    clear HW KB72
                    go_wp2
                    refine seg_grow ⟨⟨_, HW2.out⟩, rfl⟩ ?_
                    have HW := HW2
                    clear HW2 hk
                    repeat (go_big_quiet_step (fail))
                    refine wpQuiet_nil ?_
                    refine only_done ?_
                    clear HW c0 c1 zs zg hL
                    go_wp2_with fail
                    go_ret
                    exact ⟨rfl, btr KB43.out KB73.out⟩
                · have hke : G.length ≤ k := by omega
                  have KBF := Lib.hid (btr KB43.out KBL.out)
                  clear KBL KB43 HEQ
                  go_wp2_with fail
                  refine (CW.out _ KBF.out).mono ?_
                  rintro e w91 ⟨rfl, hk⟩
                  have KB91 := Lib.hid (btr KBF.out hk)
                  clear KBF hk
                  go_wp2_with fail
                  go_ret
                  exact ⟨rfl, KB91.out⟩
          · have hs0 : S.length < G.length := by omega
            go_wp2_with fail
            refine (HSG.out _ _ KBE.out HSE0.out).mono ?_
            rintro e w41 ⟨rfl, hk⟩
            have KB41 := Lib.hid (btr KBE.out hk)
            have HSE41 := Lib.hid (HSE0.out.mono hk)
            have HGE41 := Lib.hid (HGE0.out.mono hk)
            clear KBE HSE0 HGE0 hk
            go_wp2_with fail
            refine (CW.out _ KB41.out).mono ?_
            rintro e w42 ⟨rfl, hk⟩
            have KB42 := Lib.hid (btr KB41.out hk)
            have HSE42 := Lib.hid (HSE41.out.mono hk)
            have HGE42 := Lib.hid (HGE41.out.mono hk)
            clear KB41 HSE41 HGE41 hk
            go_wp2_with fail
            go_ret
            exact ⟨rfl, KB42.out⟩
        · have hgr := hcb.1 rfl
          have hfr : jO (S.map (pin V)) = false := by
            cases h : jO (S.map (pin V)) with
            | false => rfl
            | true => exact absurd (HFR.out.1 h) hgr
          have hca := HCA.out.2 hgr
          rw [hca] at HSG
          have hs1 : 1 ≤ S.length := by
            rcases Nat.eq_zero_or_pos S.length with h | h
            · exact absurd (by rw [List.length_eq_zero_iff.1 h]; exact List.Pairwise.nil) hgr
            · exact h
          have HTO1 := Lib.hid (fun v wz hy => HTO.out hs1 v wz hy)
          rw [hfr] at HTO1
          clear hcb hgr HFI HFR HCA hca HTO hfr
          generalize hU : S.map (pin V) = U at *
          clear hU
          go_wp2_with fail
          refine (HSG.out _ _ KBE.out HSE0.out).mono ?_
          rintro e w41 ⟨rfl, hk⟩
          have KB41 := Lib.hid (btr KBE.out hk)
          have HSE41 := Lib.hid (HSE0.out.mono hk)
          have HGE41 := Lib.hid (HGE0.out.mono hk)
          clear KBE HSE0 HGE0 hk
          go_wp2_with fail
          refine (HSM.out _ _ KB41.out HSE41.out).mono ?_
          rintro e w42 ⟨v, rfl, fU, hk⟩
          have KB42 := Lib.hid (btr KB41.out hk)
          have HSE42 := Lib.hid (HSE41.out.mono hk)
          have HGE42 := Lib.hid (HGE41.out.mono hk)
          have HU42 := Lib.hid fU
          clear KB41 HSE41 HGE41 fU hk
          go_wp2_with fail
          refine (HTO1.out _ _ HU42.out).mono ?_
          rintro e w43 ⟨rfl, hk⟩
          have KB43 := Lib.hid (btr KB42.out hk)
          have HSE43 := Lib.hid (HSE42.out.mono hk)
          have HGE43 := Lib.hid (HGE42.out.mono hk)
          have HU43 := Lib.hid (HU42.out.mono hk)
          clear KB42 HSE42 HGE42 HU42 hk
          go_wp2_with fail
          refine (CW.out _ KB43.out).mono ?_
          rintro e w44 ⟨rfl, hk⟩
          have KB44 := Lib.hid (btr KB43.out hk)
          have HSE44 := Lib.hid (HSE43.out.mono hk)
          have HGE44 := Lib.hid (HGE43.out.mono hk)
          have HU44 := Lib.hid (HU43.out.mono hk)
          clear KB43 HSE43 HGE43 HU43 hk
          go_wp2_with fail
          go_ret
          exact ⟨rfl, KB44.out⟩
  · have hcb : (checkP V == 0) = false := by simpa using hc
    rw [hcb] at CF
    have KB0 := Lib.hid (bz w)
    go_enter Try.func15, Try.ntmps15
    go_wp2_with fail
    refine (CF.out _ KB0.out).mono ?_
    rintro e w1 ⟨rfl, hk⟩
    have KB1 := Lib.hid (btr KB0.out hk)
    clear KB0 hk
    go_wp2_with fail
    refine (CW.out _ KB1.out).mono ?_
    rintro e w2 ⟨rfl, hk⟩
    have KB2 := Lib.hid (btr KB1.out hk)
    clear KB1 hk
    go_wp2_with fail
    go_ret
    exact ⟨rfl, KB2.out⟩
theorem barrelGroup_walk_i (x : Value) (V : List (Int × Int)) (z : Int) (w : World) (hx : RdP w x V) (h0 : 0 ≤ z) (h1 : z ≤ 255) :
    Calls Try.prog 15 #[x, .int .u8 z] w fun e w' => e = .returned (.bool true) ∧ Below w.heap.size w w' := by
  obtain ⟨b, rfl⟩ := Int.eq_ofNat_of_zero_le h0
  exact barrelGroup_walk x V b w hx (by omega)
section
open Go.ChangeShapes Go.WideShapes Go.ChangeAt
set_option maxRecDepth 100000 in
theorem barrelGroup_lifted (os : Os) (started : os.Started) (H : Type) (enc : TypeId × Value → H) :
    ReturnsInHanded {} Try.checked os 15 .any (Rows.barrelGroupSpec.pre6 enc Try.prog Try.f15 Rows.barrelGroupRow.domain false) (Rows.barrelGroupSpec.post enc Try.prog Try.f15 false true false false) := by
  refine returnsInHanded_of_change (C := Try.checked) Try.own started (by kernel_rfl) Try.func15
    (ChangeSpec.witness6 (enc := enc) (C := Try.checked) false ⟨#[], #[.slice none 0 0, .int .u8 0], []⟩ 8 (by kernel_rfl) (by kernel_rfl) (by kernel_rfl) (by kernel_rfl)) ?_
  intro W base args ds gs before hval0 hW _ _
  have hval : ∀ (j : Nat) t v, Try.f15.params[j]? = some t → args[j]? = some v → Value.okWide Try.prog W .any base t v := hval0
  have hW' := hW
  obtain ⟨p, q, hA0, hV, rfl, hfz, hnd⟩ := hW
  have hA : DataW.TrodAll enc Try.prog W 0 (fun _ => true) true Try.f15.params.toList args.toList ds p := hA0
  have hA2 := hA
  have hlt : ∀ x ∈ p, x.block < W.heap.size := fun x hx => hW'.lt x (List.mem_append_left _ hx)
  rw [Try.params15] at hA hval
  obtain ⟨v0, vs0, d0, ds0, p0, q0, hargs, rfl, rfl, h0, r0⟩ := trodAll_cons hA
  obtain ⟨v1, vs1, d1, ds1, p1, q1, rfl, rfl, rfl, h1, r1⟩ := trodAll_cons r0
  obtain ⟨rfl, rfl, rfl⟩ := trodAll_nil r1
  obtain rfl : args = #[v0, v1] := by cases args; simp_all
  obtain ⟨rfl, rfl⟩ := trodVars_none hV
  obtain ⟨V0, hx0, hw0⟩ := open_pins (hval 0 22 v0 rfl rfl) h0 (fun x hx => hlt x (by simp [hx]))
  obtain ⟨a1, rfl, rfl, rfl, w1⟩ := open_int Try.underlying5 (hval 1 5 v1 rfl rfl) h1
  clear hA0 hval0
  simp only [List.append_nil] at hW' hA2
  refine (barrelGroup_walk_i v0 V0 a1 W hx0 (wf8 w1).1 (wf8 w1).2).mono fun e W' ⟨he, hb⟩ => ?_
  subst he
  exact ⟨_, rfl, law_post Try.laidOut Try.underlying4 hW' hA2 rfl rfl rfl rfl rfl (by kernel_rfl) hb⟩
theorem barrelGroup_holds : Rows.BarrelGroupSaid :=
  OpenClaim.holds_of_wide 15 Try.f15 rfl rfl rfl rfl rfl rfl rfl ⟨rfl, rfl, rfl, rfl, rfl⟩ rfl rfl rfl rfl rfl (by kernel_rfl) Try.func15 (by kernel_rfl)
    (of_decide_eq_true (by kernel_rfl)) (by unfold Func.isWrapper; first | (rw [if_pos (by decide +kernel)]; kernel_rfl) | (rw [if_neg (by decide +kernel)]; exact ⟨rfl, rfl⟩))
    (fun os started H enc _ => barrelGroup_lifted os started H enc)
end
end Go.Proofs.Ytooddicegkiiiaa
