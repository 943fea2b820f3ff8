/- BarrelOffsets holds; no condition. -/
import Derived.Test.YtooddicegkiiiaaP12
namespace Go.Proofs.Ytooddicegkiiiaa
open Go.RowKit Go.Shelf

/-- What the law asks of the Offsets of a pin. -/
structure OffS (V : List (Int × Int)) (i : Nat) (O : List Int) : Prop where
  len : (O.length : Int) ≤ (pin V i).1
  mem : ∀ n : Nat, (n : Int) < (pin V i).1 → ((∃ j, j < O.length ∧ O[j]?.getD 0 = (n : Int)) ↔ jO (setO V i (n : Int)) = true)
  nil : O.length = 0 → 1 < V.length ∧ jO (V.eraseIdx i) = false
  ex : 0 < O.length → ∃ A : Int, 1 ≤ A ∧ A * (O.length : Int) = (pin V i).1 ∧ (0 : Int) ≤ (O[0]?).getD 0 ∧ (O[0]?).getD 0 < A ∧ ∀ j : Nat, j + 1 < O.length → (O[j + 1]?).getD 0 = (O[j]?).getD 0 + A ∧ (0 : Int) ≤ (O[j]?).getD 0 ∧ (O[j]?).getD 0 ≤ 200
theorem mem_at {O : List Int} {n : Int} : (∃ j, j < O.length ∧ O[j]?.getD 0 = n) ↔ n ∈ O := by
  constructor
  · rintro ⟨j, h1, h2⟩
    rw [List.getElem?_eq_getElem h1] at h2
    rw [← h2]; exact List.getElem_mem h1
  · intro h
    obtain ⟨j, h1, h2⟩ := List.getElem_of_mem h
    exact ⟨j, h1, by rw [List.getElem?_eq_getElem h1]; exact h2⟩
theorem off_s {V : List (Int × Int)} (hc : checkP V = 0) {i : Nat} (hi : i < V.length) : OffS V i (offL V i) := by
  have hV := (okPins_of hc).v
  have hp := hV.at hi
  obtain ⟨_, hL, hm⟩ := off_at hc hi
  cases hj : jO (V.eraseIdx i)
  · rw [hj, if_neg (by decide)] at hL
    refine ⟨by rw [hL]; simp; omega, fun n hn => by rw [mem_at, hm n]; exact ⟨fun h => h.2, fun h => ⟨hn, h⟩⟩, fun _ => ⟨?_, hj⟩, fun h => by rw [hL] at h; simp at h⟩
    rcases Nat.lt_or_ge 1 V.length with h | h
    · exact h
    · rw [erase_one (by omega) hi] at hj; cases hj
  · rw [hj, if_pos rfl] at hL
    obtain ⟨g1, g2, g3, ⟨g4, g5⟩, g6⟩ := off_parts hV hi hj
    have hlen : (offL V i).length = offN V i := by rw [hL]; simp
    have hat : ∀ k, k < offN V i → (offL V i)[k]?.getD 0 = offAt V i k := fun k hk => by rw [hL]; simp [hk]
    refine ⟨?_, fun n hn => by rw [mem_at, hm n]; exact ⟨fun h => h.2, fun h => ⟨hn, h⟩⟩, fun h => by omega, fun _ => ⟨offApart V i, g1, by rw [hlen]; exact g3, by rw [hat 0 (by omega)]; exact g4, by rw [hat 0 (by omega)]; exact g5, fun j hj => ?_⟩⟩
    · rw [hlen]
      have := Int.mul_le_mul_of_nonneg_right g1 (show 0 ≤ ((offN V i : Nat) : Int) by omega)
      omega
    · rw [hat (j + 1) (by omega), hat j (by omega)]
      refine ⟨g6 j, ?_, ?_⟩
      · unfold offAt at g4 ⊢
        have := Int.mul_nonneg (show 0 ≤ (j : Int) by omega) (show 0 ≤ offApart V i by omega)
        simp at g4; omega
      · have h1 := Int.mul_le_mul_of_nonneg_left (show ((j + 1 : Nat) : Int) ≤ ((offN V i : Nat) : Int) by omega) (show 0 ≤ offApart V i by omega)
        have h2 : offAt V i j = offAt V i 0 + (j : Int) * offApart V i := by unfold offAt; simp
        have h3 : offApart V i * ((j + 1 : Nat) : Int) = (j : Int) * offApart V i + offApart V i := by push_cast; rw [Int.mul_add, Int.mul_comm]; omega
        omega
def InK (O : List Int) (n : Int) (k : Nat) (b : Bool) : Prop := b = true ↔ ∃ j, j < k ∧ O[j]?.getD 0 = n
theorem InK.zero (O : List Int) (n : Int) : InK O n 0 false := ⟨fun h => (by cases h), fun ⟨j, h, _⟩ => by omega⟩
theorem InK.hit {O : List Int} {n : Int} {k : Nat} (h : O[k]?.getD 0 = n) : InK O n (k + 1) true := ⟨fun _ => ⟨k, by omega, h⟩, fun _ => rfl⟩
theorem InK.up {O : List Int} {n : Int} {k : Nat} (h : InK O n k true) : InK O n (k + 1) true := ⟨fun _ => by obtain ⟨j, h1, h2⟩ := h.1 rfl; exact ⟨j, by omega, h2⟩, fun _ => rfl⟩
theorem InK.miss {O : List Int} {n : Int} {k : Nat} (h : InK O n k false) (hne : O[k]?.getD 0 ≠ n) : InK O n (k + 1) false := ⟨fun h => (by cases h), fun ⟨j, h1, h2⟩ => by
  by_cases e : j = k
  · subst e; exact absurd h2 hne
  · exact h.2 ⟨j, by omega, h2⟩⟩
theorem cells_take {w : World} {ad : Addr} {V : List (Int × Int)} (h : CellsAt w ad V) (i : Nat) : CellsAt w ad (V.take i) := by
  intro j u hu
  refine h j u ?_
  have e : prs V = prs (V.take i) ++ prs (V.drop i) := by rw [← prs_append, List.take_append_drop]
  rw [e, List.getElem?_append_left (List.getElem?_eq_some_iff.1 hu).1]; exact hu
theorem cells_drop {w : World} {b o : Nat} {V : List (Int × Int)} (h : CellsAt w ⟨b, o, none⟩ V) (i : Nat) (hi : i ≤ V.length) : CellsAt w ⟨b, o + i * 2, none⟩ (V.drop i) := by
  intro j u hu
  have e : prs V = prs (V.take i) ++ prs (V.drop i) := by rw [← prs_append, List.take_append_drop]
  have hl : (prs (V.take i)).length = i * 2 := by rw [prs_length, List.length_take]; omega
  have := h (i * 2 + j) u (by rw [e, List.getElem?_append_right (by omega), hl, Nat.add_sub_cancel_left]; exact hu)
  rw [addr_add] at this ⊢
  rwa [show o + i * 2 + j = o + (i * 2 + j) by omega]
theorem run_cutFrom3 (g o n c i : Nat) (h : i + 1 ≤ n) (hc : n ≤ c) : ∃ ad, (∀ w : World, (Instr.slice 22 (.slice (some ⟨g, o, none⟩) n c) (some (.int .i64 ((i : Int) + 1))) none none).run Try.prog w = .ok (.slice (some ad) (n - (i + 1)) (c - (i + 1))) w) ∧ (i + 1 < n → ad = ⟨g, o + (i + 1) * 2, none⟩) := by
  obtain ⟨i0, hi, hz0, hz1, hz2⟩ := info_parts info55
  have h1 : ¬ ((i : Int) + 1 < 0) := by omega
  have h2 : ¬ ((n : Int) < (i : Int) + 1) := by omega
  have h3 : ((i : Int) + 1).toNat = i + 1 := by omega
  by_cases hq : c = i + 1
  · refine ⟨⟨g, o, none⟩, fun w => ?_, fun h => by omega⟩
    simp [Instr.slice, run_underlying Try.underlying22, Sem.run_bind, Instr.sliceBounds, Instr.sliceBound, asIntOf, sizeOf, typeInfo, hi, hz1, Addr.add, h1, h2, h3, hq]
    all_goals first | omega | skip
  · refine ⟨⟨g, o + (i + 1) * 2, none⟩, fun w => ?_, fun _ => rfl⟩
    simp [Instr.slice, run_underlying Try.underlying22, Sem.run_bind, Instr.sliceBounds, Instr.sliceBound, asIntOf, sizeOf, typeInfo, hi, hz1, Addr.add, h1, h2, h3, hq]
    all_goals first | omega | skip

set_option maxRecDepth 100000 in
set_option maxHeartbeats 16000000 in
theorem barrelOffsets_walk (x : Value) (V : List (Int × Int)) (z1 z2 : Int) (w : World) (hx : RdP w x V) (y0 : 0 ≤ z1) (y1 : z1 ≤ 255) (y2 : 0 ≤ z2) (y3 : z2 ≤ 255) :
    Calls Try.prog 14 #[x, .int .u8 z1, .int .u8 z2] w fun e w' => e = .returned (.bool true) ∧ Below w.heap.size w w' := by
  obtain ⟨a, c, rfl⟩ := hx.ex _ rfl
  have CW := Lib.hid (fun wz (hB : Below w.heap.size w wz) => works_any wz)
  have CF := Lib.hid (fun wz (hB : Below w.heap.size w wz) => fine_any _ V wz (hx.mono hB))
  by_cases hc : checkP V = 0
  · rw [hc] at CF
    have hV := okPins_of hc
    have h5 := hV.l5; have hl1 := hV.l1
    have i0 := Int.emod_nonneg z1 (b := (V.length : Int)) (by omega)
    have i1 := Int.emod_lt_of_pos z1 (b := (V.length : Int)) (by omega)
    obtain ⟨i, hiz⟩ := Int.eq_ofNat_of_zero_le i0
    have hi : i < V.length := by omega
    have zl : ((V.length : Int) == 0) = false := by rw [beq_eq_false_iff_ne]; omega
    clear i0 i1
    obtain ⟨p1, p2, p3, p4⟩ := hV.v.at hi
    have n0 := Int.emod_nonneg z2 (b := (pin V i).1) (by omega)
    have n1 := Int.emod_lt_of_pos z2 (b := (pin V i).1) (by omega)
    obtain ⟨N, hnz⟩ := Int.eq_ofNat_of_zero_le n0
    have hN : (N : Int) < (pin V i).1 := by omega
    clear n0 n1
    have HOS := off_s hc hi
    have eE := (off_at hc hi).1
    have CO := Lib.hid (fun wz (hB : Below w.heap.size w wz) => offsets_any _ V i wz (hx.mono hB) (by omega))
    unfold OffOk at CO
    rw [eE] at CO
    have CWI := Lib.hid (fun wz (hB : Below w.heap.size w wz) => with_any _ V i N wz (hx.mono hB) hi (by omega))
    have hSO := setO_ok hV.v hi hN
    have HTW := Lib.hid (fun v wz (hy : RdP wz v (setO V i (N : Int))) => together_ok v (setO V i (N : Int)) wz hy (check_of_ok ⟨by rw [setO_len]; exact hl1, by rw [setO_len]; exact h5, hSO⟩))
    have HTE := Lib.hid (fun (h1 : 1 < V.length) v wz (hy : RdP wz v (V.eraseIdx i)) => together_ok v (V.eraseIdx i) wz hy (check_of_ok ⟨by rw [List.length_eraseIdx_of_lt hi]; omega, by rw [List.length_eraseIdx_of_lt hi]; omega, hV.v.erase i⟩))
    have HMEM := Lib.hid (HOS.mem N hN)
    have HNIL := Lib.hid HOS.nil; have HSOME := Lib.hid HOS.ex
    have HLEN := HOS.len
    obtain ⟨_, _, e, hca, hmx, hxf⟩ := hx.form
    cases e
    clear hmx
    obtain ⟨bx, ox, rfl, hbx, hcx⟩ := hxf (by omega)
    have HCA := Lib.hid (CellsAt.of_rd hx)
    have gp := (hcx i hi).1
    change w.cell? _ = some (Value.int .i64 (pin V i).1) at gp
    have HGP := Lib.hid (fun wz (hB : Below w.heap.size w wz) => (hB.cell (p := ⟨bx, ox + i * 2, none⟩) hbx).trans gp)
    have HBX := Lib.hid (fun wz (hB : Below w.heap.size w wz) => Nat.lt_of_lt_of_le hbx hB.size)
    have hs1 := run_cutTo2 bx ox V.length c i (by omega)
    obtain ⟨ad, hs2, had⟩ := run_cutFrom3 bx ox V.length c i (by omega) hca
    have HS1 := Lib.hid hs1; have HS2 := Lib.hid hs2; have HAD := Lib.hid had
    clear hs1 hs2 had hcx hxf gp hSO HOS eE hc hx hV p3 p4
    generalize offL V i = O at *
    have dl : decide ((pin V i).1 < (O.length : Int)) = false := decide_eq_false (by omega)
    have zp : ((pin V i).1 == 0) = false := by rw [beq_eq_false_iff_ne]; omega
    generalize hP : (pin V i).1 = P at *
    have HP := Lib.hid hP; clear hP
    generalize jO (setO V i (N : Int)) = o at *
    generalize jA (setO V i (N : Int)) = oa at *
    generalize jB (setO V i (N : Int)) = ob at *
    have KB0 := Lib.hid (bz w)
    go_enter Try.func14, Try.ntmps14
    go_wp2_with fail
    refine (CF.out _ KB0.out).mono ?_
    rintro e w1 ⟨rfl, hk⟩
    have KB1 := Lib.hid (btr KB0.out hk)
    clear KB0 hk
    have gp := HGP.out _ KB1.out; have zb := HBX.out _ KB1.out
    go_wp2_with fail
    refine (CO.out _ KB1.out).mono ?_
    rintro e w2 ⟨v, rfl, fO, hk⟩
    obtain ⟨aO, cO, hv⟩ := fO.ex O.length rfl
    subst hv
    have KB2 := Lib.hid (btr KB1.out hk)
    have HO2 := Lib.hid fO
    clear KB1 fO hk
    clear gp zb HGP
    go_wp2_with fail
    refine (CWI.out _ KB2.out).mono ?_
    rintro e w3 ⟨v, rfl, fU, hk⟩
    have KB3 := Lib.hid (btr KB2.out hk)
    have HO3 := Lib.hid (HO2.out.mono hk)
    have HU3 := Lib.hid fU
    clear KB2 HO2 fU hk
    go_wp2_with fail
    refine (HTW.out _ _ HU3.out).mono ?_
    rintro e w4 ⟨rfl, hk⟩
    have KB4 := Lib.hid (btr KB3.out hk)
    have HO4 := Lib.hid (HO3.out.mono hk)
    have HU4 := Lib.hid (HU3.out.mono hk)
    clear KB3 HO3 HU3 hk
    go_wp2_with fail
    go_loopw [16, 17] (fun s16 s17 wr => ∃ (k : Nat) (cb : Bool), k ≤ O.length ∧ s16 = .bool cb ∧ s17 = .int .i64 k ∧ Hid (InK O N k cb) ∧ Below w4.heap.size w4 wr) (fun _ k _ => O.length - (intOf k).toNat)
    case atStart => exact ⟨0, false, Nat.zero_le _, rfl, rfl, Lib.hid (InK.zero _ _), bz _⟩
    case round =>
      obtain ⟨k, cb, hk, rfl, rfl, HIN, hBr⟩ := hrel
      have KBL := Lib.hid hBr
      clear hBr
      by_cases hlt : k < O.length
      · obtain ⟨_, _, e, _, _, hce⟩ := HO4.out.form
        cases e
        obtain ⟨bo, oo, rfl, hbo, hce⟩ := hce (by omega)
        have g0 := (KBL.out.cell (p := ⟨bo, oo + k, none⟩) hbo).trans (hce k hlt)
        have zb := Nat.lt_of_lt_of_le hbo KBL.out.size
        clear hce hbo
        cases cb
        · by_cases hok : O[k]?.getD 0 = (N : Int)
          · have HINN := Lib.hid (InK.hit hok)
            have t1 : (O[k]?.getD 0 == (N : Int)) = true := by rw [hok]; simp
            clear hok HIN
            generalize O[k]?.getD 0 = ok at *
            go_wp2_with fail
            go_roundw
            case rel => exact ⟨k + 1, true, by omega, rfl, by go_num, HINN, KBL.out⟩
            case measure => simp [intOf]; omega
          · have HINN := Lib.hid (HIN.out.miss hok)
            have t1 : (O[k]?.getD 0 == (N : Int)) = false := by rw [beq_eq_false_iff_ne]; exact hok
            clear hok HIN
            generalize O[k]?.getD 0 = ok at *
            go_wp2_with fail
            go_roundw
            case rel => exact ⟨k + 1, false, by omega, rfl, by go_num, HINN, KBL.out⟩
            case measure => simp [intOf]; omega
        · have HINN := Lib.hid (HIN.out.up)
          clear HIN
          go_wp2_with fail
          go_roundw
          case rel => exact ⟨k + 1, true, by omega, rfl, by go_num, HINN, KBL.out⟩
          case measure => simp [intOf]; omega
      · have hke : k = O.length := by omega
        have hin := HIN.out
        unfold InK at hin
        rw [hke, HMEM.out] at hin
        have hco : cb = o := by rw [Bool.eq_iff_iff]; exact hin
        subst hco
        have HKE := Lib.hid hke
        have KBE := Lib.hid (btr KB4.out KBL.out)
        have HOE0 := Lib.hid (HO4.out.mono KBL.out)
        clear HIN hin hke KBL KB4 HO4 HMEM CO CWI HTW CF
        have hbb : (cb != cb) = false := by simp
        by_cases hz : O.length = 0
        · obtain ⟨l1, hj⟩ := HNIL.out hz
          have HTE1 := Lib.hid (fun v wz hy => HTE.out l1 v wz hy)
          rw [hj] at HTE1
          have z1 : ((O.length : Int) == 0) = true := by rw [beq_iff_eq]; omega
          have z2 : (O.length == 0) = true := by rw [beq_iff_eq]; omega
          have z3 : decide ((1 : Int) < (V.length : Int)) = true := decide_eq_true (by omega)
          have z4 : decide (1 < V.length) = true := decide_eq_true l1
          have HZ := Lib.hid hz
          clear hz hj HNIL HSOME HTE HOE0
          go_upto_region 18 with fail
          have hs1 := HS1.out; have hs2 := HS2.out
          refine wp_region_flowS (fun w2 => ∃ x : AnyW w, w2 = x.val) [] [([1, 2, 3, 5, 6, 7, 8], 0, true), ([], 4, true), ([], 9, true), ([], 10, true)] [11, 12, 13, 14, 15, 16, 17, 18, 19] (by kernel_rfl) (by kernel_rfl) (fun _ _ _ => anyW _ _) ?_
          intro wc hBc hh
          clear hh
          have B1 := btr KBE.out hBc
          have C1 := HCA.out.later B1
          have hbz := B1.size
          have HB1 := Lib.hid B1; have HC1 := Lib.hid C1
          clear hBc KBE B1 C1
          simp only [flowP, flow, pickL, List.getElem?_cons_succ, List.getElem?_cons_zero]
          refine wpQuiet_nil ?_
          repeat (go_big_quiet_step (fail))
          refine wpQuiet_nil ?_
          go_wp2
          refine seg_grow (anyW _ _) ?_
          refine wpQuiet_nil ?_
          have O1 := own_new wc (base := w.heap.size) rfl hbz
          have B2 := bal HB1.out (.cells #[] 55)
          have C2 := HC1.out.later (bal (bz wc) (.cells #[] 55))
          refine wpList_append_pins rfl _ _ rfl O1 B2.size rfl rfl (by rw [List.length_take]; omega) (cells_take C2 i) (by simp) (by rw [List.length_take]; omega) ?_
          intro v1 w1 O2 g2
          have B3 := append_below B2 O1 g2 (Nat.le_refl _)
          have C3 := HCA.out.later B3
          go_wp2
          refine seg_grow (anyW _ _) ?_
          refine wpQuiet_nil ?_
          have C4 : CellsAt w1 ad (V.drop (i + 1)) := by
            by_cases hd : i + 1 < V.length
            · rw [HAD.out hd]; exact cells_drop C3 (i + 1) (by omega)
            · intro j u hu; rw [List.drop_eq_nil_of_le (by omega)] at hu; simp [prs] at hu
          refine wpList_append_pins rfl _ _ rfl O2 B3.size rfl rfl (by rw [List.length_drop]) C4 (by simp; omega) (by rw [List.length_drop]; omega) ?_
          intro v2 w2 O4 g4
          have HB4 := Lib.hid (append_below B3 O2 g4 (Nat.le_refl _))
          rw [List.nil_append, ← List.eraseIdx_eq_take_drop_succ] at O4
          have HRD := Lib.hid (RdP.of_owns O4)
          clear O1 O2 O4 g2 g4 B2 B3 C2 C3 C4
          go_wp2
          refine seg_grow (anyW _ _) ?_
          refine wpQuiet_nil ?_
          go_wp2_with fail
          refine (HTE1.out _ _ HRD.out).mono ?_
          rintro e w5 ⟨rfl, hk⟩
          have KB60 := Lib.hid (btr HB4.out hk)
          clear HRD HB4 hk
          go_wp2
          refine seg_grow (anyW _ _) ?_
          repeat (go_big_quiet_step (fail))
          refine wpQuiet_nil ?_
          refine only_done ?_
          go_wp2_with fail
          refine (CW.out _ KB60.out).mono ?_
          rintro e w61 ⟨rfl, hk⟩
          have KB61 := Lib.hid (btr KB60.out hk)
          clear KB60 hk
          go_wp2_with fail
          go_ret
          exact ⟨rfl, KB61.out⟩
        · obtain ⟨A, a1, a2, a3, a4, a5⟩ := HSOME.out (by omega)
          obtain ⟨_, _, e, _, _, hce⟩ := HOE0.out.form
          cases e
          obtain ⟨bo, oo, rfl, hbo, hce⟩ := hce (by omega)
          have g0 := hce 0 (by omega)
          rw [Nat.add_zero] at g0
          have z1 : ((O.length : Int) == 0) = false := by rw [beq_eq_false_iff_ne]; omega
          have z2 : (O.length == 0) = false := by rw [beq_eq_false_iff_ne]; omega
          have q1 : P / (O.length : Int) = A := by rw [← a2]; exact Int.mul_ediv_cancel _ (by omega)
          have q2 : P.tdiv (O.length : Int) = A := by rw [← a2]; exact Int.mul_tdiv_cancel _ (by omega)
          have q3 : IntKind.i64.wrap (A * (O.length : Int)) = P := by rw [a2]; exact IntWalk.i64_in _ (by omega)
          have aP : A ≤ 200 := by
            have := Int.mul_le_mul_of_nonneg_left (show (1 : Int) ≤ (O.length : Int) by omega) (show 0 ≤ A by omega)
            omega
          have r1 : decide (O[0]?.getD 0 < 0) = false := decide_eq_false (by omega)
          have r2 : decide (A ≤ O[0]?.getD 0) = false := decide_eq_false (by omega)
          have HCE := Lib.hid hce; have HA5 := Lib.hid a5
          clear hce a5 a2 HNIL HSOME HTE
          generalize O[0]?.getD 0 = o0 at *
          have HBO := Lib.hid hbo
          obtain ⟨wq, hwq⟩ : ∃ wq, wq = wr := ⟨_, rfl⟩
          subst hwq
          go_wp2_with fail
          go_loopw [23] (fun i wr => ∃ k j : Nat, k = j + 1 ∧ k ≤ O.length ∧ i = .int .i64 k ∧ Below wq.heap.size wq wr) (fun i _ => O.length - (intOf i).toNat)
          case atStart => exact ⟨1, 0, rfl, by omega, rfl, bz _⟩
          case round =>
            obtain ⟨k, j, hkj, hk, rfl, hBr⟩ := hrel
            have KBL := Lib.hid hBr
            clear hBr g0 q1 q2 q3
            by_cases hlt : k < O.length
            · obtain ⟨s1, s2, s3⟩ := HA5.out j (by omega)
              have g1 := HCE.out k hlt
              have g2 := HCE.out j (by omega)
              rw [hkj, s1] at g1
              rw [← hkj] at g1
              have HC0 := Lib.hid (fun wz (hB : Below wq.heap.size wq wz) => (hB.cell (p := ⟨bo, oo + k, none⟩) HBO.out).trans g1)
              have HC1 := Lib.hid (fun wz (hB : Below wq.heap.size wq wz) => (hB.cell (p := ⟨bo, oo + j, none⟩) HBO.out).trans g2)
              have HZS := Lib.hid (fun wz (hB : Below wq.heap.size wq wz) => Nat.lt_of_lt_of_le HBO.out hB.size)
              have hkk : (k : Int) - 1 = (j : Int) := by omega
              have hjl : j < O.length := by omega
              clear g1 g2 s1
              generalize O[j]?.getD 0 = oj at *
              have w1 : IntKind.i64.wrap (oj + A) = oj + A := IntWalk.i64_in _ (by omega)
              have t1 : (oj + A != oj + A) = false := by simp
              have HKJ := Lib.hid hkj; clear hkj
              go_upto_region 26 with fail
              refine wp_region_flow [] [] [0, 1, 2, 3, 4, 5, 6, 7, 8, 9, 10, 11] (by kernel_rfl) (by kernel_rfl) ?_
              intro w71 hk hh
              clear hh
              have KB71 := Lib.hid (btr KBL.out hk)
              have c0 := HC0.out _ KB71.out
              have c1 := HC1.out _ KB71.out
              have zs := HZS.out _ KB71.out
              have hL := @Later.cell w71
              have HW := Lib.hid (bz w71)
              clear KBL hk
              simp only [flowP, flow, pickL, List.getElem?_cons_succ, List.getElem?_cons_zero]
              refine wpQuiet_nil ?_
              repeat (go_big_quiet_step (fail))
              refine wpQuiet_nil ?_
              refine only_done ?_
              clear HW c0 c1 zs hL
              go_wp2_with fail
              go_roundw
              case rel => exact ⟨k + 1, k, rfl, by omega, by go_num, KB71.out⟩
              case measure => simp [intOf]; omega
            · have hke : O.length ≤ k := by omega
              have KBF := Lib.hid (btr KBE.out KBL.out)
              clear KBL KBE
              go_wp2_with fail
              refine (CW.out _ KBF.out).mono ?_
              rintro e w91 ⟨rfl, hk⟩
              have KB91 := Lib.hid (btr KBF.out hk)
              clear KBF hk
              go_wp2_with fail
              go_ret
              exact ⟨rfl, KB91.out⟩
  · have hcb : (checkP V == 0) = false := by simpa using hc
    rw [hcb] at CF
    have KB0 := Lib.hid (bz w)
    go_enter Try.func14, Try.ntmps14
    go_wp2_with fail
    refine (CF.out _ KB0.out).mono ?_
    rintro e w1 ⟨rfl, hk⟩
    have KB1 := Lib.hid (btr KB0.out hk)
    clear KB0 hk
    go_wp2_with fail
    refine (CW.out _ KB1.out).mono ?_
    rintro e w2 ⟨rfl, hk⟩
    have KB2 := Lib.hid (btr KB1.out hk)
    clear KB1 hk
    go_wp2_with fail
    go_ret
    exact ⟨rfl, KB2.out⟩
section
open Go.ChangeShapes Go.WideShapes Go.ChangeAt
set_option maxRecDepth 100000 in
theorem barrelOffsets_lifted (os : Os) (started : os.Started) (H : Type) (enc : TypeId × Value → H) :
    ReturnsInHanded {} Try.checked os 14 .any (Rows.barrelOffsetsSpec.pre6 enc Try.prog Try.f14 Rows.barrelOffsetsRow.domain false) (Rows.barrelOffsetsSpec.post enc Try.prog Try.f14 false true false false) := by
  refine returnsInHanded_of_change (C := Try.checked) Try.own started (by kernel_rfl) Try.func14
    (ChangeSpec.witness6 (enc := enc) (C := Try.checked) false ⟨#[], #[.slice none 0 0, .int .u8 0, .int .u8 0], []⟩ 8 (by kernel_rfl) (by kernel_rfl) (by kernel_rfl) (by kernel_rfl)) ?_
  intro W base args ds gs before hval0 hW _ _
  have hval : ∀ (j : Nat) t v, Try.f14.params[j]? = some t → args[j]? = some v → Value.okWide Try.prog W .any base t v := hval0
  have hW' := hW
  obtain ⟨p, q, hA0, hV, rfl, hfz, hnd⟩ := hW
  have hA : DataW.TrodAll enc Try.prog W 0 (fun _ => true) true Try.f14.params.toList args.toList ds p := hA0
  have hA2 := hA
  have hlt : ∀ x ∈ p, x.block < W.heap.size := fun x hx => hW'.lt x (List.mem_append_left _ hx)
  rw [Try.params14] at hA hval
  obtain ⟨v0, vs0, d0, ds0, p0, q0, hargs, rfl, rfl, h0, r0⟩ := trodAll_cons hA
  obtain ⟨v1, vs1, d1, ds1, p1, q1, rfl, rfl, rfl, h1, r1⟩ := trodAll_cons r0
  obtain ⟨v2, vs2, d2, ds2, p2, q2, rfl, rfl, rfl, h2, r2⟩ := trodAll_cons r1
  obtain ⟨rfl, rfl, rfl⟩ := trodAll_nil r2
  obtain rfl : args = #[v0, v1, v2] := by cases args; simp_all
  obtain ⟨rfl, rfl⟩ := trodVars_none hV
  obtain ⟨V0, hx0, hw0⟩ := open_pins (hval 0 22 v0 rfl rfl) h0 (fun x hx => hlt x (by simp [hx]))
  obtain ⟨a1, rfl, rfl, rfl, w1⟩ := open_int Try.underlying5 (hval 1 5 v1 rfl rfl) h1
  obtain ⟨a2, rfl, rfl, rfl, w2⟩ := open_int Try.underlying5 (hval 2 5 v2 rfl rfl) h2
  clear hA0 hval0
  simp only [List.append_nil] at hW' hA2
  refine (barrelOffsets_walk v0 V0 a1 a2 W hx0 (wf8 w1).1 (wf8 w1).2 (wf8 w2).1 (wf8 w2).2).mono fun e W' ⟨he, hb⟩ => ?_
  subst he
  exact ⟨_, rfl, law_post Try.laidOut Try.underlying4 hW' hA2 rfl rfl rfl rfl rfl (by kernel_rfl) hb⟩
theorem barrelOffsets_holds : Rows.BarrelOffsetsSaid :=
  OpenClaim.holds_of_wide 14 Try.f14 rfl rfl rfl rfl rfl rfl rfl ⟨rfl, rfl, rfl, rfl, rfl⟩ rfl rfl rfl rfl rfl (by kernel_rfl) Try.func14 (by kernel_rfl)
    (of_decide_eq_true (by kernel_rfl)) (by unfold Func.isWrapper; first | (rw [if_pos (by decide +kernel)]; kernel_rfl) | (rw [if_neg (by decide +kernel)]; exact ⟨rfl, rfl⟩))
    (fun os started H enc _ => barrelOffsets_lifted os started H enc)
end
end Go.Proofs.Ytooddicegkiiiaa
