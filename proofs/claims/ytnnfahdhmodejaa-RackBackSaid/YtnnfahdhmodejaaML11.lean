/- RackTurned: where each number was, and the sequence read from its end; no condition. -/
import Derived.Test.YtnnfahdhmodejaaMQk
import Derived.Test.YtnnfahdhmodejaaML13
import Derived.Test.YtnnfahdhmodejaaMGI
import Derived.Deep.CutRange
namespace Go.Proofs.Ytnnfahdhmodejaa
open Go.RowKit Go.Shelf

theorem built_lit (x : Value) (s : List Int) (R O : List (List Int)) (w : World) (hx0 : RdI w .i64 x s) (hs : seqC s = 0) (h1 : (bldR s s.length).1 = R) (h2 : (bldR s s.length).2 = O) :
    Calls Try.prog 39 #[x] w fun e w' => ∃ u v, e = .returned (.tuple #[u, v, .bool true]) ∧ RdLL w' u R ∧ RdLL w' v O ∧ Below w.heap.size w w' := by
  subst h1 h2; exact built_any x s w hx0 hs
theorem Own3.setB {w : World} {base : Nat} {u l : Value} {xs ys zs : List Int} {g n c : Nat} (h : Own3 w base u (.slice (some ⟨g, 0, none⟩) n c) l xs ys zs) (k : Nat) (x : Int) : Own3 (w.setCell ⟨g, k, none⟩ (.int .i64 x)) base u (.slice (some ⟨g, 0, none⟩) n c) l xs (ys.set k x) zs := by
  have hgr := grownBy_set w ⟨g, k, none⟩ (.int .i64 x)
  refine ⟨World.ownsRow.kept h.a hgr ?_, h.b.stored k x, World.ownsRow.kept h.c hgr ?_, h.ab, h.ac, h.bc⟩
  · rcases h.ab with h1 | h1
    · exact .inl h1
    · exact .inr h1
  · rcases h.bc.symm with h1 | h1
    · exact .inl h1
    · exact .inr h1
theorem Own3.setA {w : World} {base : Nat} {v l : Value} {xs ys zs : List Int} {g n c : Nat} (h : Own3 w base (.slice (some ⟨g, 0, none⟩) n c) v l xs ys zs) (k : Nat) (x : Int) : Own3 (w.setCell ⟨g, k, none⟩ (.int .i64 x)) base (.slice (some ⟨g, 0, none⟩) n c) v l (xs.set k x) ys zs := (h.swap.setB k x).swap
theorem Own3.rot {w : World} {base : Nat} {u v l : Value} {xs ys zs : List Int} (h : Own3 w base u v l xs ys zs) : Own3 w base u l v xs zs ys := ⟨h.a, h.c, h.b, h.ac, h.ab, h.bc.symm⟩
theorem apart_new {w : World} {base nb n c : Nat} {u : Value} {xs : List Int} (h : rowI w base u xs) (hnb : w.heap.size ≤ nb) : apartV u (.slice (some ⟨nb, 0, none⟩) n c) := by
  cases hub : u.ownBlock with
  | none => exact .inl hub
  | some k =>
    refine .inr ?_
    rw [hub]
    intro e
    have h1 := (h.lt hub).2
    simp [Value.ownBlock] at e
    omega
set_option maxRecDepth 100000 in
set_option maxHeartbeats 8000000 in
theorem turned_core (y : Value) (bs : List Int) (p : Int) (w : World) (hy0 : RdI w .u8 y bs) (hp : 0 ≤ p) (hp2 : p ≤ 255) (hbs : ∀ i, i < bs.length → 0 ≤ elt bs i ∧ elt bs i ≤ 255) (h30 : bs.length ≤ 30) :
    Calls Try.prog 11 #[.int .u8 p, y] w fun e w' => e = .returned (.bool true) ∧ Below w.heap.size w w' := by
  obtain ⟨n, hn, hn2⟩ : ∃ n : Nat, p % 13 = (n : Int) ∧ n ≤ 12 := ⟨(p % 13).toNat, by omega, by omega⟩
  have HY := Lib.hid hy0
  have HB3 := Lib.hid hbs
  have n1 : ¬ (30 : Int) < (bs.length : Int) := by omega
  have HSL := Lib.hid (shf_len bs)
  have HS0 : Hid (shf bs 0 = []) := Lib.hid rfl
  have HSS : Hid (∀ i, shf bs (i + 1) = if bs.length = 0 then shf bs i ++ [(i : Int) + 1] else swp (shf bs i ++ [(i : Int) + 1]) i (kOf bs i)) := Lib.hid (fun i => rfl)
  have HKO : Hid (∀ i, kOf bs i = (elt bs (i % bs.length)).toNat % (i + 1)) := Lib.hid (fun i => rfl)
  have HAL := Lib.hid (shf_all bs n)
  obtain ⟨bl, cb, rfl, _, _, _⟩ := hy0.form
  generalize shf bs = S at *
  clear hy0 hbs
  go_enter Try.func11, Try.ntmps11
  go_wp2_with fail
  go_loopw [6, 7, 8] (fun s6 s7 _ wr => ∃ (k : Nat) (u : Value), k ≤ n ∧ u = s6 ∧ s7 = .int .i64 k ∧ Own3 wr w.heap.size u (.slice none 0 0) (.slice none 0 0) (S k) [] [] ∧ Below w.heap.size w wr) (fun _ s7 _ _ => n - (intOf s7).toNat)
  case atStart => exact ⟨0, _, Nat.zero_le _, rfl, rfl, by rw [HS0.out]; exact Own3.nil _ _, bz _⟩
  case round =>
    obtain ⟨i, u, hi, rfl, rfl, hO, hB⟩ := hrel
    have hle := HSL.out i
    obtain ⟨gu, cu, eu⟩ := owns_form hO.a
    rw [hle] at eu
    subst eu
    have HO := Lib.hid hO; have HB := Lib.hid hB; clear hO hB
    have hzb := HB.out.size
    by_cases hlt : i < n
    · have HN := Lib.hid (HSS.out i)
      have HKI := Lib.hid (HKO.out i)
      have hl1 : (S i).length ≤ 1000 := by omega
      have HLE := Lib.hid hle
      clear hle
      go_wp2_with (at_builtin; refine Own3.push rfl _ _ rfl HO.out ((i : Int) + 1) rfl rfl hl1 hzb ?_)
      intro u7 w7 hO7 hk7
      have hB7 : Below w.heap.size w w7 := hk7 w HB.out (Nat.le_refl _)
      have hl7 : (S i ++ [(i : Int) + 1]).length = i + 1 := by rw [List.length_append, HLE.out]; rfl
      have HT : Hid (∃ T, T = S i ++ [(i : Int) + 1]) := Lib.hid ⟨_, rfl⟩
      obtain ⟨T, hT⟩ := HT.out
      rw [← hT] at hO7 hl7 HN
      have HO7 := Lib.hid hO7; have HB7 := Lib.hid hB7
      clear hk7 HT hT HO HB hzb
      obtain ⟨g, c, e7, hgz, gi, fi⟩ := hO7.a.get i (by omega)
      rw [hl7] at e7
      subst e7
      have HL7 := Lib.hid hl7
      by_cases hb0 : bs.length = 0
      · have HN2 : Hid (S (i + 1) = T) := Lib.hid (by rw [HN.out, if_pos hb0])
        have t5 : ¬ (0 : Int) < (bs.length : Int) := by omega
        clear hb0 HN HKI hO7 hB7 hl7 gi fi
        go_wp2_with fail
        go_roundw
        case rel => exact ⟨i + 1, _, by omega, rfl, by go_num, by rw [HN2.out]; exact HO7.out, HB7.out⟩
        case measure => simp [intOf]; omega
      · have hmod : (i : Int) % (bs.length : Int) = ((i % bs.length : Nat) : Int) := (Int.natCast_emod i bs.length).symm
        have hml : i % bs.length < bs.length := Nat.mod_lt _ (by omega)
        have hbv := HB3.out _ hml
        have hkl : kOf bs i < i + 1 := by rw [HKI.out]; exact Nat.mod_lt _ (by omega)
        have hkm : elt bs (i % bs.length) % ((i : Int) + 1) = (kOf bs i : Int) := by
          rw [HKI.out]
          have h1 : elt bs (i % bs.length) = ((elt bs (i % bs.length)).toNat : Int) := by omega
          conv => lhs; rw [h1, show (i : Int) + 1 = ((i + 1 : Nat) : Int) by push_cast; rfl]
          rw [Int.natCast_emod]
        have HN2 : Hid (S (i + 1) = swp T i (kOf bs i)) := Lib.hid (by rw [HN.out, if_neg hb0])
        obtain ⟨_, _, eb, _, _, hyf⟩ := HY.out.form
        cases eb
        obtain ⟨bb, ob, rfl, hbb, hcb⟩ := hyf (by omega)
        have gby : w7.cell? ⟨bb, ob + i % bs.length, none⟩ = some (.int .u8 (elt bs (i % bs.length))) := (HB7.out.cell (p := ⟨bb, ob + i % bs.length, none⟩) hbb).trans (hcb _ hml)
        have zbb := Nat.lt_of_lt_of_le hbb HB7.out.size
        have t5 : (0 : Int) < (bs.length : Int) := by omega
        have t6 : (bs.length : Int) ≠ 0 := by omega
        have t7 : ((i : Int) + 1) ≠ 0 := by omega
        have t8 : (0 : Int) < ((i : Int) + 1) := by omega
        generalize kOf bs i = kk at *
        obtain ⟨g2, c2, e2, _, gk, fk⟩ := hO7.a.get kk (by omega)
        simp only [Value.slice.injEq, Option.some.injEq, Addr.mk.injEq, and_true, true_and] at e2
        obtain ⟨e2, e3, e4⟩ := e2
        subst e2 e4
        have hglo := (hO7.a.lt (k := g) rfl).1
        clear hcb hyf hb0 HN HKI hO7 hB7 hl7 e3
        generalize i % bs.length = im at *
        generalize elt bs im = by' at *
        go_upto_region 11 with fail
        refine wp_region_flow [2, 3] [([0, 1, 4, 5, 6, 7, 8, 9, 10, 11, 12], 13, false), ([], 14, false), ([], 15, false)] [] (by kernel_rfl) (by kernel_rfl) ?_
        intro wc hBc hh
        clear hh
        have d1 := (hBc.cell (p := ⟨g, i, none⟩) hgz).trans gi
        have d2 := (hBc.cell (p := ⟨g, kk, none⟩) hgz).trans gk
        have f1 := (hBc.frozen (p := ⟨g, i, none⟩) hgz).trans fi
        have f2 := (hBc.frozen (p := ⟨g, kk, none⟩) hgz).trans fk
        have z1 := Nat.lt_of_lt_of_le hgz hBc.size
        have HOc := Lib.hid (HO7.out.later hBc)
        have HBc := Lib.hid (btr HB7.out hBc)
        have HGL := Lib.hid hglo
        have hL := @Later.cell wc
        have HL7c := Lib.hid HL7.out
        have HSW : Hid (swp T i kk = (T.set i (elt T kk)).set kk (elt T i)) := Lib.hid rfl
        clear hBc HO7 HB7 gi gk fi fk hgz gby zbb hglo
        generalize elt T i = ti at *
        generalize elt T kk = tk at *
        simp only [flowP, flow, pickL, List.getElem?_cons_succ, List.getElem?_cons_zero]
        repeat (go_big_quiet_step (fail))
        refine wpQuiet_nil ?_
        repeat (go_big_quiet_step (fail))
        refine wpQuiet_nil ?_
        go_wp2
        refine seg_write ?_
        refine wpQuiet_nil ?_
        go_wp2
        refine seg_write ?_
        refine wpQuiet_nil ?_
        obtain ⟨g3, c3, e3, hz3, gk3, fk3⟩ := (HOc.out.setA i tk).a.get kk (by rw [List.length_set, HL7c.out]; omega)
        simp only [Value.slice.injEq, Option.some.injEq, Addr.mk.injEq, and_true, true_and] at e3
        obtain ⟨e3, e4, e5⟩ := e3
        subst e3
        clear e4 e5
        go_wp2
        refine seg_write ?_
        refine wpQuiet_nil ?_
        refine only_done ?_
        have HO9 := Lib.hid ((HOc.out.setA i tk).setA kk ti)
        have HB9 := Lib.hid (bset (bset HBc.out (p := ⟨g, i, none⟩) HGL.out (.int .i64 tk)) (p := ⟨g, kk, none⟩) HGL.out (.int .i64 ti))
        clear hL d1 d2 f1 f2 z1 hz3 gk3 fk3
        go_wp2_with fail
        go_roundw
        case rel => exact ⟨i + 1, _, by omega, rfl, by go_num, by rw [HN2.out, HSW.out]; exact HO9.out, HB9.out⟩
        case measure => simp [intOf]; omega
    · have hie : i = n := by omega
      subst hie
      generalize S i = s at *
      have hzo : zeros i = bkL s i 0 := rfl
      go_upto_region 12 with fail
      go_cut [9, 10] from 68 (fun v9 v10 wx => ∃ g h : Nat, v9 = .slice (some ⟨g, 0, none⟩) i i ∧ v10 = .slice (some ⟨h, 0, none⟩) i i ∧ Own3 wx w.heap.size (.slice gu i cu) v9 v10 s (zeros i) (zeros i) ∧ Below w.heap.size w wx)
      case first =>
        refine wp_region_US (fun w2 => ∃ x : AnyW w, w2 = x.val) [0, 2, 4, 5] [] (by kernel_rfl) (by kernel_rfl) ?_
        intro wc hBc hh
        clear hh
        have HBc := Lib.hid (btr HB.out hBc)
        have HOc := Lib.hid (HO.out.later hBc)
        clear hBc HO HB
        refine U_heads [0, 2] (by kernel_rfl) (anyW _ _) ?_
        simp only [pickL, List.getElem?_cons_succ, List.getElem?_cons_zero]
        repeat (go_big_quiet_step (fail))
        refine wpQuiet_nil ?_
        refine U_two 1 3 (by kernel_rfl) ?_ ?_
        · simp only [pickL, List.getElem?_cons_succ, List.getElem?_cons_zero]
          refine wpList_make_ints rfl (.tmp 68) (.tmp 68) rfl i rfl rfl (by omega) ?_
          intro w1 h1 g1
          have B1 := bgr (bz wc) g1 (fun k e => by cases e)
          have O1 := (HOc.out.third B1 HBc.out.size h1).rot
          have HB1 := Lib.hid (btr HBc.out B1); have HO1 := Lib.hid O1
          clear B1 O1 h1 g1
          go_wp2
          refine seg_grow (anyW _ _) ?_
          refine U_heads [4] (by kernel_rfl) (anyW _ _) ?_
          simp only [pickL, List.getElem?_cons_succ, List.getElem?_cons_zero]
          repeat (go_big_quiet_step (fail))
          refine wpQuiet_nil ?_
          refine U_one 3 (by kernel_rfl) ?_
          simp only [pickL, List.getElem?_cons_succ, List.getElem?_cons_zero]
          refine wpList_make_ints rfl (.tmp 70) (.tmp 70) rfl i rfl rfl (by omega) ?_
          intro w2 h2 g2
          have B2 := bgr (bz w1) g2 (fun k e => by cases e)
          have O3 := HO1.out.third B2 HB1.out.size h2
          have HB2 := Lib.hid (btr HB1.out B2); have HO2 := Lib.hid O3
          clear B2 O3 h2 g2
          go_wp2
          refine seg_grow (anyW _ _) ?_
          refine U_heads [5] (by kernel_rfl) (anyW _ _) ?_
          simp only [pickL, List.getElem?_cons_succ, List.getElem?_cons_zero]
          repeat (go_big_quiet_step (fail))
          refine wpQuiet_nil ?_
          refine U_done (by kernel_rfl) ?_
          go_wp2
          go_meet
          case rel => exact ⟨_, _, rfl, rfl, HO2.out, HB2.out⟩
        · simp only [pickL, List.getElem?_cons_succ, List.getElem?_cons_zero]
          refine wpList_make_ints rfl (.tmp 70) (.tmp 70) rfl i rfl rfl (by omega) ?_
          intro w1 h1 g1
          have B1 := bgr (bz wc) g1 (fun k e => by cases e)
          have O1 := (HOc.out.third B1 HBc.out.size h1).rot
          have HB1 := Lib.hid (btr HBc.out B1); have HO1 := Lib.hid O1
          clear B1 O1 h1 g1
          go_wp2
          refine seg_grow (anyW _ _) ?_
          refine U_one 1 (by kernel_rfl) ?_
          simp only [pickL, List.getElem?_cons_succ, List.getElem?_cons_zero]
          refine wpList_make_ints rfl (.tmp 68) (.tmp 68) rfl i rfl rfl (by omega) ?_
          intro w2 h2 g2
          have B2 := bgr (bz w1) g2 (fun k e => by cases e)
          have O3 := HO1.out.third B2 HB1.out.size h2
          have HB2 := Lib.hid (btr HB1.out B2); have HO2 := Lib.hid O3.rot
          clear B2 O3 h2 g2
          go_wp2
          refine seg_grow (anyW _ _) ?_
          refine U_heads [4, 5] (by kernel_rfl) (anyW _ _) ?_
          simp only [pickL, List.getElem?_cons_succ, List.getElem?_cons_zero]
          repeat (go_big_quiet_step (fail))
          refine wpQuiet_nil ?_
          refine U_done (by kernel_rfl) ?_
          go_wp2
          go_meet
          case rel => exact ⟨_, _, rfl, rfl, HO2.out, HB2.out⟩
      case rest =>
        obtain ⟨g, h, rfl, rfl, hO2, hB2⟩ := hcut
        have HO2 := Lib.hid hO2; have HB2 := Lib.hid hB2
        clear hO2 hB2 HO HB
        go_wp2_with fail
        go_loopw [11] (fun s11 wr => ∃ k : Nat, k ≤ i ∧ s11 = .int .i64 k ∧ Own3 wr w.heap.size (.slice gu i cu) (.slice (some ⟨g, 0, none⟩) i i) (.slice (some ⟨h, 0, none⟩) i i) s (atL s i k) (bkL s i k) ∧ Below w.heap.size w wr) (fun s11 _ => i - (intOf s11).toNat)
        case atStart => exact ⟨0, Nat.zero_le _, rfl, HO2.out, HB2.out⟩
        case round =>
          clear HO2 HB2
          obtain ⟨k, hk, rfl, hO, hB⟩ := hrel
          have HO := Lib.hid hO; have HB := Lib.hid hB
          by_cases hlt2 : k < i
          · obtain ⟨gs, cs, es, hzs, gsk, fsk⟩ := hO.a.get k (by omega)
            obtain ⟨m, hm, hml⟩ : ∃ m : Nat, elt s k = (m : Int) + 1 ∧ m < i := by
              have := (HAL.out.2 (elt s k)).1 (elt_mem (by omega))
              exact ⟨(elt s k - 1).toNat, by omega, by omega⟩
            obtain ⟨ga, ca, ea, hza, gam, fam⟩ := hO.b.get m (by rw [atL_len]; exact hml)
            simp only [Value.slice.injEq, Option.some.injEq, Addr.mk.injEq, and_true, true_and] at ea
            obtain ⟨ea1, ea2, ea3⟩ := ea
            subst ea1
            clear ea2 ea3
            have hbk : i - 1 - k < (bkL s i k).length := by rw [bkL_len]; omega
            have hO4 := hO.setB m ((k : Int) + 1)
            obtain ⟨gb, cb2, eb, hzb2, gbm, fbm⟩ := hO4.rot.b.get (i - 1 - k) hbk
            simp only [Value.slice.injEq, Option.some.injEq, Addr.mk.injEq, and_true, true_and] at eb
            obtain ⟨eb1, eb2, eb3⟩ := eb
            subst eb1
            clear eb2 eb3
            obtain ⟨gs2, cs2, es2, hzs2, gsk2, fsk2⟩ := hO4.a.get k (by omega)
            rw [es] at es2
            simp only [Value.slice.injEq, Option.some.injEq, Addr.mk.injEq, and_true, true_and] at es2
            obtain ⟨es3, es4⟩ := es2
            subst es3 es4
            have hglo := (hO.b.lt (k := g) rfl).1
            have hhlo := (hO.rot.b.lt (k := h) rfl).1
            have HO5 := Lib.hid ((hO4.rot.setB (i - 1 - k) (elt s k)).rot)
            have HB5 := Lib.hid (bset (bset hB (p := ⟨g, m, none⟩) hglo (.int .i64 ((k : Int) + 1))) (p := ⟨h, i - 1 - k, none⟩) hhlo (.int .i64 (elt s k)))
            have HAT : Hid (atL s i (k + 1) = (atL s i k).set m ((k : Int) + 1)) := Lib.hid (by
              show (atL s i k).set (elt s k - 1).toNat ((k : Int) + 1) = _
              rw [hm, show ((m : Int) + 1 - 1).toNat = m by omega])
            have HBT : Hid (bkL s i (k + 1) = (bkL s i k).set (i - 1 - k) (elt s k)) := Lib.hid rfl
            have hix : (i : Int) - 1 - (k : Int) = ((i - 1 - k : Nat) : Int) := by omega
            rw [hm] at gsk gsk2 HO5 HB5 HBT
            rw [es] at HO5
            rw [es]
            have HES := Lib.hid es
            clear hO hB hO4 hm hglo hhlo hbk HO HB es hzo
            go_wp2_with fail
            go_roundw
            case rel => exact ⟨k + 1, by omega, by go_num, by rw [HAT.out, HBT.out]; exact HO5.out, HB5.out⟩
            case measure => simp [intOf]; omega
          · have hke : k = i := by omega
            subst hke
            have hlen : s.length = k := by omega
            have hmem := HAL.out
            have hb : ∀ x ∈ s, 1 ≤ x ∧ x ≤ (s.length : Int) := fun x hx => by rw [hlen]; exact (hmem.2 x).1 hx
            have hinv := atL_inv (s := s) hmem.1 (fun x => by rw [hlen]; exact hmem.2 x)
            have hrev := bkL_rev s
            rw [hlen] at hinv hrev
            have HR2 := Lib.hid (bld_reverse hmem.1)
            have HSC := Lib.hid (seqC_nums (s := s) (by omega) hb)
            have HSCA := Lib.hid (seqC_nums (s := atL s k k) (by rw [hinv.len]; omega) (fun x hx => by rw [hinv.len]; exact hinv.bd x hx))
            have HSCR := Lib.hid (seqC_nums (s := s.reverse) (by rw [List.length_reverse]; omega) (fun x hx => by rw [List.length_reverse]; exact hb x (by simpa using hx)))
            have HT1 := Lib.hid (turned_rack hmem.1 hinv.nod hinv.len hb hinv.bd hinv.iff)
            have HT2 := Lib.hid (turned_rack (s := atL s k k) (t := s) hinv.nod hmem.1 hinv.len.symm (fun x hx => by rw [hinv.len]; exact hinv.bd x hx) (fun x hx => by rw [hinv.len]; exact hb x hx) (fun i j hi hj => (hinv.iff j i (by rw [← hinv.len]; exact hj) (by rw [← hinv.len]; exact hi)).symm))
            have HTAB := Lib.hid (bld_pair s s.length).tab
            rw [hrev] at HO
            have hal : (atL s k k).length = k := by rw [hinv.len, hlen]
            have KS := Lib.hid (keepI (RdI.of_owns HO.out.a))
            have KA := Lib.hid (keepI (RdI.of_owns HO.out.b))
            have KR := Lib.hid (keepI (RdI.of_owns HO.out.c))
            generalize atL s k k = A at *
            have HSP := Lib.hid (built_sml HSC.out)
            have HSZ := Lib.hid (built_sml HSCR.out).1
            rw [HR2.out] at HSZ
            have HSH := Lib.hid (shp_turn HTAB.out)
            have HSHP := Lib.hid (shp_built HSC.out).1
            have HTI := Lib.hid (fun i k (h : k < (row (turnT (bldR s s.length).1) i).length) => turn_in HTAB.out h)
            have HTE := Lib.hid (fun i k (h : k < (row (turnT (bldR s s.length).1) i).length) => elt_turn HTAB.out h)
            have HBS := Lib.hid (fun wz h => built_lit (.slice gu k cu) s _ _ wz h HSC.out rfl rfl)
            have HBA := Lib.hid (fun wz h => built_lit (.slice (some ⟨g, 0, none⟩) k k) A _ _ wz h HSCA.out HT1.out HT2.out.symm)
            have HBR := Lib.hid (fun wz hh => built_lit (.slice (some ⟨h, 0, none⟩) k k) s.reverse _ _ wz hh HSCR.out HR2.out rfl)
            generalize turnT (bldR s s.length).1 = Z at *
            generalize (bldR s s.length).1 = P at *
            generalize (bldR s s.length).2 = O at *
            generalize (bldR s.reverse s.reverse.length).2 = O3 at *
            have HEX := Lib.hid HSH.out.symm
            have HZB := Lib.hid (shp_bd HSZ.out).1
            have hz20 := HSZ.out.1
            have HPL := Lib.hid (show (shpI P).length ≤ 100 by have := HSHP.out.len; omega)
            have HP0 := Lib.hid HSHP.out.first
            clear hO hB hmem hb hinv hrev hal HT1 HT2 HR2 HTAB HO
            have KP0 := Lib.hid ((((keepB (bz wr)).and (KS.out)).and (KA.out)).and (KR.out))
            go_wp2_with fail
            have gs := KP0.out.here.2.2.1
            refine (HBS.out _ gs).mono ?_
            rintro e w1 ⟨vr, vo, rfl, hRr, hRo, hB⟩
            obtain ⟨ptr, qtr, hv⟩ := exL hRr P.length rfl
            subst hv
            obtain ⟨pto, qto, hv⟩ := exL hRo O.length rfl
            subst hv
            have KP1 := Lib.hid (((KP0.out.up hB).and (keepL hRr)).and (keepL hRo))
            clear KP0
            clear hB hRr hRo
            clear gs
            go_wp2_with fail
            have ga := KP1.out.here.2.2.2.1
            refine (HBA.out _ ga).mono ?_
            rintro e w2 ⟨vx, vy, rfl, hRx, hRy, hB⟩
            obtain ⟨ptx, qtx, hv⟩ := exL hRx O.length rfl
            subst hv
            obtain ⟨pty, qty, hv⟩ := exL hRy P.length rfl
            subst hv
            have KP2 := Lib.hid (((KP1.out.up hB).and (keepL hRx)).and (keepL hRy))
            clear KP1
            clear hB hRx hRy
            clear ga
            go_wp2_with fail
            have gb := KP2.out.here.2.2.2.2.1
            refine (HBR.out _ gb).mono ?_
            rintro e w3 ⟨vz, vz2, rfl, hRz, hRz2, hB⟩
            obtain ⟨ptz, qtz, hv⟩ := exL hRz Z.length rfl
            subst hv
            obtain ⟨ptz2, qtz2, hv⟩ := exL hRz2 O3.length rfl
            subst hv
            have KP3 := Lib.hid (((KP2.out.up hB).and (keepL hRz)).and (keepL hRz2))
            clear KP2
            clear hB hRz hRz2
            clear gb
            go_wp2_with fail
            have gx := KP3.out.here.2.2.2.1
            have go := KP3.out.here.2.2.2.2.1
            refine (same_lit _ _ O _ gx go HSP.out.2).mono ?_
            rintro e w4 ⟨rfl, hB⟩
            have KP4 := Lib.hid (KP3.out.up hB)
            clear KP3
            clear hB
            clear gx go
            go_wp2_with fail
            have gy := KP4.out.here.2.2.1
            have gr := KP4.out.here.2.2.2.2.2.1
            refine (same_lit _ _ P _ gy gr HSP.out.1).mono ?_
            rintro e w5 ⟨rfl, hB⟩
            have KP5 := Lib.hid (KP4.out.up hB)
            clear KP4
            clear hB
            clear gy gr
            go_wp2_with fail
            have gz := KP5.out.here.2.1
            refine (shape_lit _ Z (shpI Z) _ gz HSZ.out rfl).mono ?_
            rintro e w6 ⟨vhz, rfl, hRhz, hB⟩
            obtain ⟨pthz, qthz, hv⟩ := exI hRhz (shpI Z).length rfl
            subst hv
            have KP6 := Lib.hid ((KP5.out.up hB).and (keepI hRhz))
            clear KP5
            clear hB hRhz
            clear gz
            go_wp2_with fail
            have gr := KP6.out.here.2.2.2.2.2.2.1
            refine (shape_lit _ P (shpI P) _ gr HSP.out.1 rfl).mono ?_
            rintro e w7 ⟨vhp, rfl, hRhp, hB⟩
            obtain ⟨pthp, qthp, hv⟩ := exI hRhp (shpI P).length rfl
            subst hv
            have KP7 := Lib.hid ((KP6.out.up hB).and (keepI hRhp))
            clear KP6
            clear hB hRhp
            clear gr
            go_wp2_with fail
            have ghp := KP7.out.here.1
            refine (exch_lit _ (shpI P) (shpI Z) _ ghp HPL.out HP0.out HEX.out).mono ?_
            rintro e w8 ⟨vhe, rfl, hRhe, hB⟩
            obtain ⟨pthe, qthe, hv⟩ := exI hRhe (shpI Z).length rfl
            subst hv
            have KP8 := Lib.hid ((KP7.out.up hB).and (keepI hRhe))
            clear KP7
            clear hB hRhe
            clear ghp
            go_wp2_with fail
            have ghz := KP8.out.here.2.2.1
            have ghe := KP8.out.here.1
            refine (ints_lit _ _ (shpI Z) _ ghz ghe HZB.out).mono ?_
            rintro e w9 ⟨rfl, hB⟩
            have KP9 := Lib.hid (KP8.out.up hB)
            clear KP8
            clear hB
            clear ghz ghe
            go_wp2_with fail
            have HHZ := Lib.hid (KP9.out.here.2.2.2.2.1)
            have HHP := Lib.hid (KP9.out.here.2.2.2.2.2.2.2.2.1)
            have HBE := Lib.hid (KP9.out.here.2.2.2.2.2.2.2.2.2.2.2.2)
            clear KP9
            go_loopw [21, 22] (fun s21 _ wz => ∃ i : Nat, i ≤ Z.length ∧ s21 = .int .i64 i ∧ Below w9.heap.size w9 wz) (fun s21 _ _ => Z.length - (intOf s21).toNat)
            case atStart => exact ⟨0, Nat.zero_le _, rfl, bz w9⟩
            case round =>
              obtain ⟨i, hi, rfl, hB⟩ := hrel
              have HBo := Lib.hid hB; clear hB
              by_cases hlt3 : i < Z.length
              · obtain ⟨b, off, a', c', e1, hbz, hc, hr⟩ := HHZ.out.get i hlt3
                cases e1
                have n4 := HSZ.out.2 i
                have GX := Lib.hid (fun wz (hz : Below w9.heap.size w9 wz) => (hz.cell (p := ⟨b, off + i, none⟩) hbz).trans hc)
                have ZX := Lib.hid (fun wz (hz : Below w9.heap.size w9 wz) => Nat.lt_of_lt_of_le hbz hz.size)
                have HRR := Lib.hid hr
                have gx := GX.out _ HBo.out
                have zx := ZX.out _ HBo.out
                clear hc hr hbz
                go_wp2_with fail
                clear gx zx
                go_loopw [22] (fun s22 wz => ∃ j : Nat, j ≤ (row Z i).length ∧ s22 = .int .i64 j ∧ Below w9.heap.size w9 wz) (fun s22 _ => (row Z i).length - (intOf s22).toNat)
                case atStart => exact ⟨0, Nat.zero_le _, rfl, HBo.out⟩
                case round =>
                  clear HBo
                  obtain ⟨j, hj, rfl, hB⟩ := hrel
                  have HBi := Lib.hid hB; clear hB
                  have gx := GX.out _ HBi.out
                  have zx := ZX.out _ HBi.out
                  by_cases hlt4 : j < (row Z i).length
                  · obtain ⟨bi, oi, e2, hbi, hci⟩ := HRR.out.get (by omega)
                    subst e2
                    have gk := (HBi.out.cell (p := ⟨bi, oi + j, none⟩) hbi).trans (hci j hlt4)
                    have zk := Nat.lt_of_lt_of_le hbi HBi.out.size
                    obtain ⟨hjp, hip⟩ := HTI.out i j hlt4
                    obtain ⟨bp, op, a2, c2, e3, hbp, hcp, hrp⟩ := HHP.out.get j hjp
                    cases e3
                    have gp := (HBi.out.cell (p := ⟨bp, op + j, none⟩) hbp).trans hcp
                    have zp := Nat.lt_of_lt_of_le hbp HBi.out.size
                    obtain ⟨bq, oq, e4, hbq, hcq⟩ := hrp.get (by omega)
                    subst e4
                    have gq := (HBi.out.cell (p := ⟨bq, oq + i, none⟩) hbq).trans (hcq i hip)
                    have zq := Nat.lt_of_lt_of_le hbq HBi.out.size
                    rw [← HTE.out i j hlt4] at gq
                    have n5 := HSP.out.1.2 j
                    clear hci hcp hrp hcq
                    generalize elt (row Z i) j = vv at *
                    have n6 : (vv != vv) = false := by simp
                    go_upto_region 29 with fail
                    go_quiet (fail)
                    go_wp2_with fail
                    go_roundw
                    case rel => exact ⟨j + 1, by omega, by go_num, Below.drewN' _ HBi.out⟩
                    case measure => simp [intOf]; omega
                  · have hje : j = (row Z i).length := by omega
                    subst hje
                    go_wp2_with fail
                    go_roundw
                    case rel => exact ⟨i + 1, by omega, by go_num, HBi.out⟩
                    case measure => simp [intOf]; omega
              · have hie : i = Z.length := by omega
                subst hie
                go_wp2_with fail
                refine (works_any _).mono ?_
                rintro e w33 ⟨rfl, hB⟩
                have HB33 := Lib.hid hB; clear hB
                go_wp2_with fail
                go_ret
                exact ⟨rfl, btr HB.out (btr (btr HBE.out HBo.out) HB33.out)⟩
set_option maxRecDepth 100000 in
set_option maxHeartbeats 1600000 in
theorem rackTurned_walk (y : Value) (bs : List Int) (p : Int) (w : World) (hy0 : RdI w .u8 y bs) (hp : 0 ≤ p) (hp2 : p ≤ 255) (hbs : ∀ i, i < bs.length → 0 ≤ elt bs i ∧ elt bs i ≤ 255) :
    Calls Try.prog 11 #[.int .u8 p, y] w fun e w' => e = .returned (.bool true) ∧ Below w.heap.size w w' := by
  by_cases hl : bs.length ≤ 30
  · exact turned_core y bs p w hy0 hp hp2 hbs hl
  · obtain ⟨bl, cb, rfl, _, _, _⟩ := hy0.form
    have n1 : (30 : Int) < (bs.length : Int) := by omega
    clear hy0 hbs hl
    go_enter Try.func11, Try.ntmps11
    go_wp2_with fail
    refine (works_any _).mono ?_
    rintro e w33 ⟨rfl, hB⟩
    have HB33 := Lib.hid hB; clear hB
    go_wp2_with fail
    go_ret
    exact ⟨rfl, HB33.out⟩
section
open Go.ChangeShapes Go.WideShapes Go.ChangeAt
set_option maxRecDepth 100000 in
theorem rackTurned_lifted (os : Os) (started : os.Started) (H : Type) (enc : TypeId × Value → H) :
    ReturnsInHanded {} Try.checked os 11 .any (Rows.rackTurnedSpec.pre6 enc Try.prog Try.f11 Rows.rackTurnedRow.domain false) (Rows.rackTurnedSpec.post enc Try.prog Try.f11 false true false false) := by
  refine returnsInHanded_of_change (C := Try.checked) Try.own started (by kernel_rfl) Try.func11
    (ChangeSpec.witness6 (enc := enc) (C := Try.checked) false ⟨#[], #[.int .u8 0, .slice none 0 0], []⟩ 8 (by kernel_rfl) (by kernel_rfl) (by kernel_rfl) (by kernel_rfl)) ?_
  intro W base args ds gs before hval0 hW _ _
  have hval : ∀ (j : Nat) t v, Try.f11.params[j]? = some t → args[j]? = some v → Value.okWide Try.prog W .any base t v := hval0
  have hW' := hW
  obtain ⟨p, q, hA0, hV, rfl, hfz, hnd⟩ := hW
  have hA : DataW.TrodAll enc Try.prog W 0 (fun _ => true) true Try.f11.params.toList args.toList ds p := hA0
  have hA2 := hA
  have hlt : ∀ x ∈ p, x.block < W.heap.size := fun x hx => hW'.lt x (List.mem_append_left _ hx)
  rw [Try.params11] at hA hval
  obtain ⟨v0, vs0, d0, ds0, p0, q0, hargs, rfl, rfl, h0, r0⟩ := trodAll_cons hA
  obtain ⟨v1, vs1, d1, ds1, p1, q1, rfl, rfl, rfl, h1, r1⟩ := trodAll_cons r0
  obtain ⟨rfl, rfl, rfl⟩ := trodAll_nil r1
  obtain rfl : args = #[v0, v1] := by cases args; simp_all
  obtain ⟨rfl, rfl⟩ := trodVars_none hV
  obtain ⟨a0, rfl, rfl, rfl, w0⟩ := open_int Try.underlying5 (hval 0 5 v0 rfl rfl) h0
  obtain ⟨X1, hx1, hw1⟩ := open_ints_rd Try.underlying44 Try.underlying5 (by kernel_rfl) (hval 1 44 v1 rfl rfl) h1 (fun x hx => hlt x (by simp [hx]))
  clear hA0 hval0
  simp only [List.append_nil] at hW' hA2
  refine (rackTurned_walk v1 X1 a0 W hx1 (wf8 w0).1 (wf8 w0).2 (fun i hi => wf8 (hw1 _ (elt_mem hi)))).mono fun e W' ⟨he, hb⟩ => ?_
  subst he
  exact ⟨_, rfl, law_post Try.laidOut Try.underlying4 hW' hA2 rfl rfl rfl rfl rfl (by kernel_rfl) hb⟩
theorem rackTurned_holds : Rows.RackTurnedSaid :=
  OpenClaim.holds_of_wide 11 Try.f11 rfl rfl rfl rfl rfl rfl rfl ⟨rfl, rfl, rfl, rfl, rfl⟩ rfl rfl rfl rfl rfl (by kernel_rfl) Try.func11 (by kernel_rfl)
    (of_decide_eq_true (by kernel_rfl)) (by unfold Func.isWrapper; first | (rw [if_pos (by decide +kernel)]; kernel_rfl) | (rw [if_neg (by decide +kernel)]; exact ⟨rfl, rfl⟩))
    (fun os started H enc _ => rackTurned_lifted os started H enc)
end
end Go.Proofs.Ytnnfahdhmodejaa
