/- Merged texts: chains of the program, first part; no condition. -/
import Derived.Test.YteknehlkdgamjaaGreatMGE
import Derived.Deep.CutRange
namespace Go.Proofs.YteknehlkdgamjaaGreat
open Go.RowKit Go.Shelf

/-- A block holds just these numbers. -/
def HP (w : World) (g : Nat) (xs : List Int) : Prop := w.heap[g]? = some (.cells (arrI xs) 3 (0, 0))
theorem HP.lt {w : World} {g : Nat} {xs : List Int} (h : HP w g xs) : g < w.heap.size := (Array.getElem?_eq_some_iff.1 h).1
theorem HP.cell {w : World} {g k : Nat} {xs : List Int} (h : HP w g xs) (hk : k < xs.length) : w.cell? ⟨g, k, none⟩ = some (.int .i64 (elt xs k)) := cell_arr h hk
theorem HP.frozen {w : World} {g k : Nat} {xs : List Int} (h : HP w g xs) : w.frozen? ⟨g, k, none⟩ = false := frozen_of_row _ _ _ _ _ h
theorem HP.later {w w' : World} {g : Nat} {xs : List Int} (h : HP w g xs) (hb : Below w.heap.size w w') : HP w' g xs := (hb.block g h.lt).trans h
theorem arrI_set (xs : List Int) (k : Nat) (x : Int) : (arrI xs).setIfInBounds k (.int .i64 x) = arrI (xs.set k x) := by
  rw [← Array.toList_inj, Array.toList_setIfInBounds]
  simp [arrI, List.map_set]
theorem HP.set {w : World} {g : Nat} {xs : List Int} (h : HP w g xs) (k : Nat) (x : Int) : HP (w.setCell ⟨g, k, none⟩ (.int .i64 x)) g (xs.set k x) := by
  have := heap_setCell_same w g k _ _ (.int .i64 x) h
  rw [arrI_set] at this
  exact this
theorem HP.other {w : World} {g b k : Nat} {xs : List Int} {u : Value} (h : HP w g xs) (hb : g ≠ b) : HP (w.setCell ⟨b, k, none⟩ u) g xs :=
  (heap_setCell_other w ⟨b, k, none⟩ g u hb).trans h
theorem rowI.hp {w : World} {base g n : Nat} {xs : List Int} (h : rowI w base (.slice (some ⟨g, 0, none⟩) n n) xs) : HP w g xs := by
  rcases h.2 with ⟨e, _⟩ | ⟨g', cap, cur, e, _, hg, _, _, hs, ht⟩
  · rw [Value.slice.injEq] at e; exact absurd e.1 (by simp)
  · rw [Value.slice.injEq] at e
    have e1 := Option.some.inj e.1
    simp only [Addr.mk.injEq, and_true] at e1
    obtain ⟨_, e2, e3⟩ := e
    subst e1
    unfold HP
    rw [hg]
    rw [Nat.mul_one] at hs ht
    rw [List.take_of_length_le (by rw [Array.length_toList]; omega)] at ht
    congr 2
    rw [← Array.toList_inj, ht]
    simp [arrI]
theorem HP.rd {w : World} {g n : Nat} {xs : List Int} (h : HP w g xs) (hn : n = xs.length) (h2 : xs.length ≤ 1000) : RdI w .i64 (.slice (some ⟨g, 0, none⟩) n n) xs := by
  subst hn
  refine ⟨_, _, rfl, Nat.le_refl _, by unfold maxLen; omega, fun _ => ⟨g, 0, rfl, h.lt, fun j u hu => ?_⟩⟩
  have hj : j < xs.length := by have := (List.getElem?_eq_some_iff.1 hu).1; simpa using this
  rw [Nat.zero_add, h.cell hj]
  simp [hj] at hu
  rw [elt_lt hj, hu]
/-- What extend leaves. -/
def ExPost (J : List Job) (w0 : World) (gs gn gb i : Nat) (S nx bf : List Int) (e : Ending) (w' : World) : Prop :=
  ∃ T nx' bf', HP w' gs T ∧ HP w' gn nx' ∧ HP w' gb bf' ∧ Below w0.heap.size w0 w' ∧ ((e = .returned (.bool false) ∧ nx' = nx ∧ bf' = bf ∧ ExNo J bf i S T) ∨ (e = .returned (.bool true) ∧ ExYes J nx bf i S nx' bf'))
set_option maxRecDepth 100000 in
set_option maxHeartbeats 3200000 in
theorem extend_any (d gs gn gb n : Nat) (J : List Job) (w0 : World) (hd : DeskAt w0 d J) (hn : n = J.length) (h12 : n ≤ 12) (h1 : w0.heap.size ≤ gs) (h2 : w0.heap.size ≤ gn) (h3 : w0.heap.size ≤ gb) (hsn : gs ≠ gn) (hsb : gs ≠ gb) (hnb : gn ≠ gb) :
    ∀ (m i : Nat) (S nx bf : List Int) (w : World), Below w0.heap.size w0 w → HP w gs S → HP w gn nx → HP w gb bf → ExPre J nx bf i S → zer n S < m →
      Calls Tryz.prog 100 #[.pointer (some ⟨d, 0, none⟩), .int .i64 (i : Int), .slice (some ⟨gs, 0, none⟩) n n, .slice (some ⟨gn, 0, none⟩) n n, .slice (some ⟨gb, 0, none⟩) n n] w (ExPost J w0 gs gn gb i S nx bf) := by
  intro m
  induction m with
  | zero => intro i S nx bf w _ _ _ _ _ h; omega
  | succ m ih =>
    intro i S nx bf w hB hS hN hF hp hz
    have IH := Lib.hid ih
    have HN := Lib.hid hn; have HD := Lib.hid hd
    have HH := Lib.hid (show (w0.heap.size ≤ gs ∧ w0.heap.size ≤ gn ∧ w0.heap.size ≤ gb) ∧ gs ≠ gn ∧ gs ≠ gb ∧ gn ≠ gb from ⟨⟨h1, h2, h3⟩, hsn, hsb, hnb⟩)
    have HB := Lib.hid hB; have HS := Lib.hid hS; have HNX := Lib.hid hN; have HBF := Lib.hid hF; have HP0 := Lib.hid hp
    have HZ := Lib.hid hz
    have hin : i < n := by have := hp.hi; omega
    have HX0 := Lib.hid (ExI.start (bf := bf) (i := i) hp.m)
    obtain ⟨a, c, g, cg, dz, c1, _, c3, gz, hmk⟩ := (hd.mono hB).get
    rw [← hn] at c1 c3 hmk
    have HZ1 := Lib.hid dz; have HZ2 := Lib.hid gz
    have HMK := Lib.hid (fun (wz : World) (h : Below w0.heap.size w0 wz) => (hd.mono h).get)
    clear ih hd h1 h2 h3 hsn hsb hnb hB hS hN hF hp hz c3 gz hmk hn
    unfold ExPost
    go_enter Tryz.func100, Tryz.ntmps100
    go_wp2_with fail
    clear c1 dz
    go_loopw [18] (fun s18 wr => ∃ (k : Nat) (T : List Int), k ≤ n ∧ s18 = .int .i64 k ∧ ExI J bf i k S T ∧ HP wr gs T ∧ HP wr gn nx ∧ HP wr gb bf ∧ Below w0.heap.size w0 wr) (fun s18 _ => n - (intOf s18).toNat)
    case atStart => exact ⟨0, S, Nat.zero_le _, rfl, HX0.out, HS.out, HNX.out, HBF.out, HB.out⟩
    case round =>
      clear HX0 HS HNX HBF HB
      obtain ⟨k, T, hk, rfl, hx, hT, hN, hF, hB⟩ := hrel
      have HX := Lib.hid hx; have HT := Lib.hid hT; have HNX := Lib.hid hN; have HBF := Lib.hid hF; have HB := Lib.hid hB
      rename World => wP
      obtain ⟨a, c, g, cg, dz, c1, _, c3, gz, hmk⟩ := HMK.out wP hB
      rw [← HN.out] at c1 c3 hmk
      by_cases hkn : k < n
      · have hkJ := Lib.hid (show k < J.length by have := HN.out; omega)
        have gm := hmk i k hin (by omega)
        have hTl : T.length = n := by rw [hx.m.1, HN.out]
        have gt := hT.cell (k := k) (by omega)
        have zt := hT.lt
        have ft := hT.frozen (k := k)
        have ht01 := hx.m.2 k hkJ.out
        have HSK := Lib.hid (fun h => hx.skip h)
        clear hmk c1 hx hT hN hF hB
        cases hb : aft J i k with
        | false =>
          rw [hb, if_neg (by decide)] at gm
          have HXN := Lib.hid (HSK.out (.inl hb))
          clear hb
          go_wp2_with fail
          go_roundw
          case rel => exact ⟨k + 1, T, by omega, by go_num, HXN.out, HT.out, HNX.out, HBF.out, HB.out⟩
          case measure => simp [intOf]; omega
        | true =>
          rw [hb, if_pos rfl] at gm
          by_cases ht : elt T k = 1
          · rw [ht] at gt
            have HXN := Lib.hid (HSK.out (.inr ht))
            clear hb ht ht01
            go_wp2_with fail
            go_roundw
            case rel => exact ⟨k + 1, T, by omega, by go_num, HXN.out, HT.out, HNX.out, HBF.out, HB.out⟩
            case measure => simp [intOf]; omega
          · have ht0 : elt T k = 0 := by omega
            rw [ht0] at gt
            have HT0 := Lib.hid ht0; have HBT := Lib.hid hb
            have HT1 := Lib.hid (HT.out.set k 1)
            have HN1 := Lib.hid (HNX.out.other (b := gs) (k := k) (u := .int .i64 1) (by have := HH.out.2.1; omega))
            have HF1 := Lib.hid (HBF.out.other (b := gs) (k := k) (u := .int .i64 1) (by have := HH.out.2.2.1; omega))
            have HB1 := Lib.hid (bset HB.out (p := ⟨gs, k, none⟩) HH.out.1.1 (.int .i64 1))
            clear hb ht ht01 ht0
            go_upto_region 6 with fail
            generalize wP.setCell ⟨gs, k, none⟩ (.int .i64 1) = w4 at *
            clear gm gt zt ft dz c3 gz
            have hfl : bf.length = n := by rw [HP0.out.mat.lb, HN.out]
            have gb1 := HF1.out.cell (k := k) (by omega)
            have zb1 := HF1.out.lt
            rcases HP0.out.mat.right k hkJ.out with hb1 | ⟨b, hbJ, hb1, hba, _⟩
            · rw [hb1] at gb1
              have HY := Lib.hid (ExYes.new HP0.out HX.out hkJ.out HBT.out HT0.out hb1)
              have hnl : nx.length = n := by rw [HP0.out.mat.ln, HN.out]
              have gn1 := HN1.out.cell (k := i) (by omega)
              have zn1 := HN1.out.lt
              have fn1 := HN1.out.frozen (k := i)
              have HN2 := Lib.hid (HN1.out.set i k)
              have HT2 := Lib.hid (HT1.out.other (b := gn) (k := i) (u := .int .i64 (k : Int)) HH.out.2.1)
              have HF2 := Lib.hid (HF1.out.other (b := gn) (k := i) (u := .int .i64 (k : Int)) (by have := HH.out.2.2.2; omega))
              have HB2 := Lib.hid (bset HB1.out (p := ⟨gn, i, none⟩) HH.out.1.2.1 (.int .i64 (k : Int)))
              have gb2 := HF2.out.cell (k := k) (by omega)
              rw [hb1] at gb2
              have zb2 := HF2.out.lt
              have fb2 := HF2.out.frozen (k := k)
              have HF3 := Lib.hid (HF2.out.set k i)
              have HT3 := Lib.hid (HT2.out.other (b := gb) (k := k) (u := .int .i64 (i : Int)) HH.out.2.2.1)
              have HN3 := Lib.hid (HN2.out.other (b := gb) (k := k) (u := .int .i64 (i : Int)) HH.out.2.2.2)
              have HB3 := Lib.hid (bset HB2.out (p := ⟨gb, k, none⟩) HH.out.1.2.2 (.int .i64 (i : Int)))
              clear hb1 hnl
              go_wp2_with fail
              go_ret
              exact ⟨_, _, _, HT3.out, HN3.out, HF3.out, HB3.out, .inr ⟨rfl, HY.out⟩⟩
            · rw [hb1] at gb1
              have HPR := Lib.hid (HX.out.pre HP0.out hkJ.out HT0.out hb1)
              have HZZ := Lib.hid (show zer n (T.set k 1) < m by
                have e1 := zer_set (by rw [HN.out]; exact HX.out.m) hkn HT0.out
                have e2 := zer_mono (n := n) (by rw [HN.out]; exact HP0.out.m) (by rw [HN.out]; exact HX.out.m) (fun c hc h => HX.out.up c (by rw [← HN.out]; exact hc) h)
                have := HZ.out; omega)
              have HFA := Lib.hid (fun U h => HX.out.fail (U := U) hkJ.out hbJ hb1 h)
              have HDE := Lib.hid (fun nx' bf' h => ExYes.deep (nx' := nx') (bf' := bf') HP0.out HX.out hkJ.out HBT.out HT0.out hb1 h)
              clear hb1 hba hbJ
              go_wp2_with fail
              refine (IH.out b (T.set k 1) nx bf w4 HB1.out HT1.out HN1.out HF1.out HPR.out.1 HZZ.out).mono ?_
              rintro e w5 ⟨U, nx', bf', hU, hN', hF', hB', hor⟩
              have HU := Lib.hid hU; have HN5 := Lib.hid hN'; have HF5 := Lib.hid hF'; have HB5 := Lib.hid hB'
              clear gb1 zb1 hU hN' hF' hB'
              rcases hor with ⟨rfl, hnn, hbb, hno⟩ | ⟨rfl, hyes⟩
              · subst hnn
                subst hbb
                have HXN := Lib.hid (HFA.out U hno)
                clear hno
                go_wp2_with fail
                go_roundw
                case rel => exact ⟨k + 1, U, by omega, by go_num, HXN.out, HU.out, HN5.out, HF5.out, HB5.out⟩
                case measure => simp [intOf]; omega
              · have HY := Lib.hid (HDE.out nx' bf' hyes)
                have hnl : nx'.length = n := by rw [hyes.mat.ln, HN.out]
                have hbl : bf'.length = n := by rw [hyes.mat.lb, HN.out]
                have gn1 := HN5.out.cell (k := i) (by omega)
                have zn1 := HN5.out.lt
                have fn1 := HN5.out.frozen (k := i)
                have HN2 := Lib.hid (HN5.out.set i k)
                have HT2 := Lib.hid (HU.out.other (b := gn) (k := i) (u := .int .i64 (k : Int)) HH.out.2.1)
                have HF2 := Lib.hid (HF5.out.other (b := gn) (k := i) (u := .int .i64 (k : Int)) (by have := HH.out.2.2.2; omega))
                have HB2 := Lib.hid (bset HB5.out (p := ⟨gn, i, none⟩) HH.out.1.2.1 (.int .i64 (k : Int)))
                have gb2 := HF2.out.cell (k := k) (by omega)
                have zb2 := HF2.out.lt
                have fb2 := HF2.out.frozen (k := k)
                have HF3 := Lib.hid (HF2.out.set k i)
                have HT3 := Lib.hid (HT2.out.other (b := gb) (k := k) (u := .int .i64 (i : Int)) HH.out.2.2.1)
                have HN3 := Lib.hid (HN2.out.other (b := gb) (k := k) (u := .int .i64 (i : Int)) HH.out.2.2.2)
                have HB3 := Lib.hid (bset HB2.out (p := ⟨gb, k, none⟩) HH.out.1.2.2 (.int .i64 (i : Int)))
                clear hyes hnl hbl
                generalize elt nx' i = e1 at *
                generalize elt bf' k = e2 at *
                go_wp2_with fail
                go_ret
                exact ⟨_, _, _, HT3.out, HN3.out, HF3.out, HB3.out, .inr ⟨rfl, HY.out⟩⟩
      · have HXE := Lib.hid (show ExNo J bf i S T from by
          have hke : k = J.length := by have := HN.out; omega
          rw [hke] at hx; exact hx.fin)
        clear hx hT hN hF hB hmk
        go_wp2_with fail
        go_ret
        exact ⟨T, nx, bf, HT.out, HNX.out, HBF.out, HB.out, .inl ⟨rfl, rfl, rfl, HXE.out⟩⟩
end Go.Proofs.YteknehlkdgamjaaGreat

namespace Go.Proofs.YteknehlkdgamjaaGreat
open Go.RowKit Go.Shelf

set_option maxRecDepth 100000 in
set_option maxHeartbeats 3200000 in
theorem match_any (d : Nat) (J : List Job) (w : World) (hd : DeskAt w d J) (hJ : FineJ J) :
    Calls Tryz.prog 74 #[.pointer (some ⟨d, 0, none⟩)] w fun e w' => ∃ gn gb nx bf, e = .returned (.tuple #[.slice (some ⟨gn, 0, none⟩) J.length J.length, .slice (some ⟨gb, 0, none⟩) J.length J.length]) ∧ HP w' gn nx ∧ HP w' gb bf ∧ gn ≠ gb ∧ w.heap.size ≤ gn ∧ w.heap.size ≤ gb ∧ MatI J nx bf J.length ∧ Below w.heap.size w w' := by
  obtain ⟨a, c, g, cg, hz, h1, _⟩ := hd.get
  have HD := Lib.hid hd
  have h12 := hJ.n12
  have h11 := hJ.n1
  have HMZ := Lib.hid (MatI.start J)
  clear hd hJ
  obtain ⟨n, hn⟩ : ∃ n, n = J.length := ⟨_, rfl⟩
  have HN := Lib.hid hn
  rw [← hn] at h1 h12 h11 HMZ ⊢
  clear hn
  go_enter Tryz.func74, Tryz.ntmps74
  go_upto_region 1 with fail
  go_cut [4, 5] from 7 (fun v4 v5 wx => ∃ gn gb : Nat, v4 = .slice (some ⟨gn, 0, none⟩) n n ∧ v5 = .slice (some ⟨gb, 0, none⟩) n n ∧ HP wx gn (List.replicate n (-1)) ∧ HP wx gb (List.replicate n (-1)) ∧ gn ≠ gb ∧ w.heap.size ≤ gn ∧ w.heap.size ≤ gb ∧ Below w.heap.size w wx)
  case first =>
    refine wp_region_U [1, 2, 3, 4, 5, 6, 9, 10, 11, 12, 13, 14, 16, 17] [] (by kernel_rfl) (by kernel_rfl) ?_
    intro wc hBc hh
    clear hh
    have HBc := Lib.hid hBc
    have hL := @Later.cell wc
    have k1 := (hBc.cell (p := ⟨d, 0, none⟩) hz).trans h1
    have z1 := Nat.lt_of_lt_of_le hz hBc.size
    have HBb := Lib.hid (bz wc)
    clear hBc h1 hz
    refine U_heads [1, 2, 3, 4, 5, 6, 9, 10, 11, 12, 13, 14] (by kernel_rfl) ⟨⟨_, bz _⟩, rfl⟩ ?_
    simp only [pickL, List.getElem?_cons_succ, List.getElem?_cons_zero]
    repeat (go_big_quiet_step (fail))
    refine wpQuiet_nil ?_
    clear hL k1 z1
    refine U_two 0 8 (by kernel_rfl) ?_ ?_
    · simp only [pickL, List.getElem?_cons_zero]
      go_wp2
      have HBn := Lib.hid (btr HBb.out (bal (bz wc) (.cells #[.int .i64 (-1)] 3)))
      have hrd0 := rdI_oneAt wc (-1) wc.heap.size rfl
      refine seg_grow ⟨⟨_, HBn.out⟩, rfl⟩ ?_
      generalize wc.alloc (.cells #[.int .i64 (-1)] 3) = w21 at *
      have HBb := Lib.hid HBn.out
      clear HBn
      refine U_two 7 8 (by kernel_rfl) ?_ ?_
      · simp only [pickL, List.getElem?_cons_succ, List.getElem?_cons_zero]
        go_wp2_with fail
        refine (repeat_any _ (-1) n h11 h12 w21 hrd0).mono ?_
        rintro e w22 ⟨rfl, hr7, hb7⟩
        have HBn := Lib.hid (btr HBb.out hb7)
        have HG7 := Lib.hid (show wc.heap.size ≤ w21.heap.size from HBb.out.size)
        have hp7 := hr7.hp
        generalize hg7 : w21.heap.size = g7 at *
        go_wp2
        refine seg_grow ⟨⟨_, HBn.out⟩, rfl⟩ ?_
        clear hr7 hb7
        have HBb := Lib.hid HBn.out
        clear HBn
        refine U_one 8 (by kernel_rfl) ?_
        simp only [pickL, List.getElem?_cons_succ, List.getElem?_cons_zero]
        go_wp2
        have HBn := Lib.hid (btr HBb.out (bal (bz w22) (.cells #[.int .i64 (-1)] 3)))
        have hrd8 := rdI_oneAt w22 (-1) w22.heap.size rfl
        have hlt7 := hp7.lt
        have hp7 := hp7.later (bal (bz w22) (.cells #[.int .i64 (-1)] 3))
        refine seg_grow ⟨⟨_, HBn.out⟩, rfl⟩ ?_
        generalize w22.alloc (.cells #[.int .i64 (-1)] 3) = w23 at *
        have HBb := Lib.hid HBn.out
        clear HBn
        refine U_one 15 (by kernel_rfl) ?_
        simp only [pickL, List.getElem?_cons_succ, List.getElem?_cons_zero]
        go_wp2_with fail
        refine (repeat_any _ (-1) n h11 h12 w23 hrd8).mono ?_
        rintro e w24 ⟨rfl, hr15, hb15⟩
        have HBn := Lib.hid (btr HBb.out hb15)
        have HG15 := Lib.hid (show wc.heap.size ≤ w23.heap.size from HBb.out.size)
        have hlt7 := hp7.lt
        have hp7 := hp7.later hb15
        have hp15 := hr15.hp
        generalize hg15 : w23.heap.size = g15 at *
        go_wp2
        refine seg_grow ⟨⟨_, HBn.out⟩, rfl⟩ ?_
        clear hr15 hb15
        have HBb := Lib.hid HBn.out
        clear HBn
        refine U_heads [16, 17] (by kernel_rfl) ⟨⟨_, HBb.out⟩, rfl⟩ ?_
        simp only [pickL, List.getElem?_cons_succ, List.getElem?_cons_zero]
        repeat (go_big_quiet_step (fail))
        refine wpQuiet_nil ?_
        refine U_done (by kernel_rfl) ?_
        go_wp2
        go_meet
        case rel => exact ⟨g7, g15, rfl, rfl, hp7, hp15, by omega, Nat.le_trans HBc.out.size HG7.out, Nat.le_trans HBc.out.size HG15.out, btr HBc.out HBb.out⟩
      · simp only [pickL, List.getElem?_cons_succ, List.getElem?_cons_zero]
        go_wp2
        have HBn := Lib.hid (btr HBb.out (bal (bz w21) (.cells #[.int .i64 (-1)] 3)))
        have hrd8 := rdI_oneAt w21 (-1) w21.heap.size rfl
        have hrd0 := hrd0.mono (bal (bz w21) (.cells #[.int .i64 (-1)] 3))
        refine seg_grow ⟨⟨_, HBn.out⟩, rfl⟩ ?_
        generalize w21.alloc (.cells #[.int .i64 (-1)] 3) = w22 at *
        have HBb := Lib.hid HBn.out
        clear HBn
        refine U_one 7 (by kernel_rfl) ?_
        simp only [pickL, List.getElem?_cons_succ, List.getElem?_cons_zero]
        go_wp2_with fail
        refine (repeat_any _ (-1) n h11 h12 w22 hrd0).mono ?_
        rintro e w23 ⟨rfl, hr7, hb7⟩
        have HBn := Lib.hid (btr HBb.out hb7)
        have HG7 := Lib.hid (show wc.heap.size ≤ w22.heap.size from HBb.out.size)
        have hrd8 := hrd8.mono hb7
        have hp7 := hr7.hp
        generalize hg7 : w22.heap.size = g7 at *
        go_wp2
        refine seg_grow ⟨⟨_, HBn.out⟩, rfl⟩ ?_
        clear hr7 hb7
        have HBb := Lib.hid HBn.out
        clear HBn
        refine U_one 15 (by kernel_rfl) ?_
        simp only [pickL, List.getElem?_cons_succ, List.getElem?_cons_zero]
        go_wp2_with fail
        refine (repeat_any _ (-1) n h11 h12 w23 hrd8).mono ?_
        rintro e w24 ⟨rfl, hr15, hb15⟩
        have HBn := Lib.hid (btr HBb.out hb15)
        have HG15 := Lib.hid (show wc.heap.size ≤ w23.heap.size from HBb.out.size)
        have hlt7 := hp7.lt
        have hp7 := hp7.later hb15
        have hp15 := hr15.hp
        generalize hg15 : w23.heap.size = g15 at *
        go_wp2
        refine seg_grow ⟨⟨_, HBn.out⟩, rfl⟩ ?_
        clear hr15 hb15
        have HBb := Lib.hid HBn.out
        clear HBn
        refine U_heads [16, 17] (by kernel_rfl) ⟨⟨_, HBb.out⟩, rfl⟩ ?_
        simp only [pickL, List.getElem?_cons_succ, List.getElem?_cons_zero]
        repeat (go_big_quiet_step (fail))
        refine wpQuiet_nil ?_
        refine U_done (by kernel_rfl) ?_
        go_wp2
        go_meet
        case rel => exact ⟨g7, g15, rfl, rfl, hp7, hp15, by omega, Nat.le_trans HBc.out.size HG7.out, Nat.le_trans HBc.out.size HG15.out, btr HBc.out HBb.out⟩
    · simp only [pickL, List.getElem?_cons_succ, List.getElem?_cons_zero]
      go_wp2
      have HBn := Lib.hid (btr HBb.out (bal (bz wc) (.cells #[.int .i64 (-1)] 3)))
      have hrd8 := rdI_oneAt wc (-1) wc.heap.size rfl
      refine seg_grow ⟨⟨_, HBn.out⟩, rfl⟩ ?_
      generalize wc.alloc (.cells #[.int .i64 (-1)] 3) = w21 at *
      have HBb := Lib.hid HBn.out
      clear HBn
      refine U_one 0 (by kernel_rfl) ?_
      simp only [pickL, List.getElem?_cons_zero]
      go_wp2
      have HBn := Lib.hid (btr HBb.out (bal (bz w21) (.cells #[.int .i64 (-1)] 3)))
      have hrd0 := rdI_oneAt w21 (-1) w21.heap.size rfl
      have hrd8 := hrd8.mono (bal (bz w21) (.cells #[.int .i64 (-1)] 3))
      refine seg_grow ⟨⟨_, HBn.out⟩, rfl⟩ ?_
      generalize w21.alloc (.cells #[.int .i64 (-1)] 3) = w22 at *
      have HBb := Lib.hid HBn.out
      clear HBn
      refine U_one 7 (by kernel_rfl) ?_
      simp only [pickL, List.getElem?_cons_succ, List.getElem?_cons_zero]
      go_wp2_with fail
      refine (repeat_any _ (-1) n h11 h12 w22 hrd0).mono ?_
      rintro e w23 ⟨rfl, hr7, hb7⟩
      have HBn := Lib.hid (btr HBb.out hb7)
      have HG7 := Lib.hid (show wc.heap.size ≤ w22.heap.size from HBb.out.size)
      have hrd8 := hrd8.mono hb7
      have hp7 := hr7.hp
      generalize hg7 : w22.heap.size = g7 at *
      go_wp2
      refine seg_grow ⟨⟨_, HBn.out⟩, rfl⟩ ?_
      clear hr7 hb7
      have HBb := Lib.hid HBn.out
      clear HBn
      refine U_one 15 (by kernel_rfl) ?_
      simp only [pickL, List.getElem?_cons_succ, List.getElem?_cons_zero]
      go_wp2_with fail
      refine (repeat_any _ (-1) n h11 h12 w23 hrd8).mono ?_
      rintro e w24 ⟨rfl, hr15, hb15⟩
      have HBn := Lib.hid (btr HBb.out hb15)
      have HG15 := Lib.hid (show wc.heap.size ≤ w23.heap.size from HBb.out.size)
      have hlt7 := hp7.lt
      have hp7 := hp7.later hb15
      have hp15 := hr15.hp
      generalize hg15 : w23.heap.size = g15 at *
      go_wp2
      refine seg_grow ⟨⟨_, HBn.out⟩, rfl⟩ ?_
      clear hr15 hb15
      have HBb := Lib.hid HBn.out
      clear HBn
      refine U_heads [16, 17] (by kernel_rfl) ⟨⟨_, HBb.out⟩, rfl⟩ ?_
      simp only [pickL, List.getElem?_cons_succ, List.getElem?_cons_zero]
      repeat (go_big_quiet_step (fail))
      refine wpQuiet_nil ?_
      refine U_done (by kernel_rfl) ?_
      go_wp2
      go_meet
      case rel => exact ⟨g7, g15, rfl, rfl, hp7, hp15, by omega, Nat.le_trans HBc.out.size HG7.out, Nat.le_trans HBc.out.size HG15.out, btr HBc.out HBb.out⟩
  case rest =>
    obtain ⟨gn, gb, rfl, rfl, hn, hb, hnb, hnz, hbz, hB⟩ := hcut
    have HNX := Lib.hid hn; have HBF := Lib.hid hb; have HB := Lib.hid hB
    have HH := Lib.hid (show w.heap.size ≤ gn ∧ w.heap.size ≤ gb ∧ gn ≠ gb from ⟨hnz, hbz, hnb⟩)
    have gd := (hB.cell (p := ⟨d, 0, none⟩) hz).trans h1
    have zd := Nat.lt_of_lt_of_le hz hB.size
    clear hn hb hnb hnz hbz hB
    go_wp2_with fail
    clear gd zd
    go_loopw [29] (fun s29 wr => ∃ (i : Nat) (nx bf : List Int), i ≤ n ∧ s29 = .int .i64 i ∧ MatI J nx bf i ∧ HP wr gn nx ∧ HP wr gb bf ∧ Below w.heap.size w wr) (fun s29 _ => n - (intOf s29).toNat)
    case atStart => exact ⟨0, _, _, Nat.zero_le _, rfl, HMZ.out, HNX.out, HBF.out, HB.out⟩
    case round =>
      clear HNX HBF HB
      obtain ⟨i, nx, bf, hi, rfl, hm, hn, hb, hB⟩ := hrel
      have HM := Lib.hid hm; have HNX := Lib.hid hn; have HBF := Lib.hid hb; have HB := Lib.hid hB
      rename World => wP
      have gd := (hB.cell (p := ⟨d, 0, none⟩) hz).trans h1
      have zd := Nat.lt_of_lt_of_le hz hB.size
      by_cases hlt : i < n
      · have hsz : w.heap.size ≤ wP.heap.size := hB.size
        have HZS := Lib.hid (show gn < wP.heap.size ∧ gb < wP.heap.size from ⟨hn.lt, hb.lt⟩)
        have HPR := Lib.hid (hm.pre (show i < J.length by have := HN.out; omega))
        have HFA := Lib.hid (fun T h => hm.fail (T := T) (show i < J.length by have := HN.out; omega) h)
        have HYE := Lib.hid (fun nx' bf' h => hm.yes (nx' := nx') (bf' := bf') (show i < J.length by have := HN.out; omega) h)
        rw [← HN.out] at HPR HFA HYE
        have HSZ := Lib.hid hsz
        clear hm hn hb hB hsz
        go_wp2_with (refine wpList_make_ints rfl _ _ rfl n rfl rfl (by omega) ?_)
        intro w5 hr5 hg5
        have hB5 : Below wP.heap.size wP w5 := bgr (bz wP) hg5 (fun k e => by cases e)
        have HB5 := Lib.hid (btr HB.out hB5)
        have HS5 := Lib.hid hr5.hp
        have HN5 := Lib.hid (HNX.out.later hB5); have HF5 := Lib.hid (HBF.out.later hB5)
        clear hr5 hg5 hB5 gd zd
        generalize wP.heap.size = gs at *
        go_wp2_with fail
        refine (extend_any d gs gn gb n J w HD.out HN.out h12 HSZ.out HH.out.1 HH.out.2.1 (by have := HZS.out; omega) (by have := HZS.out; omega) HH.out.2.2 (n + 1) i (List.replicate n 0) nx bf w5 HB5.out HS5.out HN5.out HF5.out HPR.out (by have := zer_le n (List.replicate n (0 : Int)); omega)).mono ?_
        rintro e w6 ⟨T, nx', bf', hU, hN', hF', hB', hor⟩
        have HN6 := Lib.hid hN'; have HF6 := Lib.hid hF'; have HB6 := Lib.hid hB'
        clear hU hN' hF' hB'
        rcases hor with ⟨rfl, hnn, hbb, hno⟩ | ⟨rfl, hyes⟩
        · subst hnn
          subst hbb
          have HM6 := Lib.hid (HFA.out T hno)
          clear hno
          go_wp2_with fail
          go_roundw
          case rel => exact ⟨i + 1, _, _, by omega, by go_num, HM6.out, HN6.out, HF6.out, HB6.out⟩
          case measure => simp [intOf]; omega
        · have HM6 := Lib.hid (HYE.out nx' bf' hyes)
          clear hyes
          go_wp2_with fail
          go_roundw
          case rel => exact ⟨i + 1, nx', bf', by omega, by go_num, HM6.out, HN6.out, HF6.out, HB6.out⟩
          case measure => simp [intOf]; omega
      · have HME := Lib.hid (show MatI J nx bf n from by
          have hie : i = n := by omega
          rw [hie] at hm; exact hm)
        clear hm hn hb hB
        go_wp2_with fail
        go_ret2
        exact ⟨gn, gb, nx, bf, rfl, HNX.out, HBF.out, HH.out.2.2, HH.out.1, HH.out.2.1, HME.out, HB.out⟩
end Go.Proofs.YteknehlkdgamjaaGreat

namespace Go.Proofs.YteknehlkdgamjaaGreat
open Go.RowKit Go.Shelf

section
variable {w w' : World} {B C : Nat → Prop} {v : Value} {R : List (List Int)} {vs : List Value}
/-- 'append' of a row to rows. -/
theorem LL.push2 {e : Value} {xs : List Int} {ops : Array Oper} {rest : List Oper} {o : Oper} {a : Act} {Q : Exit → Act → World → Prop} (h : LL w B v R vs) (he : rowI w 0 e xs) (heB : ∀ k, e.ownBlock = some k → B k) (hap : ∀ (j : Nat) (f : Value), vs[j]? = some f → apartV f e) (hgd : o.guard = none) (s x : Operand)
    (ho : o.op = .call { callee := .builtin .append, args := #[s, x], argTypes := #[70, 70] }) (hs : a.eval s = v) {nb : Nat} (hx : a.eval x = .slice (some ⟨nb, 0, none⟩) 1 1) (hnb : nb = w.heap.size) (hl : R.length ≤ 1000) (hB : ∀ k, w.heap.size ≤ k → B k)
    (H : ∀ v' w', LL w' B v' (R ++ [xs]) (vs ++ [e]) → Fr w w' B → (∀ k, k < w.heap.size → v.ownBlock ≠ some k → w'.heap[k]? = w.heap[k]?) → wpList Tryz.prog ops Q rest (a.put o.dst v') w') :
    wpList Tryz.prog ops Q (o :: rest) a (w.alloc (.cells #[e] 41)) := by
  subst hnb
  obtain ⟨i0, hi, hz0, hz1, hz2⟩ := info_parts infoI
  have hlen := h.len
  have he1 : e.oneCell' = true := by
    obtain ⟨_, _, rfl⟩ := owns_form he
    rfl
  refine wpList_append_own_at _ hgd s x 70 ho 0 41 i0 (.slice none 0 0) 1 24 Tryz.underlying70 hi hz0 hz1 hz2 rfl (by decide) _ _ _ hs (World.ownsRow.alloc h.out _) ⟨w.heap.size, 0, none⟩ 1 1 [e] hx rfl (fun j u hj => ?_) (fun u hu => by simp at hu; subst hu; exact he1)
    (by simp only [maxLen]; omega) (by omega) (by omega) ?_
  · match j, hj with
    | 0, hj => simp at hj; subst hj; rw [Go.WideShapes.add_plain]; simp
  · intro v' w' h1 h2 _ h4
    have hF : Fr w w' B := (Fr.grown (World.grownBy_alloc w _ none) (fun j e => by cases e)).trans (Fr.grown h2 fun j ej => h.outB j ej)
    have hk : ∀ f ys, rowI w 0 f ys → rowI w' 0 f ys := fun f ys hf => (World.ownsRow.alloc hf _).kept h2 (own_ne hf h.out (by decide))
    have hsplit : ∀ (j : Nat) (f : Value), (vs ++ [e])[j]? = some f → (j < vs.length ∧ vs[j]? = some f) ∨ (j = vs.length ∧ f = e) := fun j f hf => by
      rcases Nat.lt_or_ge j vs.length with hj | hj
      · rw [List.getElem?_append_left hj] at hf; exact .inl ⟨hj, hf⟩
      · have hj2 : j = vs.length := by have := (List.getElem?_eq_some_iff.1 hf).1; simp at this; omega
        subst hj2
        simp at hf
        exact .inr ⟨rfl, hf.symm⟩
    refine H v' w' ⟨by simp [hlen], by rw [List.length_append]; exact h1, fun k ek => ?_, fun j f hf => ?_, fun j f hf => ?_, fun j k f g hjk hf hg => ?_⟩ hF (fun k hk hne => (h2.block k (by simp; omega) (fun e => hne e.symm)).trans (Below.heap_alloc w _ k hk))
    · rcases h4 with h4 | h4
      · rw [h4] at ek; exact h.outB k ek
      · rw [h4] at ek; cases ek; exact hB _ (by simp)
    · rw [row_snoc]
      rcases hsplit j f hf with ⟨hj, hf⟩ | ⟨hj, rfl⟩
      · rw [if_neg (by omega)]; exact hk _ _ (h.el j f hf)
      · rw [if_pos (by omega)]; exact hk _ _ he
    · rcases hsplit j f hf with ⟨hj, hf⟩ | ⟨hj, rfl⟩
      · exact h.elB j f hf
      · exact heB
    · rcases hsplit j f hf with ⟨hj, hf'⟩ | ⟨hj, e1⟩ <;> rcases hsplit k g hg with ⟨hk', hg'⟩ | ⟨hk', e2⟩
      · exact h.ap j k f g hjk hf' hg'
      · rw [e2]; exact hap j f hf'
      · rw [e1]; exact (hap k g hg').symm
      · omega
theorem LL.push {e : Value} {xs : List Int} {ops : Array Oper} {rest : List Oper} {o : Oper} {a : Act} {Q : Exit → Act → World → Prop} (h : LL w B v R vs) (he : rowI w 0 e xs) (heB : ∀ k, e.ownBlock = some k → B k) (hap : ∀ (j : Nat) (f : Value), vs[j]? = some f → apartV f e) (hgd : o.guard = none) (s x : Operand)
    (ho : o.op = .call { callee := .builtin .append, args := #[s, x], argTypes := #[70, 70] }) (hs : a.eval s = v) {nb : Nat} (hx : a.eval x = .slice (some ⟨nb, 0, none⟩) 1 1) (hnb : nb = w.heap.size) (hl : R.length ≤ 1000) (hB : ∀ k, w.heap.size ≤ k → B k)
    (H : ∀ v' w', LL w' B v' (R ++ [xs]) (vs ++ [e]) → Fr w w' B → wpList Tryz.prog ops Q rest (a.put o.dst v') w') :
    wpList Tryz.prog ops Q (o :: rest) a (w.alloc (.cells #[e] 41)) :=
  LL.push2 h he heB hap hgd s x ho hs hx hnb hl hB (fun v' w' h1 h2 _ => H v' w' h1 h2)
end
theorem fol_len {J : List Job} (hJ : FineJ J) (hc : cir J = false) {nx bf : List Int} (hm : Mat J nx bf (-1)) {i : Nat} (hi : i < J.length) : (fol J nx (i : Int)).length ≤ J.length :=
  sub_len (AfC.nodup hc (fun x hx => (fol_fr hJ hc hm _ hi (Nat.le_refl _) x hx).2) (fol_afc hJ hc hm _ hi (Nat.le_refl _))) (fun x hx => (fol_fr hJ hc hm _ hi (Nat.le_refl _) x hx).2)
/-- How many jobs come behind, at most. -/
def folM (J : List Job) (a : Int) : Nat := if a < 0 then 0 else suc J a.toNat + 1
theorem folM_lt {J : List Job} (hJ : FineJ J) (hc : cir J = false) {nx bf : List Int} (hm : Mat J nx bf (-1)) {i : Nat} (hi : i < J.length) : folM J (elt nx i) < folM J (i : Int) := by
  unfold folM
  rw [if_neg (show ¬ (i : Int) < 0 by omega), Int.toNat_natCast]
  rcases hm.left i hi with h3 | ⟨k, h3, h4, _, h5, _⟩
  · rw [if_pos (by omega)]; omega
  · rw [if_neg (by omega), h4, Int.toNat_natCast]
    have := suc_rch hJ hc ((aft_iff hi).1 h5); omega
def covI (J : List Job) (nx bf : List Int) (k : Nat) : List (List Int) := (covTo J nx bf k).map ints
theorem covI_succ (J : List Job) (nx bf : List Int) (k : Nat) : covI J nx bf (k + 1) = if elt bf k < 0 then covI J nx bf k ++ [ints (fol J nx (k : Int))] else covI J nx bf k := by
  unfold covI
  rw [covTo_succ]
  split
  · rw [List.map_append]; rfl
  · rfl
theorem covI_len (J : List Job) (nx bf : List Int) (k : Nat) : (covI J nx bf k).length ≤ k := by
  unfold covI
  rw [List.length_map, covTo_len]
  exact rootTo_len bf k
set_option maxRecDepth 100000 in
set_option maxHeartbeats 3200000 in
theorem cover_any (d gn gb n : Nat) (J : List Job) (nx bf : List Int) (w : World) (hd : DeskAt w d J) (hJ : FineJ J) (hc : cir J = false) (hn : n = J.length) (hN : HP w gn nx) (hF : HP w gb bf) (hm : Mat J nx bf (-1)) :
    Calls Tryz.prog 75 #[.pointer (some ⟨d, 0, none⟩), .slice (some ⟨gn, 0, none⟩) n n, .slice (some ⟨gb, 0, none⟩) n n] w fun e w' => ∃ v, e = .returned v ∧ RdLL w' v (covI J nx bf J.length) ∧ Below w.heap.size w w' := by
  obtain ⟨a, c, g, cg, hz, h1, _⟩ := hd.get
  have h12 := hJ.n12
  have HN := Lib.hid hn; have HNX := Lib.hid hN; have HBF := Lib.hid hF; have HM := Lib.hid hm
  have HZN := Lib.hid hN.lt; have HZF := Lib.hid hF.lt
  have HML := Lib.hid (fun i (hi : i < J.length) => folM_lt hJ hc hm hi)
  have HFE := Lib.hid (fun i (hi : i < J.length) => fol_eq hJ hc hm hi)
  have HFL := Lib.hid (fun i (hi : i < J.length) => fol_len hJ hc hm hi)
  have HFN := Lib.hid (fun a h => fol_neg (J := J) (nx := nx) (at' := a) h)
  have HCS := Lib.hid (covI_succ J nx bf)
  have HCL := Lib.hid (covI_len J nx bf)
  have HC0 := Lib.hid (show covI J nx bf 0 = [] from rfl)
  have hnl : nx.length = n := by rw [hm.ln, hn]
  have hbl : bf.length = n := by rw [hm.lb, hn]
  rw [← hn] at h1 h12 ⊢
  clear hd hJ hc hn hN hF hm
  go_enter Tryz.func75, Tryz.ntmps75
  go_wp2_with fail
  refine wp_scope_straight ?_
  go_wp2_with fail
  refine wp_label ?_
  go_wp2_with fail
  go_loopw [7, 17] (fun s7 s17 wr => ∃ (k : Nat) (vs : List Value), k ≤ n ∧ s17 = .int .i64 k ∧ LL wr (fun j => w.heap.size ≤ j) s7 (covI J nx bf k) vs ∧ Below w.heap.size w wr) (fun _ s17 _ => n - (intOf s17).toNat)
  case atStart => exact ⟨0, [], Nat.zero_le _, rfl, by rw [HC0.out]; exact LL.nil _ _, bz w⟩
  case round =>
    obtain ⟨k, vs, hk, rfl, hll, hB⟩ := hrel
    have HLL := Lib.hid hll; have HB := Lib.hid hB
    rename World => wO
    obtain ⟨ao, co, hvo⟩ := hll.form
    subst hvo
    by_cases hkn : k < n
    · have hkJ := Lib.hid (show k < J.length by have := HN.out; omega)
      have gb0 := (HBF.out.later hB).cell (k := k) (by omega)
      have zb0 := (HBF.out.later hB).lt
      clear hll hB
      rcases HM.out.right k hkJ.out with hb1 | ⟨b, hbJ, hb1, _⟩
      · rw [hb1] at gb0
        have hcs := HCS.out k
        rw [if_pos (by omega)] at hcs
        have HCK := Lib.hid hcs
        clear hcs hb1
        go_wp2_with fail
        obtain ⟨bl, hbl2⟩ : ∃ bl, bl = wO.heap.size := ⟨_, rfl⟩
        have HBL := Lib.hid hbl2
        have HBW := Lib.hid (show w.heap.size ≤ bl by rw [hbl2]; exact HB.out.size)
        have HLB := Lib.hid (show LL wO (fun j => w.heap.size ≤ j ∧ j < bl) (.slice ao (covI J nx bf k).length co) (covI J nx bf k) vs from by rw [hbl2]; exact HLL.out.bound)
        clear hbl2 gb0 zb0
        go_loopw [9, 10] (fun s9 s10 wr => ∃ (P : List Nat) (q : Int), s10 = .int .i64 q ∧ q < (n : Int) ∧ -1 ≤ q ∧ rowI wr bl s9 (ints P) ∧ P ++ fol J nx q = fol J nx (k : Int) ∧ LL wr (fun j => w.heap.size ≤ j ∧ j < bl) (.slice ao (covI J nx bf k).length co) (covI J nx bf k) vs ∧ Below w.heap.size w wr ∧ bl ≤ wr.heap.size) (fun _ s10 _ => folM J (intOf s10))
        case atStart => exact ⟨[], (k : Int), rfl, by omega, by omega, World.ownsRow_nil _ _ _ _, rfl, HLB.out, HB.out, by have := HBL.out; omega⟩
        case round =>
          clear HLB HLL
          obtain ⟨P, q, rfl, hq1, hq2, hrow, hpf, hll, hB2, hbz⟩ := hrel
          have HR := Lib.hid hrow; have HPF := Lib.hid hpf; have HLL := Lib.hid hll; have HB2 := Lib.hid hB2; have HBZ := Lib.hid hbz
          rename World => wP
          clear hrow hpf hll hB2 hbz
          by_cases hq0 : 0 ≤ q
          · obtain ⟨i, rfl⟩ := Int.eq_ofNat_of_zero_le hq0
            have hin : i < n := by omega
            have hiJ := Lib.hid (show i < J.length by have := HN.out; omega)
            have HP2 := Lib.hid (show (P ++ [i]) ++ fol J nx (elt nx i) = fol J nx (k : Int) by
              have h9 := HPF.out
              rw [HFE.out i hiJ.out] at h9
              rw [← h9]; simp)
            have hPl : P.length ≤ 12 := by
              have h9 := HFL.out k hkJ.out
              rw [← HPF.out, List.length_append] at h9
              have := HN.out; omega
            have HSN := Lib.hid (ints_snoc P i)
            have HPL := Lib.hid (ints_len P)
            have HMS := Lib.hid (HML.out i hiJ.out)
            have HXB := Lib.hid (show -1 ≤ elt nx i ∧ elt nx i < n by
              rcases HM.out.left i hiJ.out with h3 | ⟨k3, h3, h4, _⟩
              · omega
              · have := HN.out; omega)
            clear hq0 hq1 hq2
            go_wp2_with (at_builtin; refine wpList_append_num rfl _ _ rfl Tryz.underlying41 num3 HR.out (i : Int) rfl rfl rfl (by rw [ints_len]; omega) HBZ.out ?_)
            intro v' w' hO' hg'
            have HR6 := Lib.hid (show rowI w' bl v' (ints (P ++ [i])) from by unfold rowI; rw [HSN.out, List.length_append, List.length_singleton, List.map_append]; exact hO')
            have hfr : Fr wP w' (fun j => bl ≤ j) := (Fr.of_below (bal (bz wP) (.cells #[.int .i64 (i : Int)] 3))).trans (Fr.grown hg' (fun j e => (rowI.lt HR.out (k := j) e).1))
            have HLL6 := Lib.hid (HLL.out.fr hfr (fun j _ h1 h2 => by omega))
            have HB6 := Lib.hid (hfr.below HB2.out (fun j hj => by have := HBW.out; omega))
            have HZ6 := Lib.hid (show bl ≤ w'.heap.size from Nat.le_trans HBZ.out hfr.size)
            have gx := (HNX.out.later HB6.out).cell (k := i) (by omega)
            have zx := (HNX.out.later HB6.out).lt
            obtain ⟨x1, x2⟩ := HXB.out
            clear hO' hg' hfr
            generalize elt nx i = xi at *
            go_wp2_with fail
            go_roundw
            case rel => exact ⟨P ++ [i], xi, rfl, by omega, by omega, HR6.out, HP2.out, HLL6.out, HB6.out, HZ6.out⟩
            case measure => simp [intOf]; exact HMS.out
          · have HPE := Lib.hid (show P = fol J nx (k : Int) by
              have h9 := HPF.out
              rw [HFN.out q (by omega), List.append_nil] at h9; exact h9)
            obtain ⟨al, cl, hvl⟩ := owns_form HR.out
            subst hvl
            have HLC := Lib.hid (HCL.out k)
            go_wp2_with (at_builtin; refine LL.push2 (B := fun j => w.heap.size ≤ j) (HLL.out.mono (fun j _ h => h.1)) (own_mono HR.out (Nat.zero_le _)) (fun j e => by have h9 := (rowI.lt HR.out (k := j) e).1; have := HBW.out; show w.heap.size ≤ j; omega) (fun j f hf => ?_) rfl _ _ rfl rfl rfl rfl (by have := HLC.out; omega) (fun j hj => Nat.le_trans HB2.out.size hj) ?_)
            · cases hfo : f.ownBlock with
              | none => exact .inl hfo
              | some j2 =>
                refine .inr fun e => ?_
                have h8 := (HLL.out.elB j f hf j2 hfo).2
                have h9 := (rowI.lt HR.out (k := j2) (by rw [← e]; exact hfo)).1
                omega
            · intro v' w' hll' hfr' _
              have HLL7 := Lib.hid hll'
              have HB7 := Lib.hid (hfr'.below HB2.out (fun j hj => hj))
              clear hll' hfr'
              go_wp2_with fail
              go_roundw
              case rel => exact ⟨k + 1, _, by omega, by go_num, by rw [HCK.out, ← HPE.out]; exact HLL7.out, HB7.out⟩
              case measure => simp [intOf]; omega
      · rw [hb1] at gb0
        have hcs := HCS.out k
        rw [if_neg (by omega)] at hcs
        have HCK := Lib.hid hcs
        clear hcs hb1
        go_wp2_with fail
        go_roundw
        case rel => exact ⟨k + 1, vs, by omega, by go_num, by rw [HCK.out]; exact HLL.out, HB.out⟩
        case measure => simp [intOf]; omega
    · have hke : k = n := by omega
      have HLE := Lib.hid (show RdLL wO (.slice ao (covI J nx bf k).length co) (covI J nx bf n) from by
        have h9 := HLL.out.rd
        rw [← hke]; exact h9)
      clear hll hB hke
      go_wp2_with fail
      rw [Exit.noGoto_ret]
      go_ret
      exact ⟨_, rfl, HLE.out, HB.out⟩
end Go.Proofs.YteknehlkdgamjaaGreat

namespace Go.Proofs.YteknehlkdgamjaaGreat
open Go.RowKit Go.Shelf

/-- Numbers that wait, in a block of the call's own. -/
def Que (w : World) (base : Nat) (v : Value) (xs : List Int) : Prop :=
  (v = .slice none 0 0 ∧ xs = []) ∨ ∃ g o cap cur, v = .slice (some ⟨g, o, none⟩) xs.length cap ∧ base ≤ g ∧ w.heap[g]? = some (.cells cur 3 (0, 0)) ∧ xs.length ≤ cap ∧ cap ≤ maxLen ∧ o + cap ≤ cur.size ∧ ∀ j, j < xs.length → cur[o + j]? = some (.int .i64 (elt xs j))
theorem Que.form {w : World} {base : Nat} {v : Value} {xs : List Int} (h : Que w base v xs) : ∃ a c, v = .slice a xs.length c := by
  rcases h with ⟨rfl, rfl⟩ | ⟨g, o, cap, cur, rfl, _⟩
  · exact ⟨_, _, rfl⟩
  · exact ⟨_, _, rfl⟩
theorem Que.of_row {w : World} {base : Nat} {v : Value} {xs : List Int} (h : rowI w base v xs) : Que w base v xs := by
  rcases h.2 with ⟨rfl, h0⟩ | ⟨g, cap, cur, rfl, hb, hg, h1, h2, h3, h4⟩
  · exact .inl ⟨rfl, List.eq_nil_of_length_eq_zero h0⟩
  · refine .inr ⟨g, 0, cap, cur, rfl, hb, hg, h1, h2, by omega, fun j hj => ?_⟩
    have h5 := congrArg (fun l => l[j]?) h4
    simp only [Nat.mul_one] at h5
    rw [List.getElem?_take, if_pos hj, Array.getElem?_toList, List.getElem?_map, List.getElem?_eq_getElem hj] at h5
    rw [Nat.zero_add, h5, elt_lt hj]
    rfl
theorem Que.rd {w : World} {base : Nat} {v : Value} {xs : List Int} (h : Que w base v xs) : RdI w .i64 v xs := by
  rcases h with ⟨rfl, rfl⟩ | ⟨g, o, cap, cur, rfl, _, hg, h1, h2, _, h4⟩
  · exact rdI_nil _ _
  · refine ⟨_, _, rfl, h1, h2, fun _ => ⟨g, o, rfl, (Array.getElem?_eq_some_iff.1 hg).1, fun j u hu => ?_⟩⟩
    have hj : j < xs.length := by have := (List.getElem?_eq_some_iff.1 hu).1; simpa using this
    rw [cell_of_row _ _ _ _ _ _ hg, h4 j hj, elt_lt hj]
    simp [hj] at hu
    rw [hu]
theorem Que.fr {w w' : World} {base : Nat} {v : Value} {xs : List Int} {C : Nat → Prop} (h : Que w base v xs) (hF : Fr w w' C) (hC : ∀ k, base ≤ k → ¬ C k) : Que w' base v xs := by
  rcases h with h | ⟨g, o, cap, cur, rfl, hb, hg, hr⟩
  · exact .inl h
  · exact .inr ⟨g, o, cap, cur, rfl, hb, (hF.block g (Array.getElem?_eq_some_iff.1 hg).1 (hC g hb)).trans hg, hr⟩
theorem elt_cons_succ (x : Int) (l : List Int) (j : Nat) : elt (x :: l) (j + 1) = elt l j := by simp [elt]
theorem Que.tail {w : World} {base : Nat} {v : Value} {x : Int} {xs : List Int} (h : Que w base v (x :: xs)) : ∃ ad c, (∀ w' : World, (Instr.slice 41 v (some (.int .i64 1)) none none).run Tryz.prog w' = .ok (.slice (some ad) xs.length c) w') ∧ Que w base (.slice (some ad) xs.length c) xs := by
  rcases h with ⟨_, h⟩ | ⟨g, o, cap, cur, rfl, hb, hg, h1, h2, h3, h4⟩
  · cases h
  · have hl : (x :: xs).length = xs.length + 1 := rfl
    rw [hl] at h1
    obtain ⟨i0, hi0, hz0, hz1, hz2⟩ := info_parts num3
    by_cases hq : cap = 1
    · subst hq
      have h0 : xs = [] := List.eq_nil_of_length_eq_zero (by omega)
      subst h0
      refine ⟨⟨g, o, none⟩, 0, fun w' => ?_, .inr ⟨g, o, 0, cur, rfl, hb, hg, Nat.le_refl _, by unfold maxLen; omega, by omega, fun j hj => by simp at hj⟩⟩
      simp [Instr.slice, run_underlying Tryz.underlying41, Sem.run_bind, Instr.sliceBounds, Instr.sliceBound, asIntOf, sizeOf, typeInfo, hi0, Addr.add]
    · refine ⟨⟨g, o + 1, none⟩, cap - 1, fun w' => ?_, .inr ⟨g, o + 1, cap - 1, cur, rfl, hb, hg, by omega, by omega, by omega, fun j hj => ?_⟩⟩
      · have k1 : ¬ ((cap : Int) < (((xs.length + 1 : Nat)) : Int)) := by omega
        have k2 : ¬ ((xs.length : Int) + 1 < 1) := by omega
        have k3 : ¬ ((cap : Int) < (xs.length : Int) + 1) := by omega
        simp [Instr.slice, run_underlying Tryz.underlying41, Sem.run_bind, Instr.sliceBounds, Instr.sliceBound, asIntOf, sizeOf, typeInfo, hi0, hz1, Addr.add, hq, k2]
      · have h5 := h4 (j + 1) (by rw [hl]; omega)
        rw [elt_cons_succ] at h5
        rw [show o + 1 + j = o + (j + 1) by omega]; exact h5
theorem run_append_roomO {P : Program} (w : World) (t ty e : TypeId) (i : TypeInfo) (ht : P.underlying t = some (.slice e)) (hi : P.info? e = some i) (h1s : i.size = 1)
    (g o sLen sCap : Nat) (cur : Array Value) (hg : w.heap[g]? = some (.cells cur e (0, 0)))
    (a : Addr) (u : Value) (hu : w.cell? (a.add 0) = some u) (h1 : u.oneCell' = true)
    (hroom : sLen + 1 ≤ sCap) (hfit : o + sLen + 1 ≤ cur.size) :
    (Builtin.append_ #[t, t] ty #[.slice (some ⟨g, o, none⟩) sLen sCap, .slice (some a) 1 1]).run P w =
      .ok (.slice (some ⟨g, o, none⟩) (sLen + 1) sCap) (w.setRow g (cur.toList.take (o + sLen) ++ [u] ++ cur.toList.drop (o + sLen + 1)).toArray) := by
  have hf := run_firstCells_some (P := P) w i.size 1 a 1 1 [u] (by rw [h1s]; rfl) (fun j v hv => by
    cases j with
    | zero => simp at hv; subst hv; exact hu
    | succ j => simp at hv)
  have hst := run_storeCells_at P g (o + sLen) e [u] 0 cur w hg (by simp; omega) (fun v hv => by rw [List.mem_singleton] at hv; subst hv; exact h1)
  simp only [Nat.add_zero, List.length_singleton] at hst
  rw [h1s] at hf
  have hadd : (⟨g, o, none⟩ : Addr).add sLen = ⟨g, o + sLen, none⟩ := Addr.add_mid g o sLen
  simp [Builtin.append_, run_underlying ht, sizeOf, typeInfo, hi, h1s, Builtin.lenOf, hroom, hf, hadd, hst]
theorem take_snoc_at {cur : Array Value} {o : Nat} {xs : List Int} {q : Int} (h4 : ∀ j, j < xs.length → cur[o + j]? = some (.int .i64 (elt xs j))) (hfit : o + xs.length + 1 ≤ cur.size) :
    ∀ j, j < (xs ++ [q]).length → (cur.toList.take (o + xs.length) ++ [Value.int .i64 q] ++ cur.toList.drop (o + xs.length + 1)).toArray[o + j]? = some (.int .i64 (elt (xs ++ [q]) j)) := by
  intro j hj
  rw [List.length_append, List.length_singleton] at hj
  rw [List.getElem?_toArray, elt_snoc]
  by_cases e : j = xs.length
  · subst e
    rw [if_pos rfl, List.append_assoc, List.getElem?_append_right (by simp; omega)]
    simp
    rw [show o + xs.length - min (o + xs.length) cur.size = 0 by omega]
    rfl
  · rw [if_neg e, List.append_assoc, List.getElem?_append_left (by simp; omega), List.getElem?_take, if_pos (by omega), Array.getElem?_toList]
    exact h4 j (by omega)
theorem Que.push {w : World} {base : Nat} {v : Value} {xs : List Int} (h : Que w base v xs) (hb : base ≤ w.heap.size) (hl : xs.length ≤ 1000) (q : Int) (ty : TypeId) :
    ∃ a' c' w', (Builtin.append_ #[41, 41] ty #[v, .slice (some ⟨w.heap.size, 0, none⟩) 1 1]).run Tryz.prog (w.alloc (.cells #[.int .i64 q] 3)) = .ok (.slice a' (xs.length + 1) c') w' ∧ Que w' base (.slice a' (xs.length + 1) c') (xs ++ [q]) ∧ Fr w w' (fun j => base ≤ j) := by
  obtain ⟨i0, hi, hz0, hz1, hz2⟩ := info_parts num3
  have hx : (w.alloc (.cells #[.int .i64 q] 3)).cell? ((⟨w.heap.size, 0, none⟩ : Addr).add 0) = some (.int .i64 q) := by rw [Addr.add_mid]; exact cnew rfl rfl
  have hF1 : Fr w (w.alloc (.cells #[.int .i64 q] 3)) (fun j => base ≤ j) := Fr.of_below (bal (bz w) _)
  have h63 : (1000 : Nat) ≤ maxLen := by unfold maxLen; omega
  have hsn : (xs ++ [q]).length = xs.length + 1 := by simp
  have hnews : ∀ j v, ([Value.int .i64 q] : List Value)[j]? = some v → (w.alloc (.cells #[.int .i64 q] 3)).cell? ((⟨w.heap.size, 0, none⟩ : Addr).add j) = some v := fun j v hv => by
    cases j with
    | zero => simp at hv; subst hv; exact hx
    | succ j => simp at hv
  have big : ∀ (olds : List Int) (old : Nat), olds = xs → Que ((w.alloc (.cells #[.int .i64 q] 3)).drew.alloc (.cells ((olds.map (Value.int .i64)).toArray ++ [Value.int .i64 q].toArray ++ Builtin.zeroCells (Value.int .i64 0).cells (grownCap (w.alloc (.cells #[.int .i64 q] 3)) (xs.length + 1) old 3 - (xs.length + 1))) 3)) base
      (.slice (some ⟨(w.alloc (.cells #[.int .i64 q] 3)).heap.size, 0, none⟩) (xs.length + 1) (grownCap (w.alloc (.cells #[.int .i64 q] 3)) (xs.length + 1) old 3)) (xs ++ [q]) ∧
      Fr w ((w.alloc (.cells #[.int .i64 q] 3)).drew.alloc (.cells ((olds.map (Value.int .i64)).toArray ++ [Value.int .i64 q].toArray ++ Builtin.zeroCells (Value.int .i64 0).cells (grownCap (w.alloc (.cells #[.int .i64 q] 3)) (xs.length + 1) old 3 - (xs.length + 1))) 3)) (fun j => base ≤ j) := by
    rintro olds old rfl
    have hge := grownCap_ge (w.alloc (.cells #[.int .i64 q] 3)) (olds.length + 1) old 3
    have hcm : grownCap (w.alloc (.cells #[.int .i64 q] 3)) (olds.length + 1) old 3 ≤ maxLen := grownCap_le_maxLen _ _ _ _ (by unfold maxLen; omega)
    refine ⟨.inr ⟨_, 0, _, _, by rw [hsn]; rfl, by simp; omega, heap_alloc_new (w.alloc (.cells #[.int .i64 q] 3)).drew _, by rw [hsn]; exact hge, hcm, ?_, fun j hj => ?_⟩, ?_⟩
    · simp only [Array.size_append, List.size_toArray, size_zeroCells, List.length_map, List.length_cons, List.length_nil]
      simp [Value.cells]
      omega
    · rw [hsn] at hj
      have e : ((olds.map (Value.int .i64)).toArray ++ [Value.int .i64 q].toArray)[0 + j]? = some (.int .i64 (elt (olds ++ [q]) j)) := by
        rw [Nat.zero_add, elt_snoc]
        by_cases e : j = olds.length
        · subst e; simp
        · rw [if_neg e, Array.getElem?_append_left (by simp; omega), elt_lt (by omega)]
          simp [show j < olds.length by omega]
      rw [Array.getElem?_append_left (by simp; omega)]
      exact e
    · exact hF1.trans (Fr.of_below ⟨rfl, rfl, rfl, by simp, fun k hk => Below.heap_alloc (w.alloc (.cells #[.int .i64 q] 3)).drew _ k hk⟩)
  rcases h with ⟨rfl, rfl⟩ | ⟨g, o, cap, cur, rfl, hbg, hg, h1, h2, h3, h4⟩
  · have hr := run_append_nil (P := Tryz.prog) (w.alloc (.cells #[.int .i64 q] 3)) 41 ty 3 i0 (.int .i64 0) Tryz.underlying41 hi hz0 ⟨w.heap.size, 0, none⟩ 1 1 [.int .i64 q] (by rw [hz1]; rfl) hnews (by omega) (by omega) (by rw [hz2]; omega)
    have hb2 := big [] 0 rfl
    simp only [List.length_nil, Nat.zero_add, List.map_nil, List.nil_append, Array.empty_append] at hb2 ⊢
    exact ⟨_, _, _, hr, hb2.1, hb2.2⟩
  · have hgz := (Array.getElem?_eq_some_iff.1 hg).1
    have hg2 : (w.alloc (.cells #[.int .i64 q] 3)).heap[g]? = some (.cells cur 3 (0, 0)) := (Below.heap_alloc w _ g hgz).trans hg
    by_cases hroom : xs.length + 1 ≤ cap
    · have hr := run_append_roomO (P := Tryz.prog) (w.alloc (.cells #[.int .i64 q] 3)) 41 ty 3 i0 Tryz.underlying41 hi hz1 g o xs.length cap cur hg2 ⟨w.heap.size, 0, none⟩ (.int .i64 q) hx rfl hroom (by omega)
      refine ⟨_, _, _, hr, .inr ⟨g, o, cap, _, by rw [hsn], hbg, setRow_heap _ g cur _ _ _ hg2, by rw [hsn]; exact hroom, h2, ?_, take_snoc_at h4 (by omega)⟩, hF1.trans ⟨rfl, rfl, rfl, by simp, fun k hk hC => setRow_other _ g k _ (fun e => hC (by subst e; exact hbg))⟩⟩
      simp only [List.size_toArray, List.length_append, List.length_take, List.length_drop, Array.length_toList, List.length_singleton]
      omega
    · have hr := run_append_grow (P := Tryz.prog) (w.alloc (.cells #[.int .i64 q] 3)) 41 ty 3 i0 (.int .i64 0) Tryz.underlying41 hi hz0 ⟨g, o, none⟩ xs.length cap (xs.map (Value.int .i64)) (by rw [hz1]; simp) (fun j v hv => by
        have hj : j < xs.length := by have := (List.getElem?_eq_some_iff.1 hv).1; simpa using this
        rw [Addr.add_mid, cell_of_row _ _ _ _ _ _ hg2, h4 j hj, elt_lt hj]
        simp [hj] at hv
        rw [hv]) ⟨w.heap.size, 0, none⟩ 1 1 [.int .i64 q] (by rw [hz1]; rfl) hnews (by omega) (by omega) (growslice_fits (by omega) (by rw [hz2]; omega))
      have hb2 := big xs cap rfl
      exact ⟨_, _, _, hr, hb2.1, hb2.2⟩
end Go.Proofs.YteknehlkdgamjaaGreat

namespace Go.Proofs.YteknehlkdgamjaaGreat
open Go.RowKit Go.Shelf

/-- The variables of free: two, each with a row of marks. -/
structure FrV (w0 w : World) (n bF bG gF gG : Nat) (F G : List Int) : Prop where
  cF : w.heap[bF]? = some (.cells #[.slice (some ⟨gF, 0, none⟩) n n] 41 (0, 0))
  cG : w.heap[bG]? = some (.cells #[.slice (some ⟨gG, 0, none⟩) n n] 41 (0, 0))
  hF : HP w gF F
  hG : HP w gG G
  bel : Below w0.heap.size w0 w
/-- They lie apart, and are new. -/
structure FrD (w0 : World) (bF bG gF gG : Nat) : Prop where
  n1 : gF ≠ gG
  n2 : gF ≠ bF
  n3 : gF ≠ bG
  n4 : gG ≠ bF
  n5 : gG ≠ bG
  n6 : bF ≠ bG
  z1 : w0.heap.size ≤ bF
  z2 : w0.heap.size ≤ bG
  z3 : w0.heap.size ≤ gF
  z4 : w0.heap.size ≤ gG
section
variable {w0 w w' : World} {n bF bG gF gG : Nat} {F G : List Int}
theorem FrV.lt (h : FrV w0 w n bF bG gF gG F G) : bF < w.heap.size ∧ bG < w.heap.size ∧ gF < w.heap.size ∧ gG < w.heap.size :=
  ⟨(Array.getElem?_eq_some_iff.1 h.cF).1, (Array.getElem?_eq_some_iff.1 h.cG).1, h.hF.lt, h.hG.lt⟩
theorem FrV.fr {C : Nat → Prop} (h : FrV w0 w n bF bG gF gG F G) (hf : Fr w w' C) (h1 : ¬ C bF) (h2 : ¬ C bG) (h3 : ¬ C gF) (h4 : ¬ C gG) (h5 : ∀ k, C k → w0.heap.size ≤ k) : FrV w0 w' n bF bG gF gG F G := by
  obtain ⟨a1, a2, a3, a4⟩ := h.lt
  exact ⟨(hf.block bF a1 h1).trans h.cF, (hf.block bG a2 h2).trans h.cG, (hf.block gF a3 h3).trans h.hF, (hf.block gG a4 h4).trans h.hG, hf.below h.bel h5⟩
theorem FrV.later (h : FrV w0 w n bF bG gF gG F G) (hb : Below w.heap.size w w') : FrV w0 w' n bF bG gF gG F G :=
  h.fr (C := fun _ => False) (Fr.of_below hb) (fun h => h) (fun h => h) (fun h => h) (fun h => h) (fun _ h => h.elim)
theorem FrV.setF (h : FrV w0 w n bF bG gF gG F G) (hd : FrD w0 bF bG gF gG) (k : Nat) (x : Int) : FrV w0 (w.setCell ⟨gF, k, none⟩ (.int .i64 x)) n bF bG gF gG (F.set k x) G :=
  ⟨(heap_setCell_other w ⟨gF, k, none⟩ bF _ (fun e => hd.n2 e.symm)).trans h.cF, (heap_setCell_other w ⟨gF, k, none⟩ bG _ (fun e => hd.n3 e.symm)).trans h.cG, h.hF.set k x, h.hG.other (fun e => hd.n1 e.symm), bset h.bel (p := ⟨gF, k, none⟩) hd.z3 _⟩
theorem FrV.setG (h : FrV w0 w n bF bG gF gG F G) (hd : FrD w0 bF bG gF gG) (k : Nat) (x : Int) : FrV w0 (w.setCell ⟨gG, k, none⟩ (.int .i64 x)) n bF bG gF gG F (G.set k x) :=
  ⟨(heap_setCell_other w ⟨gG, k, none⟩ bF _ (fun e => hd.n4 e.symm)).trans h.cF, (heap_setCell_other w ⟨gG, k, none⟩ bG _ (fun e => hd.n5 e.symm)).trans h.cG, h.hF.other hd.n1, h.hG.set k x, bset h.bel (p := ⟨gG, k, none⟩) hd.z4 _⟩
theorem FrV.cellF (h : FrV w0 w n bF bG gF gG F G) : w.cell? ⟨bF, 0, none⟩ = some (.slice (some ⟨gF, 0, none⟩) n n) := by rw [cell_of_row _ _ _ _ _ _ h.cF]; rfl
theorem FrV.cellG (h : FrV w0 w n bF bG gF gG F G) : w.cell? ⟨bG, 0, none⟩ = some (.slice (some ⟨gG, 0, none⟩) n n) := by rw [cell_of_row _ _ _ _ _ _ h.cG]; rfl
end
/-- They are in the making, in whatever order: none is not made yet; a row that lies in its variable is told by the flags. -/
structure FrP (wc w : World) (n : Nat) (oF oG pF pG : Option Nat) (sF sG : Bool) : Prop where
  hF : ∀ g, oF = some g → HP w g (zeros n) ∧ wc.heap.size ≤ g
  hG : ∀ g, oG = some g → HP w g (zeros n) ∧ wc.heap.size ≤ g
  cF : ∀ b, pF = some b → w.heap[b]? = some (.cells #[if sF then .slice (some ⟨oF.getD 0, 0, none⟩) n n else .slice none 0 0] 41 (0, 0)) ∧ wc.heap.size ≤ b
  cG : ∀ b, pG = some b → w.heap[b]? = some (.cells #[if sG then .slice (some ⟨oG.getD 0, 0, none⟩) n n else .slice none 0 0] 41 (0, 0)) ∧ wc.heap.size ≤ b
  n1 : ∀ g h, oF = some g → oG = some h → g ≠ h
  n2 : ∀ g h, oF = some g → pF = some h → g ≠ h
  n3 : ∀ g h, oF = some g → pG = some h → g ≠ h
  n4 : ∀ g h, oG = some g → pF = some h → g ≠ h
  n5 : ∀ g h, oG = some g → pG = some h → g ≠ h
  n6 : ∀ g h, pF = some g → pG = some h → g ≠ h
  bel : Below wc.heap.size wc w
section
variable {wc w w' : World} {n : Nat} {oF oG pF pG : Option Nat} {sF sG : Bool}
theorem FrP.start (wc : World) (n : Nat) : FrP wc wc n none none none none false false := by
  refine ⟨?_, ?_, ?_, ?_, ?_, ?_, ?_, ?_, ?_, ?_, bz wc⟩ <;> intros <;> contradiction
theorem FrP.later (h : FrP wc w n oF oG pF pG sF sG) (hb : Below w.heap.size w w') : FrP wc w' n oF oG pF pG sF sG :=
  ⟨fun g e => ⟨(h.hF g e).1.later hb, (h.hF g e).2⟩, fun g e => ⟨(h.hG g e).1.later hb, (h.hG g e).2⟩, fun b e => ⟨(hb.block b (Array.getElem?_eq_some_iff.1 (h.cF b e).1).1).trans (h.cF b e).1, (h.cF b e).2⟩,
    fun b e => ⟨(hb.block b (Array.getElem?_eq_some_iff.1 (h.cG b e).1).1).trans (h.cG b e).1, (h.cG b e).2⟩, h.n1, h.n2, h.n3, h.n4, h.n5, h.n6, btr h.bel hb⟩
theorem FrP.lts (h : FrP wc w n oF oG pF pG sF sG) : (∀ g, oF = some g → g < w.heap.size) ∧ (∀ g, oG = some g → g < w.heap.size) ∧ (∀ g, pF = some g → g < w.heap.size) ∧ (∀ g, pG = some g → g < w.heap.size) :=
  ⟨fun g e => (h.hF g e).1.lt, fun g e => (h.hG g e).1.lt, fun b e => (Array.getElem?_eq_some_iff.1 (h.cF b e).1).1, fun b e => (Array.getElem?_eq_some_iff.1 (h.cG b e).1).1⟩
theorem FrP.mF {b : Nat} (h : FrP wc w n none oG pF pG false sG) (hr : rowI w' b (.slice (some ⟨w.heap.size, 0, none⟩) n n) (zeros n)) (hg : w.grownBy w' none) : FrP wc w' n (some w.heap.size) oG pF pG false sG := by
  obtain ⟨l1, l2, l3, l4⟩ := h.lts
  have hb : Below w.heap.size w w' := bgr (bz w) hg (fun k e => by cases e)
  have h2 := h.later hb
  refine ⟨fun g e => ?_, h2.hG, h2.cF, h2.cG, fun g k e e2 => ?_, fun g k e e2 => ?_, fun g k e e2 => ?_, h2.n4, h2.n5, h2.n6, h2.bel⟩
  · cases e; exact ⟨hr.hp, h.bel.size⟩
  · cases e; have := l2 k e2; omega
  · cases e; have := l3 k e2; omega
  · cases e; have := l4 k e2; omega
theorem FrP.mG {b : Nat} (h : FrP wc w n oF none pF pG sF false) (hr : rowI w' b (.slice (some ⟨w.heap.size, 0, none⟩) n n) (zeros n)) (hg : w.grownBy w' none) : FrP wc w' n oF (some w.heap.size) pF pG sF false := by
  obtain ⟨l1, l2, l3, l4⟩ := h.lts
  have hb : Below w.heap.size w w' := bgr (bz w) hg (fun k e => by cases e)
  have h2 := h.later hb
  refine ⟨h2.hF, fun g e => ?_, h2.cF, h2.cG, fun g k e e2 => ?_, h2.n2, h2.n3, fun g k e e2 => ?_, fun g k e e2 => ?_, h2.n6, h2.bel⟩
  · cases e; exact ⟨hr.hp, h.bel.size⟩
  · cases e2; have := l1 g e; omega
  · cases e; have := l3 k e2; omega
  · cases e; have := l4 k e2; omega
theorem FrP.aF (h : FrP wc w n oF oG none pG false sG) : FrP wc (w.alloc (.cells #[.slice none 0 0] 41)) n oF oG (some w.heap.size) pG false sG := by
  obtain ⟨l1, l2, l3, l4⟩ := h.lts
  have h2 := h.later (bal (bz w) (.cells #[.slice none 0 0] 41))
  refine ⟨h2.hF, h2.hG, fun g e => ?_, h2.cG, h2.n1, fun g k e e2 => ?_, h2.n3, fun g k e e2 => ?_, h2.n5, fun g k e e2 => ?_, h2.bel⟩
  · cases e; exact ⟨heap_alloc_new w _, h.bel.size⟩
  · cases e2; have := l1 g e; omega
  · cases e2; have := l2 g e; omega
  · cases e; have := l4 k e2; omega
theorem FrP.aG (h : FrP wc w n oF oG pF none sF false) : FrP wc (w.alloc (.cells #[.slice none 0 0] 41)) n oF oG pF (some w.heap.size) sF false := by
  obtain ⟨l1, l2, l3, l4⟩ := h.lts
  have h2 := h.later (bal (bz w) (.cells #[.slice none 0 0] 41))
  refine ⟨h2.hF, h2.hG, h2.cF, fun g e => ?_, h2.n1, h2.n2, fun g k e e2 => ?_, h2.n4, fun g k e e2 => ?_, fun g k e e2 => ?_, h2.bel⟩
  · cases e; exact ⟨heap_alloc_new w _, h.bel.size⟩
  · cases e2; have := l1 g e; omega
  · cases e2; have := l2 g e; omega
  · cases e2; have := l3 g e; omega
theorem FrP.stF {gF bF : Nat} (h : FrP wc w n (some gF) oG (some bF) pG false sG) : FrP wc (w.setCell ⟨bF, 0, none⟩ (.slice (some ⟨gF, 0, none⟩) n n)) n (some gF) oG (some bF) pG true sG := by
  refine ⟨fun g e => ⟨(h.hF g e).1.other (h.n2 g bF e rfl), (h.hF g e).2⟩, fun g e => ⟨(h.hG g e).1.other (h.n4 g bF e rfl), (h.hG g e).2⟩, fun b e => ?_, fun b e => ?_, h.n1, h.n2, h.n3, h.n4, h.n5, h.n6, bset h.bel (p := ⟨bF, 0, none⟩) (h.cF bF rfl).2 _⟩
  · cases e; exact ⟨heap_setCell_same _ bF 0 _ _ _ (h.cF bF rfl).1, (h.cF bF rfl).2⟩
  · exact ⟨(heap_setCell_other w ⟨bF, 0, none⟩ b _ (fun e2 => h.n6 bF b rfl e e2.symm)).trans (h.cG b e).1, (h.cG b e).2⟩
theorem FrP.stG {gG bG : Nat} (h : FrP wc w n oF (some gG) pF (some bG) sF false) : FrP wc (w.setCell ⟨bG, 0, none⟩ (.slice (some ⟨gG, 0, none⟩) n n)) n oF (some gG) pF (some bG) sF true := by
  refine ⟨fun g e => ⟨(h.hF g e).1.other (h.n3 g bG e rfl), (h.hF g e).2⟩, fun g e => ⟨(h.hG g e).1.other (h.n5 g bG e rfl), (h.hG g e).2⟩, fun b e => ?_, fun b e => ?_, h.n1, h.n2, h.n3, h.n4, h.n5, h.n6, bset h.bel (p := ⟨bG, 0, none⟩) (h.cG bG rfl).2 _⟩
  · exact ⟨(heap_setCell_other w ⟨bG, 0, none⟩ b _ (h.n6 b bG e rfl)).trans (h.cF b e).1, (h.cF b e).2⟩
  · cases e; exact ⟨heap_setCell_same _ bG 0 _ _ _ (h.cG bG rfl).1, (h.cG bG rfl).2⟩
theorem FrP.cF' {bF : Nat} (h : FrP wc w n oF oG (some bF) pG false sG) : w.cell? ⟨bF, 0, none⟩ = some (.slice none 0 0) := by rw [cell_of_row _ _ _ _ _ _ (h.cF bF rfl).1]; rfl
theorem FrP.fF {bF : Nat} (h : FrP wc w n oF oG (some bF) pG false sG) : w.frozen? ⟨bF, 0, none⟩ = false := frozen_of_row _ _ _ _ _ (h.cF bF rfl).1
theorem FrP.zF {bF : Nat} (h : FrP wc w n oF oG (some bF) pG false sG) : bF < w.heap.size := h.lts.2.2.1 bF rfl
theorem FrP.cG' {bG : Nat} (h : FrP wc w n oF oG pF (some bG) sF false) : w.cell? ⟨bG, 0, none⟩ = some (.slice none 0 0) := by rw [cell_of_row _ _ _ _ _ _ (h.cG bG rfl).1]; rfl
theorem FrP.fG {bG : Nat} (h : FrP wc w n oF oG pF (some bG) sF false) : w.frozen? ⟨bG, 0, none⟩ = false := frozen_of_row _ _ _ _ _ (h.cG bG rfl).1
theorem FrP.zG {bG : Nat} (h : FrP wc w n oF oG pF (some bG) sF false) : bG < w.heap.size := h.lts.2.2.2 bG rfl
def FrCut (w : World) (n : Nat) (v7 v8 : Value) (wx : World) : Prop := ∃ bF bG gF gG : Nat, v7 = .pointer (some ⟨bF, 0, none⟩) ∧ v8 = .pointer (some ⟨bG, 0, none⟩) ∧ FrV w wx n bF bG gF gG (zeros n) (zeros n) ∧ FrD w bF bG gF gG
theorem FrP.fin {w0 : World} {gF gG bF bG : Nat} (h : FrP wc w n (some gF) (some gG) (some bF) (some bG) true true) (hb : Below w0.heap.size w0 wc) : FrCut w0 n (.pointer (some ⟨bF, 0, none⟩)) (.pointer (some ⟨bG, 0, none⟩)) w := by
  have hs := hb.size
  have a1 := (h.hF gF rfl).2; have a2 := (h.hG gG rfl).2; have a3 := (h.cF bF rfl).2; have a4 := (h.cG bG rfl).2
  exact ⟨bF, bG, gF, gG, rfl, rfl, ⟨(h.cF bF rfl).1, (h.cG bG rfl).1, (h.hF gF rfl).1, (h.hG gG rfl).1, btr hb h.bel⟩, ⟨h.n1 _ _ rfl rfl, h.n2 _ _ rfl rfl, h.n3 _ _ rfl rfl, h.n4 _ _ rfl rfl, h.n5 _ _ rfl rfl, h.n6 _ _ rfl rfl, by omega, by omega, by omega, by omega⟩⟩
end
/-- How many of the first n numbers of a block are 0. -/
def zcN (w : World) (g n : Nat) : Nat := (List.range n).countP fun k => match w.cell? ⟨g, k, none⟩ with | some (.int _ 0) => true | _ => false
theorem HP.zc {w : World} {g n : Nat} {xs : List Int} (h : HP w g xs) (hn : xs.length = n) : zcN w g n = zer n xs := by
  unfold zcN zer
  refine List.countP_congr fun k hk => ?_
  rw [List.mem_range] at hk
  rw [h.cell (by omega)]
  by_cases e : elt xs k = 0
  · rw [e]; simp
  · have : (elt xs k == 0) = false := by simp [e]
    rw [this]
    split
    · rename_i h2; simp at h2; exact absurd h2.2 e
    · simp
set_option maxRecDepth 100000 in
set_option maxHeartbeats 400000 in
theorem find_any (x : Value) (xs : List Int) (k : Nat) (lb lc : Array Value) (p : Int → Bool) (w : World) (hx0 : RdI w .i64 x xs) (hl : xs.length ≤ 1000) (hf : TestF w k lb lc xs p) :
    Calls Tryz.prog 97 #[x, .func (.func k) lb lc] w fun e w' => (∃ r, e = .returned (.tuple #[.int .i64 r, .bool (xs.any p)])) ∧ Below w.heap.size w w' := by
  obtain ⟨a, ca, rfl, _, hcm, hx⟩ := hx0.form
  have HX := Lib.hid hx0
  have HF := Lib.hid hf.2
  have eg := hf.1
  have HA := Lib.hid (idxOf_any p xs)
  clear hx0 hcm hx hf
  go_enter Tryz.func97, Tryz.ntmps97
  go_wp2_with fail
  go_loopw [11] (fun i wr => ∃ q : Nat, q ≤ xs.length ∧ i = .int .i64 q ∧ (∀ i, i < q → p (elt xs i) = false) ∧ Below w.heap.size w wr) (fun i _ => xs.length - (intOf i).toNat)
  case atStart => exact ⟨0, Nat.zero_le _, rfl, by intro i h1; omega, Below.refl _ _⟩
  case round =>
    obtain ⟨q, hk, rfl, ht, hB⟩ := hrel
    have HT := Lib.hid ht; have HB := Lib.hid hB; clear ht hB
    by_cases hlt : q < xs.length
    · obtain ⟨bx, ox, rfl, hbx, hcx⟩ := (HX.out.mono HB.out).get (by omega)
      have gx := hcx q hlt
      have HC := Lib.hid (fun wz (h : Below w.heap.size w wz) => HF.out wz h q hlt)
      have HYES := Lib.hid (fun h => find_none_elt (p := p) HT.out hlt h)
      have HNO : Hid (p (elt xs q) = false → ∀ i, i < q + 1 → p (elt xs i) = false) := Lib.hid (fun h i hi => by
        by_cases e : i = q
        · subst e; exact h
        · exact HT.out i (by omega))
      clear hcx
      generalize hr : p (elt xs q) = r at *
      clear hr
      generalize elt xs q = y at *
      go_wp2_with fail
      refine (HC.out _ HB.out).mono ?_
      rintro e w2 ⟨rfl, hB2⟩
      have HB3 := Lib.hid (btr HB.out hB2)
      clear hB2
      cases r with
      | false =>
        have HN := Lib.hid (HNO.out rfl)
        go_wp2_with fail
        go_roundw
        case rel => exact ⟨q + 1, by omega, by go_num, HN.out, HB3.out⟩
        case measure => simp [intOf]; omega
      | true =>
        have HY := Lib.hid (show xs.any p = true by rw [← HA.out, HYES.out rfl]; simp)
        go_wp2_with fail
        go_ret2
        exact ⟨⟨y, by rw [HY.out]; rfl⟩, HB3.out⟩
    · have HY := Lib.hid (show xs.any p = false by rw [← HA.out, find_no_elt (p := p) (xs := xs) fun i hi => HT.out i (by omega)]; decide)
      go_wp2_with fail
      go_ret2
      exact ⟨⟨0, by rw [HY.out]; rfl⟩, HB.out⟩
def frP (F G : List Int) (y : Int) : Bool := decide (0 < elt F y.toNat) && (elt G y.toNat == 0)
set_option maxRecDepth 100000 in
set_option maxHeartbeats 400000 in
theorem free1_any (bF bG gF gG n k : Nat) (F G : List Int) (w0 w : World) (hv : FrV w0 w n bF bG gF gG F G) (hF : Marks01 n F) (hG : Marks01 n G) (hk : k < n) :
    Calls Tryz.prog 98 #[.int .i64 (k : Int), .pointer (some ⟨bF, 0, none⟩), .pointer (some ⟨bG, 0, none⟩)] w fun e w' => e = .returned (.bool (frP F G (k : Int))) ∧ Below w.heap.size w w' := by
  have c1 := hv.cellF; have c2 := hv.cellG
  obtain ⟨z1, z2, z3, z4⟩ := hv.lt
  have g1 := hv.hF.cell (k := k) (by rw [hF.1]; exact hk)
  have g2 := hv.hG.cell (k := k) (by rw [hG.1]; exact hk)
  have h1 := hF.2 k hk
  have h2 := hG.2 k hk
  have HE := Lib.hid (show frP F G (k : Int) = (decide (0 < elt F k) && (elt G k == 0)) by unfold frP; rw [Int.toNat_natCast])
  generalize frP F G (k : Int) = r at *
  clear hv hF hG
  rcases h1 with h1 | h1
  · rw [h1] at g1 HE
    go_enter Tryz.func98, Tryz.ntmps98
    go_wp2_with fail
    go_ret
    exact ⟨ret_bool (by rw [HE.out]; rfl), bz _⟩
  · rcases h2 with h2 | h2
    all_goals
      rw [h1] at g1 HE
      rw [h2] at g2 HE
      go_enter Tryz.func98, Tryz.ntmps98
      go_wp2_with fail
      go_ret
      exact ⟨ret_bool (by rw [HE.out]; rfl), bz _⟩
end Go.Proofs.YteknehlkdgamjaaGreat
