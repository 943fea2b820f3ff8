/- Helpers of the laws. -/
import Derived.Test.YtooddicegkiiiaaEnd
namespace Go.Proofs.Ytooddicegkiiiaa
open Go.RowKit Go.Shelf

theorem of_id (x : Value) (w : World) : Calls Try.prog 54 #[x] w fun e w' => e = .returned x ∧ w = w' := by
  go_enter Try.func54, Try.ntmps54
  go_wp2_with fail
  go_ret
  exact ⟨rfl, rfl⟩
theorem longs_id (x : Value) (w : World) : Calls Try.prog 55 #[x] w fun e w' => e = .returned x ∧ w = w' := by
  go_enter Try.func55, Try.ntmps55
  go_wp2_with fail
  go_ret
  exact ⟨rfl, rfl⟩
theorem great_any (a : Option Addr) (n c : Nat) (w : World) : Calls Try.prog 18 #[.slice a n c] w fun e w' => e = .returned (.bool (decide (9 < n))) ∧ w = w' := by
  by_cases h : 9 < n
  · rw [decide_eq_true h]
    have h2 : (9 : Int) < (n : Int) := by omega
    go_enter Try.func18, Try.ntmps18
    go_wp2_with fail
    go_ret
    exact ⟨rfl, rfl⟩
  · rw [decide_eq_false h]
    have h2 : ¬ (9 : Int) < (n : Int) := by omega
    go_enter Try.func18, Try.ntmps18
    go_wp2_with fail
    go_ret
    exact ⟨rfl, rfl⟩
theorem checkP_many {V : List (Int × Int)} (h : 5 < V.length) : checkP V = 6 := by
  unfold checkP
  rw [if_pos (by simp; omega)]
theorem fine_any (x : Value) (V : List (Int × Int)) (w : World) (hx0 : RdP w x V) : Calls Try.prog 44 #[x] w fun e w' => e = .returned (.bool (checkP V == 0)) ∧ Below w.heap.size w w' := by
  obtain ⟨a, ca, rfl, _, _, _⟩ := hx0.form
  by_cases h : 9 < V.length
  · rw [show (checkP V == 0) = false from by rw [checkP_many (by omega)]; rfl]
    have HG := Lib.hid (great_any a V.length ca)
    rw [decide_eq_true h] at HG
    clear h
    go_enter Try.func44, Try.ntmps44
    go_wp2_with fail
    refine (HG.out _).mono ?_
    rintro e w2 ⟨rfl, rfl⟩
    go_wp2_with fail
    go_ret
    exact ⟨rfl, bz _⟩
  · have HG := Lib.hid (great_any a V.length ca)
    have HK := Lib.hid (rcheck_any _ V w hx0 (by omega))
    rw [decide_eq_false h] at HG
    clear h
    generalize checkP V = q at *
    go_enter Try.func44, Try.ntmps44
    go_wp2_with fail
    refine (HG.out _).mono ?_
    rintro e w2 ⟨rfl, rfl⟩
    go_wp2_with fail
    refine HK.out.mono ?_
    rintro e w2 ⟨rfl, hB⟩
    go_wp2_with fail
    go_ret
    exact ⟨rfl, hB⟩
theorem timed_any (n : Int) (w : World) (h0 : 0 ≤ n) (_h1 : n < 18446744073709551616) : Calls Try.prog 46 #[.int .u64 n] w fun e w' => e = .returned (.int .i64 (n % 1000000000001)) ∧ w = w' := by
  have e1 : n.tmod 1000000000001 = n % 1000000000001 := Int.tmod_eq_emod_of_nonneg h0
  have w1 : IntKind.u64.wrap (n % 1000000000001) = n % 1000000000001 := by rw [IntKind.wrap_u64]; omega
  have w2 : IntKind.i64.wrap (n % 1000000000001) = n % 1000000000001 := IntWalk.i64_in _ (by omega)
  go_enter Try.func46, Try.ntmps46
  go_wp2_with fail
  go_ret
  exact ⟨rfl, rfl⟩
theorem first_ok {V : List (Int × Int)} (hc : checkP V = 0) : firstA V = jA V ∧ firstB V = jB V ∧ firstE V = if jO V then 0 else 21 := by
  refine ⟨?_, ?_, ?_⟩
  · unfold firstA; rw [if_neg (by simpa using hc)]
  · unfold firstB; rw [if_neg (by simpa using hc)]
  · unfold firstE; rw [if_neg (by simpa using hc)]
theorem results_tmp4 {fn : Func} {t u v x : Tmp} (h : fn.results = #[.tmp t, .tmp u, .tmp v, .tmp x]) (tmps : Array Value) (P : Program) (w : World) :
    (results fn tmps).run P w = .ok (.tuple #[tmps.getD t undef, tmps.getD u undef, tmps.getD v undef, tmps.getD x undef]) w := by
  simp [results, h]
set_option maxHeartbeats 1000000 in
theorem together_ok (x : Value) (V : List (Int × Int)) (w : World) (hx0 : RdP w x V) (hc : checkP V = 0) :
    Calls Try.prog 45 #[x] w fun e w' => e = .returned (.tuple #[.int .i64 (jA V), .int .i64 (jB V), .bool (jO V), .bool true]) ∧ Below w.heap.size w w' := by
  have hV := okPins_of hc
  have h5 := hV.l5
  obtain ⟨h1, h2, h3⟩ := first_ok hc
  have HF := Lib.hid (first_any x V w hx0 (by omega))
  rw [h1, h2, h3] at HF
  obtain ⟨hb1, hb2⟩ := jbd hV.v hV.l5
  clear h1 h2 h3 hc hV
  generalize jO V = o at *
  generalize jA V = A at *
  generalize jB V = B at *
  cases o
  · obtain ⟨rfl, rfl⟩ := hb2 rfl
    simp only [Bool.false_eq_true, if_false] at HF
    clear hb1 hb2
    go_enter Try.func45, Try.ntmps45
    go_wp2_with fail
    refine HF.out.mono ?_
    rintro e w2 ⟨rfl, hB⟩
    go_wp2_with fail
    refine bodyPost_ret (results_tmp4 rfl _ _ _) rfl ?_
    exact ⟨rfl, hB⟩
  · obtain ⟨a0, a1, a2⟩ := hb1 rfl
    simp only [if_true] at HF
    clear hb1 hb2
    go_enter Try.func45, Try.ntmps45
    go_wp2_with fail
    refine HF.out.mono ?_
    rintro e w2 ⟨rfl, hB⟩
    go_wp2_with fail
    refine bodyPost_ret (results_tmp4 rfl _ _ _) rfl ?_
    exact ⟨rfl, hB⟩

def prK (l : List Int) (k : Nat) : List (Int × Int) := (List.range k).map fun i => (l[2 * i]?.getD 0, l[2 * i + 1]?.getD 0)
theorem prK_succ (l : List Int) (k : Nat) : prK l (k + 1) = prK l k ++ [(l[2 * k]?.getD 0, l[2 * k + 1]?.getD 0)] := by simp [prK, List.range_succ]
theorem prK_len (l : List Int) (k : Nat) : (prK l k).length = k := by simp [prK]
set_option maxRecDepth 100000 in
set_option maxHeartbeats 2000000 in
theorem pins_any (x : Value) (l : List Int) (w : World) (hx0 : RdI w .i64 x l) (hl : l.length ≤ 1000) :
    Calls Try.prog 53 #[x] w fun e w' => ∃ v, e = .returned v ∧ RdP w' v (prK l (l.length / 2)) ∧ Below w.heap.size w w' := by
  obtain ⟨a, ca, rfl, hca, hca2, hxf⟩ := hx0.form
  clear hca2 hx0
  go_enter Try.func53, Try.ntmps53
  go_wp2_with fail
  go_loopw [3, 4] (fun s3 i wr => ∃ (k : Nat) (v : Value), k ≤ l.length / 2 ∧ v = s3 ∧ i = .int .i64 ((2 * k : Nat) : Int) ∧ wr.ownsRow w.heap.size 55 2 v (prK l k).length (prs (prK l k)) ∧ Below w.heap.size w wr) (fun _ i _ => l.length - (intOf i).toNat)
  case atStart => exact ⟨0, _, Nat.zero_le _, rfl, rfl, World.ownsRow_nil _ _ _ _, bz _⟩
  case round =>
    obtain ⟨k, v, hk, rfl, rfl, hor, hB⟩ := hrel
    obtain ⟨av, cv, rfl⟩ := owns_form hor
    by_cases hlt : 2 * k + 1 < l.length
    · have hlti : ((2 * k : Nat) : Int) + 1 < (l.length : Int) := by omega
      obtain ⟨bx, ox, rfl, hbx, hcx⟩ := hxf (by omega)
      have gx := (hB.cell (p := ⟨bx, ox + 2 * k, none⟩) hbx).trans (hcx (2 * k) (by omega))
      have gy := (hB.cell (p := ⟨bx, ox + (2 * k + 1), none⟩) hbx).trans (hcx (2 * k + 1) hlt)
      have HS := Lib.hid (prK_succ l k)
      have HKL := Lib.hid (prK_len l k)
      have HK := Lib.hid hk
      have HOR := Lib.hid hor; have HB := Lib.hid hB
      clear hor hB hxf hcx hk
      generalize l[2 * k]?.getD 0 = u1 at *
      generalize l[2 * k + 1]?.getD 0 = u2 at *
      generalize prK l k = U at *
      generalize hj : 2 * k = j at *
      have HJ := Lib.hid hj; clear hj
      go_wp2_with fail
      refine wp_region_flow [] [([0, 1, 2, 3, 4, 5, 6, 7, 8, 9, 10], 11, true), ([], 12, false), ([], 13, false)] [] (by kernel_rfl) (by kernel_rfl) ?_
      intro wc hBc hh
      have d0 := (hBc.cell (World.block_lt_of_cell? wr _ gx)).trans gx
      have d1 := (hBc.cell (World.block_lt_of_cell? wr _ gy)).trans gy
      have z1 := World.block_lt_of_cell? wc _ d0
      simp only at z1
      have hL := @Later.cell wc
      have HBC := Lib.hid (btr HB.out hBc)
      have HORC := Lib.hid (owns_kept HOR.out hBc)
      clear hh hBc gx gy
      simp only [flowP, flow, pickL, List.getElem?_cons_succ, List.getElem?_cons_zero]
      refine wpQuiet_nil ?_
      repeat (go_big_quiet_step (fail))
      refine wpQuiet_nil ?_
      go_wp2
      refine seg_grow ⟨⟨_, bal (bz _) _⟩, rfl⟩ ?_
      refine wpQuiet_nil ?_
      have hbz : w.heap.size ≤ wc.heap.size := HBC.out.size
      refine wpList_append_pair rfl _ _ rfl Try.underlying22 info55 HORC.out hbz u1 u2 rfl rfl rfl (by have := HKL.out; have := HK.out; omega) ?_
      intro v' w' hown hgrow
      have HBN := Lib.hid (append_below (bal HBC.out _) (HORC.out.alloc _) hgrow (Nat.le_refl _))
      have HOWN := Lib.hid hown
      clear hown hgrow d0 d1
      go_wp2
      refine seg_write ?_
      refine wpQuiet_nil ?_
      go_wp2
      refine seg_write ?_
      refine wpQuiet_nil ?_
      refine only_done ?_
      go_wp2_with fail
      go_roundw
      case rel =>
        refine ⟨k + 1, v', by have := HK.out; have := HJ.out; omega, rfl, ?_, by rw [HS.out]; exact HOWN.out, HBN.out⟩
        have := HJ.out
        congr 1
        omega
      case measure => simp [intOf]; omega
    · have hkl : k = l.length / 2 := by omega
      have hlti : ¬ ((2 * k : Nat) : Int) + 1 < (l.length : Int) := by omega
      have HORF := Lib.hid (RdP.of_owns hor)
      rw [hkl] at HORF hor
      have HB := Lib.hid hB
      clear hor hB
      have HKL := Lib.hid hkl; clear hkl
      go_wp2_with fail
      go_ret
      exact ⟨_, rfl, by have h := HORF.out; rw [← HKL.out] at h ⊢; exact h, HB.out⟩
end Go.Proofs.Ytooddicegkiiiaa
