/- The laws' words: fine, ran, Filled, replaced, opposite. -/
import Derived.Test.YtdnaipiiponhpaaL1
import Derived.Test.YtdnaipiiponhpaaGE
namespace Go.Proofs.Ytdnaipiiponhpaa
open Go.RowKit Go.Shelf

set_option maxRecDepth 100000 in
set_option maxHeartbeats 1000000 in
theorem fine_yes (p : Int) (x : Value) (V : List (Int × Int)) (w : World) (hx : RdP w x V) (h : checkR p V = 0) :
    Calls Try.prog 47 #[.agg #[.int .i64 p, x]] w fun e w' => e = .returned (.bool true) ∧ Below w.heap.size w w' := by
  obtain ⟨a, c, rfl⟩ := hx.ex _ rfl
  have hl : V.length ≤ 40 := (okRow_of h).len
  have H := Lib.hid fun w1 (hB : Below w.heap.size w w1) => by have := rcheck_any p _ V w1 (hx.mono hB) (by omega); rw [h] at this; exact this
  clear h
  have KP0 := Lib.hid (keepB (bz w))
  go_enter Try.func47, Try.ntmps47
  go_wp2_with fail
  have KP1 := Lib.hid (((KP0.out.up (bal (bz w) _)).and (keepC (w := (w.alloc (.cells #[.int .i64 p, .slice a V.length c] 24))) (p := ⟨w.heap.size, 0, none⟩) (cnew (by simp) rfl))).and (keepC (w := (w.alloc (.cells #[.int .i64 p, .slice a V.length c] 24))) (p := ⟨w.heap.size, 1, none⟩) (cnew (by simp) rfl)))
  clear KP0
  refine (great_no _ _ _ _ _ (by omega)).mono ?_
  rintro e w1 ⟨rfl, hB⟩
  have KP2 := Lib.hid (KP1.out.up (btr (bz ((w.alloc (.cells #[.int .i64 p, .slice a V.length c] 24)))) hB))
  clear KP1
  clear hB
  have hall := KP2.out.here
  have hR1 := hall.1
  have hR0 := hall.2.1
  clear hall
  have zR := World.block_lt_of_cell? _ _ hR0
  simp only at zR
  go_wp2_with fail
  clear hR1 hR0 zR
  have hall := KP2.out.here
  have gBelow := hall.2.2
  clear hall
  refine (H.out _ gBelow).mono ?_
  rintro e w2 ⟨rfl, hB⟩
  have KP3 := Lib.hid (KP2.out.up (btr (bz w1) hB))
  clear KP2
  clear hB
  clear gBelow
  have hall := KP3.out.here
  have gBelow := hall.2.2
  clear hall
  go_wp2
  go_ret
  exact ⟨rfl, gBelow⟩
set_option maxRecDepth 100000 in
set_option maxHeartbeats 1000000 in
theorem fine_no (p : Int) (x : Value) (V : List (Int × Int)) (w : World) (hx : RdP w x V) (h : checkR p V ≠ 0) :
    Calls Try.prog 47 #[.agg #[.int .i64 p, x]] w fun e w' => e = .returned (.bool false) ∧ Below w.heap.size w w' := by
  obtain ⟨a, c, rfl⟩ := hx.ex _ rfl
  by_cases hV : 50 < V.length
  · clear h
    have KP0 := Lib.hid (keepB (bz w))
    go_enter Try.func47, Try.ntmps47
    go_wp2_with fail
    have KP1 := Lib.hid (((KP0.out.up (bal (bz w) _)).and (keepC (w := (w.alloc (.cells #[.int .i64 p, .slice a V.length c] 24))) (p := ⟨w.heap.size, 0, none⟩) (cnew (by simp) rfl))).and (keepC (w := (w.alloc (.cells #[.int .i64 p, .slice a V.length c] 24))) (p := ⟨w.heap.size, 1, none⟩) (cnew (by simp) rfl)))
    clear KP0
    refine (great_yes _ _ _ _ _ hV).mono ?_
    rintro e w1 ⟨rfl, hB⟩
    have KP2 := Lib.hid (KP1.out.up (btr (bz ((w.alloc (.cells #[.int .i64 p, .slice a V.length c] 24)))) hB))
    clear KP1
    clear hB
    have hall := KP2.out.here
    have gBelow := hall.2.2
    clear hall
    go_wp2
    go_ret
    exact ⟨rfl, gBelow⟩
  · have H := Lib.hid fun w1 (hB : Below w.heap.size w w1) => rcheck_any p _ V w1 (hx.mono hB) (by omega)
    generalize checkR p V = k at *
    have hk : (k == 0) = false := by simpa using h
    clear h
    have KP0 := Lib.hid (keepB (bz w))
    go_enter Try.func47, Try.ntmps47
    go_wp2_with fail
    have KP1 := Lib.hid (((KP0.out.up (bal (bz w) _)).and (keepC (w := (w.alloc (.cells #[.int .i64 p, .slice a V.length c] 24))) (p := ⟨w.heap.size, 0, none⟩) (cnew (by simp) rfl))).and (keepC (w := (w.alloc (.cells #[.int .i64 p, .slice a V.length c] 24))) (p := ⟨w.heap.size, 1, none⟩) (cnew (by simp) rfl)))
    clear KP0
    refine (great_no _ _ _ _ _ (by omega)).mono ?_
    rintro e w1 ⟨rfl, hB⟩
    have KP2 := Lib.hid (KP1.out.up (btr (bz ((w.alloc (.cells #[.int .i64 p, .slice a V.length c] 24)))) hB))
    clear KP1
    clear hB
    have hall := KP2.out.here
    have hR1 := hall.1
    have hR0 := hall.2.1
    clear hall
    have zR := World.block_lt_of_cell? _ _ hR0
    simp only at zR
    go_wp2_with fail
    clear hR1 hR0 zR
    have hall := KP2.out.here
    have gBelow := hall.2.2
    clear hall
    refine (H.out _ gBelow).mono ?_
    rintro e w2 ⟨rfl, hB⟩
    have KP3 := Lib.hid (KP2.out.up (btr (bz w1) hB))
    clear KP2
    clear hB
    clear gBelow
    have hall := KP3.out.here
    have gBelow := hall.2.2
    clear hall
    go_wp2
    go_ret
    exact ⟨rfl, gBelow⟩

theorem runE_ok {n : Nat} {V : List (Int × Int)} {q : List Int} (hV : OkRow n V) (hq : q.length = n) : runE n V q = 0 ∧ runR n V q = runV V q := by
  have h0 := check_of_ok hV
  refine ⟨?_, ?_⟩
  · unfold runE; rw [if_neg (by simpa using h0), if_neg (by simp; omega)]
  · rw [runR_eq]; unfold rrunR; rw [if_neg (by simpa using h0), if_neg (by simp; omega)]
set_option maxRecDepth 100000 in
set_option maxHeartbeats 1000000 in
theorem ran_ok (n : Nat) (x y : Value) (V : List (Int × Int)) (q : List Int) (w : World) (hx : RdP w x V) (hy : RdI w .i64 y q) (hV : OkRow n V) (hq : q.length = n) :
    Calls Try.prog 48 #[.agg #[.int .i64 n, x], y] w fun e w' => ∃ v, e = .returned (.tuple #[v, .bool true]) ∧ RdI w' .i64 v (runV V q) ∧ Below w.heap.size w w' := by
  obtain ⟨a, c, rfl⟩ := hx.ex _ rfl
  obtain ⟨b, d, rfl⟩ := hy.ex n hq
  have hl : V.length ≤ 40 := hV.len
  have h8 := hV.p8
  have H := Lib.hid fun w1 (hB : Below w.heap.size w w1) => by have := vrun_any n _ _ V q w1 (hx.mono hB) (hy.mono hB) (by omega) (by omega); rw [(runE_ok hV hq).1, (runE_ok hV hq).2] at this; exact this
  have hlr : (runV V q).length = n := by rw [runV_length]; exact hq
  clear hq
  have KP0 := Lib.hid (keepB (bz w))
  go_enter Try.func48, Try.ntmps48
  go_wp2_with fail
  have KP1 := Lib.hid (((KP0.out.up (bal (bz w) _)).and (keepC (w := (w.alloc (.cells #[.int .i64 n, .slice a V.length c] 24))) (p := ⟨w.heap.size, 0, none⟩) (cnew (by simp) rfl))).and (keepC (w := (w.alloc (.cells #[.int .i64 n, .slice a V.length c] 24))) (p := ⟨w.heap.size, 1, none⟩) (cnew (by simp) rfl)))
  clear KP0
  have hall := KP1.out.here
  have gBelow := hall.2.2
  clear hall
  refine (H.out _ gBelow).mono ?_
  rintro e w1 ⟨v, rfl, hRl, hB⟩
  have KP2 := Lib.hid ((KP1.out.up (btr (bz ((w.alloc (.cells #[.int .i64 n, .slice a V.length c] 24)))) hB)).and (keepI hRl))
  clear KP1
  clear hRl hB
  clear gBelow
  have hall := KP2.out.here
  have gl := hall.1
  have gBelow := hall.2.2.2
  clear hall
  obtain ⟨a2, c2, hv⟩ := gl.ex n hlr
  subst hv
  have HL := Lib.hid gl
  clear gl KP2
  go_wp2
  go_ret2
  exact ⟨_, rfl, HL.out, gBelow⟩

/-- Values for so many places. -/
def filL (by' : List Int) (k : Nat) : List Int := (List.range k).map fun i => by'[i % by'.length]?.getD 0
theorem filL_succ (b : List Int) (k : Nat) : filL b (k + 1) = filL b k ++ [b[k % b.length]?.getD 0] := by simp [filL, List.range_succ]
theorem filL_len (b : List Int) (k : Nat) : (filL b k).length = k := by simp [filL]
set_option maxRecDepth 100000 in
set_option maxHeartbeats 2000000 in
theorem filled_any (n : Nat) (x : Value) (l : List Int) (w : World) (hx0 : RdI w .i16 x l) (hw : ∀ v ∈ l, -32768 ≤ v ∧ v ≤ 32767) (hn : n ≤ 8) (hl : l.length ≤ 1000) :
    Calls Try.prog 49 #[.int .i64 n, x] w fun e w' => ∃ v, e = .returned v ∧ RdI w' .i64 v (filL l n) ∧ Below w.heap.size w w' := by
  obtain ⟨a, ca, rfl, hca1, hca2, hxf⟩ := hx0.form
  clear hca1 hca2
  have HF := Lib.hid hxf; clear hxf
  go_enter Try.func49, Try.ntmps49
  go_wp2
  go_loopw [5, 6, 7, 8, 9, 10, 11, 12, 13, 14, 15, 16, 17, 18, 19, 20, 21, 22, 23, 24, 25, 26, 27] (fun v i _ _ _ _ _ _ _ _ _ _ _ _ _ _ _ _ _ _ _ _ _ wr => ∃ k : Nat, k ≤ n ∧ i = .int .i64 k ∧ Below w.heap.size w wr ∧ wr.ownsRow w.heap.size 2 1 v (filL l k).length ((filL l k).map (Value.int .i64))) (fun v i _ _ _ _ _ _ _ _ _ _ _ _ _ _ _ _ _ _ _ _ _ _ => n - (intOf i).toNat)
  case atStart => exact ⟨0, Nat.zero_le _, rfl, bz _, World.ownsRow_nil _ _ _ _⟩
  case round =>
    obtain ⟨k, hk, rfl, hB, hO⟩ := hrel
    have HST := Lib.hid (filL_succ l k)
    have hll := filL_len l k
    have HO := Lib.hid hO; have HB := Lib.hid hB; clear hO hB
    by_cases hkn : k < n
    · by_cases hl0 : l.length = 0
      · have he : l[k % l.length]?.getD 0 = 0 := by rw [List.getElem?_eq_none (by omega)]; rfl
        rw [he] at HST
        have hlz : ¬ ((0 : Int) < (l.length : Int)) := by omega
        clear he hl0
        go_wp2_with (at_builtin; refine wpList_append_num rfl _ _ rfl Try.underlying25 num2 HO.out _ rfl rfl (by omega) HB.out.size ?_)
        intro v' w' hown' hgrow
        have hB8 := append_below (bal HB.out _) (HO.out.alloc _) hgrow (Nat.le_refl _)
        have HP := Lib.hid hown'; have HB8 := Lib.hid hB8
        clear hown' hgrow hB8
        go_wp2
        refine ⟨⟨k + 1, by omega, by go_num, HB8.out, ?_⟩, by simp [intOf]; omega⟩
        rw [HST.out, List.length_append, List.map_append, hll]; exact HP.out
      · obtain ⟨bx, ox, rfl, hbx, hcx⟩ := HF.out (by omega)
        have hlz : (0 : Int) < (l.length : Int) := by omega
        have hmod : k % l.length < l.length := Nat.mod_lt _ (by omega)
        have gx := (HB.out.cell (p := ⟨bx, ox + k % l.length, none⟩) hbx).trans (hcx _ hmod)
        have hrem : (k : Int).tmod (l.length : Int) = ((k % l.length : Nat) : Int) := by have := (Int.ofNat_tmod k l.length).symm; simpa using this
        have hbd : -32768 ≤ l[k % l.length]?.getD 0 ∧ l[k % l.length]?.getD 0 ≤ 32767 := by rw [List.getElem?_eq_getElem hmod]; exact hw _ (List.getElem_mem hmod)
        have hzb : bx < wr.heap.size := Nat.lt_of_lt_of_le hbx HB.out.size
        have hlne : ((l.length : Int) == 0) = false := by rw [beq_eq_false_iff_ne]; omega
        have hcv : IntKind.i64.wrap (l[k % l.length]?.getD 0) = l[k % l.length]?.getD 0 := IntWalk.i64_in _ (by omega)
        clear hcx hl0
        generalize l[k % l.length]?.getD 0 = u at *
        generalize k % l.length = r at *
        go_wp2_with (at_builtin; refine wpList_append_num rfl _ _ rfl Try.underlying25 num2 HO.out _ rfl rfl (by omega) HB.out.size ?_)
        intro v' w' hown' hgrow
        have hB8 := append_below (bal HB.out _) (HO.out.alloc _) hgrow (Nat.le_refl _)
        have HP := Lib.hid hown'; have HB8 := Lib.hid hB8
        clear hown' hgrow hB8
        go_wp2
        refine ⟨⟨k + 1, by omega, by go_num, HB8.out, ?_⟩, by simp [intOf]; omega⟩
        rw [HST.out, List.length_append, List.map_append, hll]; exact HP.out
    · obtain rfl : k = n := by omega
      go_wp2
      go_ret
      exact ⟨_, rfl, RdI.of_owns HO.out, HB.out⟩

def replI (part more n : Int) : Int := (n + 40000) / (1 + part) * 3 + more
set_option maxRecDepth 100000 in
set_option maxHeartbeats 1000000 in
theorem replaced_any (n part more : Int) (w : World) (h1 : -32768 ≤ n) (h2 : n ≤ 32767) (h3 : 0 ≤ part) (h4 : part ≤ 255) (h5 : -32768 ≤ more) (h6 : more ≤ 32767) :
    Calls Try.prog 51 #[.int .i64 n, .int .u8 part, .int .i16 more] w fun e w' => e = .returned (.int .i64 (replI part more n)) ∧ w = w' := by
  have hd : 0 ≤ (n + 40000) / (1 + part) ∧ (n + 40000) / (1 + part) ≤ 72767 := by
    refine ⟨Int.ediv_nonneg (by omega) (by omega), ?_⟩
    have := Int.ediv_le_self (1 + part) (show 0 ≤ n + 40000 by omega)
    omega
  have hz : ((1 + part) == 0) = false := by simp; omega
  unfold replI
  go_enter Try.func51, Try.ntmps51
  go_wp2
  go_ret
  exact ⟨rfl, rfl⟩

/-- The opposites, from the last one to the first one. -/
def oppL (l : List Int) : List Int := (l.map fun x => -x).reverse
def oppK (l : List Int) (k : Nat) : List Int := (List.range k).map fun i => -(l[l.length - 1 - i]?.getD 0)
theorem oppK_succ (l : List Int) (k : Nat) : oppK l (k + 1) = oppK l k ++ [-(l[l.length - 1 - k]?.getD 0)] := by simp [oppK, List.range_succ]
theorem oppK_len (l : List Int) (k : Nat) : (oppK l k).length = k := by simp [oppK]
theorem oppK_all (l : List Int) : oppK l l.length = oppL l := by
  apply List.ext_getElem
  · simp [oppK, oppL]
  · intro i h1 h2
    have hi : i < l.length := by simpa [oppK] using h1
    simp [oppK, oppL, show l.length - 1 - i < l.length by omega]
set_option maxRecDepth 100000 in
set_option maxHeartbeats 2000000 in
theorem opposite_any (x : Value) (l : List Int) (w : World) (hx0 : RdI w .i64 x l) (hw : ∀ v ∈ l, -100000000 ≤ v ∧ v ≤ 100000000) (hl : l.length ≤ 100) :
    Calls Try.prog 54 #[x] w fun e w' => ∃ v, e = .returned v ∧ RdI w' .i64 v (oppL l) ∧ Below w.heap.size w w' := by
  obtain ⟨a, ca, rfl, hca1, hca2, hxf⟩ := hx0.form
  clear hca1 hca2
  have HF := Lib.hid hxf; clear hxf
  go_enter Try.func54, Try.ntmps54
  go_wp2
  go_loopw [3, 4, 8, 9, 10, 11, 12, 13, 14, 15, 16, 17, 18, 19] (fun v i _ _ _ _ _ _ _ _ _ _ _ _ wr => ∃ k : Nat, k ≤ l.length ∧ i = .int .i64 ((l.length : Int) - 1 - k) ∧ Below w.heap.size w wr ∧ wr.ownsRow w.heap.size 2 1 v (oppK l k).length ((oppK l k).map (Value.int .i64))) (fun v i _ _ _ _ _ _ _ _ _ _ _ _ _ => (intOf i + 1).toNat)
  case atStart => exact ⟨0, Nat.zero_le _, by simp, bz _, World.ownsRow_nil _ _ _ _⟩
  case round =>
    obtain ⟨k, hk, rfl, hB, hO⟩ := hrel
    have HST := Lib.hid (oppK_succ l k)
    have hll := oppK_len l k
    have HO := Lib.hid hO; have HB := Lib.hid hB; clear hO hB
    by_cases hkn : k < l.length
    · obtain ⟨bx, ox, rfl, hbx, hcx⟩ := HF.out (by omega)
      obtain ⟨j, hj⟩ : ∃ j : Nat, j = l.length - 1 - k := ⟨_, rfl⟩
      have hji : (l.length : Int) - 1 - (k : Int) = (j : Int) := by omega
      have hjl : j < l.length := by omega
      rw [← hj] at HST
      have gx := (HB.out.cell (p := ⟨bx, ox + j, none⟩) hbx).trans (hcx _ hjl)
      have hbd : -100000000 ≤ l[j]?.getD 0 ∧ l[j]?.getD 0 ≤ 100000000 := by rw [List.getElem?_eq_getElem hjl]; exact hw _ (List.getElem_mem hjl)
      have hzb : bx < wr.heap.size := Nat.lt_of_lt_of_le hbx HB.out.size
      have hng : IntKind.i64.wrap (-(l[j]?.getD 0)) = -(l[j]?.getD 0) := IntWalk.i64_in _ (by omega)
      rw [hji]
      have HJ := Lib.hid hji; have HJ2 := Lib.hid hj
      clear hcx hji hj
      generalize l[j]?.getD 0 = u at *
      go_wp2_with (at_builtin; refine wpList_append_num rfl _ _ rfl Try.underlying25 num2 HO.out _ rfl rfl (by omega) HB.out.size ?_)
      intro v' w' hown' hgrow
      have hB8 := append_below (bal HB.out _) (HO.out.alloc _) hgrow (Nat.le_refl _)
      have HP := Lib.hid hown'; have HB8 := Lib.hid hB8
      clear hown' hgrow hB8
      go_wp2
      refine ⟨⟨k + 1, by omega, ?_, HB8.out, ?_⟩, by simp [intOf] <;> omega⟩
      · have := HJ.out
        congr 1
        omega
      · rw [HST.out, List.length_append, List.map_append, hll]; exact HP.out
    · obtain rfl : k = l.length := by omega
      rw [oppK_all] at HO
      have hneg : (l.length : Int) - 1 - (l.length : Int) = -1 := by omega
      rw [hneg]
      go_wp2
      go_ret
      exact ⟨_, rfl, RdI.of_owns (n := _) (by have := HO.out; exact this), HB.out⟩
end Go.Proofs.Ytdnaipiiponhpaa
