/- ValveKept holds; no condition. -/
import Derived.Test.YtdnaipiiponhpaaH3
import Derived.Test.YtdnaipiiponhpaaP13
namespace Go.Proofs.Ytdnaipiiponhpaa
open Go.RowKit Go.Shelf

theorem filL_in {q : List Int} (hw : ∀ v ∈ q, -32768 ≤ v ∧ v ≤ 32767) (n : Nat) : ∀ v ∈ filL q n, -32768 ≤ v ∧ v ≤ 32767 := by
  intro v hv
  obtain ⟨i, _, rfl⟩ := List.mem_map.1 hv
  by_cases h0 : i % q.length < q.length
  · rw [List.getElem?_eq_getElem h0]; exact hw _ (List.getElem_mem h0)
  · rw [List.getElem?_eq_none (by omega)]; simp
theorem in_getD {v : List Int} (hw : ∀ x ∈ v, -32768 ≤ x ∧ x ≤ 32767) (i : Nat) (hi : i < v.length) : -32768 ≤ v[i]?.getD 0 ∧ v[i]?.getD 0 ≤ 32767 := by
  rw [List.getElem?_eq_getElem hi]; exact hw _ (List.getElem_mem hi)
def repK (part more : Int) (v : List Int) (k : Nat) : List Int := (v.take k).map (replI part more)
theorem repK_succ (part more : Int) (v : List Int) (k : Nat) (hk : k < v.length) : repK part more v (k + 1) = repK part more v k ++ [replI part more (v[k]?.getD 0)] := map_take _ v k hk
theorem repK_len (part more : Int) (v : List Int) (k : Nat) (hk : k ≤ v.length) : (repK part more v k).length = k := by simp [repK]; omega
theorem repK_all (part more : Int) (v : List Int) : repK part more v v.length = v.map (replI part more) := by simp [repK]
structure KeptS (n : Nat) (V : List (Int × Int)) (part more : Int) (vv l : List Int) : Prop where
  vl : vv.length = n
  ll : l.length = n
  vin : ∀ i, i < n → -32768 ≤ vv[i]?.getD 0 ∧ vv[i]?.getD 0 ≤ 32767
  lin : ∀ i, i < n → -32768 ≤ l[i]?.getD 0 ∧ l[i]?.getD 0 ≤ 32767
  run : ∀ (x y : Value) (w : World), RdP w x V → RdI w .i64 y vv → Calls Try.prog 48 #[.agg #[.int .i64 n, x], y] w fun e w' => ∃ u, e = .returned (.tuple #[u, .bool true]) ∧ RdI w' .i64 u l ∧ Below w.heap.size w w'
  many : ∀ x, manyK l vv x n = 0
  runx : ∀ (x y : Value) (w : World), RdP w x V → RdI w .i64 y (repK part more vv n) → Calls Try.prog 48 #[.agg #[.int .i64 n, x], y] w fun e w' => ∃ u, e = .returned (.tuple #[u, .bool true]) ∧ RdI w' .i64 u (repK part more l n) ∧ Below w.heap.size w w'
  runs : ∀ (S : List Int) (x y : Value) (w : World), S.length = n → UpTo S n → RdP w x V → RdI w .i64 y S → Calls Try.prog 48 #[.agg #[.int .i64 n, x], y] w fun e w' => ∃ u, e = .returned (.tuple #[u, .bool true]) ∧ RdI w' .i64 u S ∧ Below w.heap.size w w'
theorem keptS (n : Nat) (V : List (Int × Int)) (q : List Int) (part more : Int) (hp : 0 ≤ part) (h : checkR n V = 0) (hw : ∀ v ∈ q, -32768 ≤ v ∧ v ≤ 32767) : ∃ l, KeptS n V part more (filL q n) l := by
  obtain ⟨h8, h1, h40, hok⟩ := okn h
  have hv := filL_len q n
  have hin := filL_in hw n
  have hok' : OkV (filL q n).length V := by rw [hv]; exact hok
  have hll : (runV V (filL q n)).length = n := by rw [runV_length]; exact hv
  have e1 : repK part more (filL q n) n = (filL q n).map (replI part more) := by have := repK_all part more (filL q n); rwa [hv] at this
  have e2 : repK part more (runV V (filL q n)) n = (runV V (filL q n)).map (replI part more) := by have := repK_all part more (runV V (filL q n)); rwa [hll] at this
  refine ⟨runV V (filL q n), hv, hll, fun i hi => in_getD hin i (by omega), fun i hi => in_getD (runV_mem (fun x => -32768 ≤ x ∧ x ≤ 32767) V _ hok' hin) i (by omega), fun x y w hx hy => ran_ok n x y V _ w hx hy (okRow_of h) hv,
    fun x => manyK_all hok hv x, fun x y w hx hy => ?_, fun S x y w hS hu hx hy => ?_⟩
  · have := ran_ok n x y V _ w hx hy (okRow_of h) (by rw [e1, List.length_map]; exact hv)
    rwa [e1, repl_run hok hv part more hp, ← e2] at this
  · have := ran_ok n x y V S w hx hy (okRow_of h) hS
    rwa [runV_sorted V S (UpTo.sorted (by rw [hS]; exact hu)) (by rw [hS]; exact hok)] at this

set_option maxRecDepth 100000 in
set_option maxHeartbeats 60000000 in
theorem kept_walk (p : Int) (x y : Value) (V : List (Int × Int)) (q : List Int) (w : World) (hx : RdP w x V) (hy : RdI w .i16 y q) (hw : ∀ v ∈ q, -32768 ≤ v ∧ v ≤ 32767) (z : Int) (hz0 : 0 ≤ z) (hz1 : z ≤ 255) (mo : Int) (hm0 : -32768 ≤ mo) (hm1 : mo ≤ 32767) :
    Calls Try.prog 8 #[.agg #[.int .i64 p, x], y, .int .u8 z, .int .i16 mo] w fun e w' => e = .returned (.bool true) ∧ Below w.heap.size w w' := by
  obtain ⟨a, c, rfl⟩ := hx.ex _ rfl
  obtain ⟨b, d, rfl⟩ := hy.ex _ rfl
  have HW := Lib.hid hw; clear hw
  by_cases hF : checkR p V ≠ 0
  ·
    have KP0 := Lib.hid (((keepB (bz w)).and (keepP hx)).and (keepI hy))
    clear hx hy
    go_enter Try.func8, Try.ntmps8
    go_wp2_with fail
    have KP1 := Lib.hid (((KP0.out.up (bal (bz w) _)).and (keepC (w := (w.alloc (.cells #[.int .i64 p, .slice a V.length c] 24))) (p := ⟨w.heap.size, 0, none⟩) (v := .int .i64 p) (cnew (by simp) rfl))).and (keepC (w := (w.alloc (.cells #[.int .i64 p, .slice a V.length c] 24))) (p := ⟨w.heap.size, 1, none⟩) (v := .slice a V.length c) (cnew (by simp) rfl)))
    clear KP0
    have hall := KP1.out.here
    have gr := hall.2.2.2.1
    clear hall
    refine (fine_no p _ V _ gr hF).mono ?_
    rintro e w1 ⟨rfl, hB⟩
    have KP2 := Lib.hid (KP1.out.up (btr (bz ((w.alloc (.cells #[.int .i64 p, .slice a V.length c] 24)))) hB))
    clear KP1
    clear hB
    clear gr
    have hall := KP2.out.here
    have hR1 := hall.1
    have hR0 := hall.2.1
    clear hall
    have zR := World.block_lt_of_cell? _ _ hR0
    simp only at zR
    go_wp2_with fail
    clear hR1 hR0 zR
    refine (works_any _).mono ?_
    rintro e w2 ⟨rfl, hB⟩
    have KP3 := Lib.hid (KP2.out.up (btr (bz w1) hB))
    clear KP2
    clear hB
    have hall := KP3.out.here
    have gBelow := hall.2.2.2.2
    clear hall
    go_wp2
    go_ret
    exact ⟨rfl, gBelow⟩
  have hF := Classical.not_not.1 hF
  by_cases hq : 20 < q.length
  ·
    have hq2 : (20 : Int) < (q.length : Int) := by omega
    have KP0 := Lib.hid (((keepB (bz w)).and (keepP hx)).and (keepI hy))
    clear hx hy
    go_enter Try.func8, Try.ntmps8
    go_wp2_with fail
    have KP1 := Lib.hid (((KP0.out.up (bal (bz w) _)).and (keepC (w := (w.alloc (.cells #[.int .i64 p, .slice a V.length c] 24))) (p := ⟨w.heap.size, 0, none⟩) (v := .int .i64 p) (cnew (by simp) rfl))).and (keepC (w := (w.alloc (.cells #[.int .i64 p, .slice a V.length c] 24))) (p := ⟨w.heap.size, 1, none⟩) (v := .slice a V.length c) (cnew (by simp) rfl)))
    clear KP0
    have hall := KP1.out.here
    have gr := hall.2.2.2.1
    clear hall
    refine (fine_yes p _ V _ gr hF).mono ?_
    rintro e w1 ⟨rfl, hB⟩
    have KP2 := Lib.hid (KP1.out.up (btr (bz ((w.alloc (.cells #[.int .i64 p, .slice a V.length c] 24)))) hB))
    clear KP1
    clear hB
    clear gr
    have hall := KP2.out.here
    have hR1 := hall.1
    have hR0 := hall.2.1
    clear hall
    have zR := World.block_lt_of_cell? _ _ hR0
    simp only at zR
    go_wp2_with fail
    clear hR1 hR0 zR
    refine (works_any _).mono ?_
    rintro e w2 ⟨rfl, hB⟩
    have KP3 := Lib.hid (KP2.out.up (btr (bz w1) hB))
    clear KP2
    clear hB
    have hall := KP3.out.here
    have gBelow := hall.2.2.2.2
    clear hall
    go_wp2
    go_ret
    exact ⟨rfl, gBelow⟩
  have hq2 : ¬ ((20 : Int) < (q.length : Int)) := by omega
  obtain ⟨n, rfl⟩ : ∃ n : Nat, p = n := ⟨p.toNat, by have := (okRow_of hF).p1; omega⟩
  obtain ⟨h8, h1, h40, hok⟩ := okn hF
  have HF := Lib.hid hF; have HO := Lib.hid hok; have HV := Lib.hid (okRow_of hF)
  clear hF hok
  have hfil := fun x w hx => filled_any n x q w hx HW.out h8 (by omega)
  have hkp := keptS n V q z mo hz0 HF.out HW.out
  generalize filL q n = vv at *
  obtain ⟨l, hS⟩ := hkp
  have HS := Lib.hid hS; have HFIL := Lib.hid hfil
  clear hS hfil HW
  have KP0 := Lib.hid (((keepB (bz w)).and (keepP hx)).and (keepI hy))
  clear hx hy
  go_enter Try.func8, Try.ntmps8
  go_wp2_with fail
  have KP1 := Lib.hid (((KP0.out.up (bal (bz w) _)).and (keepC (w := (w.alloc (.cells #[.int .i64 n, .slice a V.length c] 24))) (p := ⟨w.heap.size, 0, none⟩) (v := .int .i64 n) (cnew (by simp) rfl))).and (keepC (w := (w.alloc (.cells #[.int .i64 n, .slice a V.length c] 24))) (p := ⟨w.heap.size, 1, none⟩) (v := .slice a V.length c) (cnew (by simp) rfl)))
  clear KP0
  have hall := KP1.out.here
  have gr := hall.2.2.2.1
  clear hall
  refine (fine_yes n _ V _ gr HF.out).mono ?_
  rintro e w1 ⟨rfl, hB⟩
  have KP2 := Lib.hid (KP1.out.up (btr (bz ((w.alloc (.cells #[.int .i64 n, .slice a V.length c] 24)))) hB))
  clear KP1
  clear hB
  clear gr
  have hall := KP2.out.here
  have hR1 := hall.1
  have hR0 := hall.2.1
  clear hall
  have zR := World.block_lt_of_cell? _ _ hR0
  simp only at zR
  go_wp2_with fail
  clear hR1 hR0 zR
  have hall := KP2.out.here
  have gy := hall.2.2.1
  clear hall
  refine (HFIL.out _ _ gy).mono ?_
  rintro e w2 ⟨v, rfl, hRF, hB⟩
  obtain ⟨aF, cF, hv⟩ := hRF.ex n HS.out.vl
  subst hv
  have KP3 := Lib.hid ((KP2.out.up (btr (bz w1) hB)).and (keepI hRF))
  clear KP2
  clear hRF hB
  clear gy
  have hall := KP3.out.here
  have hR1 := hall.2.1
  have hR0 := hall.2.2.1
  clear hall
  have zR := World.block_lt_of_cell? _ _ hR0
  simp only at zR
  go_wp2_with fail
  clear hR1 hR0 zR
  have hall := KP3.out.here
  have gF := hall.1
  have gr := hall.2.2.2.2.1
  clear hall
  refine (HS.out.run _ _ _ gr gF).mono ?_
  rintro e w3 ⟨v, rfl, hRX, hB⟩
  obtain ⟨aX, cX, hv⟩ := hRX.ex n HS.out.ll
  subst hv
  have KP4 := Lib.hid ((KP3.out.up (btr (bz w2) hB)).and (keepI hRX))
  clear KP3
  clear hRX hB
  clear gF gr
  have hall := KP4.out.here
  have hR1 := hall.2.2.1
  have hR0 := hall.2.2.2.1
  clear hall
  have zR := World.block_lt_of_cell? _ _ hR0
  simp only at zR
  go_wp2
  clear hR1 hR0 zR
  have hall := KP4.out.here
  have gX := hall.1
  have gF := hall.2.1
  clear hall
  obtain ⟨bf, of, haF, hbf, hcf⟩ := rdI_cells gF HS.out.vl (by omega)
  obtain ⟨bx, ox, haX, hbx, hcx⟩ := rdI_cells gX HS.out.ll (by omega)
  subst haF haX
  have HCF := Lib.hid hcf; have HCX := Lib.hid hcx
  clear hcf hcx gF gX
  have hall := KP4.out.here
  have gR0 := hall.2.2.2.1
  clear hall
  have zR := World.block_lt_of_cell? _ _ gR0
  simp only at zR
  have GR0 := Lib.hid gR0
  clear gR0
  go_loopw [12, 13, 14, 44, 45, 46, 47, 48, 49, 50, 51, 52, 53, 54, 55, 56, 57, 58, 59, 60, 61, 62, 63, 64, 65, 66, 67, 68, 69, 70, 71, 72, 73, 74, 75, 76, 77, 78, 79] (fun i _ _ _ _ _ _ _ _ _ _ _ _ _ _ _ _ _ _ _ _ _ _ _ _ _ _ _ _ _ _ _ _ _ _ _ _ _ _ wr => ∃ k : Nat, k ≤ n ∧ i = .int .i64 k ∧ Below w3.heap.size w3 wr) (fun i _ _ _ _ _ _ _ _ _ _ _ _ _ _ _ _ _ _ _ _ _ _ _ _ _ _ _ _ _ _ _ _ _ _ _ _ _ _ _ => n - (intOf i).toNat)
  case atStart => exact ⟨0, Nat.zero_le _, rfl, bz _⟩
  case round =>
    obtain ⟨k, hk, rfl, hB⟩ := hrel
    have gR0 : wr.cell? ⟨w.heap.size, 0, none⟩ = some (.int .i64 n) := (hB.cell (p := ⟨w.heap.size, 0, none⟩) zR).trans GR0.out
    have zR2 := Nat.lt_of_lt_of_le zR hB.size
    have HB := Lib.hid hB; clear hB
    by_cases hkn : k < n
    · have hkn2 : (k : Int) < (n : Int) := by omega
      obtain ⟨wo, rfl⟩ : ∃ wo : World, wo = wr := ⟨_, rfl⟩
      have hvk := HCF.out k hkn
      obtain ⟨c0, hc0⟩ : ∃ c0, vv[k]?.getD 0 = c0 := ⟨_, rfl⟩
      rw [hc0] at hvk
      clear hc0
      have HVK := Lib.hid hvk; clear hvk
      go_wp2
      go_loopw [13, 14, 50, 51, 52, 53, 54, 55, 56, 57, 58, 59, 60, 61, 62, 63, 64, 65, 66, 67, 68, 69, 70, 71, 72, 73, 74, 75, 76, 77] (fun m j _ _ _ _ _ _ _ _ _ _ _ _ _ _ _ _ _ _ _ _ _ _ _ _ _ _ _ _ wr => ∃ t : Nat, t ≤ n ∧ j = .int .i64 t ∧ m = .int .i64 (manyK l vv c0 t) ∧ Below w3.heap.size w3 wr) (fun m j _ _ _ _ _ _ _ _ _ _ _ _ _ _ _ _ _ _ _ _ _ _ _ _ _ _ _ _ _ => n - (intOf j).toNat)
      case atStart => exact ⟨0, Nat.zero_le _, rfl, by simp [manyK], HB.out⟩
      case round =>
        obtain ⟨j, hj, rfl, rfl, hB2⟩ := hrel
        by_cases hjn : j < n
        · have hjn2 : (j : Int) < (n : Int) := by omega
          have HST := Lib.hid (manyK_succ l vv c0 j (by have := HS.out.ll; omega) (by have := HS.out.vl; omega))
          have hmi := manyK_in l vv c0 j
          have gl := HCX.out j hjn
          have gv := HCF.out j hjn
          have gk := HVK.out
          generalize l[j]?.getD 0 = u at *
          generalize vv[j]?.getD 0 = v at *
          generalize manyK l vv c0 j = m0 at *
          have KP5 := Lib.hid ((((((KP4.out.up (bz w3)).and (keepC gl)).and (keepC gv)).and (keepC gk)).and (keepZ hbf)).and (keepZ hbx))
          clear KP4
          clear gl gv gk gR0 zR2 HB
          have KP6 := Lib.hid ((KP5.out.up (btr (bz w3) hB2)).and (keepB hB2))
          clear KP5
          clear hB2
          by_cases hu : u = c0
          · have hub : (u == c0) = true := by simpa using hu
            rw [if_pos hu] at HST
            clear hu
            by_cases hv : v = c0
            · have hvb : (v == c0) = true := by simpa using hv
              rw [if_pos hv] at HST
              clear hv
              have hall := KP6.out.here
              have hR1 := hall.2.2.2.2.2.2.2.2.1
              have hR0 := hall.2.2.2.2.2.2.2.2.2.1
              clear hall
              have zR := World.block_lt_of_cell? _ _ hR0
              simp only at zR
              go_wp2
              clear hR1 hR0 zR
              refine wp_region_flow [] [] [0, 1, 2, 3, 4, 5, 6, 7, 8] (by kernel_rfl) (by kernel_rfl) ?_
              intro w4 hB hh
              clear hh
              have KP7 := Lib.hid ((KP6.out.up (btr (bz wr) hB)).and (keepB (bz w4)))
              clear KP6
              clear hB
              have hall := KP7.out.here
              have hR1 := hall.2.2.2.2.2.2.2.2.2.1
              have hR0 := hall.2.2.2.2.2.2.2.2.2.2.1
              clear hall
              have zR := World.block_lt_of_cell? _ _ hR0
              simp only at zR
              have hall := KP7.out.here
              have kzx := hall.2.2.1
              have kzf := hall.2.2.2.1
              have kck := hall.2.2.2.2.1
              have kcv := hall.2.2.2.2.2.1
              have kcl := hall.2.2.2.2.2.2.1
              clear hall
              have hL := @Later.cell w4
              simp only [flowP, flow, pickL, List.getElem?_cons_succ, List.getElem?_cons_zero]
              refine wpQuiet_nil ?_
              repeat (go_big_quiet_step (fail))
              refine wpQuiet_nil ?_
              refine only_done ?_
              clear hR1 hR0 zR kzx kzf kck kcv kcl hL
              have hall := KP7.out.here
              have hR1 := hall.2.2.2.2.2.2.2.2.2.1
              have hR0 := hall.2.2.2.2.2.2.2.2.2.2.1
              clear hall
              have zR := World.block_lt_of_cell? _ _ hR0
              simp only at zR
              go_wp2
              clear hR1 hR0 zR
              refine wp_region_flow [] [] [0, 1, 2, 3, 4, 5, 6, 7, 8] (by kernel_rfl) (by kernel_rfl) ?_
              intro w5 hB hh
              clear hh
              have KP8 := Lib.hid ((KP7.out.up (btr (bz w4) hB)).and (keepB (bz w5)))
              clear KP7
              clear hB
              have hall := KP8.out.here
              have hR1 := hall.2.2.2.2.2.2.2.2.2.2.1
              have hR0 := hall.2.2.2.2.2.2.2.2.2.2.2.1
              clear hall
              have zR := World.block_lt_of_cell? _ _ hR0
              simp only at zR
              have hall := KP8.out.here
              have kzx := hall.2.2.2.1
              have kzf := hall.2.2.2.2.1
              have kck := hall.2.2.2.2.2.1
              have kcv := hall.2.2.2.2.2.2.1
              have kcl := hall.2.2.2.2.2.2.2.1
              clear hall
              have hL := @Later.cell w5
              simp only [flowP, flow, pickL, List.getElem?_cons_succ, List.getElem?_cons_zero]
              refine wpQuiet_nil ?_
              repeat (go_big_quiet_step (fail))
              refine wpQuiet_nil ?_
              refine only_done ?_
              clear hR1 hR0 zR kzx kzf kck kcv kcl hL
              have hall := KP8.out.here
              have gB2 := hall.2.2.1
              clear hall
              go_wp2
              exact ⟨⟨j + 1, by omega, by go_num, by rw [HST.out]; congr 1; omega, gB2⟩, by simp [intOf]; omega⟩
            · have hvb : (v == c0) = false := by simpa using hv
              rw [if_neg hv] at HST
              clear hv
              have hall := KP6.out.here
              have hR1 := hall.2.2.2.2.2.2.2.2.1
              have hR0 := hall.2.2.2.2.2.2.2.2.2.1
              clear hall
              have zR := World.block_lt_of_cell? _ _ hR0
              simp only at zR
              go_wp2
              clear hR1 hR0 zR
              refine wp_region_flow [] [] [0, 1, 2, 3, 4, 5, 6, 7, 8] (by kernel_rfl) (by kernel_rfl) ?_
              intro w4 hB hh
              clear hh
              have KP7 := Lib.hid ((KP6.out.up (btr (bz wr) hB)).and (keepB (bz w4)))
              clear KP6
              clear hB
              have hall := KP7.out.here
              have hR1 := hall.2.2.2.2.2.2.2.2.2.1
              have hR0 := hall.2.2.2.2.2.2.2.2.2.2.1
              clear hall
              have zR := World.block_lt_of_cell? _ _ hR0
              simp only at zR
              have hall := KP7.out.here
              have kzx := hall.2.2.1
              have kzf := hall.2.2.2.1
              have kck := hall.2.2.2.2.1
              have kcv := hall.2.2.2.2.2.1
              have kcl := hall.2.2.2.2.2.2.1
              clear hall
              have hL := @Later.cell w4
              simp only [flowP, flow, pickL, List.getElem?_cons_succ, List.getElem?_cons_zero]
              refine wpQuiet_nil ?_
              repeat (go_big_quiet_step (fail))
              refine wpQuiet_nil ?_
              refine only_done ?_
              clear hR1 hR0 zR kzx kzf kck kcv kcl hL
              have hall := KP7.out.here
              have hR1 := hall.2.2.2.2.2.2.2.2.2.1
              have hR0 := hall.2.2.2.2.2.2.2.2.2.2.1
              clear hall
              have zR := World.block_lt_of_cell? _ _ hR0
              simp only at zR
              go_wp2
              clear hR1 hR0 zR
              refine wp_region_flow [] [] [0, 1, 2, 3, 4, 5, 6, 7, 8] (by kernel_rfl) (by kernel_rfl) ?_
              intro w5 hB hh
              clear hh
              have KP8 := Lib.hid ((KP7.out.up (btr (bz w4) hB)).and (keepB (bz w5)))
              clear KP7
              clear hB
              have hall := KP8.out.here
              have hR1 := hall.2.2.2.2.2.2.2.2.2.2.1
              have hR0 := hall.2.2.2.2.2.2.2.2.2.2.2.1
              clear hall
              have zR := World.block_lt_of_cell? _ _ hR0
              simp only at zR
              have hall := KP8.out.here
              have kzx := hall.2.2.2.1
              have kzf := hall.2.2.2.2.1
              have kck := hall.2.2.2.2.2.1
              have kcv := hall.2.2.2.2.2.2.1
              have kcl := hall.2.2.2.2.2.2.2.1
              clear hall
              have hL := @Later.cell w5
              simp only [flowP, flow, pickL, List.getElem?_cons_succ, List.getElem?_cons_zero]
              refine wpQuiet_nil ?_
              repeat (go_big_quiet_step (fail))
              refine wpQuiet_nil ?_
              refine only_done ?_
              clear hR1 hR0 zR kzx kzf kck kcv kcl hL
              have hall := KP8.out.here
              have gB2 := hall.2.2.1
              clear hall
              go_wp2
              exact ⟨⟨j + 1, by omega, by go_num, by rw [HST.out]; congr 1; omega, gB2⟩, by simp [intOf]; omega⟩
          · have hub : (u == c0) = false := by simpa using hu
            rw [if_neg hu] at HST
            clear hu
            by_cases hv : v = c0
            · have hvb : (v == c0) = true := by simpa using hv
              rw [if_pos hv] at HST
              clear hv
              have hall := KP6.out.here
              have hR1 := hall.2.2.2.2.2.2.2.2.1
              have hR0 := hall.2.2.2.2.2.2.2.2.2.1
              clear hall
              have zR := World.block_lt_of_cell? _ _ hR0
              simp only at zR
              go_wp2
              clear hR1 hR0 zR
              refine wp_region_flow [] [] [0, 1, 2, 3, 4, 5, 6, 7, 8] (by kernel_rfl) (by kernel_rfl) ?_
              intro w4 hB hh
              clear hh
              have KP7 := Lib.hid ((KP6.out.up (btr (bz wr) hB)).and (keepB (bz w4)))
              clear KP6
              clear hB
              have hall := KP7.out.here
              have hR1 := hall.2.2.2.2.2.2.2.2.2.1
              have hR0 := hall.2.2.2.2.2.2.2.2.2.2.1
              clear hall
              have zR := World.block_lt_of_cell? _ _ hR0
              simp only at zR
              have hall := KP7.out.here
              have kzx := hall.2.2.1
              have kzf := hall.2.2.2.1
              have kck := hall.2.2.2.2.1
              have kcv := hall.2.2.2.2.2.1
              have kcl := hall.2.2.2.2.2.2.1
              clear hall
              have hL := @Later.cell w4
              simp only [flowP, flow, pickL, List.getElem?_cons_succ, List.getElem?_cons_zero]
              refine wpQuiet_nil ?_
              repeat (go_big_quiet_step (fail))
              refine wpQuiet_nil ?_
              refine only_done ?_
              clear hR1 hR0 zR kzx kzf kck kcv kcl hL
              have hall := KP7.out.here
              have hR1 := hall.2.2.2.2.2.2.2.2.2.1
              have hR0 := hall.2.2.2.2.2.2.2.2.2.2.1
              clear hall
              have zR := World.block_lt_of_cell? _ _ hR0
              simp only at zR
              go_wp2
              clear hR1 hR0 zR
              refine wp_region_flow [] [] [0, 1, 2, 3, 4, 5, 6, 7, 8] (by kernel_rfl) (by kernel_rfl) ?_
              intro w5 hB hh
              clear hh
              have KP8 := Lib.hid ((KP7.out.up (btr (bz w4) hB)).and (keepB (bz w5)))
              clear KP7
              clear hB
              have hall := KP8.out.here
              have hR1 := hall.2.2.2.2.2.2.2.2.2.2.1
              have hR0 := hall.2.2.2.2.2.2.2.2.2.2.2.1
              clear hall
              have zR := World.block_lt_of_cell? _ _ hR0
              simp only at zR
              have hall := KP8.out.here
              have kzx := hall.2.2.2.1
              have kzf := hall.2.2.2.2.1
              have kck := hall.2.2.2.2.2.1
              have kcv := hall.2.2.2.2.2.2.1
              have kcl := hall.2.2.2.2.2.2.2.1
              clear hall
              have hL := @Later.cell w5
              simp only [flowP, flow, pickL, List.getElem?_cons_succ, List.getElem?_cons_zero]
              refine wpQuiet_nil ?_
              repeat (go_big_quiet_step (fail))
              refine wpQuiet_nil ?_
              refine only_done ?_
              clear hR1 hR0 zR kzx kzf kck kcv kcl hL
              have hall := KP8.out.here
              have gB2 := hall.2.2.1
              clear hall
              go_wp2
              exact ⟨⟨j + 1, by omega, by go_num, by rw [HST.out]; congr 1; omega, gB2⟩, by simp [intOf]; omega⟩
            · have hvb : (v == c0) = false := by simpa using hv
              rw [if_neg hv] at HST
              clear hv
              have hall := KP6.out.here
              have hR1 := hall.2.2.2.2.2.2.2.2.1
              have hR0 := hall.2.2.2.2.2.2.2.2.2.1
              clear hall
              have zR := World.block_lt_of_cell? _ _ hR0
              simp only at zR
              go_wp2
              clear hR1 hR0 zR
              refine wp_region_flow [] [] [0, 1, 2, 3, 4, 5, 6, 7, 8] (by kernel_rfl) (by kernel_rfl) ?_
              intro w4 hB hh
              clear hh
              have KP7 := Lib.hid ((KP6.out.up (btr (bz wr) hB)).and (keepB (bz w4)))
              clear KP6
              clear hB
              have hall := KP7.out.here
              have hR1 := hall.2.2.2.2.2.2.2.2.2.1
              have hR0 := hall.2.2.2.2.2.2.2.2.2.2.1
              clear hall
              have zR := World.block_lt_of_cell? _ _ hR0
              simp only at zR
              have hall := KP7.out.here
              have kzx := hall.2.2.1
              have kzf := hall.2.2.2.1
              have kck := hall.2.2.2.2.1
              have kcv := hall.2.2.2.2.2.1
              have kcl := hall.2.2.2.2.2.2.1
              clear hall
              have hL := @Later.cell w4
              simp only [flowP, flow, pickL, List.getElem?_cons_succ, List.getElem?_cons_zero]
              refine wpQuiet_nil ?_
              repeat (go_big_quiet_step (fail))
              refine wpQuiet_nil ?_
              refine only_done ?_
              clear hR1 hR0 zR kzx kzf kck kcv kcl hL
              have hall := KP7.out.here
              have hR1 := hall.2.2.2.2.2.2.2.2.2.1
              have hR0 := hall.2.2.2.2.2.2.2.2.2.2.1
              clear hall
              have zR := World.block_lt_of_cell? _ _ hR0
              simp only at zR
              go_wp2
              clear hR1 hR0 zR
              refine wp_region_flow [] [] [0, 1, 2, 3, 4, 5, 6, 7, 8] (by kernel_rfl) (by kernel_rfl) ?_
              intro w5 hB hh
              clear hh
              have KP8 := Lib.hid ((KP7.out.up (btr (bz w4) hB)).and (keepB (bz w5)))
              clear KP7
              clear hB
              have hall := KP8.out.here
              have hR1 := hall.2.2.2.2.2.2.2.2.2.2.1
              have hR0 := hall.2.2.2.2.2.2.2.2.2.2.2.1
              clear hall
              have zR := World.block_lt_of_cell? _ _ hR0
              simp only at zR
              have hall := KP8.out.here
              have kzx := hall.2.2.2.1
              have kzf := hall.2.2.2.2.1
              have kck := hall.2.2.2.2.2.1
              have kcv := hall.2.2.2.2.2.2.1
              have kcl := hall.2.2.2.2.2.2.2.1
              clear hall
              have hL := @Later.cell w5
              simp only [flowP, flow, pickL, List.getElem?_cons_succ, List.getElem?_cons_zero]
              refine wpQuiet_nil ?_
              repeat (go_big_quiet_step (fail))
              refine wpQuiet_nil ?_
              refine only_done ?_
              clear hR1 hR0 zR kzx kzf kck kcv kcl hL
              have hall := KP8.out.here
              have gB2 := hall.2.2.1
              clear hall
              go_wp2
              exact ⟨⟨j + 1, by omega, by go_num, by rw [HST.out]; congr 1; omega, gB2⟩, by simp [intOf]; omega⟩
        · have hjE : j = n := by omega
          rw [hjE, HS.out.many c0]
          have hjn2 : ¬ ((j : Int) < (n : Int)) := by omega
          have hnn : ¬ ((n : Int) < (n : Int)) := by omega
          have gR0b : wr.cell? ⟨w.heap.size, 0, none⟩ = some (.int .i64 n) := (hB2.cell (p := ⟨w.heap.size, 0, none⟩) zR).trans GR0.out
          have zR3 := Nat.lt_of_lt_of_le zR hB2.size
          have HB2 := Lib.hid hB2
          clear hB2 hjE hjn gR0 zR2
          go_wp2
          exact ⟨⟨k + 1, by omega, by go_num, HB2.out⟩, by simp [intOf]; omega⟩
    · have hkE : n = k := by omega
      subst hkE
      have KP5 := Lib.hid (KP4.out.up (btr (bz w3) HB.out))
      clear KP4
      clear HB gR0 zR2
      obtain ⟨wq, rfl⟩ : ∃ wq : World, wq = wr := ⟨_, rfl⟩
      have hall := KP5.out.here
      have hR1 := hall.2.2.1
      have hR0 := hall.2.2.2.1
      clear hall
      have zR := World.block_lt_of_cell? _ _ hR0
      simp only at zR
      go_wp2
      clear hR1 hR0 zR
      have hall := KP5.out.here
      have gR0 := hall.2.2.2.1
      clear hall
      have zR := World.block_lt_of_cell? _ _ gR0
      simp only at zR
      have GR0 := Lib.hid gR0
      clear gR0
      go_loopw [15, 16, 17, 80, 81, 82, 83, 84, 85, 86, 87, 88, 89, 90, 91, 92, 93, 94, 95, 96, 97, 98, 99, 100, 101, 102, 103, 104, 105] (fun u v i _ _ _ _ _ _ _ _ _ _ _ _ _ _ _ _ _ _ _ _ _ _ _ _ _ _ wr => ∃ k : Nat, k ≤ n ∧ i = .int .i64 k ∧ Below wq.heap.size wq wr ∧ Own2N wr wq.heap.size 2 u v (repK z mo vv k) (repK z mo l k)) (fun u v i _ _ _ _ _ _ _ _ _ _ _ _ _ _ _ _ _ _ _ _ _ _ _ _ _ _ _ => n - (intOf i).toNat)
      case atStart => exact ⟨0, Nat.zero_le _, rfl, bz _, Own2N.nil _ _ _⟩
      case round =>
        obtain ⟨k, hk, rfl, hB, hO⟩ := hrel
        by_cases hkn : k < n
        · have hall := KP5.out.here
          have gX := hall.1
          have gF := hall.2.1
          clear hall
          have hkn2 : (k : Int) < (n : Int) := by omega
          have HS1 := Lib.hid (repK_succ z mo vv k (by have := HS.out.vl; omega)); have HS2 := Lib.hid (repK_succ z mo l k (by have := HS.out.ll; omega))
          have hl1 := repK_len z mo vv k (by have := HS.out.vl; omega)
          have hl2 := repK_len z mo l k (by have := HS.out.ll; omega)
          obtain ⟨hv0, hv1⟩ := HS.out.vin k hkn
          obtain ⟨hx0, hx1⟩ := HS.out.lin k hkn
          have gv := (rdI_cells2 gF HS.out.vl (by omega)).2 k hkn
          have gl := (rdI_cells2 gX HS.out.ll (by omega)).2 k hkn
          have zf := (rdI_cells2 gF HS.out.vl (by omega)).1
          have zx := (rdI_cells2 gX HS.out.ll (by omega)).1
          clear gF gX
          generalize l[k]?.getD 0 = u0 at *
          generalize vv[k]?.getD 0 = v0 at *
          obtain ⟨X1, hX1⟩ : ∃ X1, X1 = repK z mo vv k := ⟨_, rfl⟩
          obtain ⟨X2, hX2⟩ : ∃ X2, X2 = repK z mo l k := ⟨_, rfl⟩
          rw [← hX1] at HS1 hl1 hO
          rw [← hX2] at HS2 hl2 hO
          clear hX1 hX2
          have HL1 := Lib.hid hl1; have HL2 := Lib.hid hl2
          clear hl1 hl2
          have GL := Lib.hid gl; have GV := Lib.hid gv; have ZF := Lib.hid zf; have ZX := Lib.hid zx
          clear gl gv zf zx
          have KP6 := Lib.hid (((KP5.out.up (btr (bz wq) hB)).and (keepB hB)).and (keepO hO))
          clear KP5
          have HBR := Lib.hid hB
          clear hB hO
          have hall := KP6.out.here
          have hR1 := hall.2.2.2.2.1
          have hR0 := hall.2.2.2.2.2.1
          clear hall
          have zR := World.block_lt_of_cell? _ _ hR0
          simp only at zR
          go_wp2
          clear hR1 hR0 zR
          refine wp_region_flow_at wq HBR.out [] [([0, 1, 2, 3, 4, 5, 6, 10, 11, 12, 13, 14, 15, 16], 7, true), ([], 8, true), ([], 9, true), ([], 17, true), ([], 18, true), ([], 19, true), ([], 20, true), ([], 21, true)] [] (by kernel_rfl) (by kernel_rfl) ?_
          intro w4 hB hh
          clear hh
          have KP7 := Lib.hid (KP6.out.up (btr (bz wr) hB))
          clear KP6
          clear hB
          have hall := KP7.out.here
          have hR1 := hall.2.2.2.2.1
          have hR0 := hall.2.2.2.2.2.1
          clear hall
          have zR := World.block_lt_of_cell? _ _ hR0
          simp only at zR
          have kl := GL.out; have kv := GV.out; have kzf := ZF.out; have kzx := ZX.out
          have hL := @Later.cell wq
          simp only [flowP, flow, pickL, List.getElem?_cons_succ, List.getElem?_cons_zero]
          refine wpQuiet_nil ?_
          repeat (go_big_quiet_step (fail))
          refine wpQuiet_nil ?_
          have hall := KP7.out.here
          have gO2 := hall.1
          have gB2 := hall.2.1
          clear hall
          have HO2 := Lib.hid gO2; have HB2 := Lib.hid gB2
          clear gO2 gB2
          go_wp2_with fail
          refine (replaced_any _ _ _ _ hv0 hv1 hz0 hz1 hm0 hm1).mono ?_
          rintro e w' ⟨rfl, rfl⟩
          go_wp2
          refine seg_grow ⟨⟨_, HB2.out⟩, rfl⟩ ?_
          repeat (go_big_quiet_step (fail))
          refine wpQuiet_nil ?_
          go_wp2
          refine seg_grow ⟨⟨_, (bal HB2.out _)⟩, rfl⟩ ?_
          repeat (go_big_quiet_step (fail))
          refine wpQuiet_nil ?_
          go_wp2_with (at_builtin; refine Own2N.push rfl _ _ rfl Try.underlying25 num2 HO2.out _ rfl rfl (by have := HL1.out; omega) HB2.out.size ?_)
          intro u9 w9 hO9 hG9
          have HO9 := Lib.hid hO9; have HB9 := Lib.hid (hG9 _ HB2.out (Nat.le_refl _))
          clear hO9 hG9
          go_wp2
          refine seg_grow ⟨⟨_, HB9.out⟩, rfl⟩ ?_
          repeat (go_big_quiet_step (fail))
          refine wpQuiet_nil ?_
          go_wp2_with fail
          refine (replaced_any _ _ _ _ hx0 hx1 hz0 hz1 hm0 hm1).mono ?_
          rintro e w' ⟨rfl, rfl⟩
          go_wp2
          refine seg_grow ⟨⟨_, HB9.out⟩, rfl⟩ ?_
          repeat (go_big_quiet_step (fail))
          refine wpQuiet_nil ?_
          go_wp2
          refine seg_grow ⟨⟨_, (bal HB9.out _)⟩, rfl⟩ ?_
          repeat (go_big_quiet_step (fail))
          refine wpQuiet_nil ?_
          go_wp2_with (at_builtin; refine Own2N.push rfl _ _ rfl Try.underlying25 num2 HO9.out.swap _ rfl rfl (by have := HL2.out; omega) HB9.out.size ?_)
          intro u8 w8 hO8 hG8
          have HO8 := Lib.hid hO8; have HB8 := Lib.hid (hG8 _ HB9.out (Nat.le_refl _))
          clear hO8 hG8
          go_wp2
          refine seg_grow ⟨⟨_, HB8.out⟩, rfl⟩ ?_
          repeat (go_big_quiet_step (fail))
          refine wpQuiet_nil ?_
          go_wp2
          refine seg_grow ⟨⟨_, HB8.out⟩, rfl⟩ ?_
          repeat (go_big_quiet_step (fail))
          refine wpQuiet_nil ?_
          go_wp2
          refine seg_grow ⟨⟨_, HB8.out⟩, rfl⟩ ?_
          repeat (go_big_quiet_step (fail))
          refine wpQuiet_nil ?_
          refine only_done ?_
          clear hR1 hR0 zR kl kv kzf kzx hL
          go_wp2
          exact ⟨⟨k + 1, by omega, by go_num, HB8.out, by rw [HS1.out, HS2.out]; exact HO8.out.swap⟩, by simp [intOf]; omega⟩
        · have hkE : n = k := by omega
          subst hkE
          have hxx := RdI.of_owns (n := _) hO.a
          have hww := RdI.of_owns (n := _) hO.b
          obtain ⟨au, cu, hv⟩ := hxx.ex n (repK_len z mo vv n (by have := HS.out.vl; omega))
          subst hv
          obtain ⟨av, cv, hv⟩ := hww.ex n (repK_len z mo l n (by have := HS.out.ll; omega))
          subst hv
          have KP6 := Lib.hid (((KP5.out.up (btr (bz wq) hB)).and (keepI hxx)).and (keepI hww))
          clear KP5
          clear hB hO hxx hww
          obtain ⟨wp, rfl⟩ : ∃ wp : World, wp = wr := ⟨_, rfl⟩
          have hall := KP6.out.here
          have hR1 := hall.2.2.2.2.1
          have hR0 := hall.2.2.2.2.2.1
          clear hall
          have zR := World.block_lt_of_cell? _ _ hR0
          simp only at zR
          go_wp2_with fail
          clear hR1 hR0 zR
          have hall := KP6.out.here
          have gxx := hall.2.1
          have gr := hall.2.2.2.2.2.2.2.1
          clear hall
          refine (HS.out.runx _ _ _ gr gxx).mono ?_
          rintro e w4 ⟨v, rfl, hRY, hB⟩
          obtain ⟨aY, cY, hv⟩ := hRY.ex n (repK_len z mo l n (by have := HS.out.ll; omega))
          subst hv
          have KP7 := Lib.hid ((KP6.out.up (btr (bz wp) hB)).and (keepI hRY))
          clear KP6
          clear hRY hB
          clear gxx gr
          have hall := KP7.out.here
          have hR1 := hall.2.2.2.2.2.1
          have hR0 := hall.2.2.2.2.2.2.1
          clear hall
          have zR := World.block_lt_of_cell? _ _ hR0
          simp only at zR
          go_wp2_with fail
          clear hR1 hR0 zR
          have hall := KP7.out.here
          have gY := hall.1
          have gww := hall.2.1
          clear hall
          refine (longs_eq _ _ (repK z mo l n) _ gY gww (by rw [repK_len z mo l n (by have := HS.out.ll; omega)]; omega)).mono ?_
          rintro e w5 ⟨rfl, hB⟩
          have KP8 := Lib.hid (KP7.out.up (btr (bz w4) hB))
          clear KP7
          clear hB
          clear gY gww
          have hall := KP8.out.here
          have hR1 := hall.2.2.2.2.2.1
          have hR0 := hall.2.2.2.2.2.2.1
          clear hall
          have zR := World.block_lt_of_cell? _ _ hR0
          simp only at zR
          go_wp2_with fail
          clear hR1 hR0 zR
          refine (longs_id _ _).mono ?_
          rintro e w' ⟨rfl, rfl⟩
          have hall := KP8.out.here
          have gF := hall.2.2.2.2.1
          clear hall
          have hcf := rdI_cells2 gF HS.out.vl (by omega)
          clear gF
          have hall := KP8.out.here
          have hR1 := hall.2.2.2.2.2.1
          have hR0 := hall.2.2.2.2.2.2.1
          clear hall
          have zR := World.block_lt_of_cell? _ _ hR0
          simp only at zR
          go_wp2_with (at_builtin; refine wpList_append_row (xs := []) (ys := vv) rfl _ _ rfl Try.underlying25 num2 (World.ownsRow_nil _ w5.heap.size _ _) rfl HS.out.vl rfl hcf.2 (by simp) (by have := HS.out.vl; omega) (Nat.le_refl _) ?_)
          intro v9 w9 hown' hgrow
          have hB9 := bgr (bz _) hgrow (fun k h => by cases h)
          have hown2 : w9.ownsRow w5.heap.size 2 1 v9 vv.length (vv.map (Value.int .i64)) := hown'
          rw [HS.out.vl] at hown2
          obtain ⟨asl, cs, hv0⟩ := owns_form hown2
          subst hv0
          obtain ⟨g, hg0⟩ := owns_some hown2 (by omega)
          subst hg0
          clear hR1 hR0 zR
          have HOS := Lib.hid hown2; have HB9 := Lib.hid hB9
          have HVL := Lib.hid HS.out.vl
          clear hown' hown2 hgrow hcf hB9
          go_wp2
          go_loopw [20, 21, 123, 124, 125, 126, 127, 128, 129, 130, 131, 132, 133, 134, 135, 136, 137, 138, 139, 140, 141, 142, 143, 144, 145, 146, 147, 148, 149, 150, 151, 152, 153, 154, 155, 156, 157, 158, 159, 160, 161] (fun i _ _ _ _ _ _ _ _ _ _ _ _ _ _ _ _ _ _ _ _ _ _ _ _ _ _ _ _ _ _ _ _ _ _ _ _ _ _ _ _ wr => ∃ (k : Nat) (S : List Int), 1 ≤ k ∧ k ≤ n ∧ i = .int .i64 k ∧ S.length = n ∧ UpTo S k ∧ Below w5.heap.size w5 wr ∧ wr.ownsRow w5.heap.size 2 1 (.slice (some ⟨g, 0, none⟩) n cs) n (S.map (Value.int .i64))) (fun i _ _ _ _ _ _ _ _ _ _ _ _ _ _ _ _ _ _ _ _ _ _ _ _ _ _ _ _ _ _ _ _ _ _ _ _ _ _ _ _ _ => n - (intOf i).toNat)
          case atStart => exact ⟨1, vv, Nat.le_refl _, h1, rfl, HVL.out, UpTo.one vv, HB9.out, HOS.out⟩
          case round =>
            obtain ⟨k, S, hk1, hk, rfl, hSl, hU, hB, hO⟩ := hrel
            have HSL := Lib.hid hSl; have HU := Lib.hid hU; have HB := Lib.hid hB; have HO5 := Lib.hid hO
            clear hSl hU hB hO HOS HB9
            by_cases hkn : k < n
            · have hkn2 : (k : Int) < (n : Int) := by omega
              obtain ⟨wo, rfl⟩ : ∃ wo : World, wo = wr := ⟨_, rfl⟩
              go_wp2
              go_loopw [21, 130, 131, 132, 133, 134, 135, 136, 137, 138, 139, 140, 141, 142, 143, 144, 145, 146, 147, 148, 149, 150, 151, 152, 153, 154, 155, 156, 157, 158, 159, 160, 161] (fun j _ _ _ _ _ _ _ _ _ _ _ _ _ _ _ _ _ _ _ _ _ _ _ _ _ _ _ _ _ _ _ _ wr => ∃ (t : Nat) (S : List Int), t ≤ k ∧ j = .int .i64 t ∧ S.length = n ∧ Hole S (k + 1) t ∧ Below w5.heap.size w5 wr ∧ wr.ownsRow w5.heap.size 2 1 (.slice (some ⟨g, 0, none⟩) n cs) n (S.map (Value.int .i64))) (fun j _ _ _ _ _ _ _ _ _ _ _ _ _ _ _ _ _ _ _ _ _ _ _ _ _ _ _ _ _ _ _ _ _ => (intOf j).toNat)
              case atStart => exact ⟨k, S, Nat.le_refl _, rfl, HSL.out, Hole.start HU.out, HB.out, HO5.out⟩
              case round =>
                clear HSL HU HB HO5
                obtain ⟨j, S, hj, rfl, hSl, hH, hB, hO⟩ := hrel
                have HSL := Lib.hid hSl; have HH := Lib.hid hH
                clear hSl hH
                by_cases hj0 : 0 < j
                · obtain ⟨j0, hj1⟩ : ∃ j0, j = j0 + 1 := ⟨j - 1, by omega⟩
                  have hjp : (0 : Int) < (j : Int) := by omega
                  have hjm : (j : Int) - 1 = (j0 : Int) := by omega
                  have hjn : (j : Int) < (n : Int) := by omega
                  have hjn0 : (j0 : Int) < (n : Int) := by omega
                  have d3 : decide ((0 : Int) < (j : Int)) = true := decide_eq_true hjp
                  have d3n : decide (0 < j) = true := decide_eq_true hj0
                  have gj := owns_num hO HSL.out j (by omega)
                  have gi := owns_num hO HSL.out j0 (by omega)
                  have zg := (hO.lt g rfl).2
                  have HJ1 := Lib.hid hj1
                  have HSTEP : Hid (S[j]?.getD 0 < S[j0]?.getD 0 → Hole ((S.set j (S[j0]?.getD 0)).set j0 (S[j]?.getD 0)) (k + 1) j0) := Lib.hid (fun hlt => by have h := HH.out; subst hj1; exact Hole.step h (by omega) (by have := HSL.out; omega) hlt)
                  have HD : Hid (S[j0]?.getD 0 ≤ S[j]?.getD 0 → UpTo S (k + 1)) := Lib.hid (fun hle => by have h := HH.out; subst hj1; exact h.done (.inr (by simpa using hle)))
                  have HGG := Lib.hid (hO.lt g rfl).1
                  clear hj1
                  generalize hxj : S[j]?.getD 0 = xj at *
                  generalize hxi : S[j0]?.getD 0 = xi at *
                  clear hxj hxi
                  have KP9 := Lib.hid ((((((KP8.out.up (btr (bz w5) hB)).and (keepB hB)).and (keepW hO)).and (keepC gj)).and (keepC gi)).and (keepZ zg))
                  clear KP8
                  clear hB hO gj gi zg
                  by_cases hlt : xj < xi
                  · have d4 : decide (xj < xi) = true := decide_eq_true hlt
                    have hall := KP9.out.here
                    have hR1 := hall.2.2.2.2.2.2.2.2.2.2.1
                    have hR0 := hall.2.2.2.2.2.2.2.2.2.2.2.1
                    clear hall
                    have zR := World.block_lt_of_cell? _ _ hR0
                    simp only at zR
                    go_wp2
                    clear hR1 hR0 zR
                    refine wp_region_flow [] [] [0, 1, 2, 3, 4, 5, 6, 7, 8, 9, 10, 11, 12, 13] (by kernel_rfl) (by kernel_rfl) ?_
                    intro w6 hB hh
                    clear hh
                    have KP10 := Lib.hid ((KP9.out.up (btr (bz wr) hB)).and (keepB (bz w6)))
                    clear KP9
                    clear hB
                    have hall := KP10.out.here
                    have hR1 := hall.2.2.2.2.2.2.2.2.2.2.2.1
                    have hR0 := hall.2.2.2.2.2.2.2.2.2.2.2.2.1
                    clear hall
                    have zR := World.block_lt_of_cell? _ _ hR0
                    simp only at zR
                    have hall := KP10.out.here
                    have kzg := hall.2.1
                    have kci := hall.2.2.1
                    have kcj := hall.2.2.2.1
                    clear hall
                    have hL := @Later.cell w6
                    simp only [flowP, flow, pickL, List.getElem?_cons_succ, List.getElem?_cons_zero]
                    refine wpQuiet_nil ?_
                    repeat (go_big_quiet_step (fail))
                    refine wpQuiet_nil ?_
                    refine only_done ?_
                    clear hR1 hR0 zR kzg kci kcj hL
                    have hall := KP10.out.here
                    have hR1 := hall.2.2.2.2.2.2.2.2.2.2.2.1
                    have hR0 := hall.2.2.2.2.2.2.2.2.2.2.2.2.1
                    clear hall
                    have zR := World.block_lt_of_cell? _ _ hR0
                    simp only at zR
                    go_wp2
                    clear hR1 hR0 zR
                    refine wp_region_pure [0, 1, 2, 3, 4, 5, 6, 7, 8, 10, 11, 12, 14, 16] (by kernel_rfl) (by kernel_rfl) ?_
                    intro w7 hB hh
                    clear hh
                    have KP11 := Lib.hid (KP10.out.up (btr (bz w6) hB))
                    clear KP10
                    clear hB
                    refine U_heads [0, 1, 2, 3, 4, 5, 6, 7, 8, 10, 11, 12] (by kernel_rfl) (anyW _) ?_
                    simp only [pickL, List.getElem?_cons_succ, List.getElem?_cons_zero]
                    repeat (go_big_quiet_step (rfl))
                    refine wpQuiet_nil ?_
                    have hall := KP11.out.here
                    have kzg := hall.2.1
                    have kci := hall.2.2.1
                    have kcj := hall.2.2.2.1
                    clear hall
                    refine U_two 9 13 (by kernel_rfl) ?_ ?_
                    · simp only [pickL, List.getElem?_cons_succ, List.getElem?_cons_zero]
                      go_wp2
                      refine seg_grow (anyW _) ?_
                      refine U_one 13 (by kernel_rfl) ?_
                      simp only [pickL, List.getElem?_cons_succ, List.getElem?_cons_zero]
                      go_wp2
                      refine seg_grow (anyW _) ?_
                      refine U_heads [14] (by kernel_rfl) (anyW _) ?_
                      simp only [pickL, List.getElem?_cons_succ, List.getElem?_cons_zero]
                      repeat (go_big_quiet_step (rfl))
                      refine wpQuiet_nil ?_
                      have hall := KP11.out.here
                      have gOS := hall.2.2.2.2.1
                      have gB2 := hall.2.2.2.2.2.1
                      clear hall
                      have HO6 := Lib.hid gOS; have HB6 := Lib.hid gB2
                      have cf := gOS.frozenAt j
                      clear gOS gB2 kci
                      refine U_one 15 (by kernel_rfl) ?_
                      simp only [pickL, List.getElem?_cons_succ, List.getElem?_cons_zero]
                      go_wp2
                      refine seg_grow (anyW _) ?_
                      have HO7 := Lib.hid (owns_put HO6.out j xi)
                      have HB7 := Lib.hid (bset HB6.out (p := ⟨g, j, none⟩) HGG.out (.int .i64 xi))
                      have ki := owns_num HO7.out (by rw [List.length_set]; exact HSL.out) j0 (by omega)
                      have cf2 := HO7.out.frozenAt j0
                      have zg7 := (HO7.out.lt g rfl).2
                      clear HO6 HB6 cf kcj kzg
                      refine U_heads [16] (by kernel_rfl) (anyW _) ?_
                      simp only [pickL, List.getElem?_cons_succ, List.getElem?_cons_zero]
                      repeat (go_big_quiet_step (rfl))
                      refine wpQuiet_nil ?_
                      refine U_one 17 (by kernel_rfl) ?_
                      simp only [pickL, List.getElem?_cons_succ, List.getElem?_cons_zero]
                      go_wp2
                      refine seg_grow (anyW _) ?_
                      refine U_done (by kernel_rfl) ?_
                      have HO8 := Lib.hid (owns_put HO7.out j0 xj)
                      have HB8 := Lib.hid (bset HB7.out (p := ⟨g, j0, none⟩) HGG.out (.int .i64 xj))
                      clear ki cf2 zg7
                      go_wp2
                      exact ⟨⟨j0, (S.set j xi).set j0 xj, by omega, by first | rfl | (congr 1; omega), by rw [List.length_set, List.length_set]; exact HSL.out, HSTEP.out hlt, HB8.out, HO8.out⟩, by simp [intOf]; omega⟩
                    · simp only [pickL, List.getElem?_cons_succ, List.getElem?_cons_zero]
                      go_wp2
                      refine seg_grow (anyW _) ?_
                      refine U_one 9 (by kernel_rfl) ?_
                      simp only [pickL, List.getElem?_cons_succ, List.getElem?_cons_zero]
                      go_wp2
                      refine seg_grow (anyW _) ?_
                      refine U_heads [14] (by kernel_rfl) (anyW _) ?_
                      simp only [pickL, List.getElem?_cons_succ, List.getElem?_cons_zero]
                      repeat (go_big_quiet_step (rfl))
                      refine wpQuiet_nil ?_
                      have hall := KP11.out.here
                      have gOS := hall.2.2.2.2.1
                      have gB2 := hall.2.2.2.2.2.1
                      clear hall
                      have HO6 := Lib.hid gOS; have HB6 := Lib.hid gB2
                      have cf := gOS.frozenAt j
                      clear gOS gB2 kci
                      refine U_one 15 (by kernel_rfl) ?_
                      simp only [pickL, List.getElem?_cons_succ, List.getElem?_cons_zero]
                      go_wp2
                      refine seg_grow (anyW _) ?_
                      have HO7 := Lib.hid (owns_put HO6.out j xi)
                      have HB7 := Lib.hid (bset HB6.out (p := ⟨g, j, none⟩) HGG.out (.int .i64 xi))
                      have ki := owns_num HO7.out (by rw [List.length_set]; exact HSL.out) j0 (by omega)
                      have cf2 := HO7.out.frozenAt j0
                      have zg7 := (HO7.out.lt g rfl).2
                      clear HO6 HB6 cf kcj kzg
                      refine U_heads [16] (by kernel_rfl) (anyW _) ?_
                      simp only [pickL, List.getElem?_cons_succ, List.getElem?_cons_zero]
                      repeat (go_big_quiet_step (rfl))
                      refine wpQuiet_nil ?_
                      refine U_one 17 (by kernel_rfl) ?_
                      simp only [pickL, List.getElem?_cons_succ, List.getElem?_cons_zero]
                      go_wp2
                      refine seg_grow (anyW _) ?_
                      refine U_done (by kernel_rfl) ?_
                      have HO8 := Lib.hid (owns_put HO7.out j0 xj)
                      have HB8 := Lib.hid (bset HB7.out (p := ⟨g, j0, none⟩) HGG.out (.int .i64 xj))
                      clear ki cf2 zg7
                      go_wp2
                      exact ⟨⟨j0, (S.set j xi).set j0 xj, by omega, by first | rfl | (congr 1; omega), by rw [List.length_set, List.length_set]; exact HSL.out, HSTEP.out hlt, HB8.out, HO8.out⟩, by simp [intOf]; omega⟩
                  · have d4 : decide (xj < xi) = false := decide_eq_false hlt
                    have HLE : Hid (xi ≤ xj) := Lib.hid (by omega)
                    have hall := KP9.out.here
                    have hR1 := hall.2.2.2.2.2.2.2.2.2.2.1
                    have hR0 := hall.2.2.2.2.2.2.2.2.2.2.2.1
                    clear hall
                    have zR := World.block_lt_of_cell? _ _ hR0
                    simp only at zR
                    go_wp2
                    clear hR1 hR0 zR
                    refine wp_region_flow [] [] [0, 1, 2, 3, 4, 5, 6, 7, 8, 9, 10, 11, 12, 13] (by kernel_rfl) (by kernel_rfl) ?_
                    intro w6 hB hh
                    clear hh
                    have KP10 := Lib.hid ((KP9.out.up (btr (bz wr) hB)).and (keepB (bz w6)))
                    clear KP9
                    clear hB
                    have hall := KP10.out.here
                    have hR1 := hall.2.2.2.2.2.2.2.2.2.2.2.1
                    have hR0 := hall.2.2.2.2.2.2.2.2.2.2.2.2.1
                    clear hall
                    have zR := World.block_lt_of_cell? _ _ hR0
                    simp only at zR
                    have hall := KP10.out.here
                    have kzg := hall.2.1
                    have kci := hall.2.2.1
                    have kcj := hall.2.2.2.1
                    clear hall
                    have hL := @Later.cell w6
                    simp only [flowP, flow, pickL, List.getElem?_cons_succ, List.getElem?_cons_zero]
                    refine wpQuiet_nil ?_
                    repeat (go_big_quiet_step (fail))
                    refine wpQuiet_nil ?_
                    refine only_done ?_
                    clear hR1 hR0 zR kzg kci kcj hL
                    have hall := KP10.out.here
                    have gOS := hall.2.2.2.2.1
                    have gB2 := hall.2.2.2.2.2.1
                    clear hall
                    go_wp2
                    exact ⟨⟨k + 1, S, by omega, by omega, by go_num, HSL.out, HD.out HLE.out, gB2, gOS⟩, by simp [intOf]; omega⟩
                · have hjp : ¬ ((0 : Int) < (j : Int)) := by omega
                  have d3 : decide ((0 : Int) < (j : Int)) = false := decide_eq_false hjp
                  have d3n : decide (0 < j) = false := decide_eq_false (by omega)
                  have KP9 := Lib.hid (((KP8.out.up (btr (bz w5) hB)).and (keepB hB)).and (keepW hO))
                  clear KP8
                  clear hB hO
                  have hall := KP9.out.here
                  have hR1 := hall.2.2.2.2.2.2.2.1
                  have hR0 := hall.2.2.2.2.2.2.2.2.1
                  clear hall
                  have zR := World.block_lt_of_cell? _ _ hR0
                  simp only at zR
                  go_wp2
                  clear hR1 hR0 zR
                  refine wp_region_flow [] [] [0, 1, 2, 3, 4, 5, 6, 7, 8, 9, 10, 11, 12, 13] (by kernel_rfl) (by kernel_rfl) ?_
                  intro w6 hB hh
                  clear hh
                  have KP10 := Lib.hid ((KP9.out.up (btr (bz wr) hB)).and (keepB (bz w6)))
                  clear KP9
                  clear hB
                  have hall := KP10.out.here
                  have hR1 := hall.2.2.2.2.2.2.2.2.1
                  have hR0 := hall.2.2.2.2.2.2.2.2.2.1
                  clear hall
                  have zR := World.block_lt_of_cell? _ _ hR0
                  simp only at zR
                  have hL := @Later.cell w6
                  simp only [flowP, flow, pickL, List.getElem?_cons_succ, List.getElem?_cons_zero]
                  refine wpQuiet_nil ?_
                  repeat (go_big_quiet_step (fail))
                  refine wpQuiet_nil ?_
                  refine only_done ?_
                  clear hR1 hR0 zR hL
                  have hall := KP10.out.here
                  have gOS := hall.2.1
                  have gB2 := hall.2.2.1
                  clear hall
                  go_wp2
                  exact ⟨⟨k + 1, S, by omega, by omega, by go_num, HSL.out, HH.out.done (.inl (by omega)), gB2, gOS⟩, by simp [intOf]; omega⟩
            · have hkE : n = k := by omega
              subst hkE
              have hS := RdI.of_owns (n := _) (by have := HO5.out; rw [← HSL.out] at this; exact this)
              rw [HSL.out] at hS
              have KP9 := Lib.hid ((KP8.out.up (btr (bz w5) HB.out)).and (keepI hS))
              clear KP8
              clear hS
              have hall := KP9.out.here
              have hR1 := hall.2.2.2.2.2.2.1
              have hR0 := hall.2.2.2.2.2.2.2.1
              clear hall
              have zR := World.block_lt_of_cell? _ _ hR0
              simp only at zR
              go_wp2_with fail
              clear hR1 hR0 zR
              have hall := KP9.out.here
              have gS := hall.1
              have gr := hall.2.2.2.2.2.2.2.2.2.1
              clear hall
              refine (HS.out.runs S _ _ _ HSL.out HU.out gr gS).mono ?_
              rintro e w6 ⟨v, rfl, hRZ, hB⟩
              obtain ⟨aZ, cZ, hv⟩ := hRZ.ex n HSL.out
              subst hv
              have KP10 := Lib.hid ((KP9.out.up (btr (bz wr) hB)).and (keepI hRZ))
              clear KP9
              clear hRZ hB
              clear gS gr
              have hall := KP10.out.here
              have hR1 := hall.2.2.2.2.2.2.2.1
              have hR0 := hall.2.2.2.2.2.2.2.2.1
              clear hall
              have zR := World.block_lt_of_cell? _ _ hR0
              simp only at zR
              go_wp2_with fail
              clear hR1 hR0 zR
              have hall := KP10.out.here
              have gZ := hall.1
              have gS := hall.2.1
              clear hall
              refine (longs_eq _ _ S _ gZ gS (by have := HSL.out; omega)).mono ?_
              rintro e w7 ⟨rfl, hB⟩
              have KP11 := Lib.hid (KP10.out.up (btr (bz w6) hB))
              clear KP10
              clear hB
              clear gZ gS
              have hall := KP11.out.here
              have hR1 := hall.2.2.2.2.2.2.2.1
              have hR0 := hall.2.2.2.2.2.2.2.2.1
              clear hall
              have zR := World.block_lt_of_cell? _ _ hR0
              simp only at zR
              go_wp2_with fail
              clear hR1 hR0 zR
              refine (works_any _).mono ?_
              rintro e w8 ⟨rfl, hB⟩
              have KP12 := Lib.hid (KP11.out.up (btr (bz w7) hB))
              clear KP11
              clear hB
              have hall := KP12.out.here
              have gBelow := hall.2.2.2.2.2.2.2.2.2.2.2
              clear hall
              go_wp2
              go_ret
              exact ⟨rfl, gBelow⟩
section
open Go.ChangeShapes Go.WideShapes Go.ChangeAt
set_option maxRecDepth 100000 in
theorem valveKept_lifted (os : Os) (started : os.Started) (H : Type) (enc : TypeId × Value → H) :
    ReturnsInHanded {} Try.checked os 8 .any (Rows.valveKeptSpec.pre6 enc Try.prog Try.f8 Rows.valveKeptRow.domain false) (Rows.valveKeptSpec.post enc Try.prog Try.f8 false true false false) := by
  refine returnsInHanded_of_change (C := Try.checked) Try.own started (by kernel_rfl) Try.func8
    (ChangeSpec.witness6 (enc := enc) (C := Try.checked) false ⟨#[], #[.agg #[.int .i64 0, .slice none 0 0], .slice none 0 0, .int .u8 0, .int .i16 0], []⟩ 8 (by kernel_rfl) (by kernel_rfl) (by kernel_rfl) (by kernel_rfl)) ?_
  intro W base args ds gs before hval0 hW _ _
  have hval : ∀ (j : Nat) t v, Try.f8.params[j]? = some t → args[j]? = some v → Value.okWide Try.prog W .any base t v := hval0
  have hW' := hW
  obtain ⟨p, q, hA0, hV, rfl, hfz, hnd⟩ := hW
  have hA : DataW.TrodAll enc Try.prog W 0 (fun _ => true) true Try.f8.params.toList args.toList ds p := hA0
  have hA2 := hA
  have hlt : ∀ x ∈ p, x.block < W.heap.size := fun x hx => hW'.lt x (List.mem_append_left _ hx)
  rw [Try.params8] at hA hval
  obtain ⟨v0, vs0, d0, ds0, p0, q0, hargs, rfl, rfl, h0, r0⟩ := trodAll_cons hA
  obtain ⟨v1, vs1, d1, ds1, p1, q1, rfl, rfl, rfl, h1, r1⟩ := trodAll_cons r0
  obtain ⟨v2, vs2, d2, ds2, p2, q2, rfl, rfl, rfl, h2, r2⟩ := trodAll_cons r1
  obtain ⟨v3, vs3, d3, ds3, p3, q3, rfl, rfl, rfl, h3, r3⟩ := trodAll_cons r2
  obtain ⟨rfl, rfl, rfl⟩ := trodAll_nil r3
  obtain rfl : args = #[v0, v1, v2, v3] := by cases args; simp_all
  obtain ⟨rfl, rfl⟩ := trodVars_none hV
  obtain ⟨a0, x0, V0, rfl, hx0⟩ := open_row (hval 0 24 v0 rfl rfl) h0 (fun x hx => hlt x (by simp [hx]))
  obtain ⟨X1, hx1, hw1⟩ := open_ints_rd Try.underlying49 Try.underlying55 (by kernel_rfl) (hval 1 49 v1 rfl rfl) h1 (fun x hx => hlt x (by simp [hx]))
  obtain ⟨a2, rfl, rfl, rfl, w2⟩ := open_int Try.underlying5 (hval 2 5 v2 rfl rfl) h2
  obtain ⟨a3, rfl, rfl, rfl, w3⟩ := open_int Try.underlying55 (hval 3 55 v3 rfl rfl) h3
  clear hA0 hval0
  simp only [List.append_nil] at hW' hA2
  refine (kept_walk a0 x0 v1 V0 X1 W hx0 hx1 (fun v hv => wf16 (hw1 v hv)) a2 (wf8 w2).1 (wf8 w2).2 a3 (wf16 w3).1 (wf16 w3).2).mono fun e W' ⟨he, hb⟩ => ?_
  subst he
  exact ⟨_, rfl, law_post Try.laidOut Try.underlying4 hW' hA2 rfl rfl rfl rfl rfl (by kernel_rfl) hb⟩
theorem valveKept_holds : Rows.ValveKeptSaid :=
  OpenClaim.holds_of_wide 8 Try.f8 rfl rfl rfl rfl rfl rfl rfl ⟨rfl, rfl, rfl, rfl, rfl⟩ rfl rfl rfl rfl rfl (by kernel_rfl) Try.func8 (by kernel_rfl)
    (of_decide_eq_true (by kernel_rfl)) (by unfold Func.isWrapper; first | (rw [if_pos (by decide +kernel)]; kernel_rfl) | (rw [if_neg (by decide +kernel)]; exact ⟨rfl, rfl⟩))
    (fun os started H enc _ => valveKept_lifted os started H enc)
end
end Go.Proofs.Ytdnaipiiponhpaa
