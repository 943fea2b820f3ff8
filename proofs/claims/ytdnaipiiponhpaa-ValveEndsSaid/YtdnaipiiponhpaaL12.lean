/- ValveEnds holds; no condition. -/
import Derived.Test.YtdnaipiiponhpaaH2
import Derived.Test.YtdnaipiiponhpaaP12
namespace Go.Proofs.Ytdnaipiiponhpaa
open Go.RowKit Go.Shelf

theorem rdI_cells {w : World} {k : IntKind} {a : Option Addr} {n c : Nat} {xs : List Int} (h : RdI w k (.slice a n c) xs) (hl : xs.length = n) : 0 < n → ∃ b off, a = some ⟨b, off, none⟩ ∧ b < w.heap.size ∧ ∀ j, j < n → w.cell? ⟨b, off + j, none⟩ = some (.int k (xs[j]?.getD 0)) := by
  subst hl
  obtain ⟨a', c', he, _, _, hx⟩ := h.form
  simp only [Value.slice.injEq, true_and] at he
  obtain ⟨rfl, rfl⟩ := he
  exact hx
structure EndS (n : Nat) (V : List (Int × Int)) (vv l E : List Int) (c : Int) (pl : Nat) (c1 : Int) : Prop where
  vl : vv.length = n
  ll : l.length = n
  run : ∀ (x y : Value) (w : World), RdP w x V → RdI w .i64 y vv → Calls Try.prog 48 #[.agg #[.int .i64 n, x], y] w fun e w' => ∃ u, e = .returned (.tuple #[u, .bool true]) ∧ RdI w' .i64 u l ∧ Below w.heap.size w w'
  ends : ∀ (x : Value) (w : World), RdP w x V → Calls Try.prog 39 #[.agg #[.int .i64 n, x], .int .i64 pl] w fun e w' => ∃ v, e = .returned (.tuple #[v, .int .i64 0]) ∧ RdI w' .i64 v E ∧ Below w.heap.size w w'
  e1 : 1 ≤ E.length
  e2 : E.length ≤ n
  ein : ∀ i, i < E.length → ∃ e : Nat, e < n ∧ E[i]?.getD 0 = e
  eup : ∀ i, i + 1 < E.length → E[i]?.getD 0 < E[i + 1]?.getD 0
  all : inE l E c E.length = true
  hc : vv[pl]?.getD 0 = c
  so : (if (patOf n V).isSome then (23 : Int) else 0) = c1
  full : c1 = 23 ∨ (c1 = 0 ∧ E.length = n)
theorem endS (n : Nat) (V : List (Int × Int)) (o : List Int) (pl : Nat) (h : checkR n V = 0) (hpl : pl < n) : ∃ l E c c1, EndS n V (ordV o n) l E c pl c1 := by
  obtain ⟨h8, h1, h40, hok⟩ := okn h
  have hv := ordV_len o n
  refine ⟨runV V (ordV o n), rendsK n V pl n, _, if (patOf n V).isSome then (23 : Int) else 0, ⟨hv, by rw [runV_length]; exact hv, fun x y w hx hy => ran_ok n x y V _ w hx hy (okRow_of h) hv, fun x w hx => ends_k n pl x V w hx h hpl,
    rendsK_ge1 hok hv (ordV_nodup o n) hpl, rendsK_le n V pl n, fun i hi => ?_, fun i hi => rendsK_up i hi, inE_all hok hv (ordV_nodup o n) hpl, rfl, rfl, ?_⟩⟩
  · obtain ⟨h1, h2⟩ := rendsK_in i hi
    exact ⟨((rendsK n V pl n)[i]?.getD 0).toNat, by omega, by omega⟩
  · cases hp : patOf n V with
    | some t => left; rfl
    | none => right; exact ⟨rfl, rendsK_full hok hp hpl⟩

set_option maxRecDepth 100000 in
set_option maxHeartbeats 60000000 in
theorem ends_walk (p : Int) (x y : Value) (V : List (Int × Int)) (q : List Int) (w : World) (hx : RdP w x V) (hy : RdI w .u8 y q) (hw : ∀ v ∈ q, 0 ≤ v ∧ v ≤ 255) (z : Int) (hz0 : 0 ≤ z) (hz1 : z ≤ 255) :
    Calls Try.prog 14 #[.agg #[.int .i64 p, x], y, .int .u8 z] w fun e w' => e = .returned (.bool true) ∧ Below w.heap.size w w' := by
  obtain ⟨a, c, rfl⟩ := hx.ex _ rfl
  obtain ⟨b, d, rfl⟩ := hy.ex _ rfl
  have HW := Lib.hid hw; clear hw
  by_cases hF : checkR p V ≠ 0
  ·
    have KP0 := Lib.hid (((keepB (bz w)).and (keepP hx)).and (keepI hy))
    clear hx hy
    go_enter Try.func14, Try.ntmps14
    go_wp2_with fail
    have KP1 := Lib.hid (((KP0.out.up (bal (bz w) _)).and (keepC (w := (w.alloc (.cells #[.int .i64 p, .slice a V.length c] 24))) (p := ⟨w.heap.size, 0, none⟩) (v := .int .i64 p) (cnew (by simp) rfl))).and (keepC (w := (w.alloc (.cells #[.int .i64 p, .slice a V.length c] 24))) (p := ⟨w.heap.size, 1, none⟩) (v := .slice a V.length c) (cnew (by simp) rfl)))
    clear KP0
    have hall := KP1.out.here
    have gr := hall.2.2.2.1
    clear hall
    refine (fine_no p _ V _ gr hF).mono ?_
    rintro e w1 ⟨rfl, hB⟩
    have KP2 := Lib.hid (KP1.out.up (btr (bz ((w.alloc (.cells #[.int .i64 p, .slice a V.length c] 24)))) hB))
    clear KP1
    clear hB
    clear gr
    have hall := KP2.out.here
    have hR1 := hall.1
    have hR0 := hall.2.1
    clear hall
    have zR := World.block_lt_of_cell? _ _ hR0
    simp only at zR
    go_wp2_with fail
    clear hR1 hR0 zR
    refine (works_any _).mono ?_
    rintro e w2 ⟨rfl, hB⟩
    have KP3 := Lib.hid (KP2.out.up (btr (bz w1) hB))
    clear KP2
    clear hB
    have hall := KP3.out.here
    have gBelow := hall.2.2.2.2
    clear hall
    go_wp2
    go_ret
    exact ⟨rfl, gBelow⟩
  have hF := Classical.not_not.1 hF
  by_cases hq : 20 < q.length
  ·
    have hq2 : (20 : Int) < (q.length : Int) := by omega
    have KP0 := Lib.hid (((keepB (bz w)).and (keepP hx)).and (keepI hy))
    clear hx hy
    go_enter Try.func14, Try.ntmps14
    go_wp2_with fail
    have KP1 := Lib.hid (((KP0.out.up (bal (bz w) _)).and (keepC (w := (w.alloc (.cells #[.int .i64 p, .slice a V.length c] 24))) (p := ⟨w.heap.size, 0, none⟩) (v := .int .i64 p) (cnew (by simp) rfl))).and (keepC (w := (w.alloc (.cells #[.int .i64 p, .slice a V.length c] 24))) (p := ⟨w.heap.size, 1, none⟩) (v := .slice a V.length c) (cnew (by simp) rfl)))
    clear KP0
    have hall := KP1.out.here
    have gr := hall.2.2.2.1
    clear hall
    refine (fine_yes p _ V _ gr hF).mono ?_
    rintro e w1 ⟨rfl, hB⟩
    have KP2 := Lib.hid (KP1.out.up (btr (bz ((w.alloc (.cells #[.int .i64 p, .slice a V.length c] 24)))) hB))
    clear KP1
    clear hB
    clear gr
    have hall := KP2.out.here
    have hR1 := hall.1
    have hR0 := hall.2.1
    clear hall
    have zR := World.block_lt_of_cell? _ _ hR0
    simp only at zR
    go_wp2_with fail
    clear hR1 hR0 zR
    refine (works_any _).mono ?_
    rintro e w2 ⟨rfl, hB⟩
    have KP3 := Lib.hid (KP2.out.up (btr (bz w1) hB))
    clear KP2
    clear hB
    have hall := KP3.out.here
    have gBelow := hall.2.2.2.2
    clear hall
    go_wp2
    go_ret
    exact ⟨rfl, gBelow⟩
  have hq2 : ¬ ((20 : Int) < (q.length : Int)) := by omega
  obtain ⟨n, rfl⟩ : ∃ n : Nat, p = n := ⟨p.toNat, by have := (okRow_of hF).p1; omega⟩
  obtain ⟨h8, h1, h40, hok⟩ := okn hF
  have HF := Lib.hid hF; have HO := Lib.hid hok; have HV := Lib.hid (okRow_of hF)
  clear hF hok
  obtain ⟨zt, rfl⟩ : ∃ zt : Nat, z = zt := ⟨z.toNat, by omega⟩
  obtain ⟨pl, hplE⟩ : ∃ pl, pl = zt % n := ⟨_, rfl⟩
  have hpl : pl < n := by rw [hplE]; exact Nat.mod_lt _ h1
  have hat : (zt : Int).tmod (n : Int) = (pl : Int) := by rw [hplE]; have := (Int.ofNat_tmod zt n).symm; simpa using this
  have HAT := Lib.hid hat
  have HES := Lib.hid (endS n V q pl HF.out hpl)
  have hne0 : ((n : Int) == 0) = false := by rw [beq_eq_false_iff_ne]; omega
  have HHW := Lib.hid hy.form
  clear hat hplE
  have KP0 := Lib.hid (((keepB (bz w)).and (keepP hx)).and (keepI hy))
  clear hx hy
  go_enter Try.func14, Try.ntmps14
  go_wp2_with fail
  have KP1 := Lib.hid (((KP0.out.up (bal (bz w) _)).and (keepC (w := (w.alloc (.cells #[.int .i64 n, .slice a V.length c] 24))) (p := ⟨w.heap.size, 0, none⟩) (v := .int .i64 n) (cnew (by simp) rfl))).and (keepC (w := (w.alloc (.cells #[.int .i64 n, .slice a V.length c] 24))) (p := ⟨w.heap.size, 1, none⟩) (v := .slice a V.length c) (cnew (by simp) rfl)))
  clear KP0
  have hall := KP1.out.here
  have gr := hall.2.2.2.1
  clear hall
  refine (fine_yes n _ V _ gr HF.out).mono ?_
  rintro e w1 ⟨rfl, hB⟩
  have KP2 := Lib.hid (KP1.out.up (btr (bz ((w.alloc (.cells #[.int .i64 n, .slice a V.length c] 24)))) hB))
  clear KP1
  clear hB
  clear gr
  have hall := KP2.out.here
  have hR1 := hall.1
  have hR0 := hall.2.1
  clear hall
  have zR := World.block_lt_of_cell? _ _ hR0
  simp only at zR
  go_wp2
  clear hR1 hR0 zR
  have hall := KP2.out.here
  have gR0 := hall.2.1
  have gy := hall.2.2.1
  clear hall
  have zR := World.block_lt_of_cell? _ _ gR0
  simp only at zR
  have GR0 := Lib.hid gR0
  clear gR0
  obtain ⟨wo, hwo⟩ : ∃ wo : World, wo = w1 := ⟨_, rfl⟩
  subst hwo
  obtain ⟨al, cl, hel, hcl, hml, hxl⟩ := gy.form
  simp only [Value.slice.injEq, true_and] at hel
  obtain ⟨rfl, rfl⟩ := hel
  clear hcl hml
  have HXY := Lib.hid hxl
  clear hxl gy
  go_loopw [7, 8, 9, 10, 27, 28, 29, 30, 31, 32, 33, 34, 35, 36, 37, 38, 39, 40, 41, 42, 43, 44, 45, 46, 47, 48, 49, 50, 51, 52, 53, 54, 55, 56, 57, 58, 59, 60, 61, 62, 63, 64, 65, 66, 67, 68] (fun v i _ _ _ _ _ _ _ _ _ _ _ _ _ _ _ _ _ _ _ _ _ _ _ _ _ _ _ _ _ _ _ _ _ _ _ _ _ _ _ _ _ _ _ _ wr => ∃ k : Nat, k ≤ n ∧ i = .int .i64 k ∧ Below wo.heap.size wo wr ∧ wr.ownsRow wo.heap.size 2 1 v (ordV q k).length ((ordV q k).map (Value.int .i64))) (fun v i _ _ _ _ _ _ _ _ _ _ _ _ _ _ _ _ _ _ _ _ _ _ _ _ _ _ _ _ _ _ _ _ _ _ _ _ _ _ _ _ _ _ _ _ _ => n - (intOf i).toNat)
  case atStart => exact ⟨0, Nat.zero_le _, rfl, bz _, World.ownsRow_nil _ _ _ _⟩
  case round =>
    obtain ⟨k, hk, rfl, hB, hO⟩ := hrel
    have hll := ordV_len q k
    rw [hll] at hO
    obtain ⟨aa, cc, hv0⟩ := owns_form hO
    subst hv0
    have gR0 : wr.cell? ⟨w.heap.size, 0, none⟩ = some (.int .i64 n) := (hB.cell (p := ⟨w.heap.size, 0, none⟩) zR).trans GR0.out
    have zR2 := Nat.lt_of_lt_of_le zR hB.size
    have HO1 := Lib.hid hO; have HB := Lib.hid hB; clear hO hB
    by_cases hkn : k < n
    · have hkn2 : (k : Int) < (n : Int) := by omega
      obtain ⟨vv, hvv⟩ : ∃ vv, vv = ordV q k := ⟨_, rfl⟩
      have hvl : vv.length = k := by rw [hvv]; exact hll
      have HIN := Lib.hid (show ∀ x ∈ vv, 0 ≤ x ∧ x < (k : Int) by rw [hvv]; exact ordV_in q k)
      obtain ⟨key, hkey⟩ : ∃ key, key = keyV q k := ⟨_, rfl⟩
      have hkin := keyV_in q k
      rw [← hkey] at hkin
      have HST := Lib.hid (show ordV q (k + 1) = bumpK vv key vv.length ++ [key] by rw [bumpK_all, hvv, hkey]; rfl)
      rw [← hvv] at HO1
      clear hvv hll
      have HAA : Hid (0 < k → ∃ g, aa = some ⟨g, 0, none⟩) := Lib.hid (fun h0 => by
        rcases HO1.out.2 with ⟨h, hn⟩ | ⟨g, cap, cur, h, _⟩
        · omega
        · simp at h; exact ⟨g, h.1⟩)
      obtain ⟨wi, rfl⟩ : ∃ wi : World, wi = wr := ⟨_, rfl⟩
      by_cases hl0 : q.length = 0
      · have hlz : ¬ ((0 : Int) < (q.length : Int)) := by omega
        have hk0 : key = (k : Int) := by rw [hkey]; unfold keyV; rw [if_pos hl0]
        subst hk0
        clear hkey hl0
        go_wp2
        go_loopw [10, 48, 49, 50, 51, 52, 53, 54, 55, 56, 57, 58, 59, 60, 61, 62, 63, 64] (fun j _ _ _ _ _ _ _ _ _ _ _ _ _ _ _ _ _ wr => ∃ t : Nat, t ≤ k ∧ j = .int .i64 t ∧ Below wo.heap.size wo wr ∧ wr.ownsRow wo.heap.size 2 1 (.slice aa k cc) k ((bumpK vv (k : Int) t).map (Value.int .i64))) (fun j _ _ _ _ _ _ _ _ _ _ _ _ _ _ _ _ _ _ => k - (intOf j).toNat)
        case atStart => exact ⟨0, Nat.zero_le _, rfl, HB.out, by rw [bumpK_zero]; exact HO1.out⟩
        case round =>
          obtain ⟨j, hj, rfl, hB2, hO2⟩ := hrel
          have HO2 := Lib.hid hO2; have HB2 := Lib.hid hB2
          clear HB HO1 hO2 hB2 gR0 zR2
          by_cases hjk : j < k
          · have hjk2 : (j : Int) < (k : Int) := by omega
            obtain ⟨g, rfl⟩ := HAA.out (by omega)
            have cf := HO2.out.frozenAt j
            have cc2 := HO2.out.cellAt j (by omega)
            have hlj : j < (bumpK vv (k : Int) j).length := by rw [bumpK_len]; omega
            rw [List.getElem?_map, List.getElem?_eq_getElem hlj, Option.map_some] at cc2
            have hge : (bumpK vv (k : Int) j)[j] = vv[j]?.getD 0 := by
              have := bumpK_get vv (k : Int) j
              rw [List.getElem?_eq_getElem hlj] at this; simpa using this
            rw [hge] at cc2
            have hin : 0 ≤ vv[j]?.getD 0 ∧ vv[j]?.getD 0 < (k : Int) := by rw [List.getElem?_eq_getElem (by omega)]; exact HIN.out _ (List.getElem_mem _)
            have hgb := HO2.out.lt g rfl
            have HS1 := Lib.hid (bumpK_step vv (k : Int) j (by omega)); have HS2 := Lib.hid (bumpK_skip vv (k : Int) j (by omega))
            clear hge hlj
            generalize vv[j]?.getD 0 = u at *
            by_cases hku : (k : Int) ≤ u
            · omega
            · have hku2 : ¬ (k : Int) ≤ u := hku
              go_wp2
              exact ⟨⟨j + 1, by omega, by go_num, HB2.out, by rw [← HS2.out hku]; exact HO2.out⟩, by simp [intOf]; omega⟩
          · have hjE : k = j := by omega
            subst hjE
            have HO3 : Hid (wr.ownsRow wo.heap.size 2 1 (.slice aa k cc) (bumpK vv (k : Int) vv.length).length ((bumpK vv (k : Int) vv.length).map (Value.int .i64))) := Lib.hid (by rw [bumpK_len, hvl]; exact HO2.out)
            clear HO2
            go_wp2_with (at_builtin; refine wpList_append_num rfl _ _ rfl Try.underlying25 num2 HO3.out _ rfl rfl (by rw [bumpK_len]; omega) HB2.out.size ?_)
            intro v' w' hown' hgrow
            have hB8 := append_below (bal HB2.out _) (HO3.out.alloc _) hgrow (Nat.le_refl _)
            have HP := Lib.hid hown'; have HB8 := Lib.hid hB8
            clear hown' hgrow hB8
            go_wp2
            refine ⟨⟨k + 1, by omega, by go_num, HB8.out, ?_⟩, by simp [intOf]; omega⟩
            rw [HST.out, List.length_append, List.map_append, hvl]; exact HP.out
      · obtain ⟨by', oy, rfl, hby, hcy⟩ := HXY.out (by omega)
        have hlz : (0 : Int) < (q.length : Int) := by omega
        have hmod : k % q.length < q.length := Nat.mod_lt _ (by omega)
        have gx := (HB.out.cell (p := ⟨by', oy + k % q.length, none⟩) hby).trans (hcy _ hmod)
        have hrem : (k : Int).tmod (q.length : Int) = ((k % q.length : Nat) : Int) := by have := (Int.ofNat_tmod k q.length).symm; simpa using this
        have hbd : 0 ≤ q[k % q.length]?.getD 0 ∧ q[k % q.length]?.getD 0 ≤ 255 := by rw [List.getElem?_eq_getElem hmod]; exact HW.out _ (List.getElem_mem hmod)
        have hlne : ((q.length : Int) == 0) = false := by rw [beq_eq_false_iff_ne]; omega
        have hlne2 : ((k : Int) + 1 == 0) = false := by rw [beq_eq_false_iff_ne]; omega
        have hkv : (q[k % q.length]?.getD 0).tmod ((k : Int) + 1) = key := by
          rw [hkey]; unfold keyV; rw [if_neg hl0, Int.tmod_eq_emod_of_nonneg hbd.1]
        clear hcy hl0 hkey
        generalize q[k % q.length]?.getD 0 = u0 at *
        generalize k % q.length = r0 at *
        go_wp2
        go_loopw [10, 48, 49, 50, 51, 52, 53, 54, 55, 56, 57, 58, 59, 60, 61, 62, 63, 64] (fun j _ _ _ _ _ _ _ _ _ _ _ _ _ _ _ _ _ wr => ∃ t : Nat, t ≤ k ∧ j = .int .i64 t ∧ Below wo.heap.size wo wr ∧ wr.ownsRow wo.heap.size 2 1 (.slice aa k cc) k ((bumpK vv key t).map (Value.int .i64))) (fun j _ _ _ _ _ _ _ _ _ _ _ _ _ _ _ _ _ _ => k - (intOf j).toNat)
        case atStart => exact ⟨0, Nat.zero_le _, rfl, HB.out, by rw [bumpK_zero]; exact HO1.out⟩
        case round =>
          obtain ⟨j, hj, rfl, hB2, hO2⟩ := hrel
          have HO2 := Lib.hid hO2; have HB2 := Lib.hid hB2
          clear HB HO1 hO2 hB2 gR0 zR2
          by_cases hjk : j < k
          · have hjk2 : (j : Int) < (k : Int) := by omega
            obtain ⟨g, rfl⟩ := HAA.out (by omega)
            have cf := HO2.out.frozenAt j
            have cc2 := HO2.out.cellAt j (by omega)
            have hlj : j < (bumpK vv key j).length := by rw [bumpK_len]; omega
            rw [List.getElem?_map, List.getElem?_eq_getElem hlj, Option.map_some] at cc2
            have hge : (bumpK vv key j)[j] = vv[j]?.getD 0 := by
              have := bumpK_get vv key j
              rw [List.getElem?_eq_getElem hlj] at this; simpa using this
            rw [hge] at cc2
            have hin : 0 ≤ vv[j]?.getD 0 ∧ vv[j]?.getD 0 < (k : Int) := by rw [List.getElem?_eq_getElem (by omega)]; exact HIN.out _ (List.getElem_mem _)
            have hgb := HO2.out.lt g rfl
            have HS1 := Lib.hid (bumpK_step vv key j (by omega)); have HS2 := Lib.hid (bumpK_skip vv key j (by omega))
            clear hge hlj
            generalize vv[j]?.getD 0 = u at *
            by_cases hku : key ≤ u
            · have hku2 : key ≤ u := hku
              go_wp2
              refine ⟨⟨j + 1, by omega, by go_num, bset HB2.out hgb.1 _, ?_⟩, by simp [intOf]; omega⟩
              have := (HO2.out.stored j (.int .i64 (u + 1))).1
              rw [← List.map_set, HS1.out hku] at this
              exact this
            · have hku2 : ¬ key ≤ u := hku
              go_wp2
              exact ⟨⟨j + 1, by omega, by go_num, HB2.out, by rw [← HS2.out hku]; exact HO2.out⟩, by simp [intOf]; omega⟩
          · have hjE : k = j := by omega
            subst hjE
            have HO3 : Hid (wr.ownsRow wo.heap.size 2 1 (.slice aa k cc) (bumpK vv key vv.length).length ((bumpK vv key vv.length).map (Value.int .i64))) := Lib.hid (by rw [bumpK_len, hvl]; exact HO2.out)
            clear HO2
            go_wp2_with (at_builtin; refine wpList_append_num rfl _ _ rfl Try.underlying25 num2 HO3.out _ rfl rfl (by rw [bumpK_len]; omega) HB2.out.size ?_)
            intro v' w' hown' hgrow
            have hB8 := append_below (bal HB2.out _) (HO3.out.alloc _) hgrow (Nat.le_refl _)
            have HP := Lib.hid hown'; have HB8 := Lib.hid hB8
            clear hown' hgrow hB8
            go_wp2
            refine ⟨⟨k + 1, by omega, by go_num, HB8.out, ?_⟩, by simp [intOf]; omega⟩
            rw [HST.out, List.length_append, List.map_append, hvl]; exact HP.out
    · have hkE : n = k := by omega
      subst hkE

      have hO := RdI.of_owns (n := _) HO1.out
      clear hll
      obtain ⟨l, E, c0, c1, hS⟩ := HES.out
      generalize ordV q n = vv at *
      have HS := Lib.hid hS
      clear hS HES
      have KP3 := Lib.hid ((KP2.out.up (btr (bz wo) HB.out)).and (keepI hO))
      clear KP2
      clear hO HO1 HB gR0 zR2
      have hatt := HAT.out
      have hall := KP3.out.here
      have hR1 := hall.2.1
      have hR0 := hall.2.2.1
      clear hall
      have zR := World.block_lt_of_cell? _ _ hR0
      simp only at zR
      go_wp2_with fail
      clear hR1 hR0 zR
      have hall := KP3.out.here
      have gO := hall.1
      have gr := hall.2.2.2.2.1
      clear hall
      refine (HS.out.run _ _ _ gr gO).mono ?_
      rintro e w2 ⟨v, rfl, hRL, hB⟩
      obtain ⟨aL, cL, hv⟩ := hRL.ex n HS.out.ll
      subst hv
      have KP4 := Lib.hid ((KP3.out.up (btr (bz wr) hB)).and (keepI hRL))
      clear KP3
      clear hRL hB
      clear gO gr
      have hall := KP4.out.here
      have hR1 := hall.2.2.1
      have hR0 := hall.2.2.2.1
      clear hall
      have zR := World.block_lt_of_cell? _ _ hR0
      simp only at zR
      go_wp2_with fail
      clear hR1 hR0 zR
      have hall := KP4.out.here
      have gr := hall.2.2.2.2.2.1
      clear hall
      refine (HS.out.ends _ _ gr).mono ?_
      rintro e w3 ⟨v, rfl, hRE, hB⟩
      obtain ⟨aE, cE, hv⟩ := hRE.ex (E.length) rfl
      subst hv
      have KP5 := Lib.hid ((KP4.out.up (btr (bz w2) hB)).and (keepI hRE))
      clear KP4
      clear hRE hB
      clear gr
      have he1 : ¬ ((E.length : Int) < 1) := by have := HS.out.e1; omega
      have he2 : ¬ ((n : Int) < (E.length : Int)) := by have := HS.out.e2; omega
      have he1n : decide ((E.length : Int) < 1) = false := decide_eq_false he1
      have he2n : decide (n < E.length) = false := decide_eq_false (by omega)
      have he2m : decide ((n : Int) < (E.length : Int)) = false := decide_eq_false he2
      have hall := KP5.out.here
      have hR1 := hall.2.2.2.1
      have hR0 := hall.2.2.2.2.1
      clear hall
      have zR := World.block_lt_of_cell? _ _ hR0
      simp only at zR
      go_wp2
      clear hR1 hR0 zR
      have hall := KP5.out.here
      have gE := hall.1
      have gL := hall.2.1
      have gO := hall.2.2.1
      clear hall
      have HXO := Lib.hid (rdI_cells gO HS.out.vl)
      have HXL := Lib.hid (rdI_cells gL HS.out.ll)
      have HXE := Lib.hid (rdI_cells gE rfl)
      clear gO gL gE
      go_loopw [16, 17, 104, 105, 106, 107, 108, 109, 110, 111, 112, 113, 114, 115, 116, 117, 118, 119, 120, 121, 122, 123, 124, 125, 126, 127, 128, 129, 130, 131, 132, 133, 134, 135, 136, 137, 138, 139, 140, 141, 142, 143, 144, 145, 146, 147, 148, 149, 150, 151, 152, 153, 154] (fun b i _ _ _ _ _ _ _ _ _ _ _ _ _ _ _ _ _ _ _ _ _ _ _ _ _ _ _ _ _ _ _ _ _ _ _ _ _ _ _ _ _ _ _ _ _ _ _ _ _ _ _ wr => ∃ k : Nat, k ≤ E.length ∧ i = .int .i64 k ∧ b = .bool (inE l E c0 k) ∧ Below w3.heap.size w3 wr) (fun b i _ _ _ _ _ _ _ _ _ _ _ _ _ _ _ _ _ _ _ _ _ _ _ _ _ _ _ _ _ _ _ _ _ _ _ _ _ _ _ _ _ _ _ _ _ _ _ _ _ _ _ _ => E.length - (intOf i).toNat)
      case atStart => exact ⟨0, Nat.zero_le _, rfl, by simp [inE], bz _⟩
      case round =>
        obtain ⟨k, hk, rfl, rfl, hB⟩ := hrel
        by_cases hkn : k < E.length
        · have hkE : (k : Int) < (E.length : Int) := by omega
          obtain ⟨e, hen, hE⟩ := HS.out.ein k hkn
          obtain ⟨bo, oo, rfl, hbo, hco⟩ := HXO.out (by omega)
          obtain ⟨bl, ol, rfl, hbl, hcl⟩ := HXL.out (by omega)
          obtain ⟨be, oe, rfl, hbe, hce⟩ := HXE.out (by omega)
          have go := hco pl hpl
          have gl := hcl e hen
          have ge := hce k hkn
          rw [HS.out.hc] at go
          rw [hE] at ge
          have HST := Lib.hid (inE_succ l E c0 k)
          rw [hE, show ((e : Nat) : Int).toNat = e by omega] at HST
          have hen2 : ¬ ((n : Int) ≤ (e : Int)) := by omega
          have he0 : ¬ ((e : Int) < 0) := by omega
          generalize l[e]?.getD 0 = u at *
          generalize inE l E c0 k = bb at *
          have KP6 := Lib.hid (((((((KP5.out.up (bz w3)).and (keepC go)).and (keepZ hbo)).and (keepC gl)).and (keepZ hbl)).and (keepC ge)).and (keepZ hbe))
          clear KP5
          clear hco hcl go gl ge hbo hbl
          by_cases hk0 : 0 < k
          · obtain ⟨k0, hk1⟩ : ∃ k0, k0 + 1 = k := ⟨k - 1, by omega⟩
            have hup := HS.out.eup k0 (by omega)
            rw [hk1] at hup
            obtain ⟨ep, hep, hEp⟩ := HS.out.ein k0 (by omega)
            have gp := hce k0 (by omega)
            rw [hEp] at gp
            rw [hE, hEp] at hup
            have hup2 : ¬ ((e : Int) ≤ (ep : Int)) := by omega
            have hkp : (0 : Int) < (k : Int) := by omega
            have hkm : (k : Int) - 1 = (k0 : Int) := by omega
            have hk0E : (k0 : Int) < (E.length : Int) := by omega
            clear hup hEp hep hk1
            have KP7 := Lib.hid ((KP6.out.up (bz w3)).and (keepC gp))
            clear KP6
            clear gp
            have KP8 := Lib.hid ((KP7.out.up (btr (bz w3) hB)).and (keepB hB))
            clear KP7
            clear hB hce hbe hE hk0
            have hall := KP8.out.here
            have hR1 := hall.2.2.2.2.2.2.2.2.2.2.2.1
            have hR0 := hall.2.2.2.2.2.2.2.2.2.2.2.2.1
            clear hall
            have zR := World.block_lt_of_cell? _ _ hR0
            simp only at zR
            go_wp2
            clear hR1 hR0 zR
            have d1 : decide ((e : Int) < 0) = false := decide_eq_false (by omega)
            have d2 : decide ((n : Int) ≤ (e : Int)) = false := decide_eq_false (by omega)
            have d3 : decide ((0 : Int) < (k : Int)) = true := decide_eq_true (by omega)
            have d2n : decide (n ≤ e) = false := decide_eq_false (by omega)
            have d3n : decide (0 < k) = true := decide_eq_true (by omega)
            have d4 : decide ((e : Int) ≤ (ep : Int)) = false := decide_eq_false (by omega)
            have d4n : decide (e ≤ ep) = false := decide_eq_false (by omega)
            refine wp_region_flow [] [] [0, 1, 2, 3, 4, 5, 6, 7, 8, 9, 10, 11, 12, 13, 14, 15, 16, 17, 18, 19, 20, 21, 22, 23, 24, 25, 26, 27, 28, 29] (by kernel_rfl) (by kernel_rfl) ?_
            intro w4 hB hh
            clear hh
            have KP9 := Lib.hid ((KP8.out.up (btr (bz wr) hB)).and (keepB (bz w4)))
            clear KP8
            clear hB
            have hall := KP9.out.here
            have hR1 := hall.2.2.2.2.2.2.2.2.2.2.2.2.1
            have hR0 := hall.2.2.2.2.2.2.2.2.2.2.2.2.2.1
            clear hall
            have zR := World.block_lt_of_cell? _ _ hR0
            simp only at zR
            have hall := KP9.out.here
            have kcp := hall.2.2.1
            have kze := hall.2.2.2.1
            have kce := hall.2.2.2.2.1
            have kzl := hall.2.2.2.2.2.1
            have kcl := hall.2.2.2.2.2.2.1
            have kzo := hall.2.2.2.2.2.2.2.1
            have kco := hall.2.2.2.2.2.2.2.2.1
            clear hall
            have hL := @Later.cell w4
            simp only [flowP, flow, pickL, List.getElem?_cons_succ, List.getElem?_cons_zero]
            refine wpQuiet_nil ?_
            repeat (go_big_quiet_step (fail))
            refine wpQuiet_nil ?_
            refine only_done ?_
            clear hR1 hR0 zR kcp kze kce kzl kcl kzo kco hL
            have hall := KP9.out.here
            have hR1 := hall.2.2.2.2.2.2.2.2.2.2.2.2.1
            have hR0 := hall.2.2.2.2.2.2.2.2.2.2.2.2.2.1
            clear hall
            have zR := World.block_lt_of_cell? _ _ hR0
            simp only at zR
            go_wp2
            clear hR1 hR0 zR
            cases bb
            · by_cases hu : u = c0
              · have hub : (u == c0) = true := by simpa using hu
                rw [decide_eq_true hu] at HST
                clear hu
                refine wp_region_flow [] [] [0, 1, 2, 3, 4, 5, 6, 7, 8, 9, 10, 11, 12, 13, 14, 15] (by kernel_rfl) (by kernel_rfl) ?_
                intro w5 hB hh
                clear hh
                have KP10 := Lib.hid ((KP9.out.up (btr (bz w4) hB)).and (keepB (bz w5)))
                clear KP9
                clear hB
                have hall := KP10.out.here
                have hR1 := hall.2.2.2.2.2.2.2.2.2.2.2.2.2.1
                have hR0 := hall.2.2.2.2.2.2.2.2.2.2.2.2.2.2.1
                clear hall
                have zR := World.block_lt_of_cell? _ _ hR0
                simp only at zR
                have hall := KP10.out.here
                have kcp := hall.2.2.2.1
                have kze := hall.2.2.2.2.1
                have kce := hall.2.2.2.2.2.1
                have kzl := hall.2.2.2.2.2.2.1
                have kcl := hall.2.2.2.2.2.2.2.1
                have kzo := hall.2.2.2.2.2.2.2.2.1
                have kco := hall.2.2.2.2.2.2.2.2.2.1
                clear hall
                have hL := @Later.cell w5
                simp only [flowP, flow, pickL, List.getElem?_cons_succ, List.getElem?_cons_zero]
                refine wpQuiet_nil ?_
                repeat (go_big_quiet_step (fail))
                refine wpQuiet_nil ?_
                refine only_done ?_
                clear hR1 hR0 zR kcp kze kce kzl kcl kzo kco hL
                have hall := KP10.out.here
                have gB2 := hall.2.2.1
                clear hall
                go_wp2
                exact ⟨⟨k + 1, by omega, by go_num, by rw [HST.out]; rfl, gB2⟩, by simp [intOf]; omega⟩
              · have hub : (u == c0) = false := by simpa using hu
                rw [decide_eq_false hu] at HST
                clear hu
                refine wp_region_flow [] [] [0, 1, 2, 3, 4, 5, 6, 7, 8, 9, 10, 11, 12, 13, 14, 15] (by kernel_rfl) (by kernel_rfl) ?_
                intro w5 hB hh
                clear hh
                have KP10 := Lib.hid ((KP9.out.up (btr (bz w4) hB)).and (keepB (bz w5)))
                clear KP9
                clear hB
                have hall := KP10.out.here
                have hR1 := hall.2.2.2.2.2.2.2.2.2.2.2.2.2.1
                have hR0 := hall.2.2.2.2.2.2.2.2.2.2.2.2.2.2.1
                clear hall
                have zR := World.block_lt_of_cell? _ _ hR0
                simp only at zR
                have hall := KP10.out.here
                have kcp := hall.2.2.2.1
                have kze := hall.2.2.2.2.1
                have kce := hall.2.2.2.2.2.1
                have kzl := hall.2.2.2.2.2.2.1
                have kcl := hall.2.2.2.2.2.2.2.1
                have kzo := hall.2.2.2.2.2.2.2.2.1
                have kco := hall.2.2.2.2.2.2.2.2.2.1
                clear hall
                have hL := @Later.cell w5
                simp only [flowP, flow, pickL, List.getElem?_cons_succ, List.getElem?_cons_zero]
                refine wpQuiet_nil ?_
                repeat (go_big_quiet_step (fail))
                refine wpQuiet_nil ?_
                refine only_done ?_
                clear hR1 hR0 zR kcp kze kce kzl kcl kzo kco hL
                have hall := KP10.out.here
                have gB2 := hall.2.2.1
                clear hall
                go_wp2
                exact ⟨⟨k + 1, by omega, by go_num, by rw [HST.out]; rfl, gB2⟩, by simp [intOf]; omega⟩
            · refine wp_region_flow [] [] [0, 1, 2, 3, 4, 5, 6, 7, 8, 9, 10, 11, 12, 13, 14, 15] (by kernel_rfl) (by kernel_rfl) ?_
              intro w5 hB hh
              clear hh
              have KP10 := Lib.hid ((KP9.out.up (btr (bz w4) hB)).and (keepB (bz w5)))
              clear KP9
              clear hB
              have hall := KP10.out.here
              have hR1 := hall.2.2.2.2.2.2.2.2.2.2.2.2.2.1
              have hR0 := hall.2.2.2.2.2.2.2.2.2.2.2.2.2.2.1
              clear hall
              have zR := World.block_lt_of_cell? _ _ hR0
              simp only at zR
              have hall := KP10.out.here
              have kcp := hall.2.2.2.1
              have kze := hall.2.2.2.2.1
              have kce := hall.2.2.2.2.2.1
              have kzl := hall.2.2.2.2.2.2.1
              have kcl := hall.2.2.2.2.2.2.2.1
              have kzo := hall.2.2.2.2.2.2.2.2.1
              have kco := hall.2.2.2.2.2.2.2.2.2.1
              clear hall
              have hL := @Later.cell w5
              simp only [flowP, flow, pickL, List.getElem?_cons_succ, List.getElem?_cons_zero]
              refine wpQuiet_nil ?_
              repeat (go_big_quiet_step (fail))
              refine wpQuiet_nil ?_
              refine only_done ?_
              clear hR1 hR0 zR kcp kze kce kzl kcl kzo kco hL
              have hall := KP10.out.here
              have gB2 := hall.2.2.1
              clear hall
              go_wp2
              exact ⟨⟨k + 1, by omega, by go_num, by rw [HST.out]; rfl, gB2⟩, by simp [intOf]; omega⟩
          · have hkp : ¬ ((0 : Int) < (k : Int)) := by omega
            have KP7 := Lib.hid ((KP6.out.up (btr (bz w3) hB)).and (keepB hB))
            clear KP6
            clear hB hce hbe hE hk0
            have hall := KP7.out.here
            have hR1 := hall.2.2.2.2.2.2.2.2.2.2.1
            have hR0 := hall.2.2.2.2.2.2.2.2.2.2.2.1
            clear hall
            have zR := World.block_lt_of_cell? _ _ hR0
            simp only at zR
            go_wp2
            clear hR1 hR0 zR
            have d1 : decide ((e : Int) < 0) = false := decide_eq_false (by omega)
            have d2 : decide ((n : Int) ≤ (e : Int)) = false := decide_eq_false (by omega)
            have d3 : decide ((0 : Int) < (k : Int)) = false := decide_eq_false (by omega)
            have d2n : decide (n ≤ e) = false := decide_eq_false (by omega)
            have d3n : decide (0 < k) = false := decide_eq_false (by omega)
            refine wp_region_flow [] [] [0, 1, 2, 3, 4, 5, 6, 7, 8, 9, 10, 11, 12, 13, 14, 15, 16, 17, 18, 19, 20, 21, 22, 23, 24, 25, 26, 27, 28, 29] (by kernel_rfl) (by kernel_rfl) ?_
            intro w4 hB hh
            clear hh
            have KP8 := Lib.hid ((KP7.out.up (btr (bz wr) hB)).and (keepB (bz w4)))
            clear KP7
            clear hB
            have hall := KP8.out.here
            have hR1 := hall.2.2.2.2.2.2.2.2.2.2.2.1
            have hR0 := hall.2.2.2.2.2.2.2.2.2.2.2.2.1
            clear hall
            have zR := World.block_lt_of_cell? _ _ hR0
            simp only at zR
            have hall := KP8.out.here
            have kze := hall.2.2.1
            have kce := hall.2.2.2.1
            have kzl := hall.2.2.2.2.1
            have kcl := hall.2.2.2.2.2.1
            have kzo := hall.2.2.2.2.2.2.1
            have kco := hall.2.2.2.2.2.2.2.1
            clear hall
            have hL := @Later.cell w4
            simp only [flowP, flow, pickL, List.getElem?_cons_succ, List.getElem?_cons_zero]
            refine wpQuiet_nil ?_
            repeat (go_big_quiet_step (fail))
            refine wpQuiet_nil ?_
            refine only_done ?_
            clear hR1 hR0 zR kze kce kzl kcl kzo kco hL
            have hall := KP8.out.here
            have hR1 := hall.2.2.2.2.2.2.2.2.2.2.2.1
            have hR0 := hall.2.2.2.2.2.2.2.2.2.2.2.2.1
            clear hall
            have zR := World.block_lt_of_cell? _ _ hR0
            simp only at zR
            go_wp2
            clear hR1 hR0 zR
            cases bb
            · by_cases hu : u = c0
              · have hub : (u == c0) = true := by simpa using hu
                rw [decide_eq_true hu] at HST
                clear hu
                refine wp_region_flow [] [] [0, 1, 2, 3, 4, 5, 6, 7, 8, 9, 10, 11, 12, 13, 14, 15] (by kernel_rfl) (by kernel_rfl) ?_
                intro w5 hB hh
                clear hh
                have KP9 := Lib.hid ((KP8.out.up (btr (bz w4) hB)).and (keepB (bz w5)))
                clear KP8
                clear hB
                have hall := KP9.out.here
                have hR1 := hall.2.2.2.2.2.2.2.2.2.2.2.2.1
                have hR0 := hall.2.2.2.2.2.2.2.2.2.2.2.2.2.1
                clear hall
                have zR := World.block_lt_of_cell? _ _ hR0
                simp only at zR
                have hall := KP9.out.here
                have kze := hall.2.2.2.1
                have kce := hall.2.2.2.2.1
                have kzl := hall.2.2.2.2.2.1
                have kcl := hall.2.2.2.2.2.2.1
                have kzo := hall.2.2.2.2.2.2.2.1
                have kco := hall.2.2.2.2.2.2.2.2.1
                clear hall
                have hL := @Later.cell w5
                simp only [flowP, flow, pickL, List.getElem?_cons_succ, List.getElem?_cons_zero]
                refine wpQuiet_nil ?_
                repeat (go_big_quiet_step (fail))
                refine wpQuiet_nil ?_
                refine only_done ?_
                clear hR1 hR0 zR kze kce kzl kcl kzo kco hL
                have hall := KP9.out.here
                have gB2 := hall.2.2.1
                clear hall
                go_wp2
                exact ⟨⟨k + 1, by omega, by go_num, by rw [HST.out]; rfl, gB2⟩, by simp [intOf]; omega⟩
              · have hub : (u == c0) = false := by simpa using hu
                rw [decide_eq_false hu] at HST
                clear hu
                refine wp_region_flow [] [] [0, 1, 2, 3, 4, 5, 6, 7, 8, 9, 10, 11, 12, 13, 14, 15] (by kernel_rfl) (by kernel_rfl) ?_
                intro w5 hB hh
                clear hh
                have KP9 := Lib.hid ((KP8.out.up (btr (bz w4) hB)).and (keepB (bz w5)))
                clear KP8
                clear hB
                have hall := KP9.out.here
                have hR1 := hall.2.2.2.2.2.2.2.2.2.2.2.2.1
                have hR0 := hall.2.2.2.2.2.2.2.2.2.2.2.2.2.1
                clear hall
                have zR := World.block_lt_of_cell? _ _ hR0
                simp only at zR
                have hall := KP9.out.here
                have kze := hall.2.2.2.1
                have kce := hall.2.2.2.2.1
                have kzl := hall.2.2.2.2.2.1
                have kcl := hall.2.2.2.2.2.2.1
                have kzo := hall.2.2.2.2.2.2.2.1
                have kco := hall.2.2.2.2.2.2.2.2.1
                clear hall
                have hL := @Later.cell w5
                simp only [flowP, flow, pickL, List.getElem?_cons_succ, List.getElem?_cons_zero]
                refine wpQuiet_nil ?_
                repeat (go_big_quiet_step (fail))
                refine wpQuiet_nil ?_
                refine only_done ?_
                clear hR1 hR0 zR kze kce kzl kcl kzo kco hL
                have hall := KP9.out.here
                have gB2 := hall.2.2.1
                clear hall
                go_wp2
                exact ⟨⟨k + 1, by omega, by go_num, by rw [HST.out]; rfl, gB2⟩, by simp [intOf]; omega⟩
            · refine wp_region_flow [] [] [0, 1, 2, 3, 4, 5, 6, 7, 8, 9, 10, 11, 12, 13, 14, 15] (by kernel_rfl) (by kernel_rfl) ?_
              intro w5 hB hh
              clear hh
              have KP9 := Lib.hid ((KP8.out.up (btr (bz w4) hB)).and (keepB (bz w5)))
              clear KP8
              clear hB
              have hall := KP9.out.here
              have hR1 := hall.2.2.2.2.2.2.2.2.2.2.2.2.1
              have hR0 := hall.2.2.2.2.2.2.2.2.2.2.2.2.2.1
              clear hall
              have zR := World.block_lt_of_cell? _ _ hR0
              simp only at zR
              have hall := KP9.out.here
              have kze := hall.2.2.2.1
              have kce := hall.2.2.2.2.1
              have kzl := hall.2.2.2.2.2.1
              have kcl := hall.2.2.2.2.2.2.1
              have kzo := hall.2.2.2.2.2.2.2.1
              have kco := hall.2.2.2.2.2.2.2.2.1
              clear hall
              have hL := @Later.cell w5
              simp only [flowP, flow, pickL, List.getElem?_cons_succ, List.getElem?_cons_zero]
              refine wpQuiet_nil ?_
              repeat (go_big_quiet_step (fail))
              refine wpQuiet_nil ?_
              refine only_done ?_
              clear hR1 hR0 zR kze kce kzl kcl kzo kco hL
              have hall := KP9.out.here
              have gB2 := hall.2.2.1
              clear hall
              go_wp2
              exact ⟨⟨k + 1, by omega, by go_num, by rw [HST.out]; rfl, gB2⟩, by simp [intOf]; omega⟩
        · have hkE : ¬ ((k : Int) < (E.length : Int)) := by omega
          have hkL : k = E.length := by omega
          have hall' := HS.out.all
          rw [← hkL] at hall'
          rw [hall']
          clear hall' hkL
          have KP6 := Lib.hid (KP5.out.up (btr (bz w3) hB))
          clear KP5
          clear hB
          have hall := KP6.out.here
          have hR1 := hall.2.2.2.1
          have hR0 := hall.2.2.2.2.1
          clear hall
          have zR := World.block_lt_of_cell? _ _ hR0
          simp only at zR
          go_wp2_with fail
          clear hR1 hR0 zR
          have hall := KP6.out.here
          have gr := hall.2.2.2.2.2.2.1
          clear hall
          refine (sorts_k n _ V c1 _ gr HF.out HS.out.so).mono ?_
          rintro e w4 ⟨rfl, hB⟩
          have KP7 := Lib.hid (KP6.out.up (btr (bz wr) hB))
          clear KP6
          clear hB
          clear gr
          rcases HS.out.full with rfl | ⟨rfl, hEn⟩
          · have hall := KP7.out.here
            have hR1 := hall.2.2.2.1
            have hR0 := hall.2.2.2.2.1
            clear hall
            have zR := World.block_lt_of_cell? _ _ hR0
            simp only at zR
            go_wp2_with fail
            clear hR1 hR0 zR
            refine (works_any _).mono ?_
            rintro e w5 ⟨rfl, hB⟩
            have KP8 := Lib.hid (KP7.out.up (btr (bz w4) hB))
            clear KP7
            clear hB
            have hall := KP8.out.here
            have gBelow := hall.2.2.2.2.2.2.2
            clear hall
            go_wp2
            go_ret
            exact ⟨rfl, gBelow⟩
          · have hEn2 : ((E.length : Int) == (n : Int)) = true := by rw [beq_iff_eq]; omega
            clear hEn
            have hall := KP7.out.here
            have hR1 := hall.2.2.2.1
            have hR0 := hall.2.2.2.2.1
            clear hall
            have zR := World.block_lt_of_cell? _ _ hR0
            simp only at zR
            go_wp2_with fail
            clear hR1 hR0 zR
            refine (works_any _).mono ?_
            rintro e w5 ⟨rfl, hB⟩
            have KP8 := Lib.hid (KP7.out.up (btr (bz w4) hB))
            clear KP7
            clear hB
            have hall := KP8.out.here
            have gBelow := hall.2.2.2.2.2.2.2
            clear hall
            go_wp2
            go_ret
            exact ⟨rfl, gBelow⟩
section
open Go.ChangeShapes Go.WideShapes Go.ChangeAt
set_option maxRecDepth 100000 in
theorem valveEnds_lifted (os : Os) (started : os.Started) (H : Type) (enc : TypeId × Value → H) :
    ReturnsInHanded {} Try.checked os 14 .any (Rows.valveEndsSpec.pre6 enc Try.prog Try.f14 Rows.valveEndsRow.domain false) (Rows.valveEndsSpec.post enc Try.prog Try.f14 false true false false) := by
  refine returnsInHanded_of_change (C := Try.checked) Try.own started (by kernel_rfl) Try.func14
    (ChangeSpec.witness6 (enc := enc) (C := Try.checked) false ⟨#[], #[.agg #[.int .i64 0, .slice none 0 0], .slice none 0 0, .int .u8 0], []⟩ 8 (by kernel_rfl) (by kernel_rfl) (by kernel_rfl) (by kernel_rfl)) ?_
  intro W base args ds gs before hval0 hW _ _
  have hval : ∀ (j : Nat) t v, Try.f14.params[j]? = some t → args[j]? = some v → Value.okWide Try.prog W .any base t v := hval0
  have hW' := hW
  obtain ⟨p, q, hA0, hV, rfl, hfz, hnd⟩ := hW
  have hA : DataW.TrodAll enc Try.prog W 0 (fun _ => true) true Try.f14.params.toList args.toList ds p := hA0
  have hA2 := hA
  have hlt : ∀ x ∈ p, x.block < W.heap.size := fun x hx => hW'.lt x (List.mem_append_left _ hx)
  rw [Try.params14] at hA hval
  obtain ⟨v0, vs0, d0, ds0, p0, q0, hargs, rfl, rfl, h0, r0⟩ := trodAll_cons hA
  obtain ⟨v1, vs1, d1, ds1, p1, q1, rfl, rfl, rfl, h1, r1⟩ := trodAll_cons r0
  obtain ⟨v2, vs2, d2, ds2, p2, q2, rfl, rfl, rfl, h2, r2⟩ := trodAll_cons r1
  obtain ⟨rfl, rfl, rfl⟩ := trodAll_nil r2
  obtain rfl : args = #[v0, v1, v2] := by cases args; simp_all
  obtain ⟨rfl, rfl⟩ := trodVars_none hV
  obtain ⟨a0, x0, V0, rfl, hx0⟩ := open_row (hval 0 24 v0 rfl rfl) h0 (fun x hx => hlt x (by simp [hx]))
  obtain ⟨X1, hx1, hw1⟩ := open_ints_rd Try.underlying65 Try.underlying5 (by kernel_rfl) (hval 1 65 v1 rfl rfl) h1 (fun x hx => hlt x (by simp [hx]))
  obtain ⟨a2, rfl, rfl, rfl, w2⟩ := open_int Try.underlying5 (hval 2 5 v2 rfl rfl) h2
  clear hA0 hval0
  simp only [List.append_nil] at hW' hA2
  refine (ends_walk a0 x0 v1 V0 X1 W hx0 hx1 (fun v hv => wf8 (hw1 v hv)) a2 (wf8 w2).1 (wf8 w2).2).mono fun e W' ⟨he, hb⟩ => ?_
  subst he
  exact ⟨_, rfl, law_post Try.laidOut Try.underlying4 hW' hA2 rfl rfl rfl rfl rfl (by kernel_rfl) hb⟩
theorem valveEnds_holds : Rows.ValveEndsSaid :=
  OpenClaim.holds_of_wide 14 Try.f14 rfl rfl rfl rfl rfl rfl rfl ⟨rfl, rfl, rfl, rfl, rfl⟩ rfl rfl rfl rfl rfl (by kernel_rfl) Try.func14 (by kernel_rfl)
    (of_decide_eq_true (by kernel_rfl)) (by unfold Func.isWrapper; first | (rw [if_pos (by decide +kernel)]; kernel_rfl) | (rw [if_neg (by decide +kernel)]; exact ⟨rfl, rfl⟩))
    (fun os started H enc _ => valveEnds_lifted os started H enc)
end
end Go.Proofs.Ytdnaipiiponhpaa
