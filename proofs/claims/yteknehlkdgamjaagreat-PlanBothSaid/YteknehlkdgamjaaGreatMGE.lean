/- Merged texts: Starts, Latest, tails of the program; no condition. -/
import Derived.Test.YteknehlkdgamjaaGreatMGD
import Derived.Test.YteknehlkdgamjaaGreatMGC
import Derived.Laws.CopyRow
namespace Go.Proofs.YteknehlkdgamjaaGreat
open Go.RowKit Go.Shelf

def selfTo (J : List Job) (k : Nat) : Bool := (List.range k).any fun i => aft J i i
theorem selfTo_succ (J : List Job) (k : Nat) : selfTo J (k + 1) = (selfTo J k || aft J k k) := by unfold selfTo; rw [List.range_succ, List.any_append]; simp
theorem selfTo_all (J : List Job) : selfTo J J.length = cir J := rfl
theorem selfTo_mono {J : List Job} {k m : Nat} (h : selfTo J k = true) (hkm : k ≤ m) : selfTo J m = true := by
  unfold selfTo at *
  rw [List.any_eq_true] at *
  obtain ⟨x, hx, hb⟩ := h
  rw [List.mem_range] at hx
  exact ⟨x, by rw [List.mem_range]; omega, hb⟩
/-- What open returns. -/
def Opened (J : List Job) (w : World) (e : Ending) (w' : World) : Prop :=
  ((errC J ≠ 0 ∧ e = .returned (.tuple #[.pointer none, .int .i64 (errC J)])) ∨ (errC J = 0 ∧ ∃ d, e = .returned (.tuple #[.pointer (some ⟨d, 0, none⟩), .int .i64 0]) ∧ DeskAt w' d J ∧ w.heap.size ≤ d)) ∧ Below w.heap.size w w'
theorem fine_err {J : List Job} (h : errC J = 0) : FineJ J ∧ cir J = false := by
  unfold errC at h
  split at h
  · rename_i h0
    refine ⟨fine_of h0, ?_⟩
    cases hc : cir J with
    | false => rfl
    | true => rw [hc] at h; simp at h
  · rename_i h0; exact absurd h h0
set_option maxRecDepth 100000 in
set_option maxHeartbeats 1600000 in
theorem open_any (v : Value) (J : List Job) (w : World) (hx0 : RdJ w v J) (hs : SmJ J) :
    Calls Tryz.prog 58 #[.agg #[v]] w (Opened J w) := by
  have HC := Lib.hid (fun wz (h : Below w.heap.size w wz) => pwork_any v J wz (hx0.mono h) hs)
  have HX := Lib.hid hx0
  obtain ⟨a, c, rfl⟩ := hx0.sl
  have hn := hs.1
  clear hx0 hs
  have HB0 := Lib.hid (bal (bz w) (.cells #[.slice a J.length c] 24))
  have gq : (w.alloc (.cells #[.slice a J.length c] 24)).cell? ⟨w.heap.size, 0, none⟩ = some (.slice a J.length c) := cnew rfl rfl
  have zq : w.heap.size < (w.alloc (.cells #[.slice a J.length c] 24)).heap.size := by simp
  by_cases h0 : workC J = 0
  · have HFJ := Lib.hid (fine_of h0)
    have HE : Hid (errC J = if cir J then 13 else 0) := Lib.hid (by unfold errC; rw [if_pos h0])
    rw [h0] at HC
    clear h0
    unfold Opened
    generalize errC J = q at *
    obtain ⟨n, hnn⟩ : ∃ n, n = J.length := ⟨_, rfl⟩
    have HN := Lib.hid hnn
    have HDK := Lib.hid (fun wz (h : Below w.heap.size w wz) => desk_any _ J wz (HX.out.mono h) HFJ.out)
    have h12 := HFJ.out.n12
    rw [← hnn] at gq zq hn HB0 h12 HDK HC ⊢
    clear hnn
    go_enter Tryz.func58, Tryz.ntmps58
    go_wp2_with fail
    generalize w.alloc (.cells #[.slice a n c] 24) = w3 at *
    refine (HC.out _ HB0.out).mono ?_
    rintro e w4 ⟨rfl, hB⟩
    have HB4 := Lib.hid (btr HB0.out hB)
    have gq4 := (hB.cell (p := ⟨w.heap.size, 0, none⟩) zq).trans gq
    have zq4 := Nat.lt_of_lt_of_le zq hB.size
    clear hB gq zq HB0 HC
    go_wp2_with fail
    refine (HDK.out _ HB4.out).mono ?_
    rintro e w5 ⟨d, rfl, hdk, hdz, hB⟩
    have HB5 := Lib.hid (btr HB4.out hB)
    have gq5 := (hB.cell (p := ⟨w.heap.size, 0, none⟩) zq4).trans gq4
    have HD5 := Lib.hid hdk
    have HDZ := Lib.hid (show w.heap.size ≤ d from Nat.le_trans HB4.out.size hdz)
    obtain ⟨a1, c1, g, cg, hz, h1, _, h3, hg, hm⟩ := hdk.get
    rw [← HN.out] at h3 hm
    clear hB gq4 zq4 HB4 hdk hdz h1
    go_wp2_with fail
    clear gq5
    have HS0 := Lib.hid (show selfTo J 0 = false from rfl)
    have HSS := Lib.hid (selfTo_succ J)
    have HSM := Lib.hid (fun k (hk : k ≤ n) (h : selfTo J k = true) => show q = 13 by rw [HE.out, ← selfTo_all, selfTo_mono h (by have := HN.out; omega), if_pos rfl])
    have HSE := Lib.hid (fun (h : selfTo J n = false) => show q = 0 by rw [HE.out, ← selfTo_all, ← HN.out, h]; rfl)
    clear HE
    have HMK := Lib.hid hm
    clear hm
    go_loopw [17] (fun s17 wr => ∃ k : Nat, k ≤ n ∧ s17 = .int .i64 k ∧ selfTo J k = false ∧ wr = w5) (fun s17 _ => n - (intOf s17).toNat)
    case atStart => exact ⟨0, Nat.zero_le _, rfl, HS0.out, rfl⟩
    case round =>
      obtain ⟨k, hk, rfl, ht, rfl⟩ := hrel
      have HT := Lib.hid ht
      clear ht
      by_cases hlt : k < n
      · have gm := HMK.out k k hlt (by omega)
        have HS1 := Lib.hid (show selfTo J (k + 1) = aft J k k by rw [HSS.out, HT.out, Bool.false_or])
        cases hb : aft J k k with
        | true =>
          rw [hb, if_pos rfl] at gm
          have HQ := Lib.hid (HSM.out (k + 1) (by omega) (by rw [HS1.out, hb]))
          clear hb HS1
          go_wp2_with fail
          go_ret2
          exact ⟨.inl ⟨by rw [HQ.out]; decide, by rw [HQ.out]; rfl⟩, HB5.out⟩
        | false =>
          rw [hb, if_neg (by decide)] at gm
          have HQ := Lib.hid (show selfTo J (k + 1) = false by rw [HS1.out, hb])
          clear hb HS1
          go_wp2_with fail
          go_roundw
          case rel => exact ⟨k + 1, by omega, by go_num, HQ.out, by trivial⟩
          case measure => simp [intOf]; omega
      · have hke : k = n := by omega
        have HQ := Lib.hid (HSE.out (by rw [← hke]; exact HT.out))
        clear hke
        go_wp2_with fail
        go_ret2
        exact ⟨.inr ⟨HQ.out, d, rfl, HD5.out, HDZ.out⟩, HB5.out⟩
  · have HE : Hid (errC J = workC J) := Lib.hid (by unfold errC; rw [if_neg h0])
    have t1 : (workC J != 0) = true := by simp [h0]
    have H0 := Lib.hid h0
    clear h0
    unfold Opened
    rw [HE.out]
    clear HE
    generalize workC J = p at *
    generalize J.length = n at *
    go_enter Tryz.func58, Tryz.ntmps58
    go_wp2_with fail
    generalize w.alloc (.cells #[.slice a n c] 24) = w3 at *
    refine (HC.out _ HB0.out).mono ?_
    rintro e w4 ⟨rfl, hB⟩
    have HB4 := Lib.hid (btr HB0.out hB)
    clear hB gq zq
    go_wp2_with fail
    go_ret2
    exact ⟨.inl ⟨H0.out, rfl⟩, HB4.out⟩
end Go.Proofs.YteknehlkdgamjaaGreat

namespace Go.Proofs.YteknehlkdgamjaaGreat
open Go.RowKit Go.Shelf

theorem results_cell_tmp {P : Program} {fn : Func} {p q : Tmp} {ty : TypeId} {tmps : Array Value} {w : World} {g : Nat} {v u : Value} (h : fn.results = #[.cell p ty, .tmp q]) (hp : tmps.getD p undef = .pointer (some ⟨g, 0, none⟩)) (hq : tmps.getD q undef = u)
    (hl : (loadVar ty ⟨g, 0, none⟩).run P w = .ok v w) : (results fn tmps).run P w = .ok (.tuple #[v, u]) w := by
  have hp' : tmps[p]?.getD undef = .pointer (some ⟨g, 0, none⟩) := by simpa using hp
  have hq' : tmps[q]?.getD undef = u := by simpa using hq
  simp [results, h, hp', hq', asAddr, hl]
theorem structR : Tryz.prog.underlying 32 = some (.struct (Tryz.prog.fieldsOf 32)) := by kernel_rfl
theorem load_range {w : World} {g : Nat} {x y : Value} (h : w.heap[g]? = some (.cells #[x, y] 32 (0, 0))) : (loadVar 32 ⟨g, 0, none⟩).run Tryz.prog w = .ok (.agg #[x, y]) w :=
  run_loadVar_row w g 32 32 #[x, y] (0, 0) _ h structR rfl (by kernel_rfl)
theorem pair_set {w : World} {g : Nat} {x y : Value} (h : w.heap[g]? = some (.cells #[x, y] 32 (0, 0))) (u v : Value) : ((w.setCell ⟨g, 0, none⟩ u).setCell ⟨g, 1, none⟩ v).heap[g]? = some (.cells #[u, v] 32 (0, 0)) := by
  rw [heap_setCell_same _ g 1 _ _ _ (heap_setCell_same w g 0 _ _ _ h)]; rfl
/-- The variable of a result: two numbers. -/
theorem pair_cells {w : World} {g : Nat} {x y : Value} (h : w.heap[g]? = some (.cells #[x, y] 32 (0, 0))) : w.cell? ⟨g, 0, none⟩ = some x ∧ w.cell? ⟨g, 1, none⟩ = some y ∧ w.frozen? ⟨g, 0, none⟩ = false ∧ w.frozen? ⟨g, 1, none⟩ = false :=
  ⟨by rw [cell_of_row _ _ _ _ _ _ h]; rfl, by rw [cell_of_row _ _ _ _ _ _ h]; rfl, frozen_of_row _ _ _ _ _ h, frozen_of_row _ _ _ _ _ h⟩
theorem pair_below {a w : World} {g : Nat} (h : Below a.heap.size a w) (hg : a.heap.size ≤ g) (u v : Value) : Below a.heap.size a ((w.setCell ⟨g, 0, none⟩ u).setCell ⟨g, 1, none⟩ v) :=
  bset (bset h (p := ⟨g, 0, none⟩) hg u) (p := ⟨g, 1, none⟩) hg v
def lenR (J : List Job) : Int × Int := if errC J = 0 then (takes J (loD J), takes J (hiD J)) else (0, 0)
set_option maxRecDepth 100000 in
set_option maxHeartbeats 1600000 in
theorem plength_any (v : Value) (J : List Job) (w : World) (hx0 : RdJ w v J) (hs : SmJ J) :
    Calls Tryz.prog 17 #[.agg #[v]] w fun e w' => e = .returned (.tuple #[.agg #[.int .i64 (lenR J).1, .int .i64 (lenR J).2], .int .i64 (errC J)]) ∧ Below w.heap.size w w' := by
  have HO := Lib.hid (fun wz (h : Below w.heap.size w wz) => open_any v J wz (hx0.mono h) hs)
  obtain ⟨a, c, rfl⟩ := hx0.sl
  clear hx0 hs
  generalize J.length = n at *
  have HB1 := Lib.hid (bal (bz w) (.cells #[.slice a n c] 24))
  have hrow := heap_alloc_new (w.alloc (.cells #[.slice a n c] 24)) (.cells #[.int .i64 0, .int .i64 0] 32)
  have hz : w.heap.size + 1 < ((w.alloc (.cells #[.slice a n c] 24)).alloc (.cells #[.int .i64 0, .int .i64 0] 32)).heap.size := by simp
  have hB0 := bal (bal (bz w) (.cells #[.slice a n c] 24)) (.cells #[.int .i64 0, .int .i64 0] 32)
  have HB0 := Lib.hid hB0
  rw [show (w.alloc (.cells #[.slice a n c] 24)).heap.size = w.heap.size + 1 by simp] at hrow
  have HROW := Lib.hid hrow; have HZ := Lib.hid hz
  clear hrow hB0 hz
  have HLR := Lib.hid (show lenR J = if errC J = 0 then (takes J (loD J), takes J (hiD J)) else (0, 0) from rfl)
  unfold Opened at HO
  generalize hq0 : errC J = q at *
  have HQ := Lib.hid hq0
  clear hq0
  generalize lenR J = r at *
  obtain ⟨r1, r2⟩ := r
  go_enter Tryz.func17, Tryz.ntmps17
  go_wp2_with fail
  refine (HO.out _ HB0.out).mono ?_
  rintro e w4 ⟨hO, hB⟩
  have HB4 := Lib.hid (btr HB0.out hB)
  have HR4 := Lib.hid ((hB.block (w.heap.size + 1) HZ.out).trans HROW.out)
  clear hB
  rcases hO with ⟨hq, rfl⟩ | ⟨rfl, d, rfl, hdk, hdz⟩
  · have t1 : (q != 0) = true := by simp [hq]
    rw [if_neg hq] at HLR
    have HL1 := Lib.hid (congrArg Prod.fst HLR.out); have HL2 := Lib.hid (congrArg Prod.snd HLR.out)
    clear hq HLR
    dsimp only at *
    obtain ⟨c0, c1, f0, f1⟩ := pair_cells HR4.out
    have hz4 := (Array.getElem?_eq_some_iff.1 HR4.out).1
    go_wp2_with fail
    exact bodyPost_ret (results_cell_tmp rfl rfl rfl (load_range (pair_set HR4.out _ _))) rfl ⟨by rw [HL1.out, HL2.out]; rfl, pair_below HB4.out (by omega) _ _⟩
  · rw [if_pos rfl] at HLR
    have HL1 := Lib.hid (congrArg Prod.fst HLR.out); have HL2 := Lib.hid (congrArg Prod.snd HLR.out)
    have HFI := Lib.hid (fine_err HQ.out)
    have HD := Lib.hid hdk
    have HDZ := Lib.hid hdz
    clear HLR hdk hdz
    dsimp only at *
    go_wp2_with fail
    refine (takes_any d _ _ _ J (loD J) w4 HD.out HFI.out.1 HFI.out.2 (days_low HD.out HFI.out.1)).mono ?_
    rintro e w5 ⟨rfl, hB⟩
    have HB5 := Lib.hid (btr HB4.out hB)
    have HR5 := Lib.hid ((hB.block (w.heap.size + 1) (Array.getElem?_eq_some_iff.1 HR4.out).1).trans HR4.out)
    have HD5 := Lib.hid (HD.out.mono hB)
    clear hB
    go_wp2_with fail
    refine (takes_any d _ _ _ J (hiD J) w5 HD5.out HFI.out.1 HFI.out.2 (days_high HD5.out HFI.out.1)).mono ?_
    rintro e w6 ⟨rfl, hB⟩
    have HB6 := Lib.hid (btr HB5.out hB)
    have HR6 := Lib.hid ((hB.block (w.heap.size + 1) (Array.getElem?_eq_some_iff.1 HR5.out).1).trans HR5.out)
    clear hB
    obtain ⟨c0, c1, f0, f1⟩ := pair_cells HR6.out
    have hz6 := (Array.getElem?_eq_some_iff.1 HR6.out).1
    generalize takes J (loD J) = x at *
    generalize takes J (hiD J) = y at *
    go_wp2_with fail
    exact bodyPost_ret (results_cell_tmp rfl rfl rfl (load_range (pair_set HR6.out _ _))) rfl ⟨by rw [HL1.out, HL2.out]; rfl, pair_below HB6.out (by omega) _ _⟩
end Go.Proofs.YteknehlkdgamjaaGreat

namespace Go.Proofs.YteknehlkdgamjaaGreat
open Go.RowKit Go.Shelf

theorem fnL_succ (f : Nat → Int) (n : Nat) : fnL f (n + 1) = fnL f n ++ [f n] := by simp [fnL, List.range_succ]
theorem fnL_zero (f : Nat → Int) : fnL f 0 = [] := rfl
def latF (J : List Job) (day : Int) (i : Nat) : Int := day - tl J (hiD J) i - hiD J i
def latL (J : List Job) (day : Int) : List Int := if errC J = 0 then (if day < takes J (hiD J) then [] else fnL (latF J day) J.length) else []
def latC (J : List Job) (day : Int) : Int := if errC J = 0 then (if day < takes J (hiD J) then 12 else 0) else errC J
/-- A list of int64, and an error. -/
def RetL (w : World) (xs : List Int) (q : Int) (e : Ending) (w' : World) : Prop := (∃ v, e = .returned (.tuple #[v, .int .i64 q]) ∧ RdI w' .i64 v xs) ∧ Below w.heap.size w w'
theorem hi_bd {J : List Job} (hJ : FineJ J) : ∀ i, i < J.length → hiD J i ≤ 1000 := fun i hi => (hJ.days i hi).2.2
theorem lo_bd {J : List Job} (hJ : FineJ J) : ∀ i, i < J.length → loD J i ≤ 1000 := fun i hi => by have := hJ.days i hi; unfold loD; omega
theorem hi_nn {J : List Job} (hJ : FineJ J) : ∀ i, i < J.length → 0 ≤ hiD J i := fun i hi => by have := hJ.days i hi; unfold hiD; omega
theorem lo_nn {J : List Job} (hJ : FineJ J) : ∀ i, i < J.length → 0 ≤ loD J i := fun i hi => (hJ.days i hi).1
set_option maxRecDepth 100000 in
set_option maxHeartbeats 1600000 in
theorem platest_any (v : Value) (J : List Job) (day : Int) (w : World) (hx0 : RdJ w v J) (hs : SmJ J) (hd1 : -(2 ^ 42) ≤ day) (hd2 : day ≤ 2 ^ 42) :
    Calls Tryz.prog 19 #[.agg #[v], .int .i64 day] w (RetL w (latL J day) (latC J day)) := by
  have HO := Lib.hid (fun wz (h : Below w.heap.size w wz) => open_any v J wz (hx0.mono h) hs)
  obtain ⟨a, c, rfl⟩ := hx0.sl
  clear hx0 hs
  have HB0 := Lib.hid (bal (bz w) (.cells #[.slice a J.length c] 24))
  have HL := Lib.hid (show latL J day = if errC J = 0 then (if day < takes J (hiD J) then [] else fnL (latF J day) J.length) else [] from rfl)
  have HC := Lib.hid (show latC J day = if errC J = 0 then (if day < takes J (hiD J) then 12 else 0) else errC J from rfl)
  unfold Opened at HO
  unfold RetL
  generalize latL J day = R at *
  generalize latC J day = C at *
  generalize hq0 : errC J = q at *
  have HQ := Lib.hid hq0
  clear hq0
  obtain ⟨n, hn⟩ : ∃ n, n = J.length := ⟨_, rfl⟩
  have HN := Lib.hid hn
  rw [← hn] at HO HB0 HL ⊢
  clear hn
  go_enter Tryz.func19, Tryz.ntmps19
  go_wp2_with fail
  refine (HO.out _ HB0.out).mono ?_
  rintro e w4 ⟨hO, hB⟩
  have HB4 := Lib.hid (btr HB0.out hB)
  clear hB
  rcases hO with ⟨hq, rfl⟩ | ⟨rfl, d, rfl, hdk, hdz⟩
  · have t1 : (q != 0) = true := by simp [hq]
    rw [if_neg hq] at HL HC
    clear hq
    go_wp2_with fail
    go_ret2
    exact ⟨⟨_, by rw [HC.out]; rfl, by rw [HL.out]; exact rdI_nil _ _⟩, HB4.out⟩
  · rw [if_pos rfl] at HL HC
    have HFI := Lib.hid (fine_err HQ.out)
    have HD := Lib.hid hdk
    clear hdk hdz
    have h12 : n ≤ 12 := by have := HFI.out.1.n12; have := HN.out; omega
    have HTB := Lib.hid (fun i (hi : i < n) => tl_bd HFI.out.1 (hi_bd HFI.out.1) (i := i) (by have := HN.out; omega))
    have HHB := Lib.hid (fun i (hi : i < n) => hi_bd HFI.out.1 i (by have := HN.out; omega))
    have HHN := Lib.hid (fun i (hi : i < n) => hi_nn HFI.out.1 i (by have := HN.out; omega))
    have HTN := Lib.hid (fun i => tl_nn J (hiD J) i)
    go_wp2_with fail
    refine (takes_any d _ _ _ J (hiD J) w4 HD.out HFI.out.1 HFI.out.2 (days_high HD.out HFI.out.1)).mono ?_
    rintro e w5 ⟨rfl, hB⟩
    have HB5 := Lib.hid (btr HB4.out hB)
    have HD5 := Lib.hid (HD.out.mono hB)
    clear hB
    generalize takes J (hiD J) = t at *
    by_cases hlt : day < t
    · rw [if_pos hlt] at HL HC
      go_wp2_with fail
      go_ret2
      exact ⟨⟨_, by rw [HC.out]; rfl, by rw [HL.out]; exact rdI_nil _ _⟩, HB5.out⟩
    · rw [if_neg hlt] at HL HC
      go_wp2_with fail
      refine (tails_any d _ _ _ J (hiD J) w5 HD5.out HFI.out.1 HFI.out.2 (days_high HD5.out HFI.out.1)).mono ?_
      rintro e w6 ⟨v6, rfl, hr, hB⟩
      obtain ⟨a6, c6, e6⟩ := owns_form hr
      rw [fnL_len] at e6
      subst e6
      have HB6 := Lib.hid (btr HB5.out hB)
      have HD6 := Lib.hid (HD5.out.mono hB)
      have HR6 := Lib.hid hr.rd
      rw [← HN.out] at HR6 ⊢
      clear hB hr
      have HS := Lib.hid (fun i => fnL_succ (latF J day) i)
      have HLF := Lib.hid (fun i => show latF J day i = day - tl J (hiD J) i - hiD J i from rfl)
      have HLE := Lib.hid (fun i => fnL_len (latF J day) i)
      generalize latF J day = F at *
      go_wp2_with fail
      clear hlt
      go_loopw [8, 32] (fun s8 s32 wr => ∃ k : Nat, k ≤ n ∧ s32 = .int .i64 k ∧ wr.ownsRow w6.heap.size 2 1 s8 k ((fnL F k).map (Value.int .i64)) ∧ Below w6.heap.size w6 wr) (fun _ s32 _ => n - (intOf s32).toNat)
      case atStart => exact ⟨0, Nat.zero_le _, rfl, World.ownsRow_nil _ _ _ _, bz w6⟩
      case round =>
        obtain ⟨k, hk, rfl, ho, hB⟩ := hrel
        have HO7 := Lib.hid ho; have HB7 := Lib.hid hB
        by_cases hlt : k < n
        · obtain ⟨b, o, e, hb, hc⟩ := (HR6.out.mono hB).get (by rw [fnL_len]; have := HN.out; omega)
          cases e
          have g := hc k (by rw [fnL_len]; exact hlt)
          rw [fnL_at _ hlt] at g
          have HD7 := Lib.hid (HD6.out.mono hB)
          have HCB := Lib.hid (fun wz (h : Below w6.heap.size w6 wz) => high_any d k J wz (HD6.out.mono h) (by have := HN.out; omega))
          have HF := Lib.hid (HLF.out k)
          have t1 := HTN.out k
          have t2 := HTB.out k hlt
          have d1 := HHN.out k hlt
          have d2 := HHB.out k hlt
          have hlk := HLE.out k
          have HSK := Lib.hid (HS.out k)
          have HO8 := Lib.hid (show wr.ownsRow w6.heap.size 2 1 _ (fnL F k).length ((fnL F k).map (Value.int .i64)) by rw [hlk]; exact HO7.out)
          clear hc hB ho
          generalize tl J (hiD J) k = y at *
          generalize hiD J k = z at *
          go_wp2_with fail
          refine (HCB.out _ HB7.out).mono ?_
          rintro e w8 ⟨rfl, rfl⟩
          go_wp2_with (at_builtin; refine wpList_append_num rfl _ _ rfl Tryz.underlying35 num2 HO8.out (day - y - z) rfl rfl rfl (by omega) HB7.out.size ?_)
          intro v' w' hO' hg
          have HO' := Lib.hid hO'
          have HB' := Lib.hid (show Below w6.heap.size w6 w' from append_below (bal HB7.out _) (World.ownsRow.alloc HO7.out _) hg (Nat.le_refl _))
          clear hO' hg
          go_wp2_with fail
          go_roundw
          case rel => exact ⟨k + 1, by omega, by go_num, by rw [HSK.out, HF.out, List.map_append]; exact HO'.out, HB'.out⟩
          case measure => simp [intOf]; omega
        · have hkn : k = n := by omega
          have HRF := Lib.hid (RdI.of_owns ho)
          rw [hkn] at HRF
          clear ho hB hkn
          go_wp2_with fail
          go_ret2
          exact ⟨⟨_, by rw [HC.out]; rfl, by rw [HL.out]; exact HRF.out⟩, btr HB6.out HB7.out⟩
end Go.Proofs.YteknehlkdgamjaaGreat

namespace Go.Proofs.YteknehlkdgamjaaGreat
open Go.RowKit Go.Shelf

theorem infoR : (Tryz.prog.info? 32).map (fun i => (i.zero, i.size, i.bytes)) = some (some (.agg #[.int .i64 0, .int .i64 0]), 2, 16) := by kernel_rfl
/-- Ranges of the call's own. -/
def rowR (w : World) (base : Nat) (u : Value) (V : List (Int × Int)) : Prop := w.ownsRow base 32 2 u V.length (prs V)
theorem prs_len (V : List (Int × Int)) : (prs V).length = V.length * 2 := by
  induction V with
  | nil => rfl
  | cons p V ih => simp [prs] at *; omega
theorem prs_set : ∀ (V : List (Int × Int)) (i : Nat) (x y : Int), i < V.length → ((prs V).set (i * 2) (.int .i64 x)).set (i * 2 + 1) (.int .i64 y) = prs (V.set i (x, y))
  | p :: V, 0, x, y, _ => by simp [prs]
  | p :: V, i + 1, x, y, h => by
    have ih := prs_set V i x y (by simpa using h)
    have e : prs (p :: V) = .int .i64 p.1 :: .int .i64 p.2 :: prs V := by simp [prs]
    have e2 : prs ((p :: V).set (i + 1) (x, y)) = .int .i64 p.1 :: .int .i64 p.2 :: prs (V.set i (x, y)) := by simp [prs]
    rw [e, e2, show (i + 1) * 2 = i * 2 + 1 + 1 by omega]
    simp only [List.set_cons_succ]
    rw [ih]
theorem rowR.stored {w : World} {base g n c : Nat} {V : List (Int × Int)} (h : rowR w base (.slice (some ⟨g, 0, none⟩) n c) V) {i : Nat} (hi : i < V.length) (x y : Int) : rowR ((w.setCell ⟨g, i * 2, none⟩ (.int .i64 x)).setCell ⟨g, i * 2 + 1, none⟩ (.int .i64 y)) base (.slice (some ⟨g, 0, none⟩) n c) (V.set i (x, y)) := by
  obtain ⟨a, c', e⟩ := owns_form h
  have hn : n = V.length := by simp at e; exact e.2.1
  subst hn
  have h1 := (World.ownsRow.stored h (i * 2) (.int .i64 x)).1
  have h2 := (World.ownsRow.stored h1 (i * 2 + 1) (.int .i64 y)).1
  unfold rowR
  rw [List.length_set, ← prs_set V i x y hi]
  exact h2
theorem rowR.rd {w : World} {base : Nat} {u : Value} {V : List (Int × Int)} (h : rowR w base u V) : RdP w u V := RdP.of_owns h
theorem rowR.at {w : World} {base g n c : Nat} {V : List (Int × Int)} (h : rowR w base (.slice (some ⟨g, 0, none⟩) n c) V) {i : Nat} (hi : i < V.length) : g < w.heap.size ∧ (∃ x, w.cell? ⟨g, i * 2, none⟩ = some x) ∧ (∃ x, w.cell? ⟨g, i * 2 + 1, none⟩ = some x) ∧ w.frozen? ⟨g, i * 2, none⟩ = false ∧ w.frozen? ⟨g, i * 2 + 1, none⟩ = false := by
  obtain ⟨a, c', e⟩ := owns_form h
  have hn : n = V.length := by simp at e; exact e.2.1
  subst hn
  have h1 := World.ownsRow.cellAt h (i * 2) (by omega)
  have h2 := World.ownsRow.cellAt h (i * 2 + 1) (by omega)
  rw [List.getElem?_eq_getElem (by rw [prs_len]; omega)] at h1 h2
  exact ⟨World.block_lt_of_cell? _ _ h1, ⟨_, h1⟩, ⟨_, h2⟩, World.ownsRow.frozenAt h _, World.ownsRow.frozenAt h _⟩
theorem made_pairs (n : Nat) : (madeCells #[Value.int .i64 0, Value.int .i64 0] (n * 2)).toList = prs (List.replicate n (0, 0)) := by
  apply List.ext_getElem
  · rw [prs_len]; simp [madeCells]
  · intro i h1 h2
    have h3 : i % 2 < 2 := Nat.mod_lt _ (by decide)
    have e : (prs (List.replicate n ((0, 0) : Int × Int)))[i] = Value.int .i64 0 := by
      have hm : ∀ v ∈ prs (List.replicate n ((0, 0) : Int × Int)), v = Value.int .i64 0 := fun v hv => by
        unfold prs at hv
        obtain ⟨p, hp, hv⟩ := List.mem_flatMap.1 hv
        rw [List.eq_of_mem_replicate hp] at hv
        simpa using hv
      exact hm _ (List.getElem_mem h2)
    rw [e]
    have h4 : i % 2 = 0 ∨ i % 2 = 1 := by omega
    rcases h4 with h4 | h4 <;> simp [madeCells, h4]
theorem wpList_make_ranges {w : World} {ops : Array Oper} {rest : List Oper} {o : Oper} {a : Act} {Q : Exit → Act → World → Prop} (hg : o.guard = none) (l c : Operand) (hop : o.op = Op.makeSlice 27 l c) (n : Nat) (hl : a.eval l = .int .i64 (n : Int)) (hc : a.eval c = .int .i64 (n : Int)) (hn : n ≤ 1000)
    (hK : ∀ w', rowR w' w.heap.size (.slice (some ⟨w.heap.size, 0, none⟩) n n) (List.replicate n (0, 0)) → w.grownBy w' none → wpList Tryz.prog ops Q rest (a.put o.dst (.slice (some ⟨w.heap.size, 0, none⟩) n n)) w') : wpList Tryz.prog ops Q (o :: rest) a w := by
  obtain ⟨i0, hi, hz0, hz1, hz2⟩ := info_parts infoR
  refine wpList_make_full _ hg l c 27 hop w.heap.size 32 i0 (.agg #[.int .i64 0, .int .i64 0]) 2 Tryz.underlying27 hi hz0 hz1 .i64 .i64 _ _ n hl hc rfl rfl (by rw [hz2]; omega) (by simp only [maxLen]; omega) (Nat.le_refl _) ?_
  intro w' h1 h2
  refine hK w' ?_ h2
  unfold rowR
  rw [List.length_replicate]
  have : (Value.agg #[.int .i64 0, .int .i64 0]).cells = #[Value.int .i64 0, .int .i64 0] := rfl
  rw [this, made_pairs] at h1
  exact h1
def staP (J : List Job) : List (Int × Int) := (List.range J.length).map fun i => (beg J (loD J) i, beg J (hiD J) i)
def staL (J : List Job) : List (Int × Int) := if errC J = 0 then staP J else []
theorem staP_len (J : List Job) : (staP J).length = J.length := by simp [staP]
theorem staP_ext {J : List Job} {V : List (Int × Int)} (hl : V.length = J.length) (h : ∀ j, j < J.length → V[j]? = some (beg J (loD J) j, beg J (hiD J) j)) : V = staP J := by
  apply List.ext_getElem?
  intro j
  by_cases hj : j < J.length
  · rw [h j hj]; simp [staP, hj]
  · rw [List.getElem?_eq_none (by omega), List.getElem?_eq_none (by rw [staP_len]; omega)]
/-- A list of ranges, and an error. -/
def RetR (w : World) (V : List (Int × Int)) (q : Int) (e : Ending) (w' : World) : Prop := (∃ v, e = .returned (.tuple #[v, .int .i64 q]) ∧ RdP w' v V) ∧ Below w.heap.size w w'
set_option maxRecDepth 100000 in
set_option maxHeartbeats 1600000 in
theorem pstarts_any (v : Value) (J : List Job) (w : World) (hx0 : RdJ w v J) (hs : SmJ J) :
    Calls Tryz.prog 15 #[.agg #[v]] w (RetR w (staL J) (errC J)) := by
  have HO := Lib.hid (fun wz (h : Below w.heap.size w wz) => open_any v J wz (hx0.mono h) hs)
  obtain ⟨a, c, rfl⟩ := hx0.sl
  clear hx0 hs
  have HB0 := Lib.hid (bal (bz w) (.cells #[.slice a J.length c] 24))
  have gq : (w.alloc (.cells #[.slice a J.length c] 24)).cell? ⟨w.heap.size, 0, none⟩ = some (.slice a J.length c) := cnew rfl rfl
  have zq : w.heap.size < (w.alloc (.cells #[.slice a J.length c] 24)).heap.size := by simp
  have HL := Lib.hid (show staL J = if errC J = 0 then staP J else [] from rfl)
  unfold Opened at HO
  unfold RetR
  generalize staL J = R at *
  generalize hq0 : errC J = q at *
  have HQ := Lib.hid hq0
  clear hq0
  obtain ⟨n, hn⟩ : ∃ n, n = J.length := ⟨_, rfl⟩
  have HN := Lib.hid hn
  rw [← hn] at HO HB0 gq zq ⊢
  clear hn
  go_enter Tryz.func15, Tryz.ntmps15
  go_wp2_with fail
  generalize w.alloc (.cells #[.slice a n c] 24) = w3 at *
  refine (HO.out _ HB0.out).mono ?_
  rintro e w4 ⟨hO, hB⟩
  have HB4 := Lib.hid (btr HB0.out hB)
  have HG4 := Lib.hid ((hB.cell (p := ⟨w.heap.size, 0, none⟩) zq).trans gq)
  have HZ4 := Lib.hid (Nat.lt_of_lt_of_le zq hB.size)
  clear hB gq zq
  rcases hO with ⟨hq, rfl⟩ | ⟨rfl, d, rfl, hdk, hdz⟩
  · have t1 : (q != 0) = true := by simp [hq]
    rw [if_neg hq] at HL
    clear hq
    go_wp2_with fail
    go_ret2
    exact ⟨⟨_, rfl, by rw [HL.out]; exact ⟨none, 0, rfl, Nat.le_refl _, by unfold maxLen; omega, fun h => absurd rfl h⟩⟩, HB4.out⟩
  · rw [if_pos rfl] at HL
    have HFI := Lib.hid (fine_err HQ.out)
    have HD := Lib.hid hdk
    clear hdk hdz
    have h12 : n ≤ 12 := by have := HFI.out.1.n12; have := HN.out; omega
    go_wp2_with fail
    refine (begins_any d _ _ _ J (loD J) w4 HD.out HFI.out.1 HFI.out.2 (days_low HD.out HFI.out.1)).mono ?_
    rintro e w5 ⟨v5, rfl, hr5, hB⟩
    obtain ⟨a5, c5, e5⟩ := owns_form hr5
    rw [fnL_len] at e5
    subst e5
    have HB5 := Lib.hid (btr HB4.out hB)
    have HD5 := Lib.hid (HD.out.mono hB)
    have HR5 := Lib.hid hr5.rd
    have HG5 := Lib.hid ((hB.cell (p := ⟨w.heap.size, 0, none⟩) HZ4.out).trans HG4.out)
    have HZ5 := Lib.hid (Nat.lt_of_lt_of_le HZ4.out hB.size)
    rw [← HN.out] at HR5 ⊢
    clear hB hr5
    go_wp2_with fail
    refine (begins_any d _ _ _ J (hiD J) w5 HD5.out HFI.out.1 HFI.out.2 (days_high HD5.out HFI.out.1)).mono ?_
    rintro e w6 ⟨v6, rfl, hr6, hB⟩
    obtain ⟨a6, c6, e6⟩ := owns_form hr6
    rw [fnL_len] at e6
    subst e6
    have HB6 := Lib.hid (btr HB5.out hB)
    have HR6 := Lib.hid hr6.rd
    have HR5' := Lib.hid (HR5.out.mono hB)
    have g6 := (hB.cell (p := ⟨w.heap.size, 0, none⟩) HZ5.out).trans HG5.out
    have z6 := Nat.lt_of_lt_of_le HZ5.out hB.size
    rw [← HN.out] at HR6 ⊢
    clear hB hr6
    go_upto_region 6 with (refine wpList_make_ranges rfl _ _ rfl n rfl rfl (by omega) ?_)
    intro w7 hr7 hg7
    have hB7 : Below w6.heap.size w6 w7 := bgr (bz w6) hg7 (fun k e => by cases e)
    have HB7 := Lib.hid hB7
    have HR7 := Lib.hid hr7
    have HF6 := Lib.hid (HR6.out.mono hB7); have HF5 := Lib.hid (HR5'.out.mono hB7)
    obtain ⟨g7, hg7e⟩ : ∃ g7, g7 = w6.heap.size := ⟨_, rfl⟩
    have HG7 := Lib.hid hg7e
    rw [← hg7e] at HR7 ⊢
    clear g6 z6 hr7 hg7 hB7 hg7e
    go_wp2
    have HE := Lib.hid (fun V (h : V.length = n) (h2 : ∀ j, j < n → V[j]? = some (beg J (loD J) j, beg J (hiD J) j)) => staP_ext (J := J) (by rw [h]; exact HN.out) (fun j hj => h2 j (by have := HN.out; omega)))
    go_loopw [32] (fun s32 wr => ∃ (k : Nat) (V : List (Int × Int)), k ≤ n ∧ s32 = .int .i64 k ∧ V.length = n ∧ (∀ j, j < k → V[j]? = some (beg J (loD J) j, beg J (hiD J) j)) ∧ rowR wr g7 (.slice (some ⟨g7, 0, none⟩) n n) V ∧ w7.grownBy wr (some g7)) (fun s32 _ => n - (intOf s32).toNat)
    case atStart => exact ⟨0, _, Nat.zero_le _, rfl, by simp, fun j h => by omega, HR7.out, grown_rfl _ _⟩
    case round =>
      clear HR7
      obtain ⟨k, V, hk, rfl, hl, hv, hr, hg⟩ := hrel
      have HL8 := Lib.hid hl; have HV8 := Lib.hid hv; have HR8 := Lib.hid hr; have HG8 := Lib.hid hg
      rename World => wO
      have HB8 := Lib.hid (show Below w6.heap.size w6 wO from bgr HB7.out hg (fun k e => by cases e; have := HG7.out; omega))
      by_cases hlt : k < n
      · obtain ⟨b1, o1, e, hb1, hc1⟩ := (HR6.out.mono HB8.out).get (by rw [fnL_len]; have := HN.out; omega)
        cases e
        obtain ⟨b2, o2, e, hb2, hc2⟩ := (HR5'.out.mono HB8.out).get (by rw [fnL_len]; have := HN.out; omega)
        cases e
        have g1 := hc1 k (by rw [fnL_len]; exact hlt)
        have g2 := hc2 k (by rw [fnL_len]; exact hlt)
        rw [fnL_at _ hlt] at g1 g2
        obtain ⟨gz, ⟨x1, gx⟩, ⟨x2, gy⟩, f1, f2⟩ := hr.at (i := k) (by omega)
        have HVS : Hid (∀ j, j < k + 1 → (V.set k (beg J (loD J) k, beg J (hiD J) k))[j]? = some (beg J (loD J) j, beg J (hiD J) j)) := Lib.hid (fun j hj => by
          rw [List.getElem?_set]
          by_cases e : k = j
          · subst e; rw [if_pos rfl, if_pos (by omega)]
          · rw [if_neg e]; exact hv j (by omega))
        have HRS := Lib.hid (fun wz (h : rowR wz g7 (.slice (some ⟨g7, 0, none⟩) n n) V) => h.stored (i := k) (by omega) (beg J (loD J) k) (beg J (hiD J) k))
        clear hc1 hc2 hl hv hr hg
        generalize beg J (loD J) k = x at *
        generalize beg J (hiD J) k = y at *
        go_upto_region 9 with fail
        refine wp_region_flow [] [([0, 1, 2, 3, 4, 5, 6, 7, 8, 9, 10, 11], 12, false)] [] (by kernel_rfl) (by kernel_rfl) ?_
        intro wc hBc hh
        have HRC := Lib.hid (show rowR wc g7 (.slice (some ⟨g7, 0, none⟩) n n) V from owns_kept HR8.out hBc)
        have HGC := Lib.hid (show w7.grownBy wc (some g7) from ⟨hBc.os.trans HG8.out.os, hBc.tape.trans HG8.out.tape, hBc.output.trans HG8.out.output, Nat.le_trans HG8.out.size hBc.size, fun r h1 h2 => (hBc.block r (Nat.lt_of_lt_of_le h1 HG8.out.size)).trans (HG8.out.block r h1 h2)⟩)
        clear hh
        have hL := @Later.cell wc
        have k1 := (hBc.cell (p := ⟨b1, _, none⟩) hb1).trans g1
        have k2 := (hBc.cell (p := ⟨b2, _, none⟩) hb2).trans g2
        have z1 := Nat.lt_of_lt_of_le hb1 hBc.size
        have z2 := Nat.lt_of_lt_of_le hb2 hBc.size
        have k3 := (hBc.cell (p := ⟨g7, _, none⟩) gz).trans gx
        have k4 := (hBc.cell (p := ⟨g7, _, none⟩) gz).trans gy
        have f3 := (hBc.frozen (p := ⟨g7, k * 2, none⟩) gz).trans f1
        have f4 := (hBc.frozen (p := ⟨g7, k * 2 + 1, none⟩) gz).trans f2
        have z3 := Nat.lt_of_lt_of_le gz hBc.size
        clear hBc g1 g2 hb1 hb2 gx gy f1 f2 gz
        simp only [flowP, flow, pickL, List.getElem?_cons_succ, List.getElem?_cons_zero]
        refine wpQuiet_nil ?_
        repeat (go_big_quiet_step (fail))
        refine wpQuiet_nil ?_
        go_wp2
        refine seg_write ?_
        refine wpQuiet_nil ?_
        refine only_done ?_
        clear hL k1 k2 z1 z2 k3 k4 f3 f4
        go_wp2_with fail
        go_roundw
        case rel => exact ⟨k + 1, _, by omega, by go_num, by rw [List.length_set]; exact HL8.out, HVS.out, HRS.out _ HRC.out, grown_set (grown_set HGC.out)⟩
        case measure => simp [intOf]; omega
      · have hkn : k = n := by omega
        have HVE := Lib.hid (HE.out V hl (by rw [← hkn]; exact hv))
        clear hl hv hr hg hkn
        go_wp2_with fail
        go_ret2
        exact ⟨⟨_, rfl, by rw [HL.out, ← HVE.out]; exact HR8.out.rd⟩, btr HB6.out HB8.out⟩
end Go.Proofs.YteknehlkdgamjaaGreat

namespace Go.Proofs.YteknehlkdgamjaaGreat
open Go.RowKit Go.Shelf

/-- Job i of a list waits for the one before it. -/
def stepOk (J : List Job) (l : List Int) (i : Nat) : Bool := i == 0 || (job J (elt l i).toNat).ws.contains (elt l (i - 1))
def chTo (J : List Job) (l : List Int) (k : Nat) : Bool := (List.range k).all (stepOk J l)
theorem chTo_succ (J : List Job) (l : List Int) (k : Nat) : chTo J l (k + 1) = (chTo J l k && stepOk J l k) := by unfold chTo; rw [List.range_succ, List.all_append]; simp
theorem chTo_false {J : List Job} {l : List Int} {k m : Nat} (h : chTo J l k = false) (hkm : k ≤ m) : chTo J l m = false := by
  induction hkm with
  | refl => exact h
  | step _ ih => rw [chTo_succ, ih]; rfl
/-- The days of the first k jobs of a list. -/
def sumTo (D : Nat → Int) (l : List Int) : Nat → Int
  | 0 => 0
  | k + 1 => sumTo D l k + D (elt l k).toNat
def chainC (J : List Job) (l : List Int) : Int := if errC J = 0 then (if l.length = 0 then 6 else if isJ J.length l then (if chTo J l l.length then 0 else 16) else 3) else errC J
def chainV (J : List Job) (l : List Int) : Int × Int := if chainC J l = 0 then (sumTo (loD J) l l.length, sumTo (hiD J) l l.length) else (0, 0)
theorem sumTo_bd {D : Nat → Int} {n : Nat} (hD : ∀ i, i < n → 0 ≤ D i ∧ D i ≤ 1000) {l : List Int} (hl : ∀ i, i < l.length → 0 ≤ elt l i ∧ elt l i < n) : ∀ {k : Nat}, k ≤ l.length → 0 ≤ sumTo D l k ∧ sumTo D l k ≤ 1000 * k
  | 0, _ => by simp [sumTo]
  | k + 1, h => by
    have h1 := sumTo_bd hD hl (k := k) (by omega)
    have h2 := hl k (by omega)
    have h3 := hD (elt l k).toNat (by omega)
    unfold sumTo; omega
/-- A range, and an error. -/
def RetP (w : World) (p : Int × Int) (q : Int) (e : Ending) (w' : World) : Prop := e = .returned (.tuple #[.agg #[.int .i64 p.1, .int .i64 p.2], .int .i64 q]) ∧ Below w.heap.size w w'
set_option maxRecDepth 100000 in
set_option maxHeartbeats 3200000 in
theorem pcheckchain_any (v x : Value) (J : List Job) (l : List Int) (w : World) (hx0 : RdJ w v J) (hy0 : RdI w .i64 x l) (hl : l.length ≤ 1000) (hs : SmJ J) :
    Calls Tryz.prog 23 #[.agg #[v], x] w (RetP w (chainV J l) (chainC J l)) := by
  have HO := Lib.hid (fun wz (h : Below w.heap.size w wz) => open_any v J wz (hx0.mono h) hs)
  have HI := Lib.hid (fun wz (h : Below w.heap.size w wz) => within_any x l 0 ((J.length : Int) - 1) wz (hy0.mono h) hl)
  have HIE : Hid ((!l.any (outB 0 ((J.length : Int) - 1))) = isJ J.length l) := Lib.hid rfl
  rw [HIE.out] at HI
  have HIJ := Lib.hid (isJ_iff J.length l)
  clear HIE
  have HX := Lib.hid hx0; have HY := Lib.hid hy0
  obtain ⟨a, c, rfl⟩ := hx0.sl
  obtain ⟨ax, cx, rfl, _, hcm, hx⟩ := hy0.form
  have HSM := Lib.hid hs.2
  have hsn := hs.1
  clear hx0 hs hy0 hcm hx
  obtain ⟨n, hn⟩ : ∃ n, n = J.length := ⟨_, rfl⟩
  have HN := Lib.hid hn
  have HC := Lib.hid (show chainC J l = if errC J = 0 then (if l.length = 0 then 6 else if isJ J.length l then (if chTo J l l.length then 0 else 16) else 3) else errC J from rfl)
  have HV := Lib.hid (show chainV J l = if chainC J l = 0 then (sumTo (loD J) l l.length, sumTo (hiD J) l l.length) else (0, 0) from rfl)
  rw [← hn] at HO HI HIJ HC hsn ⊢
  clear hn
  have HB1 := Lib.hid (bal (bz w) (.cells #[.slice a n c] 24))
  have gq : (w.alloc (.cells #[.slice a n c] 24)).cell? ⟨w.heap.size, 0, none⟩ = some (.slice a n c) := cnew rfl rfl
  have hrow := heap_alloc_new (w.alloc (.cells #[.slice a n c] 24)) (.cells #[.int .i64 0, .int .i64 0] 32)
  have hz : w.heap.size + 1 < ((w.alloc (.cells #[.slice a n c] 24)).alloc (.cells #[.int .i64 0, .int .i64 0] 32)).heap.size := by simp
  have HB0 := Lib.hid (bal (bal (bz w) (.cells #[.slice a n c] 24)) (.cells #[.int .i64 0, .int .i64 0] 32))
  rw [show (w.alloc (.cells #[.slice a n c] 24)).heap.size = w.heap.size + 1 by simp] at hrow
  have HGQ := Lib.hid (cal (.cells #[.int .i64 0, .int .i64 0] 32) gq)
  have HROW := Lib.hid hrow; have HZ := Lib.hid hz
  clear hrow hz gq HB1
  unfold Opened at HO
  unfold RetP
  generalize hq0 : errC J = q at *
  have HQ := Lib.hid hq0
  clear hq0
  generalize chainC J l = C at *
  generalize chainV J l = V at *
  obtain ⟨V1, V2⟩ := V
  generalize isJ n l = ij at *
  go_enter Tryz.func23, Tryz.ntmps23
  go_wp2_with fail
  refine (HO.out _ HB0.out).mono ?_
  rintro e w4 ⟨hO, hB⟩
  have HB4 := Lib.hid (btr HB0.out hB)
  have HR4 := Lib.hid ((hB.block (w.heap.size + 1) HZ.out).trans HROW.out)
  have g4 := (hB.cell (p := ⟨w.heap.size, 0, none⟩) (by show w.heap.size < _; have := HZ.out; omega)).trans HGQ.out
  have z4 : w.heap.size < w4.heap.size := by have := hB.size; have := HZ.out; omega
  clear hB HGQ HROW HZ HB0 HO
  have fin0 : ∀ (q0 : Int), q0 ≠ 0 → C = q0 → (V1, V2) = ((0, 0) : Int × Int) := fun q0 h1 h2 => by rw [HV.out, if_neg (by rw [h2]; exact h1)]
  have HF0 := Lib.hid fin0
  clear fin0
  rcases hO with ⟨hq, rfl⟩ | ⟨rfl, d, rfl, hdk, hdz⟩
  · have t1 : (q != 0) = true := by simp [hq]
    rw [if_neg hq] at HC
    have HVV := Lib.hid (HF0.out q hq HC.out)
    have HL1 := Lib.hid (congrArg Prod.fst HVV.out); have HL2 := Lib.hid (congrArg Prod.snd HVV.out)
    clear hq HVV
    dsimp only at *
    obtain ⟨c0, c1, f0, f1⟩ := pair_cells HR4.out
    have hz4 := (Array.getElem?_eq_some_iff.1 HR4.out).1
    go_wp2_with fail
    exact bodyPost_ret (results_cell_tmp rfl rfl rfl (load_range (pair_set HR4.out _ _))) rfl ⟨by rw [HL1.out, HL2.out, HC.out]; rfl, pair_below HB4.out (by omega) _ _⟩
  · rw [if_pos rfl] at HC
    have HFI := Lib.hid (fine_err HQ.out)
    have HD := Lib.hid hdk
    clear hdk hdz
    by_cases h0 : l.length = 0
    · have d1 : ((l.length : Int) == 0) = true := by simp [h0]
      have d2 : (l.length == 0) = true := by simp [h0]
      rw [if_pos h0] at HC
      have HVV := Lib.hid (HF0.out 6 (by decide) HC.out)
      have HL1 := Lib.hid (congrArg Prod.fst HVV.out); have HL2 := Lib.hid (congrArg Prod.snd HVV.out)
      clear h0 HVV
      dsimp only at *
      obtain ⟨c0, c1, f0, f1⟩ := pair_cells HR4.out
      have hz4 := (Array.getElem?_eq_some_iff.1 HR4.out).1
      go_wp2_with fail
      exact bodyPost_ret (results_cell_tmp rfl rfl rfl (load_range (pair_set HR4.out _ _))) rfl ⟨by rw [HL1.out, HL2.out, HC.out]; rfl, pair_below HB4.out (by omega) _ _⟩
    · have d1 : ((l.length : Int) == 0) = false := by simp; exact fun e => h0 (by simp [e])
      have d2 : (l.length == 0) = false := by simp; exact fun e => h0 (by simp [e])
      rw [if_neg h0] at HC
      have HL0 := Lib.hid h0
      clear h0
      go_wp2_with fail
      refine (HI.out _ HB4.out).mono ?_
      rintro e w5 ⟨rfl, hB⟩
      have HB5 := Lib.hid (btr HB4.out hB)
      have HR5 := Lib.hid ((hB.block (w.heap.size + 1) (Array.getElem?_eq_some_iff.1 HR4.out).1).trans HR4.out)
      have g5 := (hB.cell (p := ⟨w.heap.size, 0, none⟩) z4).trans g4
      have z5 := Nat.lt_of_lt_of_le z4 hB.size
      have HD5 := Lib.hid (HD.out.mono hB)
      clear hB g4 z4
      cases ij with
      | false =>
        have HC2 := Lib.hid (show C = 3 by rw [HC.out]; rfl)
        have HVV := Lib.hid (HF0.out 3 (by decide) HC2.out)
        have HL1 := Lib.hid (congrArg Prod.fst HVV.out); have HL2 := Lib.hid (congrArg Prod.snd HVV.out)
        clear HVV
        dsimp only at *
        obtain ⟨c0, c1, f0, f1⟩ := pair_cells HR5.out
        have hz4 := (Array.getElem?_eq_some_iff.1 HR5.out).1
        go_wp2_with fail
        exact bodyPost_ret (results_cell_tmp rfl rfl rfl (load_range (pair_set HR5.out _ _))) rfl ⟨by rw [HL1.out, HL2.out, HC2.out]; rfl, pair_below HB5.out (by omega) _ _⟩
      | true =>
        have HC2 := Lib.hid (show C = if chTo J l l.length then 0 else 16 by rw [HC.out]; rfl)
        have HJJ := Lib.hid (HIJ.out.1 rfl)
        go_wp2_with fail
        have HO6 := Lib.hid (heap_alloc_new w5 (.cells #[.int .i64 0, .int .i64 0] 32))
        have HR6 := Lib.hid ((Below.heap_alloc w5 (.cells #[.int .i64 0, .int .i64 0] 32) (w.heap.size + 1) (Array.getElem?_eq_some_iff.1 HR5.out).1).trans HR5.out)
        have HB6 := Lib.hid (bal (bz w5) (.cells #[.int .i64 0, .int .i64 0] 32))
        generalize w5.alloc (.cells #[.int .i64 0, .int .i64 0] 32) = w6 at *
        obtain ⟨ob, hob⟩ : ∃ ob, ob = w5.heap.size := ⟨_, rfl⟩
        have HOB := Lib.hid hob
        have hobz : w.heap.size + 1 < ob := by rw [hob]; exact (Array.getElem?_eq_some_iff.1 HR5.out).1
        rw [← hob] at HO6 ⊢
        clear hob d1 d2
        have HDB := Lib.hid (fun i (hi : i < n) => show (0 ≤ loD J i ∧ loD J i ≤ 1000) ∧ (0 ≤ hiD J i ∧ hiD J i ≤ 1000) from ⟨⟨lo_nn HFI.out.1 i (by have := HN.out; omega), lo_bd HFI.out.1 i (by have := HN.out; omega)⟩, hi_nn HFI.out.1 i (by have := HN.out; omega), hi_bd HFI.out.1 i (by have := HN.out; omega)⟩)
        have HSB := Lib.hid (fun k (hk : k ≤ l.length) => show (0 ≤ sumTo (loD J) l k ∧ sumTo (loD J) l k ≤ 1000 * k) ∧ (0 ≤ sumTo (hiD J) l k ∧ sumTo (hiD J) l k ≤ 1000 * k) from ⟨sumTo_bd (n := n) (fun i hi => (HDB.out i hi).1) HJJ.out hk, sumTo_bd (n := n) (fun i hi => (HDB.out i hi).2) HJJ.out hk⟩)
        go_loopw [37] (fun s37 wr => ∃ k : Nat, k ≤ l.length ∧ s37 = .int .i64 k ∧ chTo J l k = true ∧ wr.heap[ob]? = some (.cells #[.int .i64 (sumTo (loD J) l k), .int .i64 (sumTo (hiD J) l k)] 32 (0, 0)) ∧ Below w5.heap.size w5 wr) (fun s37 _ => l.length - (intOf s37).toNat)
        case atStart => exact ⟨0, Nat.zero_le _, rfl, rfl, HO6.out, HB6.out⟩
        case round =>
          clear HO6 HB6 HR6
          obtain ⟨k, hk, rfl, ht, ho, hB⟩ := hrel
          have HT := Lib.hid ht; have HOR := Lib.hid ho; have HBR := Lib.hid hB
          rename World => wP
          have HRR := Lib.hid ((hB.block (w.heap.size + 1) (Array.getElem?_eq_some_iff.1 HR5.out).1).trans HR5.out)
          have gr := (hB.cell (p := ⟨w.heap.size, 0, none⟩) z5).trans g5
          have zr := Nat.lt_of_lt_of_le z5 hB.size
          clear ht ho hB
          by_cases hlt : k < l.length
          · obtain ⟨bx, ox, e, hbx, hcx⟩ := (HY.out.mono (btr HB5.out HBR.out)).get (by omega)
            subst e
            obtain ⟨v1, v2⟩ := HJJ.out k hlt
            obtain ⟨p, hp⟩ := Int.eq_ofNat_of_zero_le v1
            have hpn : p < n := by omega
            have hpt : (elt l k).toNat = p := by omega
            have gx := hcx k hlt
            obtain ⟨b, o, a', c', e, hb, g1, g2, g3, hr⟩ := (HX.out.mono (btr HB5.out HBR.out)).get p (by have := HN.out; omega)
            subst e
            have HR := Lib.hid hr
            have HW := Lib.hid (HSM.out p)
            have HST := Lib.hid (show chTo J l (k + 1) = (k == 0 || (job J p).ws.contains (elt l (k - 1))) by rw [chTo_succ, HT.out, Bool.true_and]; unfold stepOk; rw [hpt])
            have HFA := Lib.hid (fun h : chTo J l (k + 1) = false => chTo_false h hlt)
            have HS1 := Lib.hid (show sumTo (loD J) l (k + 1) = sumTo (loD J) l k + loD J p by rw [sumTo, hpt])
            have HS2 := Lib.hid (show sumTo (hiD J) l (k + 1) = sumTo (hiD J) l k + hiD J p by rw [sumTo, hpt])
            obtain ⟨⟨s1, s2⟩, ⟨s3, s4⟩⟩ := HSB.out k hk
            obtain ⟨⟨p1, p2⟩, ⟨p3, p4⟩⟩ := HDB.out p hpn
            have gy : ∀ (h : 0 < k), wP.cell? ⟨bx, ox + (k - 1), none⟩ = some (.int .i64 (elt l (k - 1))) := fun h => hcx (k - 1) (by omega)
            have HGY := Lib.hid gy
            rw [hp] at gx
            obtain ⟨c0, c1, f0, f1⟩ := pair_cells HOR.out
            have hzo := (Array.getElem?_eq_some_iff.1 HOR.out).1
            have HLO := Lib.hid (fun wz (h : Below w5.heap.size w5 wz) => low_any d p J wz (HD5.out.mono h) (by have := HN.out; omega))
            have HHI := Lib.hid (fun wz (h : Below w5.heap.size w5 wz) => high_any d p J wz (HD5.out.mono h) (by have := HN.out; omega))
            clear hcx hr g1 g2 v1 v2 hp hpt gy
            generalize sumTo (loD J) l k = sl at *
            generalize sumTo (hiD J) l k = sh at *
            generalize loD J p = pl at *
            generalize hiD J p = ph at *
            generalize (job J p).ws = ws at *
            generalize elt l (k - 1) = y at *
            obtain ⟨m, hm⟩ : ∃ m, m = ws.length := ⟨_, rfl⟩
            rw [← hm] at g3 HR
            clear hm
            by_cases hk0 : k = 0
            · have d1 : decide (0 < (k : Int)) = false := by simp; omega
              have d2 : decide (0 < k) = false := by simp; omega
              have HCH := Lib.hid (show chTo J l (k + 1) = true by rw [HST.out, hk0]; rfl)
              clear hk0
              go_upto_region 12 with fail
              go_quiet (fail)
              have HBT := Lib.hid (btr HBR.out (Below.drewN' nq (bz wP)))
              have HOT := Lib.hid (((Below.drewN' nq (bz wP)).block ob hzo).trans HOR.out)
              generalize wP.drewN nq = wT at *
              clear gr zr gx g3 hbx hb c0 c1 f0 f1 hzo
              go_upto_region 14 with fail
              refine wp_region_flow [] [([0, 1, 2, 3], 4, true), ([5, 6], 7, false)] [] (by kernel_rfl) (by kernel_rfl) ?_
              intro wd hBd hh
              clear hh
              have HBD := Lib.hid (btr HBT.out hBd)
              have HOD := Lib.hid ((hBd.block ob (Array.getElem?_eq_some_iff.1 HOT.out).1).trans HOT.out)
              have hL := @Later.cell wd
              obtain ⟨c0, c1, f0, f1⟩ := pair_cells HOD.out
              have hzo := (Array.getElem?_eq_some_iff.1 HOD.out).1
              have HO2 := Lib.hid (show (wd.setCell ⟨ob, 0, none⟩ (.int .i64 (sl + pl))).heap[ob]? = some (.cells #[.int .i64 (sl + pl), .int .i64 sh] 32 (0, 0)) from heap_setCell_same _ ob 0 _ _ _ HOD.out)
              have HB2 := Lib.hid (show Below w5.heap.size w5 (wd.setCell ⟨ob, 0, none⟩ (.int .i64 (sl + pl))) from bset HBD.out (p := ⟨ob, 0, none⟩) (by show w5.heap.size ≤ ob; have := HOB.out; omega) _)
              clear hBd
              simp only [flowP, flow, pickL, List.getElem?_cons_succ, List.getElem?_cons_zero]
              refine wpQuiet_nil ?_
              repeat (go_big_quiet_step (fail))
              refine wpQuiet_nil ?_
              go_wp2_with fail
              refine (HLO.out _ HBD.out).mono ?_
              rintro e w8 ⟨rfl, h8⟩
              subst h8
              go_wp2
              refine seg_grow ⟨⟨_, bz _⟩, rfl⟩ ?_
              repeat (go_big_quiet_step (fail))
              refine wpQuiet_nil ?_
              clear hL
              go_wp2
              refine seg_write ?_
              refine wpQuiet_nil ?_
              refine only_done ?_
              generalize World.setCell _ _ _ = w9 at *
              clear c0 c1 f0 f1 hzo
              go_upto_region 15 with fail
              refine wp_region_flow [] [([0, 1, 2, 3], 4, true), ([5, 6], 7, false)] [] (by kernel_rfl) (by kernel_rfl) ?_
              intro wd hBd hh
              clear hh
              have HBD := Lib.hid (btr HB2.out hBd)
              have HOD := Lib.hid ((hBd.block ob (Array.getElem?_eq_some_iff.1 HO2.out).1).trans HO2.out)
              have hL := @Later.cell wd
              obtain ⟨c0, c1, f0, f1⟩ := pair_cells HOD.out
              have hzo := (Array.getElem?_eq_some_iff.1 HOD.out).1
              have HO3 := Lib.hid (show (wd.setCell ⟨ob, 1, none⟩ (.int .i64 (sh + ph))).heap[ob]? = some (.cells #[.int .i64 (sl + pl), .int .i64 (sh + ph)] 32 (0, 0)) from heap_setCell_same _ ob 1 _ _ _ HOD.out)
              have HB3 := Lib.hid (show Below w5.heap.size w5 (wd.setCell ⟨ob, 1, none⟩ (.int .i64 (sh + ph))) from bset HBD.out (p := ⟨ob, 1, none⟩) (by show w5.heap.size ≤ ob; have := HOB.out; omega) _)
              clear hBd
              simp only [flowP, flow, pickL, List.getElem?_cons_succ, List.getElem?_cons_zero]
              refine wpQuiet_nil ?_
              repeat (go_big_quiet_step (fail))
              refine wpQuiet_nil ?_
              go_wp2_with fail
              refine (HHI.out _ HBD.out).mono ?_
              rintro e w8 ⟨rfl, h8⟩
              subst h8
              go_wp2
              refine seg_grow ⟨⟨_, bz _⟩, rfl⟩ ?_
              repeat (go_big_quiet_step (fail))
              refine wpQuiet_nil ?_
              clear hL
              go_wp2
              refine seg_write ?_
              refine wpQuiet_nil ?_
              refine only_done ?_
              generalize World.setCell _ _ _ = w10 at *
              clear c0 c1 f0 f1 hzo
              go_wp2_with fail
              go_roundw
              case rel => exact ⟨k + 1, by omega, by go_num, HCH.out, by rw [HS1.out, HS2.out]; exact HO3.out, HB3.out⟩
              case measure => simp [intOf]; omega
            · have d1 : decide (0 < (k : Int)) = true := by simp; omega
              have d2 : decide (0 < k) = true := by simp; omega
              have gy := HGY.out (by omega)
              have hkk : ((k : Int) - 1) = ((k - 1 : Nat) : Int) := by omega
              have hk1 : (k == 0) = false := by simp [hk0]
              rw [hk1, Bool.false_or] at HST
              clear hk1
              go_upto_region 12 with fail
              refine wp_region_flow [] [([0, 1, 2, 3, 4, 5, 6, 7, 8, 9, 10, 11, 12, 13], 14, true)] [15, 16] (by kernel_rfl) (by kernel_rfl) ?_
              intro wc hBc hh
              clear hh
              have HBT := Lib.hid (btr HBR.out hBc)
              have HOT := Lib.hid ((hBc.block ob hzo).trans HOR.out)
              have HRC := Lib.hid (HR.out.mono hBc)
              have hL := @Later.cell wc
              have k1 := (hBc.cell (p := ⟨bx, ox + (k - 1), none⟩) hbx).trans gy
              have k3 := (hBc.cell (p := ⟨b, o + p * 3 + 2, none⟩) hb).trans g3
              have k4 := (hBc.cell (p := ⟨w.heap.size, 0, none⟩) zr).trans gr
              have z1 := Nat.lt_of_lt_of_le hbx hBc.size
              have z2 := Nat.lt_of_lt_of_le hb hBc.size
              have z3 := Nat.lt_of_lt_of_le zr hBc.size
              clear hBc gx gy g3 gr hbx hb zr c0 c1 f0 f1 hzo
              simp only [flowP, flow, pickL, List.getElem?_cons_succ, List.getElem?_cons_zero]
              refine wpQuiet_nil ?_
              repeat (go_big_quiet_step (fail))
              refine wpQuiet_nil ?_
              go_wp2_with fail
              refine (contains_any _ ws y wc HRC.out (by have := HW.out; omega)).mono ?_
              rintro e w6 ⟨rfl, h8⟩
              subst h8
              clear hL k1 k3 k4 z1 z2 z3
              cases hct : ws.contains y with
              | true =>
                have HCH := Lib.hid (show chTo J l (k + 1) = true by rw [HST.out, hct])
                clear hct
                go_wp2
                refine seg_grow ⟨⟨_, bz _⟩, rfl⟩ ?_
                repeat (go_big_quiet_step (fail))
                refine wpQuiet_nil ?_
                refine only_done ?_
                go_upto_region 14 with fail
                refine wp_region_flow [] [([0, 1, 2, 3], 4, true), ([5, 6], 7, false)] [] (by kernel_rfl) (by kernel_rfl) ?_
                intro wd hBd hh
                clear hh
                have HBD := Lib.hid (btr HBT.out hBd)
                have HOD := Lib.hid ((hBd.block ob (Array.getElem?_eq_some_iff.1 HOT.out).1).trans HOT.out)
                have hL := @Later.cell wd
                obtain ⟨c0, c1, f0, f1⟩ := pair_cells HOD.out
                have hzo := (Array.getElem?_eq_some_iff.1 HOD.out).1
                have HO2 := Lib.hid (show (wd.setCell ⟨ob, 0, none⟩ (.int .i64 (sl + pl))).heap[ob]? = some (.cells #[.int .i64 (sl + pl), .int .i64 sh] 32 (0, 0)) from heap_setCell_same _ ob 0 _ _ _ HOD.out)
                have HB2 := Lib.hid (show Below w5.heap.size w5 (wd.setCell ⟨ob, 0, none⟩ (.int .i64 (sl + pl))) from bset HBD.out (p := ⟨ob, 0, none⟩) (by show w5.heap.size ≤ ob; have := HOB.out; omega) _)
                clear hBd
                simp only [flowP, flow, pickL, List.getElem?_cons_succ, List.getElem?_cons_zero]
                refine wpQuiet_nil ?_
                repeat (go_big_quiet_step (fail))
                refine wpQuiet_nil ?_
                go_wp2_with fail
                refine (HLO.out _ HBD.out).mono ?_
                rintro e w8 ⟨rfl, h8⟩
                subst h8
                go_wp2
                refine seg_grow ⟨⟨_, bz _⟩, rfl⟩ ?_
                repeat (go_big_quiet_step (fail))
                refine wpQuiet_nil ?_
                clear hL
                go_wp2
                refine seg_write ?_
                refine wpQuiet_nil ?_
                refine only_done ?_
                generalize World.setCell _ _ _ = w9 at *
                clear c0 c1 f0 f1 hzo
                go_upto_region 15 with fail
                refine wp_region_flow [] [([0, 1, 2, 3], 4, true), ([5, 6], 7, false)] [] (by kernel_rfl) (by kernel_rfl) ?_
                intro wd hBd hh
                clear hh
                have HBD := Lib.hid (btr HB2.out hBd)
                have HOD := Lib.hid ((hBd.block ob (Array.getElem?_eq_some_iff.1 HO2.out).1).trans HO2.out)
                have hL := @Later.cell wd
                obtain ⟨c0, c1, f0, f1⟩ := pair_cells HOD.out
                have hzo := (Array.getElem?_eq_some_iff.1 HOD.out).1
                have HO3 := Lib.hid (show (wd.setCell ⟨ob, 1, none⟩ (.int .i64 (sh + ph))).heap[ob]? = some (.cells #[.int .i64 (sl + pl), .int .i64 (sh + ph)] 32 (0, 0)) from heap_setCell_same _ ob 1 _ _ _ HOD.out)
                have HB3 := Lib.hid (show Below w5.heap.size w5 (wd.setCell ⟨ob, 1, none⟩ (.int .i64 (sh + ph))) from bset HBD.out (p := ⟨ob, 1, none⟩) (by show w5.heap.size ≤ ob; have := HOB.out; omega) _)
                clear hBd
                simp only [flowP, flow, pickL, List.getElem?_cons_succ, List.getElem?_cons_zero]
                refine wpQuiet_nil ?_
                repeat (go_big_quiet_step (fail))
                refine wpQuiet_nil ?_
                go_wp2_with fail
                refine (HHI.out _ HBD.out).mono ?_
                rintro e w8 ⟨rfl, h8⟩
                subst h8
                go_wp2
                refine seg_grow ⟨⟨_, bz _⟩, rfl⟩ ?_
                repeat (go_big_quiet_step (fail))
                refine wpQuiet_nil ?_
                clear hL
                go_wp2
                refine seg_write ?_
                refine wpQuiet_nil ?_
                refine only_done ?_
                generalize World.setCell _ _ _ = w10 at *
                clear c0 c1 f0 f1 hzo
                go_wp2_with fail
                go_roundw
                case rel => exact ⟨k + 1, by omega, by go_num, HCH.out, by rw [HS1.out, HS2.out]; exact HO3.out, HB3.out⟩
                case measure => simp [intOf]; omega
              | false =>
                have HC3 := Lib.hid (show C = 16 by rw [HC2.out, HFA.out (by rw [HST.out, hct])]; rfl)
                have HVV := Lib.hid (HF0.out 16 (by decide) HC3.out)
                have HL1 := Lib.hid (congrArg Prod.fst HVV.out); have HL2 := Lib.hid (congrArg Prod.snd HVV.out)
                clear HVV hct
                dsimp only at *
                go_wp2
                refine seg_grow ⟨⟨_, bz _⟩, rfl⟩ ?_
                repeat (go_big_quiet_step (fail))
                refine wpQuiet_nil ?_
                refine only_done ?_
                have HRT := Lib.hid ((HBT.out.block (w.heap.size + 1) (Array.getElem?_eq_some_iff.1 HR5.out).1).trans HR5.out)
                obtain ⟨c0, c1, f0, f1⟩ := pair_cells HRT.out
                have hz4 := (Array.getElem?_eq_some_iff.1 HRT.out).1
                go_wp2_with fail
                exact bodyPost_ret (results_cell_tmp rfl rfl rfl (load_range (pair_set HRT.out _ _))) rfl ⟨by rw [HL1.out, HL2.out, HC3.out]; rfl, pair_below (btr HB5.out HBT.out) (by omega) _ _⟩
          · have hkl : k = l.length := by omega
            have HC3 := Lib.hid (show C = 0 by rw [HC2.out, ← hkl, HT.out]; rfl)
            have HVV := Lib.hid (show (V1, V2) = (sumTo (loD J) l k, sumTo (hiD J) l k) by rw [HV.out, if_pos HC3.out, hkl])
            have HL1 := Lib.hid (congrArg Prod.fst HVV.out); have HL2 := Lib.hid (congrArg Prod.snd HVV.out)
            clear HVV hkl gr zr
            dsimp only at *
            generalize sumTo (loD J) l k = sl at *
            generalize sumTo (hiD J) l k = sh at *
            obtain ⟨c0, c1, f0, f1⟩ := pair_cells HRR.out
            have hz4 := (Array.getElem?_eq_some_iff.1 HRR.out).1
            obtain ⟨c2, c3, _, _⟩ := pair_cells HOR.out
            have hz5 := (Array.getElem?_eq_some_iff.1 HOR.out).1
            go_wp2_with fail
            exact bodyPost_ret (results_cell_tmp rfl rfl rfl (load_range (pair_set HRR.out _ _))) rfl ⟨by rw [HL1.out, HL2.out, HC3.out]; rfl, pair_below (btr HB5.out HBR.out) (by omega) _ _⟩
end Go.Proofs.YteknehlkdgamjaaGreat

namespace Go.Proofs.YteknehlkdgamjaaGreat
open Go.RowKit Go.Shelf

set_option maxRecDepth 100000 in
set_option maxHeartbeats 3200000 in
theorem mul64_any (n : Nat) (h1 : 1 ≤ n) (h2 : n ≤ 12) (w : World) :
    Calls Tryz.prog 127 #[.int .u64 1, .int .u64 (n : Int)] w fun e w' => e = .returned (.tuple #[.int .u64 0, .int .u64 (n : Int)]) ∧ w' = w := by
  have : n = 1 ∨ n = 2 ∨ n = 3 ∨ n = 4 ∨ n = 5 ∨ n = 6 ∨ n = 7 ∨ n = 8 ∨ n = 9 ∨ n = 10 ∨ n = 11 ∨ n = 12 := by omega
  rcases this with rfl | rfl | rfl | rfl | rfl | rfl | rfl | rfl | rfl | rfl | rfl | rfl
  all_goals
    go_enter Tryz.func127, Tryz.ntmps127
    go_wp2_with fail
    go_ret2
    exact ⟨rfl, rfl⟩
set_option maxRecDepth 100000 in
set_option maxHeartbeats 3200000 in
theorem mul_any (n : Nat) (h1 : 1 ≤ n) (h2 : n ≤ 12) (w : World) :
    Calls Tryz.prog 112 #[.int .u64 1, .int .u64 (n : Int)] w fun e w' => e = .returned (.tuple #[.int .u64 0, .int .u64 (n : Int)]) ∧ w' = w := by
  go_enter Tryz.func112, Tryz.ntmps112
  go_wp2_with fail
  refine (mul64_any n h1 h2 w).mono ?_
  rintro e w2 ⟨rfl, h8⟩
  subst h8
  go_wp2_with fail
  go_ret2
  exact ⟨rfl, rfl⟩
/-- A row of which the first m numbers are x, the others 0. -/
def repC (x : Int) (n m : Nat) : Array Value := (List.replicate m (Value.int .i64 x) ++ List.replicate (n - m) (Value.int .i64 0)).toArray
theorem repC_size (x : Int) {n m : Nat} (h : m ≤ n) : (repC x n m).size = n := by simp [repC]; omega
theorem repC_at (x : Int) {n m j : Nat} (hj : j < m) : (repC x n m)[j]? = some (.int .i64 x) := by
  simp [repC, List.getElem?_append_left, hj]
theorem repC_step (x : Int) {n m k : Nat} (h : m + k ≤ n) : ((repC x n m).toList.take m ++ List.replicate k (Value.int .i64 x) ++ (repC x n m).toList.drop (m + k)).toArray = repC x n (m + k) := by
  have e1 : (repC x n m).toList.take m = List.replicate m (Value.int .i64 x) := by simp [repC]
  have e2 : (repC x n m).toList.drop (m + k) = List.replicate (n - (m + k)) (Value.int .i64 0) := by
    show List.drop (m + k) (List.replicate m (Value.int .i64 x) ++ List.replicate (n - m) (Value.int .i64 0)) = _
    rw [List.drop_append, List.drop_replicate, List.drop_replicate, List.length_replicate]
    rw [show m - (m + k) = 0 by omega, show n - m - (m + k - m) = n - (m + k) by omega]
    simp
  rw [e1, e2, List.replicate_append_replicate]; rfl
theorem owns_rep {w : World} {g n : Nat} {x : Int} (h : w.heap[g]? = some (.cells (repC x n n) 3 (0, 0))) (hn : n ≤ 1000) : rowI w g (.slice (some ⟨g, 0, none⟩) n n) (List.replicate n x) := by
  refine ⟨by simp, .inr ⟨g, n, repC x n n, by simp, Nat.le_refl _, h, by simp, by unfold maxLen; omega, by rw [repC_size x (Nat.le_refl n)]; omega, ?_⟩⟩
  simp [repC]
theorem rep_start {w : World} {base g n : Nat} (h : rowI w base (.slice (some ⟨g, 0, none⟩) n n) (zeros n)) : w.heap[g]? = some (.cells (repC 0 n 0) 3 (0, 0)) := by
  rcases h.2 with ⟨e, _⟩ | ⟨g', cap, cur, e, _, hg, _, _, hs, ht⟩
  · rw [Value.slice.injEq] at e; exact absurd e.1 (by simp)
  · rw [Value.slice.injEq] at e
    have e1 := Option.some.inj e.1
    simp only [Addr.mk.injEq, and_true] at e1
    have e2 := e.2.2
    subst e1
    rw [← e2, Nat.mul_one] at hs
    rw [zeros_len, Nat.mul_one, List.take_of_length_le (by rw [Array.length_toList]; omega)] at ht
    rw [hg]
    congr 2
    rw [← Array.toList_inj, ht]
    simp [repC, zeros]
set_option maxRecDepth 100000 in
set_option maxHeartbeats 3200000 in
theorem repeat_any (v : Value) (x : Int) (n : Nat) (h1 : 1 ≤ n) (h2 : n ≤ 12) (w : World) (hv : RdI w .i64 v [x]) :
    Calls Tryz.prog 99 #[v, .int .i64 (n : Int)] w fun e w' => e = .returned (.slice (some ⟨w.heap.size, 0, none⟩) n n) ∧ rowI w' w.heap.size (.slice (some ⟨w.heap.size, 0, none⟩) n n) (List.replicate n x) ∧ Below w.heap.size w w' := by
  obtain ⟨a, c, rfl⟩ : ∃ a c, v = .slice a 1 c := by obtain ⟨a, c, rfl, _⟩ := hv.form; exact ⟨a, c, rfl⟩
  have HV := Lib.hid hv
  clear hv
  go_enter Tryz.func99, Tryz.ntmps99
  go_wp2_with fail
  refine (mul_any n h1 h2 w).mono ?_
  rintro e w2 ⟨rfl, h8⟩
  subst h8
  go_upto_region 7 with (refine wpList_make_ints rfl _ _ rfl n rfl rfl (by omega) ?_)
  intro w3 hr3 hg3
  have hx0 : (repC 0 n 0) = repC x n 0 := by simp [repC]
  have hrow := rep_start hr3
  rw [hx0] at hrow
  have hgz := (Array.getElem?_eq_some_iff.1 hrow).1
  have hB3 : Below w2.heap.size w2 w3 := bgr (bz w2) hg3 (fun k e => by cases e)
  have HB3 := Lib.hid hB3
  obtain ⟨bx, ox, e, hbx, hcx⟩ := (HV.out.mono hB3).get (by simp)
  subst e
  have gx := hcx 0 (by simp)
  have hcp := fun ty => run_copy_row (P := Tryz.prog) w3 41 41 ty 3 w2.heap.size 0 n n ⟨bx, ox, none⟩ 1 c (repC x n 0) 3 [.int .i64 x] Tryz.underlying41 (by kernel_rfl) hrow (by show 1 = min 1 n; omega) (fun j v hv => by
    rw [Go.WideShapes.add_plain]
    cases j with
    | zero => simp at hv; subst hv; exact gx
    | succ j => simp at hv) (by rw [repC_size x (Nat.zero_le n)]; simp; omega) (fun v hv => by rw [List.mem_singleton] at hv; subst hv; rfl)
  have hst := repC_step x (n := n) (m := 0) (k := 1) (by omega)
  have hst2 : ((repC x n 0).toList.take 0 ++ [Value.int .i64 x] ++ (repC x n 0).toList.drop (0 + [Value.int .i64 x].length)).toArray = repC x n 1 := hst
  rw [hst2] at hcp
  have HROW := Lib.hid (setRow_heap w3 w2.heap.size _ (repC x n 1) _ _ hrow)
  have HB4 := Lib.hid (show Below w2.heap.size w2 (w3.setRow w2.heap.size (repC x n 1)) from ⟨hB3.os, hB3.tape, hB3.output, by simp; exact hB3.size, fun r hr => by rw [setRow_other _ _ _ _ (by omega)]; exact hB3.block r hr⟩)
  clear hrow hB3 hcx gx hbx hst hst2 hr3 hg3 hx0
  generalize w3.setRow w2.heap.size (repC x n 1) = w4 at *
  go_wp2_with (rw [hcp])
  go_wp2
  clear hcp hgz
  generalize hgg : w2.heap.size = g at *
  have HGG := Lib.hid hgg
  clear hgg
  go_loopw [8] (fun s8 wr => ∃ m : Nat, 1 ≤ m ∧ m ≤ n ∧ s8 = .int .i64 m ∧ wr.heap[g]? = some (.cells (repC x n m) 3 (0, 0)) ∧ Below g w2 wr) (fun s8 _ => n - (intOf s8).toNat)
  case atStart => exact ⟨1, Nat.le_refl _, h1, rfl, HROW.out, HB4.out⟩
  case round =>
    clear HROW HB4
    obtain ⟨m, hm1, hm, rfl, hr, hB⟩ := hrel
    have HR := Lib.hid hr; have HB := Lib.hid hB
    clear hr hB
    by_cases hlt : m < n
    · obtain ⟨k, hk⟩ : ∃ k, k = min m (n - m) := ⟨_, rfl⟩
      have hk1 : 1 ≤ k := by omega
      have hk2 : m + k ≤ n := by omega
      have HK := Lib.hid hk
      clear hk
      obtain ⟨ad, hs1, had⟩ := run_cutFromI g 0 n n m hm (Nat.le_refl n)
      have hae := had hlt
      rw [Nat.zero_add] at hae
      subst hae
      have hs2 := run_cutToI g 0 n n m hm
      clear had
      go_upto_region 9 with fail
      refine wp_region_flow [0] [([1, 2, 3, 4, 5, 6], 7, false), ([], 8, false), ([], 9, false)] [] (by kernel_rfl) (by kernel_rfl) ?_
      intro wc hBc hh
      clear hh
      have hrow := (hBc.block g (Array.getElem?_eq_some_iff.1 HR.out).1).trans HR.out
      have hBz := HB.out
      have HBC := Lib.hid (show Below g w2 wc from ⟨hBc.os.trans hBz.os, hBc.tape.trans hBz.tape, hBc.output.trans hBz.output, Nat.le_trans hBz.size hBc.size, fun r hr => (hBc.block r (by have := hBz.size; have := HGG.out; omega)).trans (hBz.block r hr)⟩)
      have hcp := fun ty => run_copy_row (P := Tryz.prog) wc 41 41 ty 3 g m (n - m) (n - m) ⟨g, 0, none⟩ m n (repC x n m) 3 (List.replicate k (.int .i64 x)) Tryz.underlying41 (by kernel_rfl) hrow (by rw [List.length_replicate]; exact HK.out) (fun j v hv => by
        rw [Go.WideShapes.add_plain, Nat.zero_add, cell_of_row _ _ _ _ _ _ hrow]
        rw [List.getElem?_replicate] at hv
        split at hv
        · rename_i hj
          cases hv
          exact repC_at x (by have := HK.out; omega)
        · cases hv) (by rw [repC_size x hm, List.length_replicate]; exact hk2) (fun v hv => by rw [List.eq_of_mem_replicate hv]; rfl)
      have hst := repC_step x hk2
      rw [List.length_replicate, hst] at hcp
      have HROW := Lib.hid (setRow_heap wc g _ (repC x n (m + k)) _ _ hrow)
      have HB4 := Lib.hid (show Below g w2 (wc.setRow g (repC x n (m + k))) from ⟨HBC.out.os, HBC.out.tape, HBC.out.output, by simp; exact HBC.out.size, fun r hr => by rw [setRow_other _ _ _ _ (by omega)]; exact HBC.out.block r hr⟩)
      have hL := @Later.cell wc
      clear hBc hrow hst hBz
      generalize wc.setRow g (repC x n (m + k)) = w5 at *
      simp only [flowP, flow, pickL, List.getElem?_cons_succ, List.getElem?_cons_zero]
      repeat (go_big_quiet_step (fail))
      refine wpQuiet_nil ?_
      repeat (go_big_quiet_step (fail))
      refine wpQuiet_nil ?_
      go_wp2_with (rw [hcp])
      refine seg_write ?_
      clear hL hcp
      refine wpQuiet_nil ?_
      go_wp2
      refine seg_write ?_
      refine wpQuiet_nil ?_
      go_wp2
      refine seg_write ?_
      refine wpQuiet_nil ?_
      refine only_done ?_
      go_wp2_with fail
      go_roundw
      case rel => exact ⟨m + k, by omega, hk2, by go_num, HROW.out, HB4.out⟩
      case measure => simp [intOf]; omega
    · have hmn : m = n := by omega
      rw [hmn] at HR
      clear hmn
      go_wp2_with fail
      go_ret
      have hg := HGG.out
      exact ⟨by rw [hg]; rfl, by rw [hg]; exact owns_rep HR.out (by omega), by rw [hg]; exact HB.out⟩
end Go.Proofs.YteknehlkdgamjaaGreat

namespace Go.Proofs.YteknehlkdgamjaaGreat
open Go.RowKit Go.Shelf

/-- How long a list is. -/
def lenV (v : Value) : Nat := match v with | .slice _ n _ => n | _ => 0
theorem min_or (a b : Int) : (b < a ∧ min a b = b) ∨ (¬ b < a ∧ min a b = a) := by omega
set_option maxRecDepth 100000 in
set_option maxHeartbeats 3200000 in
theorem circle_any (d s : Nat) (J : List Job) (w : World) (hd : DeskAt w d J) (hJ : FineJ J) (hs : s < J.length) (hcs : aft J s s = true) :
    Calls Tryz.prog 88 #[.pointer (some ⟨d, 0, none⟩), .int .i64 (s : Int)] w fun e w' => ∃ v l, e = .returned v ∧ RdI w' .i64 v l ∧ IsCir J l ∧ Below w.heap.size w w' := by
  obtain ⟨a, c, gm, cg, hz, h1, h2, _⟩ := hd.get
  have HJ := Lib.hid hJ; have HX := Lib.hid h2
  have h12 := hJ.n12
  have h11 := hJ.n1
  have HFZ := Lib.hid (faI_zero hs)
  have HFR := Lib.hid (fun F h => FaI.first (F := F) hJ hs hcs h)
  have HSJ := Lib.hid hs
  clear hd hJ h2 hcs
  obtain ⟨n, hn⟩ : ∃ n, n = J.length := ⟨_, rfl⟩
  have HN := Lib.hid hn
  rw [← hn] at h1 h12 h11 hs HFZ
  clear hn
  go_enter Tryz.func88, Tryz.ntmps88
  go_wp2_with fail
  have HB1 := Lib.hid (bal (bz w) (.cells #[.int .i64 1000] 3))
  have HV1 := Lib.hid (rdI_oneAt w 1000 w.heap.size rfl)
  refine (repeat_any _ 1000 n h11 h12 _ HV1.out).mono ?_
  rintro e w2 ⟨rfl, hr2, hB2⟩
  have HB2 := Lib.hid (btr HB1.out hB2)
  have HR2 := Lib.hid hr2
  have hgz : w.heap.size + 1 < w2.heap.size := by
    have := (hr2.at 0 (by simp; omega)).1
    simpa using this
  simp only [World.size_alloc] at HR2
  clear hr2 hB2 HB1 HV1
  obtain ⟨g, hg⟩ : ∃ g, g = w.heap.size + 1 := ⟨_, rfl⟩
  have HG := Lib.hid (show w.heap.size ≤ g by omega)
  rw [show (w.alloc (.cells #[.int .i64 1000] 3)).heap.size = w.heap.size + 1 by simp]
  rw [← hg] at HR2 hgz ⊢
  clear hg
  have HST := Lib.hid (HR2.out.stored s 0)
  have hst := HR2.out.at s (by simp; exact hs)
  have HB3 := Lib.hid (show Below w.heap.size w (w2.setCell ⟨g, s, none⟩ (.int .i64 0)) from bset HB2.out (p := ⟨g, s, none⟩) HG.out _)
  obtain ⟨z1, k1, f1⟩ := hst
  go_upto_region 3 with fail
  generalize w2.setCell ⟨g, s, none⟩ (.int .i64 0) = w3 at *
  have gd := (HB3.out.cell (p := ⟨d, 0, none⟩) hz).trans h1
  have zd := Nat.lt_of_lt_of_le hz HB3.out.size
  clear z1 k1 f1 hgz HR2 HB2
  go_wp2
  clear gd zd
  go_loopw [32] (fun s32 wr => ∃ (r : Nat) (F : List Int), r ≤ n ∧ s32 = .int .i64 r ∧ FaI J s r 0 0 F ∧ rowI wr g (.slice (some ⟨g, 0, none⟩) n n) F ∧ Below w.heap.size w wr) (fun s32 _ => n - (intOf s32).toNat)
  case atStart => exact ⟨0, _, Nat.zero_le _, rfl, HFZ.out, HST.out, HB3.out⟩
  case round =>
    clear HST HB3
    obtain ⟨r, F, hr, rfl, hf, hrow, hB⟩ := hrel
    have HF := Lib.hid hf; have HR := Lib.hid hrow; have HB := Lib.hid hB
    rename World => wO
    have gd := (hB.cell (p := ⟨d, 0, none⟩) hz).trans h1
    have zd := Nat.lt_of_lt_of_le hz hB.size
    clear hf hrow hB
    by_cases hrn : r < n
    · go_wp2
      clear gd zd
      go_loopw [40] (fun s40 wr => ∃ (k : Nat) (F : List Int), k ≤ n ∧ s40 = .int .i64 k ∧ FaI J s r k 0 F ∧ rowI wr g (.slice (some ⟨g, 0, none⟩) n n) F ∧ Below w.heap.size w wr) (fun s40 _ => n - (intOf s40).toNat)
      case atStart => exact ⟨0, F, Nat.zero_le _, rfl, HF.out, HR.out, HB.out⟩
      case round =>
        clear HF HR HB
        obtain ⟨k, F1, hk, rfl, hf, hrow, hB⟩ := hrel
        have HF := Lib.hid hf; have HR := Lib.hid hrow; have HB := Lib.hid hB
        rename World => wP
        clear hf hrow hB
        by_cases hkn : k < n
        · have hkJ := Lib.hid (show k < J.length by have := HN.out; omega)
          obtain ⟨bj, oj, a', c', e, hbj0, g10, g20, g30, hrw⟩ := HX.out.get k (by have := HN.out; omega)
          subst e
          have g1 := (HB.out.cell (p := ⟨bj, _, none⟩) hbj0).trans g10
          have g2 := (HB.out.cell (p := ⟨bj, _, none⟩) hbj0).trans g20
          have g3 := (HB.out.cell (p := ⟨bj, _, none⟩) hbj0).trans g30
          have hbj := Nat.lt_of_lt_of_le hbj0 HB.out.size
          have HWW := Lib.hid (fun (wz : World) (h : Below w.heap.size w wz) => hrw.mono h)
          obtain ⟨m, hm⟩ : ∃ m, m = (job J k).ws.length := ⟨_, rfl⟩
          have HM := Lib.hid hm
          have hm12 : m ≤ 12 := by have := HJ.out.ws_le (i := k) (by have := HN.out; omega); omega
          rw [← hm] at g3 HWW
          clear g10 g20 g30 hbj0 hrw hm
          generalize (job J k).lo = lo at *
          generalize (job J k).hi = hh at *
          go_upto_region 8 with fail
          have hB3 := bal (bz wP) (.cells #[.int .i64 lo, .int .i64 hh, .slice a' m c'] 62)
          have gq : (wP.alloc (.cells #[.int .i64 lo, .int .i64 hh, .slice a' m c'] 62)).cell? ⟨wP.heap.size, 2, none⟩ = some (.slice a' m c') := cnew rfl rfl
          have zq : wP.heap.size < (wP.alloc (.cells #[.int .i64 lo, .int .i64 hh, .slice a' m c'] 62)).heap.size := by simp
          have HB4 := Lib.hid (btr HB.out hB3)
          have HR4 := Lib.hid (show rowI (wP.alloc (.cells #[.int .i64 lo, .int .i64 hh, .slice a' m c'] 62)) g (.slice (some ⟨g, 0, none⟩) n n) F1 from owns_kept HR.out hB3)
          generalize wP.alloc (.cells #[.int .i64 lo, .int .i64 hh, .slice a' m c'] 62) = w4 at *
          clear hB3 g1 g2 g3 hbj
          go_wp2
          clear gq zq
          go_loopw [48] (fun s48 wr => ∃ (q : Nat) (F2 : List Int), q ≤ m ∧ s48 = .int .i64 q ∧ FaI J s r k q F2 ∧ rowI wr g (.slice (some ⟨g, 0, none⟩) n n) F2 ∧ Below w.heap.size w wr) (fun s48 _ => m - (intOf s48).toNat)
          case atStart => exact ⟨0, F1, Nat.zero_le _, rfl, HF.out, HR4.out, HB4.out⟩
          case round =>
            clear HF HR4 HB4 HR HB
            obtain ⟨q, F2, hq, rfl, hf, hrow, hB⟩ := hrel
            have HF := Lib.hid hf; have HR := Lib.hid hrow; have HB := Lib.hid hB
            rename World => wQ
            by_cases hqm : q < m
            · obtain ⟨bx, ox, e, hbx, hcx⟩ := (HWW.out _ HB.out).get (by have := HM.out; omega)
              subst e
              have gx := hcx q (by have := HM.out; omega)
              obtain ⟨b, hb, hbn, hed⟩ := HJ.out.wait (i := k) (j := q) hkJ.out (by have := HM.out; omega)
              rw [hb] at gx
              have hbN : b < n := by have := HN.out; omega
              have HFS := Lib.hid (hf.wait HJ.out hkJ.out (by have := HM.out; omega) hb)
              have hlen : F2.length = n := by rw [hf.len, HN.out]
              have gi := (hrow.at k (by omega)).2.1
              obtain ⟨gz, gb, gf⟩ := hrow.at b (by omega)
              have i1 := hf.bd k hkJ.out
              have b1 := hf.bd b hbn
              obtain ⟨i1, i2⟩ := i1
              obtain ⟨b1, b2⟩ := b1
              have HRS := Lib.hid (fun wz (h : rowI wz g (.slice (some ⟨g, 0, none⟩) n n) F2) => h.stored b (min (elt F2 b) (elt F2 k + 1)))
              clear hcx hb hf hrow hB hed
              generalize elt F2 k = xi at *
              generalize elt F2 b = xb at *
              rcases min_or xb (xi + 1) with ⟨hcm, hmx⟩ | ⟨hcm, hmx⟩
              all_goals
                rw [hmx] at HFS HRS
                clear hmx
                go_upto_region 11 with fail
                refine wp_region_flow [] [([0, 1, 2, 3, 4, 5, 6, 7, 8, 9, 10, 11, 12], 13, false)] [] (by kernel_rfl) (by kernel_rfl) ?_
                intro wc hBc hh
                clear hh
                have HBC := Lib.hid (btr HB.out hBc)
                have HR5 := Lib.hid (show rowI wc g (.slice (some ⟨g, 0, none⟩) n n) F2 from owns_kept HR.out hBc)
                have hL := @Later.cell wc
                have k1 := (hBc.cell (p := ⟨g, k, none⟩) gz).trans gi
                have k2 := (hBc.cell (p := ⟨g, b, none⟩) gz).trans gb
                have f2 := (hBc.frozen (p := ⟨g, b, none⟩) gz).trans gf
                have z1 := Nat.lt_of_lt_of_le gz hBc.size
                clear hBc gi gb gx hbx gf gz
                simp only [flowP, flow, pickL, List.getElem?_cons_succ, List.getElem?_cons_zero]
                refine wpQuiet_nil ?_
                repeat (go_big_quiet_step (fail))
                refine wpQuiet_nil ?_
                go_wp2
                refine seg_write ?_
                refine wpQuiet_nil ?_
                refine only_done ?_
                clear hL k1 k2 z1 f2
                have HRW := Lib.hid (HRS.out _ HR5.out)
                go_wp2_with fail
                go_roundw
                case rel => exact ⟨q + 1, _, by omega, by go_num, HFS.out, HRW.out, bset HBC.out (p := ⟨g, b, none⟩) HG.out _⟩
                case measure => simp [intOf]; omega
            · have HFN := Lib.hid (show FaI J s r (k + 1) 0 F2 from by
                have hqe : q = (job J k).ws.length := by have := HM.out; omega
                rw [hqe] at hf; exact hf.job HJ.out)
              clear hf hrow hB
              go_wp2_with fail
              go_roundw
              case rel => exact ⟨k + 1, F2, by omega, by go_num, HFN.out, HR.out, HB.out⟩
              case measure => simp [intOf]; omega
        · have HFN := Lib.hid (show FaI J s (r + 1) 0 0 F1 from by
            have hke : k = J.length := by have := HN.out; omega
            have hf := HF.out
            rw [hke] at hf; exact hf.round)
          go_wp2_with fail
          go_roundw
          case rel => exact ⟨r + 1, F1, by omega, by go_num, HFN.out, HR.out, HB.out⟩
          case measure => simp [intOf]; omega
    · have HFE := Lib.hid (show FaI J s J.length 0 0 F from by
        have hre : r = J.length := by have := HN.out; omega
        have hf := HF.out
        rw [hre] at hf; exact hf)
      clear gd zd HF
      go_wp2_with fail
      clear hrn hr
      have HB6 := Lib.hid (btr HB.out (bal (bz wO) (.cells #[.int .i64 (s : Int)] 3)))
      have HR6 := Lib.hid (show rowI (wO.alloc (.cells #[.int .i64 (s : Int)] 3)) g (.slice (some ⟨g, 0, none⟩) n n) F from owns_kept HR.out (bal (bz wO) (.cells #[.int .i64 (s : Int)] 3)))
      have HO6 := Lib.hid (show rowI (wO.alloc (.cells #[.int .i64 (s : Int)] 3)) wO.heap.size (.slice (some ⟨wO.heap.size, 0, none⟩) 1 1) (ints [s]) from World.ownsRow_lit wO #[.int .i64 (s : Int)] 1 (Nat.le_refl _) (by unfold maxLen; omega) rfl)
      have hgo : g < wO.heap.size := (HR.out.at s (by rw [HFE.out.len]; exact HSJ.out)).1
      have HGO := Lib.hid hgo
      have HBZ := Lib.hid (show wO.heap.size ≤ (wO.alloc (.cells #[.int .i64 (s : Int)] 3)).heap.size by simp)
      generalize wO.alloc (.cells #[.int .i64 (s : Int)] 3) = w6 at *
      generalize hbo : wO.heap.size = bo at *
      clear hgo hbo
      have HCI := Lib.hid (CiI.start HSJ.out (HFR.out F HFE.out))
      go_loopw [10, 11] (fun s10 s11 wr => ∃ (L : List Nat) (at' : Nat), s11 = .int .i64 at' ∧ CiI J s F L at' ∧ rowI wr g (.slice (some ⟨g, 0, none⟩) n n) F ∧ rowI wr bo s10 (ints L) ∧ Below w.heap.size w wr ∧ bo ≤ wr.heap.size) (fun s10 _ _ => 13 - lenV s10)
      case atStart => exact ⟨[s], s, rfl, HCI.out, HR6.out, HO6.out, HB6.out, HBZ.out⟩
      case round =>
        clear HCI HR6 HO6 HB6 HR HB
        obtain ⟨L, at', rfl, hci, hrow, hout, hB, hbz⟩ := hrel
        have HBZ := Lib.hid hbz; clear hbz
        have HCI := Lib.hid hci; have HR := Lib.hid hrow; have HO := Lib.hid hout; have HB := Lib.hid hB
        obtain ⟨ao, co, eo⟩ := owns_form hout
        rw [ints_len] at eo
        subst eo
        rename World => wP
        have gd := (hB.cell (p := ⟨d, 0, none⟩) hz).trans h1
        have zd := Nat.lt_of_lt_of_le hz hB.size
        have hatn : at' < n := by have := hci.lt at' (List.mem_of_getLast? hci.last); have := HN.out; omega
        have hLn : L.length ≤ n := by have := hci.len; have := HN.out; omega
        have HB0 := Lib.hid (BeI.zero J F at')
        clear hci hrow hout hB
        go_wp2
        clear gd zd
        go_loopw [12, 77] (fun s12 s77 wr => ∃ (k : Nat) (best : Int), k ≤ n ∧ s77 = .int .i64 k ∧ s12 = .int .i64 best ∧ BeI J F at' k best ∧ -1 ≤ best ∧ rowI wr g (.slice (some ⟨g, 0, none⟩) n n) F ∧ rowI wr bo (.slice ao L.length co) (ints L) ∧ Below w.heap.size w wr ∧ bo ≤ wr.heap.size) (fun _ s77 _ => n - (intOf s77).toNat)
        case atStart => exact ⟨0, -1, Nat.zero_le _, rfl, rfl, HB0.out, by omega, HR.out, HO.out, HB.out, HBZ.out⟩
        case round =>
          clear HB0 HR HO HB HBZ
          obtain ⟨k, best, hk, rfl, rfl, hbe, hbm, hrow, hout, hB, hbz⟩ := hrel
          have HBZ := Lib.hid hbz; clear hbz
          have HBE := Lib.hid hbe; have HR := Lib.hid hrow; have HO := Lib.hid hout; have HB := Lib.hid hB
          rename World => wQ
          clear hbe hrow hout hB
          by_cases hkn : k < n
          · have hkJ := Lib.hid (show k < J.length by have := HN.out; omega)
            have HED := Lib.hid (show edg J at' k = (job J k).ws.contains (at' : Int) by unfold edg; rw [decide_eq_true hkJ.out, Bool.true_and])
            generalize hed : (job J k).ws.contains (at' : Int) = ed at *
            have HEDD := Lib.hid hed
            clear hed
            obtain ⟨bj, oj, a', c', e, hbj0, g10, g20, g30, hrw⟩ := HX.out.get k (by have := HN.out; omega)
            subst e
            have g1 := (HB.out.cell (p := ⟨bj, _, none⟩) hbj0).trans g10
            have g2 := (HB.out.cell (p := ⟨bj, _, none⟩) hbj0).trans g20
            have g3 := (HB.out.cell (p := ⟨bj, _, none⟩) hbj0).trans g30
            have hbj := Nat.lt_of_lt_of_le hbj0 HB.out.size
            have HWW := Lib.hid (fun (wz : World) (h : Below w.heap.size w wz) => hrw.mono h)
            obtain ⟨m, hm⟩ : ∃ m, m = (job J k).ws.length := ⟨_, rfl⟩
            have HM := Lib.hid hm
            have hm12 : m ≤ 12 := by have := HJ.out.ws_le (i := k) (by have := HN.out; omega); omega
            rw [← hm] at g3 HWW
            clear g10 g20 g30 hbj0 hrw hm
            generalize (job J k).lo = lo at *
            generalize (job J k).hi = hh at *
            go_upto_region 21 with fail
            have hB3 := bal (bz wQ) (.cells #[.int .i64 lo, .int .i64 hh, .slice a' m c'] 62)
            have gq : (wQ.alloc (.cells #[.int .i64 lo, .int .i64 hh, .slice a' m c'] 62)).cell? ⟨wQ.heap.size, 2, none⟩ = some (.slice a' m c') := cnew rfl rfl
            have zq : wQ.heap.size < (wQ.alloc (.cells #[.int .i64 lo, .int .i64 hh, .slice a' m c'] 62)).heap.size := by simp
            have HB4 := Lib.hid (btr HB.out hB3)
            have HR4 := Lib.hid (show rowI (wQ.alloc (.cells #[.int .i64 lo, .int .i64 hh, .slice a' m c'] 62)) g (.slice (some ⟨g, 0, none⟩) n n) F from owns_kept HR.out hB3)
            have HBZ4 := Lib.hid (Nat.le_trans HBZ.out hB3.size)
            have HO4 := Lib.hid (show rowI (wQ.alloc (.cells #[.int .i64 lo, .int .i64 hh, .slice a' m c'] 62)) bo (.slice ao L.length co) (ints L) from owns_kept HO.out hB3)
            generalize wQ.alloc (.cells #[.int .i64 lo, .int .i64 hh, .slice a' m c'] 62) = w4 at *
            clear hB3 g1 g2 g3 hbj
            refine wp_region_flow [] [([0, 1, 2], 3, true)] [4, 5, 6, 7, 8, 9, 10, 11, 12, 13, 14, 15, 16, 17, 18] (by kernel_rfl) (by kernel_rfl) ?_
            intro wc hBc hh
            clear hh
            have HBC := Lib.hid (btr HB4.out hBc)
            have HRC := Lib.hid (show rowI wc g (.slice (some ⟨g, 0, none⟩) n n) F from owns_kept HR4.out hBc)
            have HOC := Lib.hid (show rowI wc bo (.slice ao L.length co) (ints L) from owns_kept HO4.out hBc)
            have HBZC := Lib.hid (Nat.le_trans HBZ4.out hBc.size)
            have hL := @Later.cell wc
            have k1 := (hBc.cell (p := ⟨wQ.heap.size, 2, none⟩) zq).trans gq
            have z1 := Nat.lt_of_lt_of_le zq hBc.size
            have hlF : F.length = n := by rw [HFE.out.len, HN.out]
            obtain ⟨z2, k2, _⟩ := HRC.out.at k (by omega)
            have HK2 := Lib.hid k2
            clear hBc gq zq k2
            simp only [flowP, flow, pickL, List.getElem?_cons_succ, List.getElem?_cons_zero]
            refine wpQuiet_nil ?_
            repeat (go_big_quiet_step (fail))
            refine wpQuiet_nil ?_
            go_wp2_with fail
            refine (contains_any _ (job J k).ws (at' : Int) wc (HWW.out _ HBC.out) (by have := HM.out; omega)).mono ?_
            rintro e w8 ⟨rfl, h8⟩
            subst h8
            rw [HEDD.out]
            cases ed with
            | false =>
              have HBN := Lib.hid (HBE.out.skip (.inl HED.out))
              clear hlF z2
              go_wp2
              refine seg_grow ⟨⟨_, bz _⟩, rfl⟩ ?_
              repeat (go_big_quiet_step (fail))
              refine wpQuiet_nil ?_
              refine only_done ?_
              clear hL k1 z1
              go_wp2_with fail
              go_roundw
              case rel => exact ⟨k + 1, best, by omega, by go_num, rfl, HBN.out, by omega, HRC.out, HOC.out, HBC.out, HBZC.out⟩
              case measure => simp [intOf]; omega
            | true =>
              by_cases hb0 : best < 0
              · have d1 : decide (best < 0) = true := by simp [hb0]
                have HBN := Lib.hid (HBE.out.take HED.out (.inl (by omega)))
                clear hlF z2 hb0
                go_wp2
                refine seg_grow ⟨⟨_, bz _⟩, rfl⟩ ?_
                repeat (go_big_quiet_step (fail))
                refine wpQuiet_nil ?_
                refine only_done ?_
                clear hL k1 z1
                go_wp2_with fail
                go_roundw
                case rel => exact ⟨k + 1, (k : Int), by omega, by go_num, rfl, HBN.out, by omega, HRC.out, HOC.out, HBC.out, HBZC.out⟩
                case measure => simp [intOf]; omega
              · have d1 : decide (best < 0) = false := by simp; omega
                obtain ⟨b, hbe, hbk, _⟩ := HBE.out.some' (by omega)
                subst hbe
                obtain ⟨z3, k3, _⟩ := HRC.out.at b (by omega)
                have k2 := HK2.out
                have hbn : b < n := by omega
                have HCK := Lib.hid (fun (h : elt F k < elt F b) => HBE.out.take HED.out (.inr (by rw [Int.toNat_natCast]; exact h)))
                have HSK := Lib.hid (fun (h : ¬ elt F k < elt F b) => HBE.out.skip (.inr ⟨by omega, by rw [Int.toNat_natCast]; exact h⟩))
                generalize elt F k = xk at *
                generalize elt F b = xb at *
                by_cases hlt : xk < xb
                · have d2 : decide (xk < xb) = true := by simp [hlt]
                  have HBN := Lib.hid (HCK.out hlt)
                  clear hlF hb0 hlt
                  go_wp2
                  refine seg_grow ⟨⟨_, bz _⟩, rfl⟩ ?_
                  repeat (go_big_quiet_step (fail))
                  refine wpQuiet_nil ?_
                  refine only_done ?_
                  clear hL k1 z1
                  go_wp2_with fail
                  go_roundw
                  case rel => exact ⟨k + 1, (k : Int), by omega, by go_num, rfl, HBN.out, by omega, HRC.out, HOC.out, HBC.out, HBZC.out⟩
                  case measure => simp [intOf]; omega
                · have d2 : decide (xk < xb) = false := by simp; omega
                  have HBN := Lib.hid (HSK.out hlt)
                  clear hlF hb0 hlt
                  go_wp2
                  refine seg_grow ⟨⟨_, bz _⟩, rfl⟩ ?_
                  repeat (go_big_quiet_step (fail))
                  refine wpQuiet_nil ?_
                  refine only_done ?_
                  clear hL k1 z1
                  go_wp2_with fail
                  go_roundw
                  case rel => exact ⟨k + 1, (b : Int), by omega, by go_num, rfl, HBN.out, by omega, HRC.out, HOC.out, HBC.out, HBZC.out⟩
                  case measure => simp [intOf]; omega
          · have HBE2 := Lib.hid (show BeI J F at' J.length best from by
              have hke : k = J.length := by have := HN.out; omega
              have hf := HBE.out
              rw [hke] at hf; exact hf)
            obtain ⟨b, hbe, hbn, hed, hb1, hb2⟩ := BeI.fin HCI.out HBE2.out
            subst hbe
            have hbN : b < n := by have := HN.out; omega
            have HED := Lib.hid hed; have HE1 := Lib.hid hb1; have HE2 := Lib.hid hb2
            clear hed hb1 hb2 hbm
            by_cases hbs : b = s
            · have t1 : ((b : Int) == (s : Int)) = true := by simp [hbs]
              have HFI := Lib.hid (HCI.out.fin HJ.out (by rw [← hbs]; exact HED.out))
              have HRD := Lib.hid (RdI.of_owns HO.out)
              clear hbs
              go_wp2_with fail
              go_ret
              exact ⟨_, ints L, rfl, HRD.out, HFI.out, HB.out⟩
            · have t1 : ((b : Int) == (s : Int)) = false := by simp; omega
              have HAD := Lib.hid (HCI.out.add HFE.out (by have := HN.out; omega) HED.out HE1.out HE2.out hbs)
              have HLE := Lib.hid (show (ints L).length = L.length from ints_len L)
              have HSN := Lib.hid (ints_snoc L b)
              clear hbs
              go_wp2_with (at_builtin; refine wpList_append_num rfl _ _ rfl Tryz.underlying41 num3 HO.out (b : Int) rfl rfl rfl (by rw [ints_len]; omega) HBZ.out ?_)
              intro v' w' hO' hg'
              have HR9 := Lib.hid (show rowI w' g (.slice (some ⟨g, 0, none⟩) n n) F from by
                refine World.ownsRow.kept (owns_kept HR.out (bal (bz wQ) (.cells #[.int .i64 (b : Int)] 3))) hg' (.inr fun e => ?_)
                have h9 := (rowI.lt HO.out (k := g) e.symm).1
                have := HGO.out; omega)
              have HB9 := Lib.hid (show Below w.heap.size w w' from bgr (btr HB.out (bal (bz wQ) (.cells #[.int .i64 (b : Int)] 3))) hg' (fun k e => by
                have h9 := (rowI.lt HO.out (k := k) e).1
                have := HGO.out; have := HG.out; omega))
              have HZ9 := Lib.hid (show bo ≤ w'.heap.size by have h9 := hg'.size; have := HBZ.out; simp at h9; omega)
              have HO9 := Lib.hid (show rowI w' bo v' (ints (L ++ [b])) from by unfold rowI; rw [HSN.out, List.length_append, List.length_singleton, List.map_append]; exact hO')
              obtain ⟨a9, c9, e9⟩ := owns_form HO9.out
              subst e9
              have HL9 := Lib.hid (show (ints (L ++ [b])).length = L.length + 1 by simp [ints])
              clear hO' hg'
              go_wp2_with fail
              go_roundw
              case rel => exact ⟨L ++ [b], b, rfl, HAD.out, HR9.out, HO9.out, HB9.out, HZ9.out⟩
              case measure => simp [lenV]; have := HL9.out; omega
end Go.Proofs.YteknehlkdgamjaaGreat

namespace Go.Proofs.YteknehlkdgamjaaGreat
open Go.RowKit Go.Shelf

/-- What Circle returns. -/
def CirRet (J : List Job) (w : World) (e : Ending) (w' : World) : Prop :=
  ((cirC J ≠ 0 ∧ e = .returned (.tuple #[.slice none 0 0, .int .i64 (cirC J)])) ∨ (cirC J = 0 ∧ ∃ v l, e = .returned (.tuple #[v, .int .i64 0]) ∧ RdI w' .i64 v l ∧ IsCir J l)) ∧ Below w.heap.size w w'
set_option maxRecDepth 100000 in
set_option maxHeartbeats 1600000 in
theorem pcircles_any (v : Value) (J : List Job) (w : World) (hx0 : RdJ w v J) (hs : SmJ J) :
    Calls Tryz.prog 52 #[.agg #[v]] w (CirRet J w) := by
  have HC := Lib.hid (fun wz (h : Below w.heap.size w wz) => pwork_any v J wz (hx0.mono h) hs)
  have HX := Lib.hid hx0
  obtain ⟨a, c, rfl⟩ := hx0.sl
  have hn := hs.1
  clear hx0 hs
  have HB0 := Lib.hid (bal (bz w) (.cells #[.slice a J.length c] 24))
  have gq : (w.alloc (.cells #[.slice a J.length c] 24)).cell? ⟨w.heap.size, 0, none⟩ = some (.slice a J.length c) := cnew rfl rfl
  have zq : w.heap.size < (w.alloc (.cells #[.slice a J.length c] 24)).heap.size := by simp
  by_cases h0 : workC J = 0
  · have HFJ := Lib.hid (fine_of h0)
    have HE : Hid (cirC J = if cir J then 0 else 5) := Lib.hid (by unfold cirC; rw [if_pos h0])
    rw [h0] at HC
    clear h0
    unfold CirRet
    generalize cirC J = q at *
    obtain ⟨n, hnn⟩ : ∃ n, n = J.length := ⟨_, rfl⟩
    have HN := Lib.hid hnn
    have HDK := Lib.hid (fun wz (h : Below w.heap.size w wz) => desk_any _ J wz (HX.out.mono h) HFJ.out)
    have h12 := HFJ.out.n12
    rw [← hnn] at gq zq hn HB0 h12 HDK HC ⊢
    clear hnn
    go_enter Tryz.func52, Tryz.ntmps52
    go_wp2_with fail
    generalize w.alloc (.cells #[.slice a n c] 24) = w3 at *
    refine (HC.out _ HB0.out).mono ?_
    rintro e w4 ⟨rfl, hB⟩
    have HB4 := Lib.hid (btr HB0.out hB)
    have gq4 := (hB.cell (p := ⟨w.heap.size, 0, none⟩) zq).trans gq
    have zq4 := Nat.lt_of_lt_of_le zq hB.size
    clear hB gq zq HB0 HC
    go_wp2_with fail
    refine (HDK.out _ HB4.out).mono ?_
    rintro e w5 ⟨d, rfl, hdk, hdz, hB⟩
    have HB5 := Lib.hid (btr HB4.out hB)
    have gq5 := (hB.cell (p := ⟨w.heap.size, 0, none⟩) zq4).trans gq4
    have HD5 := Lib.hid hdk
    have HDZ := Lib.hid (show w.heap.size ≤ d from Nat.le_trans HB4.out.size hdz)
    obtain ⟨a1, c1, g, cg, hz, h1, _, h3, hg, hm⟩ := hdk.get
    rw [← HN.out] at h3 hm
    clear hB gq4 zq4 HB4 hdk hdz h1
    go_wp2_with fail
    clear gq5
    have HS0 := Lib.hid (show selfTo J 0 = false from rfl)
    have HSS := Lib.hid (selfTo_succ J)
    have HSM := Lib.hid (fun k (hk : k ≤ n) (h : selfTo J k = true) => show q = 0 by rw [HE.out, ← selfTo_all, selfTo_mono h (by have := HN.out; omega), if_pos rfl])
    have HSE := Lib.hid (fun (h : selfTo J n = false) => show q = 5 by rw [HE.out, ← selfTo_all, ← HN.out, h]; rfl)
    clear HE
    have HMK := Lib.hid hm
    clear hm
    go_loopw [17] (fun s17 wr => ∃ k : Nat, k ≤ n ∧ s17 = .int .i64 k ∧ selfTo J k = false ∧ wr = w5) (fun s17 _ => n - (intOf s17).toNat)
    case atStart => exact ⟨0, Nat.zero_le _, rfl, HS0.out, rfl⟩
    case round =>
      obtain ⟨k, hk, rfl, ht, rfl⟩ := hrel
      have HT := Lib.hid ht
      clear ht
      by_cases hlt : k < n
      · have gm := HMK.out k k hlt (by omega)
        have HS1 := Lib.hid (show selfTo J (k + 1) = aft J k k by rw [HSS.out, HT.out, Bool.false_or])
        cases hb : aft J k k with
        | true =>
          rw [hb, if_pos rfl] at gm
          have HQ := Lib.hid (HSM.out (k + 1) (by omega) (by rw [HS1.out, hb]))
          have HAF := Lib.hid hb
          clear hb HS1
          go_wp2_with fail
          refine (circle_any d k J wr HD5.out HFJ.out (by have := HN.out; omega) HAF.out).mono ?_
          rintro e w6 ⟨v6, l6, rfl, hr6, hc6, hB6⟩
          have HR6 := Lib.hid hr6; have HC6 := Lib.hid hc6; have HB6 := Lib.hid hB6
          clear hr6 hc6 hB6
          go_wp2_with fail
          go_ret2
          exact ⟨.inr ⟨HQ.out, _, l6, rfl, HR6.out, HC6.out⟩, btr HB5.out HB6.out⟩
        | false =>
          rw [hb, if_neg (by decide)] at gm
          have HQ := Lib.hid (show selfTo J (k + 1) = false by rw [HS1.out, hb])
          clear hb HS1
          go_wp2_with fail
          go_roundw
          case rel => exact ⟨k + 1, by omega, by go_num, HQ.out, by trivial⟩
          case measure => simp [intOf]; omega
      · have hke : k = n := by omega
        have HQ := Lib.hid (HSE.out (by rw [← hke]; exact HT.out))
        clear hke
        go_wp2_with fail
        go_ret2
        exact ⟨.inl ⟨by rw [HQ.out]; decide, by rw [HQ.out]; rfl⟩, HB5.out⟩
  · have HE : Hid (cirC J = workC J) := Lib.hid (by unfold cirC; rw [if_neg h0])
    have t1 : (workC J != 0) = true := by simp [h0]
    have H0 := Lib.hid h0
    clear h0
    unfold CirRet
    rw [HE.out]
    clear HE
    generalize workC J = p at *
    generalize J.length = n at *
    go_enter Tryz.func52, Tryz.ntmps52
    go_wp2_with fail
    generalize w.alloc (.cells #[.slice a n c] 24) = w3 at *
    refine (HC.out _ HB0.out).mono ?_
    rintro e w4 ⟨rfl, hB⟩
    have HB4 := Lib.hid (btr HB0.out hB)
    clear hB gq zq
    go_wp2_with fail
    go_ret2
    exact ⟨.inl ⟨H0.out, rfl⟩, HB4.out⟩
end Go.Proofs.YteknehlkdgamjaaGreat

namespace Go.Proofs.YteknehlkdgamjaaGreat
open Go.RowKit Go.Shelf

/-- Some one of the first q comes after number i of the list. -/
def pairTo (J : List Job) (l : List Int) (i q : Nat) : Bool := (List.range q).any fun k => aft J (elt l i).toNat (elt l k).toNat
theorem pairTo_succ (J : List Job) (l : List Int) (i q : Nat) : pairTo J l i (q + 1) = (pairTo J l i q || aft J (elt l i).toNat (elt l q).toNat) := by unfold pairTo; rw [List.range_succ, List.any_append]; simp
theorem pairTo_mono {J : List Job} {l : List Int} {i k m : Nat} (h : pairTo J l i k = true) (hkm : k ≤ m) : pairTo J l i m = true := by
  unfold pairTo at *
  rw [List.any_eq_true] at *
  obtain ⟨x, hx, hb⟩ := h
  rw [List.mem_range] at hx
  exact ⟨x, by rw [List.mem_range]; omega, hb⟩
def tiedTo (J : List Job) (l : List Int) (k : Nat) : Bool := (List.range k).any fun i => pairTo J l i l.length
theorem tiedTo_succ (J : List Job) (l : List Int) (k : Nat) : tiedTo J l (k + 1) = (tiedTo J l k || pairTo J l k l.length) := by unfold tiedTo; rw [List.range_succ, List.any_append]; simp
theorem tiedTo_mono {J : List Job} {l : List Int} {k m : Nat} (h : tiedTo J l k = true) (hkm : k ≤ m) : tiedTo J l m = true := by
  unfold tiedTo at *
  rw [List.any_eq_true] at *
  obtain ⟨x, hx, hb⟩ := h
  rw [List.mem_range] at hx
  exact ⟨x, by rw [List.mem_range]; omega, hb⟩
/-- The error of jobs that are to be free of one another; how many they are. -/
def freeC (J : List Job) (l : List Int) : Int := if errC J = 0 then (if lisB l J.length then (if tiedTo J l l.length then 16 else 0) else 3) else errC J
def freeV (J : List Job) (l : List Int) : Int := if freeC J l = 0 then l.length else 0
/-- A number, and an error. -/
def RetN (w : World) (p : Int) (q : Int) (e : Ending) (w' : World) : Prop := e = .returned (.tuple #[.int .i64 p, .int .i64 q]) ∧ Below w.heap.size w w'
set_option maxRecDepth 100000 in
set_option maxHeartbeats 3200000 in
theorem pcheckfree_any (v x : Value) (J : List Job) (l : List Int) (w : World) (hx0 : RdJ w v J) (hy0 : RdI w .i64 x l) (hl : l.length ≤ 1000) (hs : SmJ J) :
    Calls Tryz.prog 45 #[.agg #[v], x] w (RetN w (freeV J l) (freeC J l)) := by
  have HO := Lib.hid (fun wz (h : Below w.heap.size w wz) => open_any v J wz (hx0.mono h) hs)
  have HI := Lib.hid (fun wz (h : Below w.heap.size w wz) (hn : 0 ≤ (J.length : Int) ∧ (J.length : Int) ≤ 1000) => prising_any x l J.length wz (hy0.mono h) hl (by omega))
  have HY := Lib.hid hy0
  obtain ⟨a, c, rfl⟩ := hx0.sl
  obtain ⟨ax, cx, rfl, _, hcm, hx⟩ := hy0.form
  have hsn := hs.1
  clear hx0 hs hy0 hcm hx
  obtain ⟨n, hn⟩ : ∃ n, n = J.length := ⟨_, rfl⟩
  have HN := Lib.hid hn
  have HC := Lib.hid (show freeC J l = if errC J = 0 then (if lisB l J.length then (if tiedTo J l l.length then 16 else 0) else 3) else errC J from rfl)
  have HV := Lib.hid (show freeV J l = if freeC J l = 0 then (l.length : Int) else 0 from rfl)
  have HLI := Lib.hid (lisB_iff l J.length)
  rw [← hn] at HO HI HC hsn HLI ⊢
  clear hn
  have gq : (w.alloc (.cells #[.slice a n c] 24)).cell? ⟨w.heap.size, 0, none⟩ = some (.slice a n c) := cnew rfl rfl
  have zq : w.heap.size < (w.alloc (.cells #[.slice a n c] 24)).heap.size := by simp
  have HB0 := Lib.hid (bal (bz w) (.cells #[.slice a n c] 24))
  unfold Opened at HO
  unfold RetN
  generalize hq0 : errC J = q at *
  have HQ := Lib.hid hq0
  clear hq0
  generalize freeC J l = C at *
  generalize freeV J l = V at *
  generalize lisB l n = li at *
  go_enter Tryz.func45, Tryz.ntmps45
  go_wp2_with fail
  generalize w.alloc (.cells #[.slice a n c] 24) = w3 at *
  refine (HO.out _ HB0.out).mono ?_
  rintro e w4 ⟨hO, hB⟩
  have HB4 := Lib.hid (btr HB0.out hB)
  have g4 := (hB.cell (p := ⟨w.heap.size, 0, none⟩) zq).trans gq
  have z4 := Nat.lt_of_lt_of_le zq hB.size
  clear hB gq zq HO
  rcases hO with ⟨hq, rfl⟩ | ⟨rfl, d, rfl, hdk, hdz⟩
  · have t1 : (q != 0) = true := by simp [hq]
    rw [if_neg hq] at HC
    have HVV := Lib.hid (show V = 0 by rw [HV.out, if_neg (by rw [HC.out]; exact hq)])
    clear hq
    go_wp2_with fail
    go_ret2
    exact ⟨by rw [HVV.out, HC.out]; rfl, HB4.out⟩
  · rw [if_pos rfl] at HC
    have HFI := Lib.hid (fine_err HQ.out)
    have h12 : n ≤ 12 := by have := HFI.out.1.n12; have := HN.out; omega
    have HD := Lib.hid hdk
    clear hdk hdz
    go_wp2_with fail
    refine (HI.out _ HB4.out (by omega)).mono ?_
    rintro e w5 ⟨rfl, hB⟩
    have HB5 := Lib.hid (btr HB4.out hB)
    have HD5 := Lib.hid (HD.out.mono hB)
    clear hB g4 z4
    cases li with
    | false =>
      have HC2 := Lib.hid (show C = 3 by rw [HC.out]; rfl)
      have HVV := Lib.hid (show V = 0 by rw [HV.out, if_neg (by rw [HC2.out]; decide)])
      go_wp2_with fail
      go_ret2
      exact ⟨by rw [HVV.out, HC2.out]; rfl, HB5.out⟩
    | true =>
      have HC2 := Lib.hid (show C = if tiedTo J l l.length then 16 else 0 by rw [HC.out]; rfl)
      have HJJ := Lib.hid (HLI.out.1 rfl)
      obtain ⟨a1, c1, g, cg, hz, h1, _, h3, hg, hm⟩ := HD5.out.get
      rw [← HN.out] at h3 hm
      have HMK := Lib.hid hm
      have HYX := Lib.hid (HY.out.mono HB5.out)
      have HTS := Lib.hid (tiedTo_succ J l)
      have HPS := Lib.hid (pairTo_succ J l)
      have HP0 := Lib.hid (fun i => show pairTo J l i 0 = false from rfl)
      have HTM := Lib.hid (fun k (h : tiedTo J l k = true) (hk : k ≤ l.length) => show C = 16 by rw [HC2.out, tiedTo_mono h hk]; rfl)
      have HPM := Lib.hid (fun i q (h : pairTo J l i q = true) (hk : q ≤ l.length) => pairTo_mono (m := l.length) h hk)
      clear hm h1
      go_wp2_with fail
      go_loopw [30] (fun s30 wr => ∃ k : Nat, k ≤ l.length ∧ s30 = .int .i64 k ∧ tiedTo J l k = false ∧ wr = w5) (fun s30 _ => l.length - (intOf s30).toNat)
      case atStart => exact ⟨0, Nat.zero_le _, rfl, rfl, rfl⟩
      case round =>
        obtain ⟨k, hk, rfl, ht, hwr⟩ := hrel
        subst hwr
        have HT := Lib.hid ht
        clear ht
        by_cases hlt : k < l.length
        · obtain ⟨bx, ox, e, hbx, hcx⟩ := HYX.out.get (by omega)
          subst e
          obtain ⟨v1, v2, _⟩ := HJJ.out k hlt
          obtain ⟨p, hp⟩ := Int.eq_ofNat_of_zero_le v1
          have hpn : p < n := by omega
          have gx := hcx k hlt
          have HPT := Lib.hid (show (elt l k).toNat = p by omega)
          rw [hp] at gx
          clear v1 v2 hp hcx
          go_wp2_with fail
          clear gx
          go_loopw [36] (fun s36 wr2 => ∃ q : Nat, q ≤ l.length ∧ s36 = .int .i64 q ∧ pairTo J l k q = false ∧ wr2 = wr) (fun s36 _ => l.length - (intOf s36).toNat)
          case atStart => exact ⟨0, Nat.zero_le _, rfl, HP0.out k, rfl⟩
          case round =>
            obtain ⟨q, hq, rfl, ht, hwr⟩ := hrel
            subst hwr
            have HT2 := Lib.hid ht
            clear ht
            by_cases hlq : q < l.length
            · obtain ⟨b2, o2, e, hb2, hcx⟩ := HYX.out.get (by omega)
              cases e
              obtain ⟨v1, v2, _⟩ := HJJ.out q hlq
              obtain ⟨r, hr⟩ := Int.eq_ofNat_of_zero_le v1
              have hrn : r < n := by omega
              have gx := hcx q hlq
              have HST := Lib.hid (show pairTo J l k (q + 1) = aft J p r by rw [HPS.out, HT2.out, Bool.false_or, HPT.out, show (elt l q).toNat = r by omega])
              have gm := HMK.out p r hpn (by omega)
              rw [hr] at gx
              clear v1 v2 hr hcx
              cases hb : aft J p r with
              | true =>
                rw [hb, if_pos rfl] at gm
                have HCC := Lib.hid (HTM.out (k + 1) (by rw [HTS.out, HPM.out k (q + 1) (by rw [HST.out, hb]) hlq, Bool.or_true]) hlt)
                have HVV := Lib.hid (show V = 0 by rw [HV.out, if_neg (by rw [HCC.out]; decide)])
                clear hb
                go_wp2_with fail
                go_ret2
                exact ⟨by rw [HVV.out, HCC.out]; rfl, HB5.out⟩
              | false =>
                rw [hb, if_neg (by decide)] at gm
                have HNX := Lib.hid (show pairTo J l k (q + 1) = false by rw [HST.out, hb])
                clear hb
                go_wp2_with fail
                go_roundw
                case rel => exact ⟨q + 1, by omega, by go_num, HNX.out, by trivial⟩
                case measure => simp [intOf]; omega
            · have HNX := Lib.hid (show tiedTo J l (k + 1) = false by
                have hqe : q = l.length := by omega
                have h9 := HT2.out
                rw [hqe] at h9
                rw [HTS.out, HT.out, h9]; rfl)
              go_wp2_with fail
              go_roundw
              case rel => exact ⟨k + 1, by omega, by go_num, HNX.out, by trivial⟩
              case measure => simp [intOf]; omega
        · have HCC := Lib.hid (show C = 0 by
            have hke : k = l.length := by omega
            have h9 := HT.out
            rw [hke] at h9
            rw [HC2.out, h9]; rfl)
          have HVV := Lib.hid (show V = (l.length : Int) by rw [HV.out, if_pos HCC.out])
          go_wp2_with fail
          go_ret2
          exact ⟨by rw [HVV.out, HCC.out]; rfl, HB5.out⟩
end Go.Proofs.YteknehlkdgamjaaGreat
