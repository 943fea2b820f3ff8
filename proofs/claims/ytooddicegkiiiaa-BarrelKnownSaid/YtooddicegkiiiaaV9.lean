/- Count, isGroup of the program. -/
import Derived.Test.YtooddicegkiiiaaV8
namespace Go.Proofs.Ytooddicegkiiiaa
open Go.RowKit Go.Shelf

theorem slice_two (w : World) (a b : Int) (t : TypeId) : RdI (w.alloc (.cells #[.int .i64 a, .int .i64 b] t)) .i64 (.slice (some ⟨w.heap.size, 0, none⟩) 2 2) [a, b] := by
  refine ⟨_, _, rfl, by simp, by unfold maxLen; omega, fun _ => ⟨_, _, rfl, by simp, fun j u hj => ?_⟩⟩
  match j, hj with
  | 0, hj => simp at hj; simp [← hj]
  | 1, hj => simp at hj; simp [← hj]
theorem slice_one (w : World) (a : Int) (t : TypeId) : RdI (w.alloc (.cells #[.int .i64 a] t)) .i64 (.slice (some ⟨w.heap.size, 0, none⟩) 1 1) [a] := by
  refine ⟨_, _, rfl, by simp, by unfold maxLen; omega, fun _ => ⟨_, _, rfl, by simp, fun j u hj => ?_⟩⟩
  match j, hj with
  | 0, hj => simp at hj; simp [← hj]

/-- What Count returns. -/
def cntN (A B : Int) (o : Bool) (f t : Int) : Int := if o = false ∨ t < A then 0 else if A < f then (t - A) / B + 1 - ((f - 1 - A) / B + 1) else (t - A) / B + 1
def countE (V : List (Int × Int)) (f t : Int) : Int := if openE V [f, t] ≠ 0 then openE V [f, t] else if t < f then 2 else 0
def countN (V : List (Int × Int)) (f t : Int) : Int := if openE V [f, t] ≠ 0 then 0 else if t < f then 0 else cntN (jA V) (jB V) (jO V) f t

set_option maxRecDepth 100000 in
set_option maxHeartbeats 1000000 in
theorem count_any (x : Value) (V : List (Int × Int)) (f t : Int) (w : World) (hx0 : RdP w x V) (hl : V.length ≤ 1000) :
    Calls Try.prog 29 #[x, .int .i64 f, .int .i64 t] w fun e w' => e = .returned (.tuple #[.int .i64 (countN V f t), .int .i64 (countE V f t)]) ∧ Below w.heap.size w w' := by
  obtain ⟨a, ca, rfl, _, _, _⟩ := hx0.form
  by_cases hc : openE V [f, t] = 0
  · obtain ⟨hc1, hc2⟩ := openE_zero hc
    have hV := okPins_of hc1
    have hft : 0 ≤ f ∧ f ≤ 1000000000000 ∧ 0 ≤ t ∧ t ≤ 1000000000000 := by simp [outB] at hc2; omega
    obtain ⟨f0, f1, t0, t1⟩ := hft
    have HO := Lib.hid (fun w' (hx : RdP w' (.slice a V.length ca) V) y hy => open_ok _ y V [f, t] w' hx hy (by simp) hc)
    by_cases hgt : t < f
    · have e1 : countN V f t = 0 := by unfold countN; rw [if_neg (by simpa using hc), if_pos hgt]
      have e2 : countE V f t = 2 := by unfold countE; rw [if_neg (by simpa using hc), if_pos hgt]
      rw [e1, e2]; clear e1 e2 hc hc1 hc2
      go_enter Try.func29, Try.ntmps29
      go_wp2_with fail
      refine (HO.out _ (hx0.mono (bal (bz _) _)) _ (slice_two w f t 2)).mono ?_
      rintro e w2 ⟨b, rfl, hb, hD, hB2⟩
      go_wp2_with fail
      go_ret2
      exact ⟨rfl, btr (bal (bz _) _) hB2⟩
    · have e1 : countN V f t = cntN (jA V) (jB V) (jO V) f t := by unfold countN; rw [if_neg (by simpa using hc), if_neg hgt]
      have e2 : countE V f t = 0 := by unfold countE; rw [if_neg (by simpa using hc), if_neg hgt]
      rw [e1, e2]; clear e1 e2 hc hc1 hc2
      have HJ := Lib.hid (fun b w' hD => join_any b V w' hD hV.v hV.l5)
      have HT := Lib.hid (fun h => j_true (V := V) hV.v h)
      generalize jO V = o at *
      generalize jA V = A at *
      generalize jB V = B at *
      cases o
      · have e : cntN A B false f t = 0 := by simp [cntN]
        rw [e]; clear e
        go_enter Try.func29, Try.ntmps29
        go_wp2_with fail
        refine (HO.out _ (hx0.mono (bal (bz _) _)) _ (slice_two w f t 2)).mono ?_
        rintro e w2 ⟨b, rfl, hb, hD, hB2⟩
        go_wp2_with fail
        refine (HJ.out b _ hD).mono ?_
        rintro e w3 ⟨rfl, hB3⟩
        go_wp2_with fail
        go_ret2
        exact ⟨rfl, btr (bal (bz _) _) (btr hB2 hB3)⟩
      · have hJ := HT.out rfl
        have a0 := hJ.t0; have a1 := hJ.tp
        clear hJ
        by_cases ht : t < A
        · have e : cntN A B true f t = 0 := by simp [cntN, ht]
          rw [e]; clear e
          go_enter Try.func29, Try.ntmps29
          go_wp2_with fail
          refine (HO.out _ (hx0.mono (bal (bz _) _)) _ (slice_two w f t 2)).mono ?_
          rintro e w2 ⟨b, rfl, hb, hD, hB2⟩
          go_wp2_with fail
          refine (HJ.out b _ hD).mono ?_
          rintro e w3 ⟨rfl, hB3⟩
          go_wp2_with fail
          go_ret2
          exact ⟨rfl, btr (bal (bz _) _) (btr hB2 hB3)⟩
        · have q0 : 0 ≤ (t - A) / B := Int.ediv_nonneg (by omega) (by omega)
          have q1 : (t - A) / B ≤ t - A := Int.ediv_le_self _ (by omega)
          by_cases hf : A < f
          · have e : cntN A B true f t = (t - A) / B + 1 - ((f - 1 - A) / B + 1) := by simp [cntN, ht, hf]
            have E := Lib.hid e; clear e
            have q2 : 0 ≤ (f - 1 - A) / B := Int.ediv_nonneg (by omega) (by omega)
            have q3 : (f - 1 - A) / B ≤ f - 1 - A := Int.ediv_le_self _ (by omega)
            go_enter Try.func29, Try.ntmps29
            go_wp2_with fail
            refine (HO.out _ (hx0.mono (bal (bz _) _)) _ (slice_two w f t 2)).mono ?_
            rintro e w2 ⟨b, rfl, hb, hD, hB2⟩
            go_wp2_with fail
            refine (HJ.out b _ hD).mono ?_
            rintro e w3 ⟨rfl, hB3⟩
            go_wp2_with fail
            go_ret2
            exact ⟨by rw [E.out]; rfl, btr (bal (bz _) _) (btr hB2 hB3)⟩
          · have e : cntN A B true f t = (t - A) / B + 1 := by simp [cntN, ht, hf]
            have E := Lib.hid e; clear e
            go_enter Try.func29, Try.ntmps29
            go_wp2_with fail
            refine (HO.out _ (hx0.mono (bal (bz _) _)) _ (slice_two w f t 2)).mono ?_
            rintro e w2 ⟨b, rfl, hb, hD, hB2⟩
            go_wp2_with fail
            refine (HJ.out b _ hD).mono ?_
            rintro e w3 ⟨rfl, hB3⟩
            go_wp2_with fail
            go_ret2
            exact ⟨by rw [E.out]; rfl, btr (bal (bz _) _) (btr hB2 hB3)⟩
  · have e1 : countN V f t = 0 := by unfold countN; rw [if_pos (by simpa using hc)]
    have e2 : countE V f t = openE V [f, t] := by unfold countE; rw [if_pos (by simpa using hc)]
    rw [e1, e2]; clear e1 e2
    have HO := Lib.hid (fun w' (hx : RdP w' (.slice a V.length ca) V) y hy => open_no _ y V [f, t] w' hx hy hl (by simp) hc)
    have hcb : (openE V [f, t] != 0) = true := by simpa using hc
    have hce : (openE V [f, t] == 0) = false := by simpa using hc
    clear hc
    generalize openE V [f, t] = q at *
    go_enter Try.func29, Try.ntmps29
    go_wp2_with fail
    refine (HO.out _ (hx0.mono (bal (bz _) _)) _ (slice_two w f t 2)).mono ?_
    rintro e w2 ⟨rfl, hB2⟩
    go_wp2_with fail
    go_ret2
    exact ⟨rfl, btr (bal (bz _) _) hB2⟩

/-! Looking up pairs. -/
theorem look_cl {V : List (Int × Int)} {L : Ents} (h : ClM V L) (i k : Nat) (hi : i < k) (hk : k < V.length) :
    (findL ((i : Int), (k : Int)) L 0).isSome = clB (pin V i) (pin V k) ∧ (clB (pin V i) (pin V k) = true → ((findL ((i : Int), (k : Int)) L 0).map (·.2)).getD (.int .i64 0) = .int .i64 (gcdI (pin V i).1 (pin V k).1)) ∧
    ∃ n, ((findL ((i : Int), (k : Int)) L 0).map (·.2)).getD (.int .i64 0) = .int .i64 n := by
  cases hf : findL ((i : Int), (k : Int)) L 0 with
  | none =>
    have hno := findL_none hf
    have hc : clB (pin V i) (pin V k) = false := by
      cases hc : clB (pin V i) (pin V k) with
      | false => rfl
      | true =>
        obtain ⟨t, ht⟩ := (h _ _).2 ⟨i, k, hi, hk, rfl, rfl, hc⟩
        exact absurd (List.mem_map.2 ⟨_, ht, rfl⟩) hno
    rw [hc]
    exact ⟨rfl, (fun h => by cases h), 0, rfl⟩
  | some q =>
    obtain ⟨j, v⟩ := q
    obtain ⟨k', e, _, he, hea, hv⟩ := findL_some hf
    have hm : e ∈ L := List.mem_of_getElem? he
    obtain ⟨a, b, _, _, h3, h4, h5⟩ := (h e.1 e.2.1).1 ⟨e.2.2, hm⟩
    rw [hea] at h3
    simp only [Prod.mk.injEq] at h3
    obtain rfl : a = i := by omega
    obtain rfl : b = k := by omega
    rw [h5]
    refine ⟨rfl, fun _ => ?_, e.2.1, ?_⟩
    · simp [hv, h4]
    · simp [hv]

/-- Numbers as ints. -/
def natL (g : List Nat) : List Int := g.map fun (n : Nat) => (n : Int)
theorem natL_len (g : List Nat) : (natL g).length = g.length := by simp [natL]
theorem natL_get (g : List Nat) (k : Nat) (h : k < g.length) : (natL g)[k]?.getD 0 = ((g[k]?.getD 0 : Nat) : Int) := by simp [natL, h]
/-- A strictly increasing list of pins. -/
def Inc (V : List (Int × Int)) (g : List Nat) : Prop := g.Pairwise (· < ·) ∧ ∀ i ∈ g, i < V.length
/-- No two of them clash. -/
def Grp (V : List (Int × Int)) (g : List Nat) : Prop := g.Pairwise fun a b => clB (pin V a) (pin V b) = false
instance (V : List (Int × Int)) (g : List Nat) : Decidable (Grp V g) := by unfold Grp; infer_instance
theorem Inc.lt {V : List (Int × Int)} {g : List Nat} (h : Inc V g) {i k : Nat} (hi : i < k) (hk : k < g.length) : g[i]?.getD 0 < g[k]?.getD 0 ∧ g[k]?.getD 0 < V.length := by
  have h1 := h.1
  rw [List.pairwise_iff_getElem] at h1
  have := h1 i k (by omega) hk hi
  simp only [show i < g.length by omega, hk, List.getElem?_eq_getElem, Option.getD_some]
  exact ⟨this, h.2 _ (List.getElem_mem hk)⟩
theorem Inc.lt1 {V : List (Int × Int)} {g : List Nat} (h : Inc V g) {k : Nat} (hk : k < g.length) : g[k]?.getD 0 < V.length := by
  simp only [hk, List.getElem?_eq_getElem, Option.getD_some]
  exact h.2 _ (List.getElem_mem hk)
theorem grp_iff {V : List (Int × Int)} {g : List Nat} : Grp V g ↔ ∀ i k, i < k → k < g.length → clB (pin V (g[i]?.getD 0)) (pin V (g[k]?.getD 0)) = false := by
  unfold Grp
  rw [List.pairwise_iff_getElem]
  constructor
  · intro h i k hi hk
    have := h i k (by omega) hk hi
    simpa only [show i < g.length by omega, hk, List.getElem?_eq_getElem, Option.getD_some] using this
  · intro h i k hi hk hik
    have := h i k hik hk
    simpa only [hi, hk, List.getElem?_eq_getElem, Option.getD_some] using this

set_option maxRecDepth 100000 in
set_option maxHeartbeats 1000000 in
theorem isgroup_any (b : Nat) (V : List (Int × Int)) (y : Value) (g : List Nat) (w : World) (hD : IsDrum w b V) (hy0 : RdI w .i64 y (natL g)) (hg : Inc V g) (hl : g.length ≤ 1000) :
    Calls Try.prog 70 #[.pointer (some ⟨b, 0, none⟩), y] w fun e w' => e = .returned (.bool (decide (Grp V g))) ∧ w = w' := by
  obtain ⟨x, M, L, c, hb, hM, hok, hcl, hx0⟩ := hD
  have d0 : w.cell? ⟨b, 0, none⟩ = some x := by rw [cell_of_row w _ 0 _ _ _ hb]; rfl
  have d1 : w.cell? ⟨b, 1, none⟩ = some (.map (some M)) := by rw [cell_of_row w _ 1 _ _ _ hb]; rfl
  have dz := (Array.getElem?_eq_some_iff.1 hb).1
  have hlk := fun a => run_lookupL (W := w) hM a
  have HLK := Lib.hid hlk; have HCL := Lib.hid hcl
  obtain ⟨a, ca, rfl, hca, hca2, hy⟩ := hy0.form
  rw [natL_len] at *
  clear hb hM hok hcl hx0 hlk hy0 hca2
  go_enter Try.func70, Try.ntmps70
  go_wp2_with fail
  go_loopw [13] (fun i wr => ∃ k : Nat, k ≤ g.length ∧ i = .int .i64 k ∧ (∀ i j, i < j → j < k → clB (pin V (g[i]?.getD 0)) (pin V (g[j]?.getD 0)) = false) ∧ w = wr) (fun i _ => g.length - (intOf i).toNat)
  case atStart => exact ⟨0, Nat.zero_le _, rfl, fun i j _ h => by omega, rfl⟩
  case round =>
    obtain ⟨k, hk, rfl, hP, rfl⟩ := hrel
    have HP := Lib.hid hP; clear hP
    by_cases hlt : k < g.length
    · obtain ⟨by', oy, rfl, hby, hcy⟩ := hy (by omega)
      have gk := hcy k hlt
      rw [natL_get g k hlt] at gk
      have HCY := Lib.hid hcy
      have hkV := hg.lt1 hlt
      clear hy hcy
      generalize hgk : g[k]?.getD 0 = gk' at *
      have HGK := Lib.hid hgk; clear hgk
      go_wp2_with fail
      go_loopw [22] (fun i wr => ∃ j : Nat, j ≤ k ∧ i = .int .i64 j ∧ (∀ i, i < j → clB (pin V (g[i]?.getD 0)) (pin V gk') = false) ∧ w = wr) (fun i _ => k - (intOf i).toNat)
      case atStart => exact ⟨0, Nat.zero_le _, rfl, fun i h => by omega, rfl⟩
      case round =>
        obtain ⟨j, hj, rfl, hQ, rfl⟩ := hrel
        have HQ := Lib.hid hQ; clear hQ
        by_cases hlj : j < k
        · have gj := HCY.out j (by omega)
          rw [natL_get g j (by omega)] at gj
          have hij := (hg.lt hlj hlt).1
          rw [HGK.out] at hij
          generalize hgj : g[j]?.getD 0 = gj' at *
          have HGJ := Lib.hid hgj; clear hgj
          obtain ⟨l1, _, n, l3⟩ := look_cl HCL.out gj' gk' hij hkV
          have hlk := HLK.out ((gj' : Int), (gk' : Int))
          rw [l1, l3] at hlk
          unfold kv at hlk
          simp only at hlk
          clear l1 l3
          cases hc : clB (pin V gj') (pin V gk')
          · rw [hc] at hlk
            have HC := Lib.hid hc; clear hc
            go_wp2_with fail
            go_roundw
            case rel =>
              refine ⟨j + 1, by omega, by go_num, fun i h => ?_, trivial⟩
              by_cases e : i = j
              · subst e; rw [HGJ.out]; exact HC.out
              · exact HQ.out i (by omega)
            case measure => simp [intOf]; omega
          · rw [hc] at hlk
            have HC := Lib.hid hc; clear hc
            go_wp2_with fail
            go_ret
            refine ⟨ret_bool ?_, rfl⟩
            symm
            rw [decide_eq_false_iff_not, grp_iff]
            intro h
            have := h j k hlj hlt
            rw [HGJ.out, HGK.out, HC.out] at this
            cases this
        · have hjk : j = k := by omega
          have HJK := Lib.hid hjk; clear hjk
          go_wp2_with fail
          go_roundw
          case rel =>
            refine ⟨k + 1, by omega, by go_num, fun i j' h1 h2 => ?_, trivial⟩
            by_cases e : j' = k
            · subst e; rw [HGK.out]; exact HQ.out i (by have := HJK.out; omega)
            · exact HP.out i j' h1 (by omega)
          case measure => simp [intOf]; omega
    · go_wp2_with fail
      go_ret
      refine ⟨ret_bool ?_, rfl⟩
      symm
      rw [decide_eq_true_eq, grp_iff]
      exact fun i j h1 h2 => HP.out i j h1 (by omega)
end Go.Proofs.Ytooddicegkiiiaa
