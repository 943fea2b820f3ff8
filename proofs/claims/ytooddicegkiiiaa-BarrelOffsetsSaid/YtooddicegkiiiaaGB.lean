/- Merged texts: CheckClash, CheckGroup, Sounds, Quiet, Clash, greatest. -/
import Derived.Test.YtooddicegkiiiaaGA
import Derived.Laws.OwnMore
import Derived.Maps.AppendAt
namespace Go.Proofs.Ytooddicegkiiiaa
open Go.RowKit Go.Shelf

/-- What CheckClash returns. -/
def badTwo (V : List (Int × Int)) (i k : Int) : Bool := [i, k].any (outB 0 ((V.length : Int) - 1)) || decide (i = k)
def ccE (V : List (Int × Int)) (i k : Int) : Int := if checkP V ≠ 0 then checkP V else if badTwo V i k then 2 else if clB (pin V i.toNat) (pin V k.toNat) then 0 else 14
def ccN (V : List (Int × Int)) (i k : Int) : Int := if checkP V ≠ 0 then 0 else if badTwo V i k then 0 else if clB (pin V i.toNat) (pin V k.toNat) then gcdI (pin V i.toNat).1 (pin V k.toNat).1 else 0

set_option maxRecDepth 100000 in
set_option maxHeartbeats 2000000 in
theorem cc_two (x : Value) (V : List (Int × Int)) (m n lo hi : Nat) (w : World) (hx0 : RdP w x V) (hc : checkP V = 0) (hlt : lo < hi) (hhi : hi < V.length) (hord : (lo = m ∧ hi = n) ∨ (hi = m ∧ lo = n))
    (b : Bool) (hcb : clB (pin V lo) (pin V hi) = b) :
    Calls Try.prog 31 #[x, .int .i64 m, .int .i64 n] w fun e w' => e = .returned (.tuple #[.int .i64 (if b then gcdI (pin V lo).1 (pin V hi).1 else 0), .int .i64 (if b then 0 else 14)]) ∧ Below w.heap.size w w' := by
  obtain ⟨a, ca, rfl, _, _, _⟩ := hx0.form
  have hV := okPins_of hc
  have h1 := hV.l1; have h5 := hV.l5
  have HO := Lib.hid (open_ok _ _ V [] w hx0 (rdI_nil _ _) (by simp) (by rw [openE_nil]; exact hc))
  have hm : m < V.length := by rcases hord with ⟨h, k⟩ | ⟨h, k⟩ <;> omega
  have hn : n < V.length := by rcases hord with ⟨h, k⟩ | ⟨h, k⟩ <;> omega
  have ho : [(m : Int), (n : Int)].any (outB 0 ((V.length : Int) - 1)) = false := by
    clear hord; simp [outB]; omega
  clear hm hn
  have hmn : m ≠ n := by rcases hord with ⟨h, k⟩ | ⟨h, k⟩ <;> omega
  have hnb : ((m : Int) == (n : Int)) = false := by rw [beq_eq_false_iff_ne]; intro h; exact hmn (Int.ofNat.inj h)
  clear hmn
  have HR := Lib.hid (fun (L : Ents) (hcl : ClM V L) => look_cl hcl lo hi hlt hhi)
  rw [hcb] at HR
  have HH := Lib.hid ho; clear ho hc hcb
  have hlti : (lo : Int) < hi := by omega
  have hnlt : ¬ hi < lo := by omega
  have hnle : ¬ hi ≤ lo := by omega
  have hle : lo ≤ hi := by omega
  rcases hord with ⟨rfl, rfl⟩ | ⟨rfl, rfl⟩
  all_goals
    go_enter Try.func31, Try.ntmps31
    go_wp2_with fail
    refine HO.out.mono ?_
    rintro e w2 ⟨db, rfl, hb, hD, hB2⟩
    go_wp2_with fail
    refine (within_any _ [_, _] _ _ _ (slice_two _ _ _ _) (by simp)).mono ?_
    rintro e w3 ⟨rfl, hB3⟩
    rw [HH.out]
    obtain ⟨x, M, L, c, hb', hM, hok, hcl, hx1⟩ := hD.mono (btr (bal (bz _) _) hB3)
    have d0 : w3.cell? ⟨db, 0, none⟩ = some x := by rw [cell_of_row w3 _ 0 _ _ _ hb']; rfl
    have d1 : w3.cell? ⟨db, 1, none⟩ = some (.map (some M)) := by rw [cell_of_row w3 _ 1 _ _ _ hb']; rfl
    have dz := (Array.getElem?_eq_some_iff.1 hb').1
    obtain ⟨l1, l2, n', l3⟩ := HR.out L hcl
    have hlk := run_lookupL hM ((lo : Int), (hi : Int))
    have HL2 := Lib.hid l2; have HL3 := Lib.hid l3
    clear hb' hM hok hcl hx1 l2 hx0 hD
    rw [l1, l3] at hlk
    unfold kv at hlk
    simp only at hlk
    clear l1 l3
    cases b
    · go_wp2_with fail
      go_ret2
      exact ⟨rfl, btr (bal hB2 _) hB3⟩
    · obtain rfl : n' = gcdI (pin V lo).1 (pin V hi).1 := by
        have := (HL3.out.symm.trans (HL2.out rfl)); simp at this; exact this
      go_wp2_with fail
      go_ret2
      exact ⟨rfl, btr (bal hB2 _) hB3⟩

set_option maxRecDepth 100000 in
set_option maxHeartbeats 1000000 in
theorem checkclash_any (x : Value) (V : List (Int × Int)) (i k : Int) (w : World) (hx0 : RdP w x V) (hl : V.length ≤ 1000) :
    Calls Try.prog 31 #[x, .int .i64 i, .int .i64 k] w fun e w' => e = .returned (.tuple #[.int .i64 (ccN V i k), .int .i64 (ccE V i k)]) ∧ Below w.heap.size w w' := by
  obtain ⟨a, ca, rfl, _, _, _⟩ := hx0.form
  by_cases hc : checkP V = 0
  · have hV := okPins_of hc
    have hc0 := hc
    have h1 := hV.l1; have h5 := hV.l5
    have HO := Lib.hid (open_ok _ _ V [] w hx0 (rdI_nil _ _) (by simp) (by rw [openE_nil]; exact hc))
    have e1 : ccN V i k = if badTwo V i k then 0 else if clB (pin V i.toNat) (pin V k.toNat) then gcdI (pin V i.toNat).1 (pin V k.toNat).1 else 0 := by unfold ccN; rw [if_neg (by simpa using hc)]
    have e2 : ccE V i k = if badTwo V i k then 2 else if clB (pin V i.toNat) (pin V k.toNat) then 0 else 14 := by unfold ccE; rw [if_neg (by simpa using hc)]
    rw [e1, e2]; clear e1 e2 hc
    cases ho : [i, k].any (outB 0 ((V.length : Int) - 1))
    · have hb : 0 ≤ i ∧ i < V.length ∧ 0 ≤ k ∧ k < V.length := by simp [outB] at ho; omega
      by_cases hik : i = k
      · subst hik
        have e : badTwo V i i = true := by simp [badTwo]
        rw [e]; clear e
        have HH := Lib.hid ho; clear ho hb hc0
        go_enter Try.func31, Try.ntmps31
        go_wp2_with fail
        refine HO.out.mono ?_
        rintro e w2 ⟨b, rfl, hb, hD, hB2⟩
        go_wp2_with fail
        refine (within_any _ [i, i] _ _ _ (slice_two _ _ _ _) (by simp)).mono ?_
        rintro e w3 ⟨rfl, hB3⟩
        rw [HH.out]
        go_wp2_with fail
        go_ret2
        exact ⟨rfl, btr (bal hB2 _) hB3⟩
      · have e : badTwo V i k = false := by simp [badTwo, ho, hik]
        rw [e]; clear e
        have HH := Lib.hid ho; clear ho
        obtain ⟨m, rfl⟩ := Int.eq_ofNat_of_zero_le hb.1
        obtain ⟨n, rfl⟩ := Int.eq_ofNat_of_zero_le hb.2.2.1
        simp only [Int.toNat_natCast, Bool.false_eq_true, if_false]
        have hm : m < V.length := by omega
        have hn : n < V.length := by omega
        rcases Nat.lt_or_gt_of_ne (show m ≠ n by omega) with hlt | hlt
        · have h := cc_two _ V m n m n w hx0 hc0 hlt hn (.inl ⟨rfl, rfl⟩) _ rfl
          exact h
        · have h := cc_two _ V m n n m w hx0 hc0 hlt hm (.inr ⟨rfl, rfl⟩) _ rfl
          rw [clB_comm, gcdI_comm] at h
          exact h
    · have e : badTwo V i k = true := by simp [badTwo, ho]
      rw [e]; clear e
      have HH := Lib.hid ho; clear ho hc0
      go_enter Try.func31, Try.ntmps31
      go_wp2_with fail
      refine HO.out.mono ?_
      rintro e w2 ⟨b, rfl, hb, hD, hB2⟩
      go_wp2_with fail
      refine (within_any _ [i, k] _ _ _ (slice_two _ _ _ _) (by simp)).mono ?_
      rintro e w3 ⟨rfl, hB3⟩
      rw [HH.out]
      go_wp2_with fail
      go_ret2
      exact ⟨rfl, btr (bal hB2 _) hB3⟩
  · have HO := Lib.hid (open_no _ _ V [] w hx0 (rdI_nil _ _) hl (by simp) (by rw [openE_nil]; exact hc))
    have e1 : ccN V i k = 0 := by unfold ccN; rw [if_pos (by simpa using hc)]
    have e2 : ccE V i k = checkP V := by unfold ccE; rw [if_pos (by simpa using hc)]
    rw [e1, e2]; clear e1 e2
    rw [openE_nil] at HO
    have hcb : (checkP V != 0) = true := by simpa using hc
    have hce : (checkP V == 0) = false := by simpa using hc
    clear hc
    generalize checkP V = q at *
    go_enter Try.func31, Try.ntmps31
    go_wp2_with fail
    refine HO.out.mono ?_
    rintro e w2 ⟨rfl, hB2⟩
    go_wp2_with fail
    go_ret2
    exact ⟨rfl, hB2⟩
end Go.Proofs.Ytooddicegkiiiaa

namespace Go.Proofs.Ytooddicegkiiiaa
open Go.RowKit Go.Shelf

/-- Strictly increasing numbers of pins, from N on. -/
def incB (n : Nat) : Int → List Int → Bool
  | _, [] => true
  | N, i :: r => !outB N ((n : Int) - 1) i && incB n (i + 1) r
/-- The indexes as numbers. -/
def ixs (g : List Int) : List Nat := g.map Int.toNat
theorem incB_spec (n : Nat) : ∀ (g : List Int) (N : Int), 0 ≤ N → incB n N g = true → natL (ixs g) = g ∧ (ixs g).Pairwise (· < ·) ∧ (∀ i ∈ ixs g, N ≤ (i : Int) ∧ i < n)
  | [], _, _, _ => ⟨rfl, List.Pairwise.nil, by simp [ixs]⟩
  | i :: r, N, hN, h => by
    simp only [incB, Bool.and_eq_true, Bool.not_eq_true'] at h
    obtain ⟨h1, h2⟩ := h
    have hi : N ≤ i ∧ i ≤ (n : Int) - 1 := by simp [outB] at h1; omega
    obtain ⟨i1, i2, i3⟩ := incB_spec n r (i + 1) (by omega) h2
    refine ⟨?_, ?_, ?_⟩
    · simp only [ixs, natL, List.map_cons] at i1 ⊢
      rw [i1, Int.toNat_of_nonneg (by omega)]
    · simp only [ixs, List.map_cons, List.pairwise_cons] at i2 ⊢
      refine ⟨fun a ha => ?_, i2⟩
      have := (i3 a ha).1
      omega
    · intro a ha
      simp only [ixs, List.map_cons, List.mem_cons] at ha
      rcases ha with rfl | ha
      · omega
      · have := i3 a ha; omega
theorem incB_inc {V : List (Int × Int)} {g : List Int} (h : incB V.length 0 g = true) : natL (ixs g) = g ∧ Inc V (ixs g) := by
  obtain ⟨h1, h2, h3⟩ := incB_spec _ g 0 (by omega) h
  exact ⟨h1, h2, fun i hi => (h3 i hi).2⟩
/-- What CheckGroup returns. -/
def cgE (V : List (Int × Int)) (g : List Int) : Int := if checkP V ≠ 0 then checkP V else if incB V.length 0 g then (if Grp V (ixs g) then 0 else 21) else 2

set_option maxRecDepth 100000 in
set_option maxHeartbeats 1000000 in
theorem checkgroup_any (x y : Value) (V : List (Int × Int)) (g : List Int) (w : World) (hx0 : RdP w x V) (hy0 : RdI w .i64 y g) (hl : V.length ≤ 1000) (hg : g.length ≤ 1000) :
    Calls Try.prog 37 #[x, y] w fun e w' => e = .returned (.int .i64 (cgE V g)) ∧ Below w.heap.size w w' := by
  obtain ⟨a, ca, rfl, _, _, _⟩ := hx0.form
  by_cases hc : checkP V = 0
  · have hV := okPins_of hc
    have h1 := hV.l1; have h5 := hV.l5
    have HO := Lib.hid (open_ok _ _ V [] w hx0 (rdI_nil _ _) (by simp) (by rw [openE_nil]; exact hc))
    have e1 : cgE V g = if incB V.length 0 g then (if Grp V (ixs g) then 0 else 21) else 2 := by unfold cgE; rw [if_neg (by simpa using hc)]
    have E1 := Lib.hid e1; clear e1 hc
    obtain ⟨ay, cy, rfl, hcy, hcy2, hy⟩ := hy0.form
    clear hcy2
    go_enter Try.func37, Try.ntmps37
    go_wp2_with fail
    refine HO.out.mono ?_
    rintro e w2 ⟨b, rfl, hb, hD, hB2⟩
    have HD := Lib.hid hD; have HB2 := Lib.hid hB2; have HY0 := Lib.hid hy0
    clear hD hB2 hb hy0
    go_wp2_with fail
    go_loopw [7, 9, 20] (fun s7 _ s20 wr => ∃ (k : Nat) (N : Int), k ≤ g.length ∧ s20 = .int .i64 k ∧ s7 = .int .i64 N ∧ 0 ≤ N ∧ N ≤ 5 ∧ incB V.length 0 g = incB V.length N (g.drop k) ∧ Below w2.heap.size w2 wr) (fun _ _ s20 _ => g.length - (intOf s20).toNat)
    case atStart => exact ⟨0, 0, Nat.zero_le _, rfl, rfl, by omega, by omega, by rw [List.drop_zero], bz _⟩
    case round =>
      obtain ⟨k, N, hk, rfl, rfl, hN0, hN5, hI, hB⟩ := hrel
      by_cases hlt : k < g.length
      · obtain ⟨by', oy, rfl, hby, hcell⟩ := hy (by omega)
        have gk := ((btr HB2.out hB).cell (p := ⟨by', oy + k, none⟩) hby).trans (hcell k hlt)
        have hd : g.drop k = (g[k]?.getD 0) :: g.drop (k + 1) := by
          rw [List.drop_eq_getElem_cons hlt]; simp [hlt]
        rw [hd] at hI
        simp only [incB] at hI
        have HB := Lib.hid hB
        clear hy hcell hd hB
        generalize g[k]?.getD 0 = gk' at *
        cases ho : [gk'].any (outB N ((V.length : Int) - 1))
        · have hr : N ≤ gk' ∧ gk' ≤ (V.length : Int) - 1 := by simp [outB] at ho; omega
          have ho2 : outB N ((V.length : Int) - 1) gk' = false := by simpa using ho
          rw [ho2] at hI
          obtain ⟨r1, r2⟩ := hr
          have HH := Lib.hid ho; have HI := Lib.hid hI; clear ho hI ho2
          go_wp2_with fail
          refine (within_any _ [gk'] _ _ _ (slice_one _ _ _) (by simp)).mono ?_
          rintro e w3 ⟨rfl, hB3⟩
          rw [HH.out]
          go_wp2_with fail
          go_roundw
          case rel =>
            refine ⟨k + 1, gk' + 1, by omega, by go_num, rfl, by omega, by omega, ?_, btr HB.out (btr (bal (bz _) _) hB3)⟩
            have := HI.out; simpa using this
          case measure => simp [intOf]; omega
        · have ho2 : outB N ((V.length : Int) - 1) gk' = true := by simpa using ho
          rw [ho2] at hI
          have HH := Lib.hid ho; have HI := Lib.hid hI; clear ho hI ho2
          go_wp2_with fail
          refine (within_any _ [gk'] _ _ _ (slice_one _ _ _) (by simp)).mono ?_
          rintro e w3 ⟨rfl, hB3⟩
          rw [HH.out]
          go_wp2_with fail
          go_ret
          refine ⟨ret_int ?_, btr HB2.out (btr HB.out (btr (bal (bz _) _) hB3))⟩
          rw [E1.out, HI.out]; rfl
      · have hkl : k = g.length := by omega
        have hI' : incB V.length 0 g = true := by rw [hI, hkl, List.drop_length]; rfl
        obtain ⟨i1, i2⟩ := incB_inc hI'
        have HI := Lib.hid hI'; have HI1 := Lib.hid i1; have HI2 := Lib.hid i2
        have HG := Lib.hid (isgroup_any b V _ (ixs g) wr (HD.out.mono hB) (by rw [i1]; exact HY0.out.mono (btr HB2.out hB)) i2 (by simp [ixs]; omega))
        clear hI hI' i1 i2 hkl
        generalize hq : decide (Grp V (ixs g)) = q at *
        have HQ := Lib.hid hq; clear hq
        go_wp2_with fail
        refine HG.out.mono ?_
        rintro e w3 ⟨rfl, rfl⟩
        cases q
        · go_wp2_with fail
          go_ret
          refine ⟨ret_int ?_, btr HB2.out hB⟩
          rw [E1.out, HI.out, if_pos rfl, if_neg (by have := HQ.out; simpa using this)]
        · go_wp2_with fail
          go_ret
          refine ⟨ret_int ?_, btr HB2.out hB⟩
          rw [E1.out, HI.out, if_pos rfl, if_pos (by have := HQ.out; simpa using this)]
  · have HO := Lib.hid (open_no _ _ V [] w hx0 (rdI_nil _ _) hl (by simp) (by rw [openE_nil]; exact hc))
    have e1 : cgE V g = checkP V := by unfold cgE; rw [if_pos (by simpa using hc)]
    rw [e1]; clear e1
    rw [openE_nil] at HO
    have hcb : (checkP V != 0) = true := by simpa using hc
    have hce : (checkP V == 0) = false := by simpa using hc
    clear hc
    generalize checkP V = q at *
    obtain ⟨ay, cy, rfl, hcy, hcy2, hy⟩ := hy0.form
    clear hcy2 hy hy0
    go_enter Try.func37, Try.ntmps37
    go_wp2_with fail
    refine HO.out.mono ?_
    rintro e w2 ⟨rfl, hB2⟩
    go_wp2_with fail
    go_ret
    exact ⟨rfl, hB2⟩
end Go.Proofs.Ytooddicegkiiiaa

namespace Go.Proofs.Ytooddicegkiiiaa
open Go.RowKit Go.Shelf

/-- Cells of ints. -/
def arrI (l : List Int) : Array Value := (l.map (Value.int .i64)).toArray
theorem arrI_size (l : List Int) : (arrI l).size = l.length := by simp [arrI]
theorem arrI_get (l : List Int) (i : Nat) (h : i < l.length) : (arrI l)[i]? = some (.int .i64 (l[i]?.getD 0)) := by simp [arrI, h]
theorem arrI_set (l : List Int) (i : Nat) (x : Int) : (arrI l).setIfInBounds i (.int .i64 x) = arrI (l.set i x) := by simp [arrI, List.map_set]
theorem one_arr (l : List Int) : (arrI l).all (·.oneCell') = true := by simp [arrI, Value.oneCell']

/-- A pin sounds. -/
def sndB (x : Int × Int) (t : Int) : Bool := decide ((t - x.2) % x.1 = 0)
/-- The marks of the first k pins. -/
def markK (V : List (Int × Int)) (t : Int) (k : Nat) : List Int := (List.range 5).map fun i => if i < k ∧ sndB (pin V i) t = true then 1 else 0
theorem markK_len (V : List (Int × Int)) (t : Int) (k : Nat) : (markK V t k).length = 5 := by simp [markK]
theorem markK_get (V : List (Int × Int)) (t : Int) (k i : Nat) (h : i < 5) : (markK V t k)[i]?.getD 0 = if i < k ∧ sndB (pin V i) t = true then 1 else 0 := by simp [markK, h]
theorem markK_zero (V : List (Int × Int)) (t : Int) : markK V t 0 = [0, 0, 0, 0, 0] := by simp [markK, List.range_succ]
theorem markK_yes (V : List (Int × Int)) (t : Int) (k : Nat) (h : sndB (pin V k) t = true) : (markK V t k).set k 1 = markK V t (k + 1) := by
  apply List.ext_getElem
  · simp [markK]
  · intro i h1 h2
    simp only [markK, List.getElem_set, List.getElem_map, List.getElem_range]
    by_cases e : k = i
    · subst e; simp [h]
    · rw [if_neg e]
      have : i < k ↔ i < k + 1 := by omega
      simp [this]
theorem markK_no (V : List (Int × Int)) (t : Int) (k : Nat) (h : sndB (pin V k) t = false) : markK V t k = markK V t (k + 1) := by
  apply List.ext_getElem
  · simp [markK]
  · intro i h1 h2
    simp only [markK, List.getElem_map, List.getElem_range]
    by_cases e : k = i
    · subst e; simp [h]
    · have : i < k ↔ i < k + 1 := by omega
      simp [this]

set_option maxRecDepth 100000 in
set_option maxHeartbeats 1000000 in
theorem at_any (x : Value) (V : List (Int × Int)) (t : Int) (w : World) (hx0 : RdP w x V) (hV : OkV V) (hl : V.length ≤ 5) (t0 : 0 ≤ t) (t1 : t ≤ 2000000000000) :
    Calls Try.prog 57 #[.agg #[x], .int .i64 t] w fun e w' => e = .returned (.agg (arrI (markK V t V.length))) ∧ Below w.heap.size w w' := by
  obtain ⟨a, ca, rfl, hca, hca2, hx⟩ := hx0.form
  clear hca2
  go_enter Try.func57, Try.ntmps57
  go_wp2_with fail
  go_loopw [6, 7, 11] (fun _ _ i wr => ∃ k : Nat, k ≤ V.length ∧ i = .int .i64 k ∧ wr.heap[w.heap.size + 1]? = some (.cells (arrI [0, 0, 0, 0, 0]) 78 (0, 0)) ∧
      wr.heap[w.heap.size + 2]? = some (.cells (arrI (markK V t k)) 78 (0, 0)) ∧ Below w.heap.size w wr) (fun _ _ i _ => V.length - (intOf i).toNat)
  case atStart =>
    refine ⟨0, Nat.zero_le _, rfl, ?_, ?_, bal (bal (bal (bz _) _) _) _⟩
    · have h := heap_alloc_new (w.alloc (.cells #[.slice a V.length ca] 81)) (.cells (arrI [0, 0, 0, 0, 0]) 78)
      rw [World.size_alloc] at h
      exact (Below.heap_alloc _ _ _ (by simp)).trans h
    · rw [markK_zero]
      have h := heap_alloc_new ((w.alloc (.cells #[.slice a V.length ca] 81)).alloc (.cells (arrI [0, 0, 0, 0, 0]) 78)) (.cells (arrI [0, 0, 0, 0, 0]) 78)
      rw [World.size_alloc, World.size_alloc] at h
      exact h
  case round =>
    obtain ⟨k, hk, rfl, hr, hr2, hB⟩ := hrel
    by_cases hlt : k < V.length
    · obtain ⟨bx, ox, rfl, hbx, hcx⟩ := hx (by omega)
      have gx := (hB.cell (p := ⟨bx, ox + k * 2, none⟩) hbx).trans (hcx k (by omega)).1
      have gy := (hB.cell (p := ⟨bx, ox + k * 2 + 1, none⟩) hbx).trans (hcx k (by omega)).2
      change wr.cell? _ = some (Value.int .i64 (pin V k).1) at gx
      change wr.cell? _ = some (Value.int .i64 (pin V k).2) at gy
      obtain ⟨p1, p2, p3, p4⟩ := hV.at hlt
      have hms := markK_get V t k k (by omega)
      rw [if_neg (by omega)] at hms
      have ci := (cell_of_row wr (w.heap.size + 2) k _ _ _ hr2).trans (arrI_get (markK V t k) k (by rw [markK_len]; omega))
      rw [hms] at ci
      have fi := frozen_of_row wr (w.heap.size + 2) k _ _ hr2
      have hy := markK_yes V t k
      have hn := markK_no V t k
      have hz2 := (Array.getElem?_eq_some_iff.1 hr2).1
      have HR := Lib.hid hr; have HR2 := Lib.hid hr2; have HY := Lib.hid hy; have HN := Lib.hid hn; have HB := Lib.hid hB
      clear hr hr2 hy hn hx hcx hB hms
      have hs : sndB (pin V k) t = ((t - (pin V k).2).tmod (pin V k).1 == 0) := by rw [tmod_zero _ _ p1]; rfl
      rw [hs] at HY HN
      clear hs
      generalize pin V k = q at *
      obtain ⟨q1, q2⟩ := q
      simp only at p1 p2 p3 p4 gx gy HY HN
      obtain ⟨t3, t4⟩ := tmod_bd (t - q2) q1 p1
      have hbz : w.heap.size + 1 < wr.heap.size := by omega
      cases hc : ((t - q2).tmod q1 == 0)
      · have HC := Lib.hid hc
        go_wp2_with fail
        go_roundw
        case rel =>
          refine ⟨k + 1, by omega, by go_num, (Below.heap_alloc _ _ _ hbz).trans HR.out, ?_, bal HB.out _⟩
          rw [← HN.out hc]; exact (Below.heap_alloc _ _ _ hz2).trans HR2.out
        case measure => simp [intOf]; omega
      · have HC := Lib.hid hc
        go_wp2_with fail
        go_roundw
        case rel =>
          have hx1 := heap_setCell_same wr _ k _ _ (.int .i64 1) HR2.out
          rw [arrI_set, HY.out hc] at hx1
          refine ⟨k + 1, by omega, by go_num, ?_, (Below.heap_alloc _ _ _ (by simp; omega)).trans hx1, bal (bset HB.out (by simp; omega) _) _⟩
          exact (Below.heap_alloc _ _ _ (by simp; omega)).trans ((heap_setCell_other _ _ _ _ (by simp)).trans HR.out)
        case measure => simp [intOf]; omega
    · have hkl : k = V.length := by omega
      rw [hkl] at hr2
      clear hkl hk
      generalize hrr : markK V t V.length = r at *
      have hrl : r.length = 5 := by rw [← hrr, markK_len]
      have HRL := Lib.hid hrl
      have hz : (Try.prog.info? 78).map (·.size) = some 5 := by kernel_rfl
      have HZ := Lib.hid hz; clear hz
      have HONE := Lib.hid (one_arr r); clear hrl
      have HR := Lib.hid hr; have HR2 := Lib.hid hr2; have HRR := Lib.hid hrr
      clear hr hr2 hrr
      go_wp2_with (first
        | (refine wpList_load_row rfl 78 (.tmp 5) rfl (w.heap.size + 1 + 1) rfl 78 (arrI r) (0, 0) _ HR2.out (show Try.prog.underlying 78 = some (.array 5 3) by kernel_rfl) rfl (by rw [arrI_size, HRL.out]; exact HZ.out) ?_)
        | (refine wpList_store_row rfl 78 (.tmp 4) (.tmp 30) rfl (w.heap.size + 1) (arrI r) rfl rfl 78 _ HR.out (by rw [arrI_size, HRL.out]; exact HZ.out) (by rw [arrI_size, arrI_size, HRL.out]; rfl) HONE.out ?_))
      refine bodyPost_ret (results_cell_row rfl _ _ (w.heap.size + 1) 78 (arrI r) (0, 0) _ rfl (setRow_heap _ _ _ _ _ _ HR.out) (show Try.prog.underlying 78 = some (.array 5 3) by kernel_rfl) rfl (by rw [arrI_size, HRL.out]; exact HZ.out)) rfl ⟨by rw [HRR.out], ?_⟩
      exact hB.trans ⟨rfl, rfl, rfl, by simp, fun t ht => setRow_other _ _ _ _ (by omega)⟩
end Go.Proofs.Ytooddicegkiiiaa

namespace Go.Proofs.Ytooddicegkiiiaa
open Go.RowKit Go.Shelf

theorem num3 : (Try.prog.info? 3).map (fun i => (i.zero, i.size, i.bytes)) = some (some (.int .i64 0), 1, 8) := by kernel_rfl
theorem num2 : (Try.prog.info? 2).map (fun i => (i.zero, i.size, i.bytes)) = some (some (.int .i64 0), 1, 8) := by kernel_rfl
theorem info55 : (Try.prog.info? 55).map (fun i => (i.zero, i.size, i.bytes)) = some (some (.agg #[.int .i64 0, .int .i64 0]), 2, 16) := by kernel_rfl
theorem info98 : (Try.prog.info? 98).map (fun i => (i.zero, i.size, i.bytes)) = some (some (.agg #[.int .i64 0, .int .i64 0]), 2, 16) := by kernel_rfl
theorem info25 : (Try.prog.info? 25).map (fun i => (i.zero, i.size, i.bytes)) = some (some (.slice none 0 0), 1, 24) := by kernel_rfl
theorem run_clip (a : Option Addr) (n cap : Nat) (h : n ≤ cap) (ha : ∀ ad, a = some ad → ad.off = 0 ∧ ad.spot = none) (w : World) :
    (Instr.slice 25 (.slice a n cap) none (some (.int .i64 (n : Int))) (some (.int .i64 (n : Int)))).run Try.prog w = .ok (.slice a n n) w := by
  have h1 : ¬ ((n : Int) < 0) := by omega
  have h2 : ¬ ((cap : Int) < (n : Int)) := by omega
  obtain ⟨i0, hi, hz0, hz1, hz2⟩ := info_parts num3
  cases a with
  | none => simp [Instr.slice, run_underlying Try.underlying25, Sem.run_bind, Instr.sliceBounds, Instr.sliceBound, asIntOf, h, sizeOf, typeInfo, hi, Addr.add]
  | some ad =>
    obtain ⟨e1, e2⟩ := ha ad rfl
    obtain ⟨b, o, sp⟩ := ad
    simp only at e1 e2
    subst e1; subst e2
    simp [Instr.slice, run_underlying Try.underlying25, Sem.run_bind, Instr.sliceBounds, Instr.sliceBound, asIntOf, h, sizeOf, typeInfo, hi, Addr.add]

/-- One more element behind a slice that is clipped to its length. -/
theorem append_clip (w : World) (a : Option Addr) (n cap : Nat) (xs : List Int) (hrd : RdI w .i64 (.slice a n cap) xs) (ha : ∀ ad, a = some ad → ad.off = 0 ∧ ad.spot = none) (hn : n ≤ 1000) (ad : Addr) (x : Int) (hx : w.cell? (ad.add 0) = some (.int .i64 x)) :
    ∀ ty, ∃ v' w', (Builtin.append_ #[25, 25] ty #[.slice a n n, .slice (some ad) 1 1]).run Try.prog w = .ok v' w' ∧ w'.ownsRow w.heap.size 3 1 v' (n + 1) ((xs ++ [x]).map (Value.int .i64)) ∧ w.grownBy w' none := by
  intro ty
  obtain ⟨i0, hi, hz0, hz1, hz2⟩ := info_parts num3
  obtain ⟨a', c', he, hcap, hcm, hcell⟩ := hrd.form
  simp only [Value.slice.injEq] at he
  obtain ⟨rfl, rfl, rfl⟩ := he
  have hnews : ∀ j u, ([Value.int .i64 x] : List Value)[j]? = some u → w.cell? (ad.add j) = some u := by
    intro j u hu
    cases j with
    | zero => simp at hu; rw [hx, hu]
    | succ j => simp at hu
  have grown : ∀ (old : Nat), (w.drew.alloc (.cells ((xs.map (Value.int .i64)).toArray ++ [Value.int .i64 x].toArray ++ Builtin.zeroCells (Value.int .i64 0).cells (grownCap w (xs.length + 1) old 3 - (xs.length + 1))) 3)).ownsRow w.heap.size 3 1
        (.slice (some ⟨w.heap.size, 0, none⟩) (xs.length + 1) (grownCap w (xs.length + 1) old 3)) (xs.length + 1) ((xs ++ [x]).map (Value.int .i64)) ∧
      w.grownBy (w.drew.alloc (.cells ((xs.map (Value.int .i64)).toArray ++ [Value.int .i64 x].toArray ++ Builtin.zeroCells (Value.int .i64 0).cells (grownCap w (xs.length + 1) old 3 - (xs.length + 1))) 3)) none := by
    intro old
    have hge := grownCap_ge w (xs.length + 1) old 3
    have hcm : grownCap w (xs.length + 1) old 3 ≤ maxLen := grownCap_le_maxLen w (xs.length + 1) old 3 (by unfold maxLen; omega)
    refine ⟨⟨by simp, .inr ⟨w.heap.size, _, _, rfl, Nat.le_refl _, heap_alloc_new w.drew _, hge, hcm, ?_, ?_⟩⟩, ⟨rfl, rfl, rfl, by simp, fun k hk _ => Below.heap_alloc w.drew _ k hk⟩⟩
    · simp only [Array.size_append, List.size_toArray, size_zeroCells, List.length_map, List.length_cons, List.length_nil]
      simp [Value.cells]
      omega
    · simp only [Array.toList_append, List.append_assoc, List.map_append, List.map_cons, List.map_nil]
      rw [← List.append_assoc, List.take_append_of_le_length (by simp), List.take_of_length_le (by simp)]
  cases a with
  | none =>
    have h0 : xs.length = 0 := by
      rcases Nat.eq_zero_or_pos xs.length with h | h
      · exact h
      · obtain ⟨b, off, e, _⟩ := hcell h; cases e
    obtain rfl : xs = [] := List.eq_nil_of_length_eq_zero h0
    have hr := run_append_nil (P := Try.prog) w 25 ty 3 i0 (.int .i64 0) Try.underlying25 hi hz0 ad 1 1 [.int .i64 x] (by rw [hz1]; rfl) hnews (by omega) (by omega) (by rw [hz2]; omega)
    have hgr := grown 0
    simp only [List.length_nil, Nat.zero_add, List.map_nil, List.nil_append, Array.empty_append] at hgr ⊢
    exact ⟨_, _, hr, hgr.1, hgr.2⟩
  | some g =>
    have holds : ∀ j u, (xs.map (Value.int .i64))[j]? = some u → w.cell? (g.add j) = some u := by
      intro j u hu
      have hj : j < xs.length := by have := (List.getElem?_eq_some_iff.1 hu).1; simpa using this
      obtain ⟨b, off, e, hb, hc⟩ := hcell (by omega)
      simp only [Option.some.injEq] at e
      subst e
      rw [Go.WideShapes.add_plain, hc j hj]
      simp [hj] at hu
      simp [hj, hu]
    have hr := run_append_grow (P := Try.prog) w 25 ty 3 i0 (.int .i64 0) Try.underlying25 hi hz0 g xs.length xs.length (xs.map (Value.int .i64)) (by rw [hz1]; simp) holds ad 1 1 [.int .i64 x] (by rw [hz1]; rfl) hnews (by omega) (by omega) (growslice_fits (by omega) (by rw [hz2]; omega))
    have hgr := grown xs.length
    exact ⟨_, _, hr, hgr.1, hgr.2⟩

/-- The operation 'append', where its run is known. -/
theorem wpList_append_eq {P : Program} (w : World) {ops : Array Oper} {rest : List Oper} {o : Oper} {a : Act} {Q : Exit → Act → World → Prop} (hgd : o.guard = none) (s x : Operand) (t : TypeId)
    (ho : o.op = .call { callee := .builtin .append, args := #[s, x], argTypes := #[t, t] }) (v u : Value) (hs : a.eval s = v) (hx : a.eval x = u) {v' : Value} {w' : World}
    (hr : (Builtin.append_ #[t, t] o.type #[v, u]).run P w = .ok v' w') (h : wpList P ops Q rest (a.put o.dst v') w') : wpList P ops Q (o :: rest) a w := by
  refine wpList_plain hgd fun K hK => ?_
  unfold Oper.wp execOp
  simp only [ho, resolve, invoke, builtin, Sem.run_bind, Sem.run_pure, Result.andThen_ok, List.map_toArray, List.map_cons, List.map_nil, hs, hx, hr]
  exact hK _ _ h

theorem rdP_nil (w : World) : RdP w (.slice none 0 0) [] := ⟨none, 0, rfl, Nat.le_refl _, by unfold maxLen; omega, fun h => absurd rfl h⟩
theorem prs_append (a b : List (Int × Int)) : prs (a ++ b) = prs a ++ prs b := by simp [prs]
theorem cell_two_new (w : World) (x y : Value) (t : TypeId) : ∀ j u, ([x, y] : List Value)[j]? = some u → (w.alloc (.cells #[x, y] t)).cell? ((⟨w.heap.size, 0, none⟩ : Addr).add j) = some u := by
  intro j u h
  match j, h with
  | 0, h => simp at h; subst h; exact cnew rfl rfl
  | 1, h => simp at h; subst h; exact cnew rfl rfl
  | j + 2, h => simp at h
theorem two_int (a b : Int) : ∀ u ∈ [Value.int .i64 a, Value.int .i64 b], u.oneCell' = true := by simp [Value.oneCell']
theorem owns_form {w : World} {base e size n : Nat} {v : Value} {xs : List Value} (h : w.ownsRow base e size v n xs) : ∃ a c, v = .slice a n c := by
  rcases h.2 with ⟨rfl, rfl⟩ | ⟨g, cap, cur, rfl, _⟩
  · exact ⟨_, _, rfl⟩
  · exact ⟨_, _, rfl⟩
theorem append_keep {w w' : World} {base e size n j : Nat} {v : Value} {xs : List Value} (h : w.ownsRow base e size v n xs) (hg : w.grownBy w' v.ownBlock) (hj : j < base) (hjw : j < w.heap.size) : w'.heap[j]? = w.heap[j]? :=
  hg.block j hjw fun e => by have := (h.lt j e.symm).1; omega
theorem append_below {a w w' : World} {base e size n : Nat} {v : Value} {xs : List Value} (hb : Below a.heap.size a w) (h : w.ownsRow base e size v n xs) (hg : w.grownBy w' v.ownBlock) (hj : a.heap.size ≤ base) : Below a.heap.size a w' :=
  bgr hb hg fun k e => Nat.le_trans hj (h.lt k e).1

theorem owns_lt {w : World} {base e g n cap : Nat} {cs : List Value} (h : w.ownsRow base e 1 (.slice (some ⟨g, 0, none⟩) n cap) n cs) (hn : 0 < n) : g < w.heap.size := by
  have h1 := h.cellAt 0 (by omega)
  have h2 : 0 < cs.length := by rw [h.1]; omega
  rw [List.getElem?_eq_getElem h2] at h1
  exact World.block_lt_of_cell? _ _ h1
theorem grown_of {a w : World} (h : Below a.heap.size a w) : a.grownBy w none := ⟨h.os, h.tape, h.output, h.size, fun r h1 _ => h.block r h1⟩
theorem owns_kept {w w' : World} {base e size n : Nat} {v : Value} {xs : List Value} (h : w.ownsRow base e size v n xs) (hb : Below w.heap.size w w') : w'.ownsRow base e size v n xs := by
  refine h.kept (grown_of hb) ?_
  cases hv : v.ownBlock with
  | none => exact .inl rfl
  | some k => exact .inr (by simp)
/-- 'append' of one number to a list of the call's own. -/
theorem wpList_append_num {w : World} {base : Nat} {t e : TypeId} {v : Value} {xs : List Int} {ops : Array Oper} {rest : List Oper} {o : Oper} {a : Act} {Q : Exit → Act → World → Prop} (hgd : o.guard = none) (s x : Operand)
    (ho : o.op = .call { callee := .builtin .append, args := #[s, x], argTypes := #[t, t] }) (ht : Try.prog.underlying t = some (.slice e)) (hie : (Try.prog.info? e).map (fun i => (i.zero, i.size, i.bytes)) = some (some (.int .i64 0), 1, 8))
    (h : w.ownsRow base e 1 v xs.length (xs.map (Value.int .i64))) (q : Int) (hs : a.eval s = v) {nb : Nat} (hx : a.eval x = .slice (some ⟨nb, 0, none⟩) 1 1) (hnb : nb = w.heap.size) (hl : xs.length ≤ 1000) (hb : base ≤ w.heap.size)
    (H : ∀ v' w', w'.ownsRow base e 1 v' (xs ++ [q]).length ((xs ++ [q]).map (Value.int .i64)) → (w.alloc (.cells #[.int .i64 q] e)).grownBy w' v.ownBlock → wpList Try.prog ops Q rest (a.put o.dst v') w') :
    wpList Try.prog ops Q (o :: rest) a (w.alloc (.cells #[.int .i64 q] e)) := by
  subst hnb
  obtain ⟨i0, hi, hz0, hz1, hz2⟩ := info_parts hie
  refine wpList_append_own _ hgd s x t ho base e i0 (.int .i64 0) 1 8 ht hi hz0 hz1 hz2 rfl (by decide) _ _ _ hs (h.alloc _) ⟨w.heap.size, 0, none⟩ 1 1 [.int .i64 q] hx rfl (fun j u hj => ?_) (fun u hu => by simp at hu; subst hu; rfl)
    (by simp only [maxLen]; omega) (by omega) (by simp; omega) ?_
  · match j, hj with
    | 0, hj => simp at hj; subst hj; rw [Go.WideShapes.add_plain]; simp
  · intro v' w' h1 h2 _
    refine H v' w' ?_ h2
    rw [List.map_append, List.length_append]
    exact h1
theorem grownBy_set (W : World) (a : Addr) (u : Value) : W.grownBy (W.setCell a u) (some a.block) :=
  ⟨rfl, rfl, rfl, by simp, fun k _ hk => Below.heap_setCell W a u k (fun e => hk (by rw [e]))⟩
theorem own_ne {w : World} {b1 b2 : Nat} {e1 e2 : TypeId} {s1 s2 : Nat} {v1 v2 : Value} {n1 n2 : Nat} {x1 x2 : List Value} (h1 : w.ownsRow b1 e1 s1 v1 n1 x1) (h2 : w.ownsRow b2 e2 s2 v2 n2 x2) (he : e1 ≠ e2) : v1.ownBlock = none ∨ v1.ownBlock ≠ v2.ownBlock := by
  rcases h1.2 with ⟨rfl, _⟩ | ⟨g, cap, cur, rfl, _, hg, _⟩
  · exact .inl rfl
  · refine .inr ?_
    rcases h2.2 with ⟨rfl, _⟩ | ⟨g', cap', cur', rfl, _, hg', _⟩
    · simp [Value.ownBlock]
    · simp only [Value.ownBlock, ne_eq, Option.some.injEq]
      rintro rfl
      rw [hg] at hg'
      simp at hg'
      exact he hg'.2

theorem run_append_none {P : Program} {w : World} {base size n : Nat} {e : TypeId} {v : Value} {xs : List Value} (t ty : TypeId) (i : TypeInfo) (ht : P.underlying t = some (.slice e)) (hi : P.info? e = some i) (h : w.ownsRow base e size v n xs) (c : Nat) :
    (Builtin.append_ #[t, t] ty #[v, .slice none 0 c]).run P w = .ok v w := by
  rcases h.2 with ⟨rfl, rfl⟩ | ⟨g, cap, cur, rfl, _, hg, hc, _⟩
  · simp [Builtin.append_, run_underlying ht, sizeOf, typeInfo, hi, Builtin.lenOf, Builtin.firstCells]
  · simp [Builtin.append_, run_underlying ht, sizeOf, typeInfo, hi, Builtin.lenOf, Builtin.firstCells, hc, storeCells]
theorem prs_num (V : List (Int × Int)) : ∀ u ∈ prs V, u.oneCell' = true := by
  intro u hu
  simp only [prs, List.mem_flatMap] at hu
  obtain ⟨p, _, hu⟩ := hu
  simp at hu
  rcases hu with rfl | rfl <;> rfl
/-- 'append' of one pair to a list of the call's own; the pair has just been laid into a block of its own. -/
theorem wpList_append_pair {w : World} {base : Nat} {t e : TypeId} {v : Value} {V : List (Int × Int)} {ops : Array Oper} {rest : List Oper} {o : Oper} {a : Act} {Q : Exit → Act → World → Prop} (hgd : o.guard = none) (s x : Operand)
    (ho : o.op = .call { callee := .builtin .append, args := #[s, x], argTypes := #[t, t] }) (ht : Try.prog.underlying t = some (.slice e)) (hie : (Try.prog.info? e).map (fun i => (i.zero, i.size, i.bytes)) = some (some (.agg #[.int .i64 0, .int .i64 0]), 2, 16))
    (h : w.ownsRow base e 2 v V.length (prs V)) (hb : base ≤ w.heap.size) (q1 q2 : Int) (hs : a.eval s = v) {nb : Nat} (hx : a.eval x = .slice (some ⟨nb, 0, none⟩) 1 1) (hnb : nb = w.heap.size) (hl : V.length ≤ 1000)
    (H : ∀ v' w', w'.ownsRow base e 2 v' (V ++ [(q1, q2)]).length (prs (V ++ [(q1, q2)])) → (w.alloc (.cells #[.int .i64 q1, .int .i64 q2] e)).grownBy w' v.ownBlock → wpList Try.prog ops Q rest (a.put o.dst v') w') :
    wpList Try.prog ops Q (o :: rest) a (w.alloc (.cells #[.int .i64 q1, .int .i64 q2] e)) := by
  subst hnb
  obtain ⟨i0, hi, hz0, hz1, hz2⟩ := info_parts hie
  refine wpList_append_own _ hgd s x t ho base e i0 (.agg #[.int .i64 0, .int .i64 0]) 2 16 ht hi hz0 hz1 hz2 rfl (by decide) _ _ _ hs (h.alloc _) ⟨w.heap.size, 0, none⟩ 1 1 [.int .i64 q1, .int .i64 q2] hx rfl (cell_two_new _ _ _ _) (two_int _ _)
    (by simp only [maxLen]; omega) (by omega) (by simp; omega) ?_
  intro v' w' h1 h2 _
  refine H v' w' ?_ h2
  rw [List.length_append, prs_append]
  exact h1
theorem owns_set {w : World} {base e size n : Nat} {v : Value} {xs : List Value} (h : w.ownsRow base e size v n xs) {r : Nat} (hr : r < base) (i : Nat) (u : Value) : (w.setCell ⟨r, i, none⟩ u).ownsRow base e size v n xs :=
  h.kept (grownBy_set w _ _) (by
    cases hvv : v.ownBlock with
    | none => exact .inl rfl
    | some q => exact .inr (by intro e; cases e; have := (h.lt _ hvv).1; simp only at this; omega))
theorem owns_base {w : World} {b1 b2 e size n : Nat} {v : Value} {xs : List Value} (h : w.ownsRow b1 e size v n xs) (hb : b2 ≤ b1) : w.ownsRow b2 e size v n xs := by
  refine ⟨h.1, ?_⟩
  rcases h.2 with h | ⟨g, cap, cur, h1, h2, h3⟩
  · exact .inl h
  · exact .inr ⟨g, cap, cur, h1, by omega, h3⟩
theorem owns_clip {w : World} {base e size n : Nat} {v : Value} {xs : List Value} (h : w.ownsRow base e size v n xs) : ∃ a c, v = .slice a n c ∧ n ≤ c ∧ ∀ ad, a = some ad → ad.off = 0 ∧ ad.spot = none := by
  rcases h.2 with ⟨rfl, rfl⟩ | ⟨g, cap, cur, rfl, _, _, hc, _⟩
  · exact ⟨none, 0, rfl, Nat.le_refl _, by simp⟩
  · exact ⟨_, _, rfl, hc, by rintro ad e; cases e; exact ⟨rfl, rfl⟩⟩
end Go.Proofs.Ytooddicegkiiiaa

namespace Go.Proofs.Ytooddicegkiiiaa
open Go.RowKit Go.Shelf

/-- The pins below k that sound. -/
def sndN (V : List (Int × Int)) (t : Int) (k : Nat) : List Nat := (List.range k).filter fun i => sndB (pin V i) t
def sndK (V : List (Int × Int)) (t : Int) (k : Nat) : List Int := natL (sndN V t k)
theorem sndK_succ (V : List (Int × Int)) (t : Int) (k : Nat) : sndK V t (k + 1) = if sndB (pin V k) t then sndK V t k ++ [(k : Int)] else sndK V t k := by
  unfold sndK sndN natL
  rw [List.range_succ, List.filter_append]
  cases h : sndB (pin V k) t <;> simp [h]
theorem sndK_le (V : List (Int × Int)) (t : Int) (k : Nat) : (sndK V t k).length ≤ k := by
  unfold sndK
  rw [natL_len]
  have := List.length_filter_le (fun i => sndB (pin V i) t) (List.range k)
  simpa [sndN] using this
def sndR (V : List (Int × Int)) (t : Int) : List Int := if openE V [t] = 0 then sndK V t V.length else []
/-- What Sounds returns. -/
def SndOk (V : List (Int × Int)) (t : Int) (w : World) (e : Ending) (w' : World) : Prop := ∃ v, e = .returned (.tuple #[v, .int .i64 (openE V [t])]) ∧ RdI w' .i64 v (sndR V t) ∧ Below w.heap.size w w'

set_option maxRecDepth 100000 in
set_option maxHeartbeats 1000000 in
theorem sounds_any (x : Value) (V : List (Int × Int)) (t : Int) (w : World) (hx0 : RdP w x V) (hl : V.length ≤ 1000) :
    Calls Try.prog 20 #[x, .int .i64 t] w (SndOk V t w) := by
  obtain ⟨a, ca, rfl, hca, hca2, _⟩ := hx0.form
  clear hca2
  unfold SndOk sndR
  by_cases hc : openE V [t] = 0
  · rw [if_pos hc, hc]
    obtain ⟨hc1, hc2⟩ := openE_zero hc
    have hV := okPins_of hc1
    have h5 := hV.l5
    have hft : 0 ≤ t ∧ t ≤ 1000000000000 := by simp [outB] at hc2; omega
    obtain ⟨t0, t1⟩ := hft
    have HO := Lib.hid (fun w' (hx : RdP w' (.slice a V.length ca) V) y hy => open_ok _ y V [t] w' hx hy (by simp) hc)
    clear hc hc1 hc2
    go_enter Try.func20, Try.ntmps20
    go_wp2_with fail
    refine (HO.out _ (hx0.mono (bal (bz _) _)) _ (slice_one w t 2)).mono ?_
    rintro e w2 ⟨b, rfl, hb, hD, hB2⟩
    obtain ⟨x', M, L, c, hb', _, _, _, hx1⟩ := id hD
    have d0 : w2.cell? ⟨b, 0, none⟩ = some x' := by rw [cell_of_row w2 _ 0 _ _ _ hb']; rfl
    have dz := (Array.getElem?_eq_some_iff.1 hb').1
    have HX1 := Lib.hid hx1; have HB2 := Lib.hid hB2
    clear hb' hx1 hD hB2
    go_wp2_with fail
    refine (at_any x' V t _ HX1.out hV.v h5 t0 (by omega)).mono ?_
    rintro e w3 ⟨rfl, hB3⟩
    have HML := Lib.hid (markK_len V t V.length)
    have hz : (Try.prog.info? 78).map (·.size) = some 5 := by kernel_rfl
    have HZ := Lib.hid hz; clear hz
    have HB3 := Lib.hid hB3; clear hB3
    go_wp2_with (refine wpList_store_row rfl 78 (.tmp 8) (.tmp 26) rfl w3.heap.size (arrI (markK V t V.length)) rfl rfl 78 _ (heap_alloc_new _ _) (by rw [arrI_size, HML.out]; exact HZ.out) (by rw [arrI_size, HML.out]; rfl) (one_arr _) ?_)
    generalize hw5 : World.setRow _ _ _ = w5
    have g0 : Below w3.heap.size w3 w5 := by
      rw [← hw5]; exact ⟨rfl, rfl, rfl, by simp, fun r hr => (setRow_other _ _ _ _ (by omega)).trans (Below.heap_alloc _ _ _ hr)⟩
    have g1 : w5.heap[w3.heap.size]? = some (.cells (arrI (markK V t V.length)) 78 (0, 0)) := by rw [← hw5]; exact setRow_heap _ _ _ _ _ _ (heap_alloc_new _ _)
    clear hw5
    have G0 := Lib.hid g0; have G1 := Lib.hid g1; clear g0 g1
    go_loopw [9, 10, 29] (fun o _ i wr => ∃ k : Nat, k ≤ V.length ∧ i = .int .i64 k ∧ Below w5.heap.size w5 wr ∧ wr.ownsRow w5.heap.size 3 1 o (sndK V t k).length ((sndK V t k).map (Value.int .i64))) (fun _ _ i _ => V.length - (intOf i).toNat)
    case atStart => exact ⟨0, Nat.zero_le _, rfl, bz _, World.ownsRow_nil _ _ _ _⟩
    case round =>
      obtain ⟨k, hk, rfl, hB, hor⟩ := hrel
      by_cases hlt : k < V.length
      · have hkl := sndK_le V t k
        have hst := sndK_succ V t k
        have hg5 := (Array.getElem?_eq_some_iff.1 G1.out).1
        have hrow := (hB.block _ hg5).trans G1.out
        have cm := (cell_of_row wr w3.heap.size k _ _ _ hrow).trans (arrI_get _ k (by rw [markK_len]; omega))
        rw [markK_get V t V.length k (by omega)] at cm
        have hk5 : (k : Int) < 5 := by omega
        have hz3 : w3.heap.size < wr.heap.size := Nat.lt_of_lt_of_le hg5 hB.size
        obtain ⟨ao, cap, rfl, hcap, hao⟩ := owns_clip hor
        have HOR := Lib.hid hor; have HB := Lib.hid hB
        clear hor hB hrow
        cases hs : sndB (pin V k) t
        · rw [hs] at cm hst
          rw [if_neg (by simp)] at cm hst
          have HST := Lib.hid hst; clear hst hs
          generalize hnn : (sndK V t k).length = m at *
          have HNN := Lib.hid hnn; clear hnn
          go_wp2_with fail
          go_roundw
          case rel =>
            refine ⟨k + 1, by omega, by go_num, HB.out, ?_⟩
            rw [HST.out, HNN.out]; exact HOR.out
          case measure => simp [intOf]; omega
        · rw [hs] at cm hst
          rw [if_pos ⟨hlt, rfl⟩] at cm
          rw [if_pos rfl] at hst
          have hap := append_clip (wr.alloc (.cells #[.int .i64 k] 3)) ao _ cap (sndK V t k) ((RdI.of_owns HOR.out).mono (bal (bz _) _)) hao (by omega) ⟨wr.heap.size, 0, none⟩ k (cnew rfl rfl)
          obtain ⟨v', hap⟩ := Classical.skolem.1 hap
          obtain ⟨w', hap⟩ := Classical.skolem.1 hap
          have hsl := run_clip ao (sndK V t k).length cap hcap hao
          have hap1 := Lib.hid fun ty => (hap ty).1
          have hap2 := Lib.hid fun ty => (hap ty).2
          have HST := Lib.hid hst
          clear hap hst hs
          generalize hnn : (sndK V t k).length = m at *
          have HNN := Lib.hid hnn; clear hnn
          go_wp2_with (at_builtin; refine wpList_append_eq _ rfl _ _ 25 rfl _ _ rfl rfl (hap1.out _) ?_)
          obtain ⟨h1, h2⟩ := hap2.out 25
          have hB6 : Below w5.heap.size w5 (w' 25) := btr (bal HB.out _) (bgr (bz _) h2 (fun k h => by cases h))
          go_roundw
          case rel =>
            refine ⟨k + 1, by omega, by go_num, hB6, ?_⟩
            rw [HST.out, List.length_append, HNN.out]
            have hb := HB.out.size
            exact owns_base h1 (by simp; omega)
          case measure => simp [intOf]; omega
      · have hkl : k = V.length := by omega
        rw [hkl] at hor
        clear hkl
        have HOR := Lib.hid hor; clear hor
        go_wp2_with fail
        go_ret2
        exact ⟨_, rfl, RdI.of_owns HOR.out, btr (bal (bz _) _) (btr HB2.out (btr HB3.out (btr G0.out hB)))⟩
  · rw [if_neg hc]
    have HO := Lib.hid (fun w' (hx : RdP w' (.slice a V.length ca) V) y hy => open_no _ y V [t] w' hx hy hl (by simp) hc)
    have hcb : (openE V [t] != 0) = true := by simpa using hc
    have hce : (openE V [t] == 0) = false := by simpa using hc
    clear hc
    generalize openE V [t] = q at *
    go_enter Try.func20, Try.ntmps20
    go_wp2_with fail
    refine (HO.out _ (hx0.mono (bal (bz _) _)) _ (slice_one w t 2)).mono ?_
    rintro e w2 ⟨rfl, hB2⟩
    go_wp2_with fail
    go_ret2
    exact ⟨_, rfl, rdI_nil _ _, btr (bal (bz _) _) hB2⟩
end Go.Proofs.Ytooddicegkiiiaa

namespace Go.Proofs.Ytooddicegkiiiaa
open Go.RowKit Go.Shelf

/-- No pin sounds. -/
def hushB (V : List (Int × Int)) (t : Int) : Bool := V.all fun x => !sndB x t
theorem hush_iff (V : List (Int × Int)) (t : Int) : hushB V t = true ↔ ∀ i, i < V.length → sndB (pin V i) t = false := by
  unfold hushB
  rw [List.all_eq_true]
  constructor
  · intro h i hi; simpa using h _ (pin_mem hi)
  · intro h x hx
    obtain ⟨i, hi, rfl⟩ := List.getElem_of_mem hx
    have := h i hi
    simp only [pin, hi, List.getElem?_eq_getElem, Option.getD_some] at this
    rw [this]; rfl
theorem mark_hush (V : List (Int × Int)) (t : Int) (hl : V.length ≤ 5) : decide (markK V t V.length = [0, 0, 0, 0, 0]) = hushB V t := by
  rw [Bool.eq_iff_iff, decide_eq_true_eq, hush_iff]
  constructor
  · intro h i hi
    have := markK_get V t V.length i (by omega)
    rw [h] at this
    cases hs : sndB (pin V i) t with
    | false => rfl
    | true =>
      rw [if_pos ⟨hi, hs⟩] at this
      match i, show i < 5 by omega with
      | 0, _ => simp at this
      | 1, _ => simp at this
      | 2, _ => simp at this
      | 3, _ => simp at this
      | 4, _ => simp at this
  · intro h
    rw [show ([0, 0, 0, 0, 0] : List Int) = markK V t 0 from (markK_zero V t).symm]
    apply List.ext_getElem
    · simp [markK]
    · intro i h1 h2
      simp only [markK, List.getElem_map, List.getElem_range]
      rw [if_neg, if_neg (by omega)]
      rintro ⟨h3, h4⟩
      rw [h i h3] at h4; cases h4
/-- The first quiet one of m times. -/
def quietO (V : List (Int × Int)) (t : Int) (m : Nat) : Option Nat := (List.range m).find? fun n => hushB V (t + (n : Int))
def quietN (V : List (Int × Int)) (t : Int) : Int := if openE V [t] = 0 then (match quietO V t (2 ^ V.length) with | some n => t + (n : Int) | none => 0) else 0
def quietE (V : List (Int × Int)) (t : Int) : Int := if openE V [t] = 0 then (match quietO V t (2 ^ V.length) with | some _ => 0 | none => 21) else openE V [t]
theorem quietO_none {V : List (Int × Int)} {t : Int} {m : Nat} (h : ∀ n, n < m → hushB V (t + (n : Int)) = false) : quietO V t m = none := by
  unfold quietO
  rw [List.find?_eq_none]
  intro n hn
  rw [h n (List.mem_range.1 hn)]; simp
theorem quietO_some {V : List (Int × Int)} {t : Int} {m n : Nat} (hn : n < m) (h : ∀ k, k < n → hushB V (t + (k : Int)) = false) (hh : hushB V (t + (n : Int)) = true) : quietO V t m = some n := by
  unfold quietO
  rw [List.find?_range_eq_some]
  exact ⟨hh, List.mem_range.2 hn, fun k hk => by rw [h k hk]; rfl⟩

set_option maxRecDepth 100000 in
set_option maxHeartbeats 1000000 in
theorem quiet_any (x : Value) (V : List (Int × Int)) (t : Int) (w : World) (hx0 : RdP w x V) (hl : V.length ≤ 1000) :
    Calls Try.prog 39 #[x, .int .i64 t] w fun e w' => e = .returned (.tuple #[.int .i64 (quietN V t), .int .i64 (quietE V t)]) ∧ Below w.heap.size w w' := by
  obtain ⟨a, ca, rfl, hca, hca2, _⟩ := hx0.form
  clear hca2
  by_cases hc : openE V [t] = 0
  · have hN0 : (∀ n : Nat, n < 2 ^ V.length → hushB V (t + (n : Int)) = false) → quietN V t = 0 ∧ quietE V t = 21 := by
      intro h; unfold quietN quietE; rw [if_pos hc, if_pos hc, quietO_none h]; exact ⟨rfl, rfl⟩
    have hN1 : ∀ n : Nat, n < 2 ^ V.length → (∀ k : Nat, k < n → hushB V (t + (k : Int)) = false) → hushB V (t + (n : Int)) = true → quietN V t = t + (n : Int) ∧ quietE V t = 0 := by
      intro n hn h1 h2; unfold quietN quietE; rw [if_pos hc, if_pos hc, quietO_some hn h1 h2]; exact ⟨rfl, rfl⟩
    have HN0 := Lib.hid hN0; have HN1 := Lib.hid hN1; clear hN0 hN1
    obtain ⟨hc1, hc2⟩ := openE_zero hc
    have hV := okPins_of hc1
    have h5 := hV.l5
    have hft : 0 ≤ t ∧ t ≤ 1000000000000 := by simp [outB] at hc2; omega
    obtain ⟨t0, t1⟩ := hft
    have HO := Lib.hid (fun w' (hx : RdP w' (.slice a V.length ca) V) y hy => open_ok _ y V [t] w' hx hy (by simp) hc)
    clear hc hc1 hc2
    have hm : 1 ≤ 2 ^ V.length ∧ 2 ^ V.length ≤ 32 := ⟨Nat.one_le_two_pow, by have := Nat.pow_le_pow_right (n := 2) (by omega) h5; omega⟩
    have hw : wrap64 ((2 : Int) ^ V.length) = ((2 ^ V.length : Nat) : Int) := by
      rw [show ((2 : Int) ^ V.length) = ((2 ^ V.length : Nat) : Int) by rw [Int.natCast_pow]; rfl]
      exact IntWalk.wrap64_in ((2 ^ V.length : Nat) : Int) (by omega)
    have HW := Lib.hid hw; clear hw
    obtain ⟨hm1, hm2⟩ := hm
    generalize 2 ^ V.length = m at *
    go_enter Try.func39, Try.ntmps39
    go_wp2_with fail
    refine (HO.out _ (hx0.mono (bal (bz _) _)) _ (slice_one w t 2)).mono ?_
    rintro e w2 ⟨b, rfl, hb, hD, hB2⟩
    obtain ⟨x', M, L, c, hb', _, _, _, hx1⟩ := id hD
    have d0 : w2.cell? ⟨b, 0, none⟩ = some x' := by rw [cell_of_row w2 _ 0 _ _ _ hb']; rfl
    have dz := (Array.getElem?_eq_some_iff.1 hb').1
    have HX1 := Lib.hid hx1; have HB2 := Lib.hid hB2
    clear hb' hx1 hD hB2
    go_wp2_with fail
    rw [HW.out]
    have hz78 : ∃ i3, Try.prog.info? 3 = some i3 := by obtain ⟨i3, h, _⟩ := info_parts num3; exact ⟨i3, h⟩
    obtain ⟨i3, hi3⟩ := hz78
    have HI3 := Lib.hid hi3; clear hi3
    go_loopw [9, 28] (fun _ i wr => ∃ k : Nat, k ≤ m ∧ i = .int .i64 k ∧ Below w2.heap.size w2 wr ∧ ∀ n, n < k → hushB V (t + (n : Int)) = false) (fun _ i _ => m - (intOf i).toNat)
    case atStart => exact ⟨0, Nat.zero_le _, rfl, bz _, fun n h => by omega⟩
    case round =>
      obtain ⟨k, hk, rfl, hB, hq⟩ := hrel
      have HQ := Lib.hid hq; have HB := Lib.hid hB; clear hq hB
      by_cases hlt : k < m
      · have HA := Lib.hid (at_any x' V (t + (k : Int)) wr (HX1.out.mono HB.out) hV.v h5 (by omega) (by omega))
        have hmk := mark_hush V (t + (k : Int)) h5
        have hml := markK_len V (t + (k : Int)) V.length
        have heq : ∀ w' : World, (Op.equalIn 10000 78 (.agg (arrI (markK V (t + (k : Int)) V.length))) (.agg #[.int .i64 0, .int .i64 0, .int .i64 0, .int .i64 0, .int .i64 0])).run Try.prog w' = .ok (hushB V (t + (k : Int))) w' := by
          intro w'
          have h := run_eq_arr (P := Try.prog) w' 9998 78 3 5 .i64 i3 (by kernel_rfl) HI3.out (by kernel_rfl) Try.underlying3 (markK V (t + (k : Int)) V.length) [0, 0, 0, 0, 0] hml rfl
          rw [hmk] at h
          exact h
        have HEQ := Lib.hid heq
        clear heq hmk hml
        generalize hq : hushB V (t + (k : Int)) = q at *
        have HH := Lib.hid hq; clear hq
        generalize markK V (t + (k : Int)) V.length = mm at *
        go_wp2_with fail
        refine HA.out.mono ?_
        rintro e w3 ⟨rfl, hB3⟩
        have hq3 := HEQ.out w3
        cases q
        · go_wp2_with fail
          go_roundw
          case rel =>
            refine ⟨k + 1, by omega, by go_num, btr HB.out hB3, fun n hn => ?_⟩
            by_cases e : n = k
            · subst e; exact HH.out
            · exact HQ.out n (by omega)
          case measure => simp [intOf]; omega
        · obtain ⟨n1, n2⟩ := HN1.out k hlt HQ.out HH.out
          have N1 := Lib.hid n1; have N2 := Lib.hid n2
          clear n1 n2
          go_wp2_with fail
          go_ret2
          exact ⟨by rw [N1.out, N2.out]; rfl, btr (bal (bz _) _) (btr HB2.out (btr HB.out hB3))⟩
      · have hkm : k = m := by omega
        have hq := HQ.out
        rw [hkm] at hq
        obtain ⟨n1, n2⟩ := HN0.out hq
        have N1 := Lib.hid n1; have N2 := Lib.hid n2
        clear n1 n2 hkm hq
        go_wp2_with fail
        go_ret2
        exact ⟨by rw [N1.out, N2.out]; rfl, btr (bal (bz _) _) (btr HB2.out HB.out)⟩
  · have e1 : quietN V t = 0 := by unfold quietN; rw [if_neg hc]
    have e2 : quietE V t = openE V [t] := by unfold quietE; rw [if_neg hc]
    rw [e1, e2]; clear e1 e2
    have HO := Lib.hid (fun w' (hx : RdP w' (.slice a V.length ca) V) y hy => open_no _ y V [t] w' hx hy hl (by simp) hc)
    have hcb : (openE V [t] != 0) = true := by simpa using hc
    have hce : (openE V [t] == 0) = false := by simpa using hc
    clear hc
    generalize openE V [t] = q at *
    go_enter Try.func39, Try.ntmps39
    go_wp2_with fail
    refine (HO.out _ (hx0.mono (bal (bz _) _)) _ (slice_one w t 2)).mono ?_
    rintro e w2 ⟨rfl, hB2⟩
    go_wp2_with fail
    go_ret2
    exact ⟨rfl, btr (bal (bz _) _) hB2⟩
end Go.Proofs.Ytooddicegkiiiaa

namespace Go.Proofs.Ytooddicegkiiiaa
open Go.RowKit Go.Shelf

/-- A pair is before another one. -/
def lexB (a b : Int × Int) : Bool := decide (a.1 < b.1 ∨ (a.1 = b.1 ∧ a.2 < b.2))
set_option maxRecDepth 100000 in
set_option maxHeartbeats 1000000 in
theorem lexf_any (a b : Int × Int) (w : World) :
    Calls Try.prog 67 #[kv a, kv b] w fun e w' => e = .returned (.bool (lexB a b)) ∧ Below w.heap.size w w' := by
  obtain ⟨a1, a2⟩ := a
  obtain ⟨b1, b2⟩ := b
  unfold kv
  by_cases h1 : a1 < b1
  · have e : lexB (a1, a2) (b1, b2) = true := by simp [lexB, h1]
    rw [e]; clear e
    go_enter Try.func67, Try.ntmps67
    go_wp2_with fail
    go_ret
    exact ⟨rfl, bal (bal (bz _) _) _⟩
  · by_cases h2 : a1 = b1
    · subst h2
      have hb : ((a1 : Int) == a1) = true := by simp
      by_cases h3 : a2 < b2
      · have e : lexB (a1, a2) (a1, b2) = true := by simp [lexB, h3]
        rw [e]; clear e
        go_enter Try.func67, Try.ntmps67
        go_wp2_with fail
        go_ret
        exact ⟨rfl, bal (bal (bz _) _) _⟩
      · have e : lexB (a1, a2) (a1, b2) = false := by simp [lexB]; omega
        rw [e]; clear e
        go_enter Try.func67, Try.ntmps67
        go_wp2_with fail
        go_ret
        exact ⟨rfl, bal (bal (bz _) _) _⟩
    · have e : lexB (a1, a2) (b1, b2) = false := by simp [lexB, h1, h2]
      rw [e]; clear e
      have hb : (a1 == b1) = false := by simpa using h2
      clear h2
      go_enter Try.func67, Try.ntmps67
      go_wp2_with fail
      go_ret
      exact ⟨rfl, bal (bal (bz _) _) _⟩

/-- The first one of the first k + 1 pairs. -/
def bestK (U : List (Int × Int)) : Nat → Int × Int
  | 0 => pin U 0
  | k + 1 => if lexB (pin U (k + 1)) (bestK U k) then pin U (k + 1) else bestK U k

theorem one2 (a b : Int) : (#[Value.int .i64 a, Value.int .i64 b]).all (·.oneCell') = true := by simp [Value.oneCell']

set_option maxRecDepth 100000 in
set_option maxHeartbeats 2000000 in
theorem bestp_any (x : Value) (U : List (Int × Int)) (w : World) (hx0 : RdP w x U) (hl : U.length ≤ 1000) (h1 : 1 ≤ U.length) :
    Calls Try.prog 66 #[x, .func (.func 67) #[] #[]] w fun e w' => e = .returned (kv (bestK U (U.length - 1))) ∧ Below w.heap.size w w' := by
  obtain ⟨a, ca, rfl, hca, hca2, hx⟩ := hx0.form
  obtain ⟨bx, ox, rfl, hbx, hcx⟩ := hx (by omega)
  clear hx hca2 hx0
  obtain ⟨n, hn⟩ : ∃ n, U.length = n + 1 := ⟨U.length - 1, by omega⟩
  rw [hn] at hl h1 hca hcx ⊢
  rw [Nat.add_sub_cancel]
  clear hn
  have g0 := (hcx 0 (by omega)).1
  have g1 := (hcx 0 (by omega)).2
  change w.cell? _ = some (Value.int .i64 (pin U 0).1) at g0
  change w.cell? _ = some (Value.int .i64 (pin U 0).2) at g1
  simp only [Nat.zero_mul, Nat.add_zero] at g0 g1
  have HCX := Lib.hid hcx; clear hcx
  have hu98 : Try.prog.underlying 98 = some (.struct (Try.prog.fieldsOf 98)) := Try.struct98
  have HU := Lib.hid hu98; clear hu98
  have hz98 : (Try.prog.info? 98).map (·.size) = some 2 := by kernel_rfl
  have HZ := Lib.hid hz98; clear hz98
  by_cases hc1 : ca = 1
  · have hn0 : n = 0 := by omega
    subst hn0
    subst hc1
    go_enter Try.func66, Try.ntmps66
    go_wp2_with fail
    go_loopw [7, 14] (fun _ i wr => i = .int .i64 0 ∧ Below w.heap.size w wr ∧ wr.heap[w.heap.size]? = some (.cells #[.int .i64 0, .int .i64 0] 98 (0, 0)) ∧
      wr.heap[w.heap.size + 1]? = some (.cells #[.int .i64 (pin U 0).1, .int .i64 (pin U 0).2] 98 (0, 0))) (fun _ _ _ => 0)
    case atStart =>
      have h := heap_alloc_new (w.alloc (.cells #[.int .i64 0, .int .i64 0] 98)) (.cells #[.int .i64 (pin U 0).1, .int .i64 (pin U 0).2] 98)
      rw [World.size_alloc] at h
      exact ⟨rfl, bal (bal (bz _) _) _, (Below.heap_alloc _ _ _ (by simp)).trans (heap_alloc_new _ _), h⟩
    case round =>
      obtain ⟨rfl, hB, hr0, hr1⟩ := hrel
      have HR0 := Lib.hid hr0; have HR1 := Lib.hid hr1; clear hr0 hr1
      go_wp2_with (first
        | (refine wpList_load_row rfl 98 (.tmp 5) rfl (w.heap.size + 1) rfl 98 #[.int .i64 (pin U 0).1, .int .i64 (pin U 0).2] (0, 0) _ HR1.out HU.out rfl HZ.out ?_)
        | (refine wpList_store_row rfl 98 (.tmp 4) (.tmp 24) rfl w.heap.size #[.int .i64 (pin U 0).1, .int .i64 (pin U 0).2] rfl rfl 98 _ HR0.out HZ.out rfl (one2 _ _) ?_))
      refine bodyPost_ret (results_cell_row rfl _ _ w.heap.size 98 #[.int .i64 (pin U 0).1, .int .i64 (pin U 0).2] (0, 0) _ rfl (setRow_heap _ _ _ _ _ _ HR0.out) HU.out rfl HZ.out) rfl ⟨rfl, ?_⟩
      exact hB.trans ⟨rfl, rfl, rfl, by simp, fun t ht => setRow_other _ _ _ _ (by omega)⟩
  · go_enter Try.func66, Try.ntmps66
    go_wp2_with fail
    go_loopw [7, 14] (fun _ i wr => ∃ k : Nat, k ≤ n ∧ i = .int .i64 k ∧ Below w.heap.size w wr ∧ wr.heap[w.heap.size]? = some (.cells #[.int .i64 0, .int .i64 0] 98 (0, 0)) ∧
      wr.heap[w.heap.size + 1]? = some (.cells #[.int .i64 (bestK U k).1, .int .i64 (bestK U k).2] 98 (0, 0))) (fun _ i _ => n - (intOf i).toNat)
    case atStart =>
      have h := heap_alloc_new (w.alloc (.cells #[.int .i64 0, .int .i64 0] 98)) (.cells #[.int .i64 (pin U 0).1, .int .i64 (pin U 0).2] 98)
      rw [World.size_alloc] at h
      exact ⟨0, Nat.zero_le _, rfl, bal (bal (bz _) _) _, (Below.heap_alloc _ _ _ (by simp)).trans (heap_alloc_new _ _), h⟩
    case round =>
      obtain ⟨k, hk, rfl, hB, hr0, hr1⟩ := hrel
      by_cases hlt : k < n
      · have gx := (hB.cell (p := ⟨bx, ox + (k + 1) * 2, none⟩) hbx).trans (HCX.out (k + 1) (by omega)).1
        have gy := (hB.cell (p := ⟨bx, ox + (k + 1) * 2 + 1, none⟩) hbx).trans (HCX.out (k + 1) (by omega)).2
        change wr.cell? _ = some (Value.int .i64 (pin U (k + 1)).1) at gx
        change wr.cell? _ = some (Value.int .i64 (pin U (k + 1)).2) at gy
        have hst : bestK U (k + 1) = if lexB (pin U (k + 1)) (bestK U k) then pin U (k + 1) else bestK U k := rfl
        have c0 : wr.cell? ⟨w.heap.size + 1, 0, none⟩ = some (.int .i64 (bestK U k).1) := by rw [cell_of_row wr _ 0 _ _ _ hr1]; rfl
        have c1 : wr.cell? ⟨w.heap.size + 1, 1, none⟩ = some (.int .i64 (bestK U k).2) := by rw [cell_of_row wr _ 1 _ _ _ hr1]; rfl
        have f0 := frozen_of_row wr (w.heap.size + 1) 0 _ _ hr1
        have f1 := frozen_of_row wr (w.heap.size + 1) 1 _ _ hr1
        have hz1 := (Array.getElem?_eq_some_iff.1 hr1).1
        rw [show ox + (k + 1) * 2 = ox + 2 + k * 2 by omega] at gx gy
        have hb2 : bx < wr.heap.size := Nat.lt_of_lt_of_le hbx hB.size
        have HST := Lib.hid hst; have HR0 := Lib.hid hr0; have HR1 := Lib.hid hr1; have HB := Lib.hid hB
        clear hst hr0 hr1 hB g0 g1
        generalize ho' : bestK U (k + 1) = o' at *
        have HO := Lib.hid ho'; clear ho'
        generalize bestK U k = o at *
        generalize pin U (k + 1) = q at *
        obtain ⟨o1, o2⟩ := o
        obtain ⟨q1, q2⟩ := q
        simp only at c0 c1 gx gy
        go_wp2_with fail
        refine (lexf_any (q1, q2) (o1, o2) _).mono ?_
        rintro e w3 ⟨rfl, hB3⟩
        have HB3 := Lib.hid hB3
        have e0 := (hB3.cell (p := ⟨w.heap.size + 1, 0, none⟩) (by simp; omega)).trans (cal _ c0)
        have e1 := (hB3.cell (p := ⟨w.heap.size + 1, 1, none⟩) (by simp; omega)).trans (cal _ c1)
        have e2 := (hB3.frozen (p := ⟨w.heap.size + 1, 0, none⟩) (by simp; omega)).trans (fal _ f0 (by simp; omega))
        have e3 := (hB3.frozen (p := ⟨w.heap.size + 1, 1, none⟩) (by simp; omega)).trans (fal _ f1 (by simp; omega))
        have e4 : w3.cell? ⟨wr.heap.size, 0, none⟩ = some (.int .i64 q1) := (hB3.cell (by simp)).trans (cnew rfl rfl)
        have e5 : w3.cell? ⟨wr.heap.size, 1, none⟩ = some (.int .i64 q2) := (hB3.cell (by simp)).trans (cnew rfl rfl)
        have e6 := (hB3.block (w.heap.size + 1) (by simp; omega)).trans ((Below.heap_alloc _ _ _ hz1).trans HR1.out)
        have e7 := (hB3.block w.heap.size (by simp; omega)).trans ((Below.heap_alloc _ _ _ (by omega)).trans HR0.out)
        have E6 := Lib.hid e6; have E7 := Lib.hid e7
        clear hB3 c0 c1 f0 f1 gx gy e6 e7
        generalize hq : lexB (q1, q2) (o1, o2) = q at *
        have HQ := Lib.hid hq; clear hq
        cases q
        · go_wp2_with fail
          go_roundw
          case rel =>
            have ho := HST.out
            rw [if_neg (by simp)] at ho
            exact ⟨k + 1, by omega, by go_num, btr HB.out (btr (bal (bz _) _) HB3.out), E7.out, by rw [HO.out, ho]; exact E6.out⟩
          case measure => simp [intOf]; omega
        · go_wp2_with fail
          go_roundw
          case rel =>
            have ho := HST.out
            rw [if_pos trivial] at ho
            have hx1 := heap_setCell_same w3 (w.heap.size + 1) 0 _ _ (.int .i64 q1) E6.out
            have hx2 := heap_setCell_same _ (w.heap.size + 1) 1 _ _ (.int .i64 q2) hx1
            refine ⟨k + 1, by omega, by go_num, bset (bset (btr HB.out (btr (bal (bz _) _) HB3.out)) (by simp) _) (by simp) _, ?_, by rw [HO.out, ho]; exact hx2⟩
            exact (heap_setCell_other _ _ _ _ (by simp)).trans ((heap_setCell_other _ _ _ _ (by simp)).trans E7.out)
          case measure => simp [intOf]; omega
      · have hkn : k = n := by omega
        rw [hkn] at hr1
        clear hkn
        have HR0 := Lib.hid hr0; have HR1 := Lib.hid hr1; clear hr0 hr1
        go_wp2_with (first
          | (refine wpList_load_row rfl 98 (.tmp 5) rfl (w.heap.size + 1) rfl 98 #[.int .i64 (bestK U n).1, .int .i64 (bestK U n).2] (0, 0) _ HR1.out HU.out rfl HZ.out ?_)
          | (refine wpList_store_row rfl 98 (.tmp 4) (.tmp 24) rfl w.heap.size #[.int .i64 (bestK U n).1, .int .i64 (bestK U n).2] rfl rfl 98 _ HR0.out HZ.out rfl (one2 _ _) ?_))
        refine bodyPost_ret (results_cell_row rfl _ _ w.heap.size 98 #[.int .i64 (bestK U n).1, .int .i64 (bestK U n).2] (0, 0) _ rfl (setRow_heap _ _ _ _ _ _ HR0.out) HU.out rfl HZ.out) rfl ⟨rfl, ?_⟩
        exact hB.trans ⟨rfl, rfl, rfl, by simp, fun t ht => setRow_other _ _ _ _ (by omega)⟩
end Go.Proofs.Ytooddicegkiiiaa

namespace Go.Proofs.Ytooddicegkiiiaa
open Go.RowKit Go.Shelf

/-- The first pins that clash. -/
structure FirstCl (V : List (Int × Int)) (i k : Nat) : Prop where
  lt : i < k
  len : k < V.length
  cl : clB (pin V i) (pin V k) = true
  min : ∀ a b : Nat, a < b → b < V.length → clB (pin V a) (pin V b) = true → i < a ∨ (i = a ∧ k ≤ b)
theorem FirstCl.unique {V : List (Int × Int)} {i k i' k' : Nat} (h : FirstCl V i k) (h' : FirstCl V i' k') : i = i' ∧ k = k' := by
  have h1 := h.min i' k' h'.lt h'.len h'.cl
  have h2 := h'.min i k h.lt h.len h.cl
  omega
open Classical in
noncomputable def clP (V : List (Int × Int)) : Nat × Nat := if h : ∃ p : Nat × Nat, FirstCl V p.1 p.2 then Classical.choose h else (0, 0)
theorem clP_of {V : List (Int × Int)} {i k : Nat} (h : FirstCl V i k) : clP V = (i, k) := by
  have hx : ∃ p : Nat × Nat, FirstCl V p.1 p.2 := ⟨(i, k), h⟩
  unfold clP
  rw [dif_pos hx]
  have := (Classical.choose_spec hx).unique h
  exact Prod.ext this.1 this.2
theorem clP_free {V : List (Int × Int)} (h : Free V) : clP V = (0, 0) := by
  unfold clP
  rw [dif_neg]
  rintro ⟨p, hp⟩
  have := h p.1 p.2 hp.lt hp.len
  rw [hp.cl] at this; cases this
/-- What Clash returns. -/
noncomputable def clA (V : List (Int × Int)) : Int := if checkP V = 0 then ((clP V).1 : Int) else 0
noncomputable def clK (V : List (Int × Int)) : Int := if checkP V = 0 then ((clP V).2 : Int) else 0
open Classical in
noncomputable def clE' (V : List (Int × Int)) : Int := if checkP V = 0 then (if Free V then 5 else 0) else checkP V

theorem bestK_spec (U : List (Int × Int)) : ∀ k, (∃ j, j ≤ k ∧ bestK U k = pin U j) ∧ ∀ j, j ≤ k → lexB (pin U j) (bestK U k) = false := by
  have irr : ∀ a, lexB a a = false := fun a => by simp [lexB]
  intro k
  induction k with
  | zero =>
    refine ⟨⟨0, Nat.le_refl _, rfl⟩, fun j hj => ?_⟩
    have : j = 0 := by omega
    subst this
    exact irr _
  | succ k ih =>
    obtain ⟨⟨j0, h1, h2⟩, h3⟩ := ih
    have hst : bestK U (k + 1) = if lexB (pin U (k + 1)) (bestK U k) then pin U (k + 1) else bestK U k := rfl
    cases hb : lexB (pin U (k + 1)) (bestK U k)
    · rw [hb] at hst
      simp only [Bool.false_eq_true, if_false] at hst
      rw [hst]
      refine ⟨⟨j0, by omega, h2⟩, fun j hj => ?_⟩
      by_cases e : j = k + 1
      · subst e; exact hb
      · exact h3 j (by omega)
    · rw [hb] at hst
      simp only [if_true] at hst
      rw [hst]
      refine ⟨⟨k + 1, Nat.le_refl _, rfl⟩, fun j hj => ?_⟩
      by_cases e : j = k + 1
      · subst e; exact irr _
      · have := h3 j (by omega)
        simp only [lexB, decide_eq_false_iff_not, decide_eq_true_eq] at this hb ⊢
        omega
/-- The best of the keys is the first clash. -/
theorem first_of_keys {V : List (Int × Int)} {L : Ents} (h : ClM V L) (U : List (Int × Int)) (hU : ∀ x, x ∈ U ↔ ∃ e ∈ L, e.1 = x) (hl : 1 ≤ U.length) :
    ∃ i k : Nat, FirstCl V i k ∧ bestK U (U.length - 1) = ((i : Int), (k : Int)) := by
  obtain ⟨⟨j, h1, h2⟩, h3⟩ := bestK_spec U (U.length - 1)
  have hm : bestK U (U.length - 1) ∈ U := by rw [h2]; exact pin_mem (by omega)
  obtain ⟨e, he, hee⟩ := (hU _).1 hm
  obtain ⟨a, b, k1, k2, k3, _, k5⟩ := (h e.1 e.2.1).1 ⟨e.2.2, he⟩
  rw [hee] at k3
  refine ⟨a, b, ⟨k1, k2, k5, fun a' b' l1 l2 l3 => ?_⟩, k3⟩
  obtain ⟨t, ht⟩ := (h _ _).2 ⟨a', b', l1, l2, rfl, rfl, l3⟩
  have hmu : ((a' : Int), (b' : Int)) ∈ U := (hU _).2 ⟨_, ht, rfl⟩
  obtain ⟨m, hm', hme⟩ := List.getElem_of_mem hmu
  have := h3 m (by omega)
  rw [k3, show pin U m = ((a' : Int), (b' : Int)) by simp [pin, hm', hme]] at this
  simp only [lexB, decide_eq_false_iff_not] at this
  omega
theorem cl_small {V : List (Int × Int)} {L : Ents} (h : ClM V L) (hk : (L.map (·.1)).Nodup) (hl : V.length ≤ 5) : L.length ≤ 100 := by
  have := nodup_le (L.map (·.1)) ((List.range 5).flatMap fun (i : Nat) => (List.range 5).map fun (k : Nat) => ((i : Int), (k : Int))) hk (fun x hx => by
    obtain ⟨e, he, rfl⟩ := List.mem_map.1 hx
    obtain ⟨a, b, k1, k2, k3, _⟩ := (h e.1 e.2.1).1 ⟨e.2.2, he⟩
    rw [k3]
    simp only [List.mem_flatMap, List.mem_map, List.mem_range]
    exact ⟨a, by omega, b, by omega, rfl⟩)
  rw [List.length_map] at this
  refine Nat.le_trans this ?_
  decide +kernel

set_option maxRecDepth 100000 in
set_option maxHeartbeats 2000000 in
theorem clash_any (x : Value) (V : List (Int × Int)) (w : World) (hx0 : RdP w x V) (hl : V.length ≤ 1000) :
    Calls Try.prog 33 #[x] w fun e w' => e = .returned (.tuple #[.int .i64 (clA V), .int .i64 (clK V), .int .i64 (clE' V)]) ∧ Below w.heap.size w w' := by
  obtain ⟨a, ca, rfl, hca, hca2, _⟩ := hx0.form
  clear hca2
  by_cases hc : checkP V = 0
  · have hV := okPins_of hc
    have h5 := hV.l5
    have HO := Lib.hid (open_ok _ _ V [] w hx0 (rdI_nil _ _) (by simp) (by rw [openE_nil]; exact hc))
    have HF : Hid (Free V → clA V = 0 ∧ clK V = 0 ∧ clE' V = 5) := Lib.hid (fun h => by unfold clA clK clE'; rw [if_pos hc, if_pos hc, if_pos hc, if_pos h, clP_free h]; exact ⟨rfl, rfl, rfl⟩)
    have HC : Hid (∀ i k, FirstCl V i k → ¬ Free V → clA V = i ∧ clK V = k ∧ clE' V = 0) := Lib.hid (fun i k h hn => by unfold clA clK clE'; rw [if_pos hc, if_pos hc, if_pos hc, if_neg hn, clP_of h]; exact ⟨rfl, rfl, rfl⟩)
    clear hc
    go_enter Try.func33, Try.ntmps33
    go_wp2_with fail
    refine HO.out.mono ?_
    rintro e w2 ⟨b, rfl, hb, hD, hB2⟩
    obtain ⟨x', M, L, c, hb', hM, hok, hcl, hx1⟩ := id hD
    have d0 : w2.cell? ⟨b, 0, none⟩ = some x' := by rw [cell_of_row w2 _ 0 _ _ _ hb']; rfl
    have d1 : w2.cell? ⟨b, 1, none⟩ = some (.map (some M)) := by rw [cell_of_row w2 _ 1 _ _ _ hb']; rfl
    have dz := (Array.getElem?_eq_some_iff.1 hb').1
    have hln := run_lenL (W := w2) hM
    have HM := Lib.hid hM; have HOK := Lib.hid hok; have HCL := Lib.hid hcl; have HB2 := Lib.hid hB2
    clear hb' hM hok hcl hx1 hD hB2
    by_cases hL : L = []
    · subst hL
      obtain ⟨f1, f2, f3⟩ := HF.out (free_of_nil HCL.out)
      have F1 := Lib.hid f1; have F2 := Lib.hid f2; have F3 := Lib.hid f3
      clear f1 f2 f3
      simp only [List.length_nil] at hln
      go_wp2_with fail
      go_ret3
      exact ⟨by rw [F1.out, F2.out, F3.out]; rfl, HB2.out⟩
    · have hn : 0 < L.length := List.length_pos_iff.2 hL
      have HNF := Lib.hid (not_free HCL.out hL)
      have hsm := cl_small HCL.out HOK.out.keys h5
      have hrg : (Instr.range 82 (.map (some M))).run Try.prog w2 = .ok (.pointer (some ⟨w2.heap.size, 0, none⟩)) (w2.alloc (.mapIter (some M) c #[] c)) := by
        simp [Instr.range, Sem.run_bind, run_underlying Try.underlying82, Result.andThen_ok, run_getMap HM.out]
      have hni : ((L.length : Int) == 0) = false := by rw [beq_eq_false_iff_ne]; omega
      clear hL
      go_wp2_with fail
      clear hrg hln
      go_loopw [7, 8] (fun s7 _ wr => ∃ v U seen, v = s7 ∧ Below w2.heap.size w2 wr ∧ wr.heap[w2.heap.size]? = some (.mapIter (some M) c seen c) ∧ wr.ownsRow (w2.heap.size + 1) 98 2 v U.length (prs U) ∧
          (∀ x, x ∈ U ↔ ∃ e ∈ L, e.2.2 ∈ seen ∧ e.1 = x) ∧ U.length + (L.filter fun e => !seen.contains e.2.2).length ≤ L.length) (fun _ _ wr => unmet (wr.heap[M]?) (wr.heap[w2.heap.size]?))
      case atStart =>
        refine ⟨_, [], #[], rfl, bal (bz _) _, heap_alloc_new _ _, World.ownsRow_nil _ _ _ _, by simp, by simp; exact List.length_filter_le _ _⟩
      case round =>
        obtain ⟨v, U, seen, rfl, hB, hit, hor, hU, hUl⟩ := hrel
        obtain ⟨av, cv, rfl⟩ := owns_form hor
        have hmz := (Array.getElem?_eq_some_iff.1 HM.out).1
        have hMr := (hB.block _ hmz).trans HM.out
        rcases run_nextL hMr HOK.out hit with ⟨hall, hnx⟩ | ⟨e, he, hes, n, hnx⟩
        · have hU' : ∀ x, x ∈ U ↔ ∃ e ∈ L, e.1 = x := fun x => (hU x).trans ⟨fun ⟨e, h1, _, h3⟩ => ⟨e, h1, h3⟩, fun ⟨e, h1, h3⟩ => ⟨e, h1, hall e h1, h3⟩⟩
          have hu1 : 1 ≤ U.length := by
            have hm : (L[0]).1 ∈ U := (hU' _).2 ⟨_, List.getElem_mem hn, rfl⟩
            exact List.length_pos_of_mem hm
          obtain ⟨i, k, hfc, hbk⟩ := first_of_keys HCL.out U hU' hu1
          obtain ⟨f1, f2, f3⟩ := HC.out i k hfc HNF.out
          have F1 := Lib.hid f1; have F2 := Lib.hid f2; have F3 := Lib.hid f3
          have HBP := Lib.hid (bestp_any _ U wr (RdP.of_owns hor) (by omega) hu1)
          rw [hbk] at HBP
          have HB := Lib.hid hB
          clear f1 f2 f3 hfc hbk hU hU' hall hit hor hB hMr
          unfold kv at HBP
          simp only at HBP
          go_wp2_with fail
          refine HBP.out.mono ?_
          rintro e w3 ⟨rfl, hB3⟩
          have HB3 := Lib.hid hB3; clear hB3
          go_wp2_with fail
          go_quiet (fail)
          go_wp2_with fail
          go_ret3
          exact ⟨by rw [F1.out, F2.out, F3.out]; rfl, Below.drewN' _ (bal (btr HB2.out (btr HB.out HB3.out)) _)⟩
        · have HSN := Lib.hid hes; have HE := Lib.hid he; have HU := Lib.hid hU; have HOR := Lib.hid hor; have HIT := Lib.hid hit; have HB := Lib.hid hB; have HMR := Lib.hid hMr
          clear hes he hU hor hit hB hMr
          go_wp2_with fail
          clear hnx
          obtain ⟨⟨k1, k2⟩, m, t⟩ := e
          have hrI := (Array.getElem?_eq_some_iff.1 HIT.out).1
          have hbr := HB.out.size
          have hMn : ((wr.drewN n).putObj w2.heap.size (.mapIter (some M) c (seen.push t) c)).heap[M]? = some (.map (entsOf L) c) := (World.putObj_heap_other (by omega)).trans HMR.out
          have hnI : ((wr.drewN n).putObj w2.heap.size (.mapIter (some M) c (seen.push t) c)).heap[w2.heap.size]? = some (.mapIter (some M) c (seen.push t) c) := World.putObj_heap_same hrI
          have hen := run_entryL hMn HOK.out HE.out hnI
          have hzn : ((wr.drewN n).putObj w2.heap.size (.mapIter (some M) c (seen.push t) c)).heap.size = wr.heap.size := by simp [World.drewN]
          have hBn : Below w2.heap.size w2 ((wr.drewN n).putObj w2.heap.size (.mapIter (some M) c (seen.push t) c)) := below_put (Below.drewN' n HB.out) _ (Nat.le_refl _)
          have hOn : ((wr.drewN n).putObj w2.heap.size (.mapIter (some M) c (seen.push t) c)).ownsRow (w2.heap.size + 1) 98 2 (.slice av U.length cv) U.length (prs U) := by
            refine World.ownsRow.kept (owns_kept HOR.out (Below.drewN' n (bz _))) (grownBy_putObj' _ _ _) ?_
            cases hv : (Value.slice av U.length cv).ownBlock with
            | none => exact .inl rfl
            | some q => exact .inr (by intro e; cases e; have := (HOR.out.lt _ hv).1; omega)
          have HMN := Lib.hid hMn; have HNI := Lib.hid hnI; have HBN := Lib.hid hBn; have HON := Lib.hid hOn
          clear hMn hnI hBn hOn
          simp only at hen HMN HNI HBN HON hzn
          generalize (wr.drewN n).putObj w2.heap.size (.mapIter (some M) c (seen.push t) c) = wn at *
          have hbn : w2.heap.size < wn.heap.size := by omega
          clear hzn
          unfold kv at hen
          simp only at hen
          go_wp2_with (at_builtin; refine wpList_append_pair rfl _ _ rfl (show Try.prog.underlying 99 = some (.slice 98) by kernel_rfl) info98 (HON.out.alloc _) (by simp; omega) k1 k2 rfl rfl (by simp) (by omega) ?_)
          intro v' w' hown hgrow
          have HOWN := Lib.hid hown; have HGROW := Lib.hid hgrow
          clear hown hgrow hen
          go_wp2_with fail
          go_roundw
          case rel =>
            have hO2 := (HON.out.alloc (.cells #[.int .i64 k1, .int .i64 k2] 98)).alloc (.cells #[.int .i64 k1, .int .i64 k2] 98)
            have hk := append_keep (j := w2.heap.size) hO2 HGROW.out (by omega) (by simp; omega)
            refine ⟨v', U ++ [(k1, k2)], seen.push t, rfl, append_below (bal (bal HBN.out _) _) hO2 HGROW.out (by omega), hk.trans ((Below.heap_alloc _ _ _ (by simp; omega)).trans ((Below.heap_alloc _ _ _ hbn).trans HNI.out)), by rw [List.length_append]; exact HOWN.out, fun x => ?_, ?_⟩
            · rw [List.mem_append, List.mem_singleton, HU.out x]
              constructor
              · rintro (⟨e, h1, h2, h3⟩ | rfl)
                · exact ⟨e, h1, Array.mem_push.2 (.inl h2), h3⟩
                · exact ⟨_, HE.out, Array.mem_push.2 (.inr rfl), rfl⟩
              · rintro ⟨e, h1, h2, h3⟩
                rcases Array.mem_push.1 h2 with h | h
                · exact .inl ⟨e, h1, h, h3⟩
                · right
                  have := born_inj HOK.out h1 HE.out h
                  rw [← h3, this]
            · have := unmet_lt HOK.out (fun x h => h) HE.out HSN.out
              rw [List.length_append]
              simp only [List.length_cons, List.length_nil] at this ⊢
              omega
          case measure =>
            have hO2 := (HON.out.alloc (.cells #[.int .i64 k1, .int .i64 k2] 98)).alloc (.cells #[.int .i64 k1, .int .i64 k2] 98)
            have hk := append_keep (j := w2.heap.size) hO2 HGROW.out (by omega) (by simp; omega)
            have hk2 := append_keep (j := M) hO2 HGROW.out (by omega) (by simp; omega)
            have e1 := hk.trans ((Below.heap_alloc _ _ _ (by simp; omega)).trans ((Below.heap_alloc _ _ _ hbn).trans HNI.out))
            have e2 := hk2.trans ((Below.heap_alloc _ _ _ (by simp; omega)).trans ((Below.heap_alloc _ _ _ (by omega)).trans HMN.out))
            rw [HMR.out, HIT.out, e1, e2, unmet_eq, unmet_eq]
            exact unmet_lt HOK.out (fun x h => h) HE.out HSN.out
  · have HO := Lib.hid (open_no _ _ V [] w hx0 (rdI_nil _ _) hl (by simp) (by rw [openE_nil]; exact hc))
    have e1 : clA V = 0 := by unfold clA; rw [if_neg hc]
    have e2 : clK V = 0 := by unfold clK; rw [if_neg hc]
    have e3 : clE' V = checkP V := by unfold clE'; rw [if_neg hc]
    rw [e1, e2, e3]; clear e1 e2 e3
    rw [openE_nil] at HO
    have hcb : (checkP V != 0) = true := by simpa using hc
    have hce : (checkP V == 0) = false := by simpa using hc
    clear hc
    generalize checkP V = q at *
    go_enter Try.func33, Try.ntmps33
    go_wp2_with fail
    refine HO.out.mono ?_
    rintro e w2 ⟨rfl, hB2⟩
    go_wp2_with fail
    go_ret3
    exact ⟨rfl, hB2⟩
end Go.Proofs.Ytooddicegkiiiaa

namespace Go.Proofs.Ytooddicegkiiiaa
open Go.RowKit Go.Shelf

set_option maxRecDepth 100000 in
theorem longer_any (a b : Option Addr) (m n c d : Nat) (w : World) (_hm : m ≤ 1000) (_hn : n ≤ 1000) :
    Calls Try.prog 81 #[.slice a m c, .slice b n d] w fun e w' => e = .returned (.bool (decide (n < m))) ∧ w = w' := by
  by_cases h : n < m
  · rw [show decide (n < m) = true by simpa using h]
    go_enter Try.func81, Try.ntmps81
    go_wp2_with fail
    go_ret
    exact ⟨by simp, rfl⟩
  · rw [show decide (n < m) = false by simpa using h]
    go_enter Try.func81, Try.ntmps81
    go_wp2_with fail
    go_ret
    exact ⟨by simp, rfl⟩

/-- The index of the first longest of the first k + 1. -/
def bestJ (ls : List Nat) : Nat → Nat
  | 0 => 0
  | k + 1 => if ls[bestJ ls k]?.getD 0 < ls[k + 1]?.getD 0 then k + 1 else bestJ ls k
theorem bestJ_le (ls : List Nat) : ∀ k, bestJ ls k ≤ k
  | 0 => Nat.le_refl _
  | k + 1 => by
    have := bestJ_le ls k
    simp only [bestJ]
    split <;> omega

set_option maxRecDepth 100000 in
set_option maxHeartbeats 1000000 in
theorem bestl_any (x : Value) (ls : List Nat) (vs : List Value) (w : World) (hx0 : RdC w x ls.length vs) (hvl : vs.length = ls.length) (hv : ∀ i, i < ls.length → ∃ a c, vs[i]? = some (.slice a (ls[i]?.getD 0) c)) (hls : ∀ i : Nat, ls[i]?.getD 0 ≤ 1000) (hl : ls.length ≤ 1000) (h1 : 1 ≤ ls.length) :
    Calls Try.prog 80 #[x, .func (.func 81) #[] #[]] w fun e w' => e = .returned (vs[bestJ ls (ls.length - 1)]?.getD (.slice none 0 0)) ∧ w = w' := by
  obtain ⟨a, ca, rfl, hca, hca2, hcell⟩ := hx0
  obtain ⟨bx, ox, rfl, hbx, hcx⟩ := hcell (by intro e; rw [e] at hvl; simp at hvl; omega)
  clear hcell hca2
  obtain ⟨n, hn⟩ : ∃ n, ls.length = n + 1 := ⟨ls.length - 1, by omega⟩
  rw [hn] at hl h1 hca hv ⊢
  rw [Nat.add_sub_cancel]
  clear hn hvl
  have hc : ∀ i, i < n + 1 → ∃ a c, vs[i]? = some (.slice a (ls[i]?.getD 0) c) ∧ w.cell? ⟨bx, ox + i, none⟩ = some (.slice a (ls[i]?.getD 0) c) := by
    intro i hi
    obtain ⟨a, c, h⟩ := hv i hi
    exact ⟨a, c, h, hcx i _ h⟩
  have HC := Lib.hid hc; have HLS := Lib.hid hls
  clear hcx hv hc hls
  obtain ⟨a0, c0, hv0, g0⟩ := HC.out 0 (by omega)
  rw [Nat.add_zero] at g0
  have HV0 := Lib.hid hv0; clear hv0
  generalize hl0 : ls[0]?.getD 0 = l0 at *
  by_cases hc1 : ca = 1
  · have hn0 : n = 0 := by omega
    subst hn0
    subst hc1
    go_enter Try.func80, Try.ntmps80
    go_wp2_with fail
    go_loopw [5, 7, 14] (fun s5 _ i wr => s5 = .slice a0 l0 c0 ∧ i = .int .i64 0 ∧ w = wr) (fun _ _ _ _ => 0)
    case atStart => exact ⟨rfl, rfl, rfl⟩
    case round =>
      obtain ⟨rfl, rfl, rfl⟩ := hrel
      go_wp2_with fail
      go_ret
      exact ⟨by rw [show bestJ ls 0 = 0 from rfl, HV0.out]; rfl, rfl⟩
  · go_enter Try.func80, Try.ntmps80
    go_wp2_with fail
    go_loopw [5, 7, 14] (fun s5 _ i wr => ∃ (k : Nat) (a : Option Addr) (c : Nat), k ≤ n ∧ i = .int .i64 k ∧ vs[bestJ ls k]? = some s5 ∧ s5 = .slice a (ls[bestJ ls k]?.getD 0) c ∧ w = wr) (fun _ _ i _ => n - (intOf i).toNat)
    case atStart => exact ⟨0, a0, c0, Nat.zero_le _, rfl, HV0.out, by rw [show bestJ ls 0 = 0 from rfl, hl0], rfl⟩
    case round =>
      obtain ⟨k, a, c, hk, rfl, hv, rfl, rfl⟩ := hrel
      by_cases hlt : k < n
      · obtain ⟨a1, c1, hv1, g1⟩ := HC.out (k + 1) (by omega)
        have hst : bestJ ls (k + 1) = if ls[bestJ ls k]?.getD 0 < ls[k + 1]?.getD 0 then k + 1 else bestJ ls k := rfl
        have b1 := HLS.out (bestJ ls k)
        have b2 := HLS.out (k + 1)
        have HST := Lib.hid hst; have HV := Lib.hid hv; have HV1 := Lib.hid hv1
        clear hst hv hv1 g0
        rw [show ox + (k + 1) = ox + 1 + k by omega] at g1
        generalize hj : bestJ ls (k + 1) = j' at *
        have HJ := Lib.hid hj; clear hj
        generalize hj : bestJ ls k = j at *
        generalize hm : ls[j]?.getD 0 = m at *
        generalize hm1 : ls[k + 1]?.getD 0 = m1 at *
        have HM := Lib.hid hm; have HM1 := Lib.hid hm1
        clear hj hm hm1 hl0
        have HL := Lib.hid (longer_any a1 a m1 m c1 c w (by omega) (by omega))
        by_cases hlt2 : m < m1
        · rw [if_pos hlt2] at HST
          rw [show decide (m < m1) = true by simpa using hlt2] at HL
          go_wp2_with fail
          refine HL.out.mono ?_
          rintro e w3 ⟨rfl, rfl⟩
          go_wp2_with fail
          go_roundw
          case rel => exact ⟨k + 1, a1, c1, by omega, by go_num, by rw [HJ.out, HST.out, HV1.out], by rw [HJ.out, HST.out, HM1.out], trivial⟩
          case measure => simp [intOf]; omega
        · rw [if_neg hlt2] at HST
          rw [show decide (m < m1) = false by simpa using hlt2] at HL
          go_wp2_with fail
          refine HL.out.mono ?_
          rintro e w3 ⟨rfl, rfl⟩
          go_wp2_with fail
          go_roundw
          case rel => exact ⟨k + 1, a, c, by omega, by go_num, by rw [HJ.out, HST.out, HV.out], by rw [HJ.out, HST.out, HM.out], trivial⟩
          case measure => simp [intOf]; omega
      · have hkn : k = n := by omega
        have HKN := Lib.hid hkn; have HV := Lib.hid hv; clear hkn hv
        go_wp2_with fail
        go_ret
        exact ⟨by rw [← HKN.out, HV.out]; rfl, rfl⟩
end Go.Proofs.Ytooddicegkiiiaa

namespace Go.Proofs.Ytooddicegkiiiaa
open Go.RowKit Go.Shelf

/-- The first longest. -/
def bestG (Os : List (List Nat)) : List Nat := Os[bestJ (Os.map List.length) (Os.length - 1)]?.getD []
/-- The first one of the greatest groups that begin with g, and have others from one on. -/
def gre (V : List (Int × Int)) : Nat → List Nat → Nat → List Nat
  | 0, g, _ => g
  | f + 1, g, m => bestG (g :: ((List.range' m (V.length - m)).filter fun i => decide (Grp V (g ++ [i]))).map fun i => gre V f (g ++ [i]) (i + 1))
/-- What lies in 'all' when the loop stands at m + j. -/
def cand (V : List (Int × Int)) (f : Nat) (g : List Nat) (m j : Nat) : List (List Nat) := g :: ((List.range' m j).filter fun i => decide (Grp V (g ++ [i]))).map fun i => gre V (f - 1) (g ++ [i]) (i + 1)
theorem cand_succ (V : List (Int × Int)) (f : Nat) (g : List Nat) (m j : Nat) : cand V f g m (j + 1) = if Grp V (g ++ [m + j]) then cand V f g m j ++ [gre V (f - 1) (g ++ [m + j]) (m + j + 1)] else cand V f g m j := by
  unfold cand
  rw [List.range'_concat, List.filter_append]
  by_cases h : Grp V (g ++ [m + j]) <;> simp [h]
theorem cand_len (V : List (Int × Int)) (f : Nat) (g : List Nat) (m j : Nat) : 1 ≤ (cand V f g m j).length ∧ (cand V f g m j).length ≤ j + 1 := by
  unfold cand
  have := List.length_filter_le (fun i => decide (Grp V (g ++ [i]))) (List.range' m j)
  simp only [List.length_cons, List.length_map, List.length_range'] at this ⊢
  omega
theorem gre_eq (V : List (Int × Int)) (f : Nat) (g : List Nat) (m : Nat) (h : V.length - m ≤ f) : gre V f g m = bestG (cand V f g m (V.length - m)) := by
  cases f with
  | zero =>
    have : V.length - m = 0 := by omega
    rw [this]; rfl
  | succ f => rfl
theorem bestG_mem (Os : List (List Nat)) (h : 1 ≤ Os.length) : bestG Os ∈ Os := by
  have := bestJ_le (Os.map List.length) (Os.length - 1)
  have hl : bestJ (Os.map List.length) (Os.length - 1) < Os.length := by omega
  unfold bestG
  rw [List.getElem?_eq_getElem hl]
  exact List.getElem_mem hl
/-- What it returns begins with g, and is a strictly increasing group. -/
theorem gre_inc (V : List (Int × Int)) : ∀ (f : Nat) (g : List Nat) (m : Nat), Inc V g → (∀ i ∈ g, i < m) → Inc V (gre V f g m)
  | 0, g, m, h, _ => h
  | f + 1, g, m, h, hm => by
    have hb := bestG_mem (g :: ((List.range' m (V.length - m)).filter fun i => decide (Grp V (g ++ [i]))).map fun i => gre V f (g ++ [i]) (i + 1)) (by simp)
    rw [gre]
    rcases List.mem_cons.1 hb with e | e
    · rw [e]; exact h
    · obtain ⟨i, hi, e⟩ := List.mem_map.1 e
      rw [← e]
      have hi2 := List.mem_range'_1.1 (List.mem_filter.1 hi).1
      refine gre_inc V f _ _ ⟨?_, ?_⟩ ?_
      · rw [List.pairwise_append]
        exact ⟨h.1, by simp, fun a ha b hb => by simp at hb; subst hb; have := hm a ha; omega⟩
      · intro a ha
        rw [List.mem_append, List.mem_singleton] at ha
        rcases ha with ha | rfl
        · exact h.2 a ha
        · omega
      · intro a ha
        rw [List.mem_append, List.mem_singleton] at ha
        rcases ha with ha | rfl
        · have := hm a ha; omega
        · omega
theorem Inc.len {V : List (Int × Int)} {g : List Nat} (h : Inc V g) : g.length ≤ V.length := by
  have := nodup_le g (List.range V.length) (h.1.imp fun hab => Nat.ne_of_lt hab) (fun x hx => List.mem_range.2 (h.2 x hx))
  simpa using this

/-- A list of numbers that lies whole in a block, wherever. -/
def ownN (w : World) (v : Value) (g : List Nat) : Prop := w.ownsRow 0 3 1 v (natL g).length ((natL g).map (Value.int .i64))
theorem ownN.later {w w' : World} {v : Value} {g : List Nat} (h : ownN w v g) (hb : Below w.heap.size w w') : ownN w' v g := owns_kept h hb
theorem ownN.rd {w : World} {v : Value} {g : List Nat} (h : ownN w v g) : RdI w .i64 v (natL g) := RdI.of_owns h
/-- v is a slice of the slices vs, which the call owns; each holds the numbers of Os. -/
structure LL (w : World) (base : Nat) (v : Value) (Os : List (List Nat)) (vs : List Value) : Prop where
  own : w.ownsRow base 25 1 v Os.length vs
  el : ∀ (i : Nat) (e : Value), vs[i]? = some e → ownN w e (Os[i]?.getD [])
theorem LL.later {w w' : World} {base : Nat} {v : Value} {Os : List (List Nat)} {vs : List Value} (h : LL w base v Os vs) (hb : Below w.heap.size w w') : LL w' base v Os vs :=
  ⟨owns_kept h.own hb, fun i e he => (h.el i e he).later hb⟩
theorem LL.len {w : World} {base : Nat} {v : Value} {Os : List (List Nat)} {vs : List Value} (h : LL w base v Os vs) : vs.length = Os.length := by have := h.own.1; simpa using this
theorem LL.one {w : World} {v : Value} {g : List Nat} (h : ownN w v g) (base : Nat) (hb : base ≤ w.heap.size) : LL (w.alloc (.cells #[v] 25)) base (.slice (some ⟨w.heap.size, 0, none⟩) 1 1) [g] [v] := by
  refine ⟨⟨rfl, .inr ⟨w.heap.size, 1, #[v], rfl, hb, heap_alloc_new _ _, Nat.le_refl _, by unfold maxLen; omega, rfl, rfl⟩⟩, fun i e he => ?_⟩
  match i, he with
  | 0, he => simp at he; subst he; exact h.later (bal (bz _) _)
theorem LL.push {w w' : World} {base : Nat} {v v' e : Value} {Os : List (List Nat)} {vs : List Value} {x : List Nat} {o : Obj} (h : LL w base v Os vs) (he : ownN w e x) (hown' : w'.ownsRow base 25 1 v' (Os.length + 1) (vs ++ [e]))
    (hgrow : (w.alloc o).grownBy w' v.ownBlock) : LL w' base v' (Os ++ [x]) (vs ++ [e]) := by
  have hl := h.len
  have hk : ∀ (e : Value) (x : List Nat), ownN w e x → ownN w' e x := fun e x he =>
    World.ownsRow.kept (he.alloc o) hgrow (own_ne he h.own (by decide))
  refine ⟨by simpa using hown', fun i u hu => ?_⟩
  rcases Nat.lt_or_ge i vs.length with hi | hi
  · rw [List.getElem?_append_left hi] at hu
    rw [List.getElem?_append_left (by omega)]
    exact hk _ _ (h.el i u hu)
  · have hi2 : i = vs.length := by have := (List.getElem?_eq_some_iff.1 hu).1; simp at this; omega
    subst hi2
    simp at hu
    subst hu
    rw [hl]
    simpa using hk _ _ he
theorem wpList_append_list {w : World} {base : Nat} {v : Value} {Os : List (List Nat)} {vs : List Value} {ops : Array Oper} {rest : List Oper} {o : Oper} {a : Act} {Q : Exit → Act → World → Prop} (hgd : o.guard = none) (s x : Operand)
    (ho : o.op = .call { callee := .builtin .append, args := #[s, x], argTypes := #[109, 109] }) (h : LL w base v Os vs) (e : Value) (he1 : e.oneCell' = true) (hs : a.eval s = v) {nb : Nat} (hx : a.eval x = .slice (some ⟨nb, 0, none⟩) 1 1) (hnb : nb = w.heap.size) (hl : Os.length ≤ 1000) (hb : base ≤ w.heap.size)
    (H : ∀ v' w', w'.ownsRow base 25 1 v' (Os.length + 1) (vs ++ [e]) → (w.alloc (.cells #[e] 25)).grownBy w' v.ownBlock → wpList Try.prog ops Q rest (a.put o.dst v') w') :
    wpList Try.prog ops Q (o :: rest) a (w.alloc (.cells #[e] 25)) := by
  subst hnb
  obtain ⟨i0, hi, hz0, hz1, hz2⟩ := info_parts info25
  refine wpList_append_own _ hgd s x 109 ho base 25 i0 (.slice none 0 0) 1 24 (show Try.prog.underlying 109 = some (.slice 25) by kernel_rfl) hi hz0 hz1 hz2 rfl (by decide) _ _ _ hs (h.own.alloc _) ⟨w.heap.size, 0, none⟩ 1 1 [e] hx rfl (fun j u hj => ?_) (fun u hu => by simp at hu; subst hu; exact he1)
    (by simp only [maxLen]; omega) (by omega) (by simp; omega) ?_
  · match j, hj with
    | 0, hj => simp at hj; subst hj; rw [Go.WideShapes.add_plain]; simp
  · exact fun v' w' h1 h2 _ => H v' w' h1 h2

theorem gre_aux {n m j i f : Nat} (h : m + j = i) (hlt : i < n) (hf : n - m ≤ f) : n - (i + 1) ≤ f - 1 ∧ f - 1 < f ∧ i + 1 ≤ n ∧ j + 1 ≤ n - m := by omega
def GreOk (V : List (Int × Int)) (f : Nat) (g : List Nat) (m : Nat) (w : World) (e : Ending) (w' : World) : Prop := ∃ v, e = .returned v ∧ ownN w' v (gre V f g m) ∧ Below w.heap.size w w'

set_option maxRecDepth 100000 in
set_option maxHeartbeats 2000000 in
theorem greatest_n (V : List (Int × Int)) (b : Nat) (hl5 : V.length ≤ 5) : ∀ (f : Nat) (g : List Nat) (m : Nat) (y : Value) (w : World), IsDrum w b V → ownN w y g → Inc V g → (∀ i ∈ g, i < m) → m ≤ V.length → V.length - m ≤ f →
    Calls Try.prog 68 #[.pointer (some ⟨b, 0, none⟩), y, .int .i64 m] w (GreOk V f g m w) := by
  intro f
  induction f using Nat.strongRecOn with
  | ind f ih =>
  intro g m y w hD hy hg hgm hm hf
  have hgl := hg.len
  obtain ⟨x, M, L, c, hb, _, _, _, hx0⟩ := id hD
  obtain ⟨ax, cx, rfl, _, _, _⟩ := hx0.form
  have d0 : w.cell? ⟨b, 0, none⟩ = some (.slice ax V.length cx) := by rw [cell_of_row w _ 0 _ _ _ hb]; rfl
  have dz := (Array.getElem?_eq_some_iff.1 hb).1
  obtain ⟨ay, cy, e, hcy, hay⟩ := owns_clip hy
  rw [natL_len] at e hcy
  subst e
  have HD := Lib.hid hD; have HY := Lib.hid hy; have IH := Lib.hid ih
  clear hb hx0 hD hy ih
  go_enter Try.func68, Try.ntmps68
  go_wp2_with fail
  refine wp_scope_straight ?_
  go_wp2_with fail
  refine wp_label ?_
  go_wp2_with fail
  have HL1 := Lib.hid (LL.one HY.out w.heap.size (Nat.le_refl _))
  go_loopw [7, 8, 9] (fun s7 s8 _ wr => ∃ (v : Value) (vs : List Value) (j : Nat), v = s7 ∧ s8 = .int .i64 ((m + j : Nat) : Int) ∧ j ≤ V.length - m ∧ Below w.heap.size w wr ∧ LL wr w.heap.size v (cand V f g m j) vs) (fun _ s8 _ _ => V.length - (intOf s8).toNat)
  case atStart => exact ⟨_, _, 0, rfl, rfl, Nat.zero_le _, bal (bz _) _, HL1.out⟩
  case round =>
    obtain ⟨v, vs, j, rfl, rfl, hj, hB, hL⟩ := hrel
    obtain ⟨k1, k2⟩ := cand_len V f g m j
    obtain ⟨av, cv, rfl⟩ := owns_form hL.own
    have e0 := (hB.cell (p := ⟨b, 0, none⟩) dz).trans d0
    have ez : b < wr.heap.size := Nat.lt_of_lt_of_le dz hB.size
    have HB := Lib.hid hB; have HL := Lib.hid hL; clear hB hL
    by_cases hlt : m + j < V.length
    · have hst := cand_succ V f g m j
      have hap := append_clip (wr.alloc (.cells #[.int .i64 ((m + j : Nat) : Int)] 3)) ay g.length cy (natL g) ((HY.out.later HB.out).rd.mono (bal (bz _) _)) hay (by omega) ⟨wr.heap.size, 0, none⟩ ((m + j : Nat) : Int) (cnew rfl rfl)
      obtain ⟨v', hap⟩ := Classical.skolem.1 hap
      obtain ⟨w', hap⟩ := Classical.skolem.1 hap
      have hsl := run_clip ay g.length cy hcy hay
      have hap1 := Lib.hid fun ty => (hap ty).1
      have hap2 := Lib.hid fun ty => (hap ty).2
      have HST := Lib.hid hst
      clear hap hst
      generalize hmj : m + j = i at *
      have HMJ := Lib.hid hmj; clear hmj
      go_wp2_with (at_builtin; refine wpList_append_eq _ rfl _ _ 25 rfl _ _ rfl rfl (hap1.out _) ?_)
      obtain ⟨h1, h2⟩ := hap2.out 25
      have hB6 : Below wr.heap.size wr (w' 25) := bgr (bal (bz _) _) h2 (fun k h => by cases h)
      have hown : ownN (w' 25) (v' 25) (g ++ [i]) := by
        unfold ownN
        have e : natL (g ++ [i]) = natL g ++ [(i : Int)] := by simp [natL]
        rw [e, List.length_append, natL_len]
        exact owns_base h1 (Nat.zero_le _)
      have hinc : Inc V (g ++ [i]) := by
        refine ⟨?_, fun a ha => ?_⟩
        · rw [List.pairwise_append]
          exact ⟨hg.1, by simp, fun a ha b hb => by simp at hb; subst hb; have := hgm a ha; have := HMJ.out; omega⟩
        · rw [List.mem_append, List.mem_singleton] at ha
          rcases ha with ha | rfl
          · exact hg.2 a ha
          · exact hlt
      have hgm' : ∀ a ∈ g ++ [i], a < i + 1 := by
        intro a ha
        rw [List.mem_append, List.mem_singleton] at ha
        rcases ha with ha | rfl
        · have := hgm a ha; have := HMJ.out; omega
        · omega
      obtain ⟨x1, x2, x3, x4⟩ := gre_aux HMJ.out hlt hf
      have HIG := Lib.hid (isgroup_any b V _ (g ++ [i]) (w' 25) (HD.out.mono (btr HB.out hB6)) hown.rd hinc (by simp; omega))
      have HREC := Lib.hid (IH.out (f - 1) x2 (g ++ [i]) (i + 1) (v' 25) (w' 25) (HD.out.mono (btr HB.out hB6)) hown hinc hgm' x3 x1)
      have HB6 := Lib.hid hB6
      have hiw : ((i + 1 : Nat) : Int) = (i : Int) + 1 := by omega
      rw [hiw] at HREC
      clear hB6 hown hinc hgm' h1 h2 hap1 hap2 hsl hiw
      generalize w' 25 = w5 at *
      generalize v' 25 = v5 at *
      by_cases hgr : Grp V (g ++ [i])
      · rw [if_pos hgr] at HST
        rw [show decide (Grp V (g ++ [i])) = true by simpa using hgr] at HIG
        clear hgr
        refine HIG.out.mono ?_
        rintro e w3 ⟨rfl, rfl⟩
        go_wp2_with fail
        refine HREC.out.mono ?_
        rintro e w6 ⟨v6, rfl, hown6, hB7⟩
        obtain ⟨a6, c6, rfl⟩ := owns_form hown6
        have HO6 := Lib.hid hown6; have HB7 := Lib.hid hB7
        have HL6 := Lib.hid (HL.out.later (btr HB6.out hB7))
        have hbz := HB.out.size; have hbz6 := HB6.out.size; have hbz7 := hB7.size
        have hbase : w.heap.size ≤ w6.heap.size := by omega
        clear hown6 hB7 hbz hbz6 hbz7
        go_wp2_with (at_builtin; refine wpList_append_list rfl _ _ rfl HL6.out _ rfl rfl rfl rfl (by omega) hbase ?_)
        intro v7 w7 hown7 hgrow7
        have HP := Lib.hid (HL6.out.push HO6.out hown7 hgrow7)
        have HBa := Lib.hid (append_below (bal (btr HB.out (btr HB6.out HB7.out)) _) (HL6.out.own.alloc _) hgrow7 (Nat.le_refl _))
        clear hown7 hgrow7
        go_wp2_with fail
        go_roundw
        case rel =>
          refine ⟨v7, _, j + 1, rfl, ?_, x4, HBa.out, by rw [HST.out]; exact HP.out⟩
          have := HMJ.out
          simp; omega
        case measure => simp [intOf]; omega
      · rw [if_neg hgr] at HST
        rw [show decide (Grp V (g ++ [i])) = false by simpa using hgr] at HIG
        clear hgr
        refine HIG.out.mono ?_
        rintro e w3 ⟨rfl, rfl⟩
        go_wp2_with fail
        go_roundw
        case rel =>
          refine ⟨_, vs, j + 1, rfl, ?_, x4, btr HB.out HB6.out, ?_⟩
          · have := HMJ.out
            simp; omega
          · rw [HST.out]; exact HL.out.later HB6.out
        case measure => simp [intOf]; omega
    · have hjm : j = V.length - m := by omega
      have hall := gre_eq V f g m hf
      rw [← hjm] at hall
      have hls : ∀ i : Nat, ((cand V f g m j).map List.length)[i]?.getD 0 ≤ 1000 := by
        intro i
        cases hi : (cand V f g m j)[i]? with
        | none => simp [hi]
        | some o =>
          have ho : o ∈ cand V f g m j := List.mem_of_getElem? hi
          have : o.length ≤ 5 := by
            unfold cand at ho
            rcases List.mem_cons.1 ho with rfl | ho
            · omega
            · obtain ⟨i', hi', rfl⟩ := List.mem_map.1 ho
              have hi2 := List.mem_range'_1.1 (List.mem_filter.1 hi').1
              have := (gre_inc V (f - 1) (g ++ [i']) (i' + 1) ⟨by
                rw [List.pairwise_append]
                exact ⟨hg.1, by simp, fun a ha b hb => by simp at hb; subst hb; have := hgm a ha; omega⟩, by
                intro a ha
                rw [List.mem_append, List.mem_singleton] at ha
                rcases ha with ha | rfl
                · exact hg.2 a ha
                · omega⟩ (by
                intro a ha
                rw [List.mem_append, List.mem_singleton] at ha
                rcases ha with ha | rfl
                · have := hgm a ha; omega
                · omega)).len
              omega
          simp [hi]; omega
      have hvl := HL.out.len
      have hel : ∀ i, i < ((cand V f g m j).map List.length).length → ∃ a c, vs[i]? = some (.slice a (((cand V f g m j).map List.length)[i]?.getD 0) c) := by
        intro i hi
        rw [List.length_map] at hi
        have he : vs[i]? = some (vs[i]'(by omega)) := List.getElem?_eq_getElem (by omega)
        obtain ⟨a, c, h⟩ := owns_form (HL.out.el i _ he)
        rw [natL_len] at h
        refine ⟨a, c, ?_⟩
        rw [he, h]
        simp [hi]
      have HBL := Lib.hid (bestl_any (.slice av (cand V f g m j).length cv) ((cand V f g m j).map List.length) vs wr (by rw [List.length_map]; exact RdC.of_owns HL.out.own) (by rw [List.length_map]; exact hvl) hel hls (by rw [List.length_map]; omega) (by rw [List.length_map]; omega))
      have hfin : ownN wr (vs[bestJ ((cand V f g m j).map List.length) (((cand V f g m j).map List.length).length - 1)]?.getD (.slice none 0 0)) (gre V f g m) := by
        have hle := bestJ_le ((cand V f g m j).map List.length) (((cand V f g m j).map List.length).length - 1)
        rw [List.length_map] at hle
        have hlt' : bestJ ((cand V f g m j).map List.length) ((cand V f g m j).length - 1) < vs.length := by omega
        rw [List.length_map]
        rw [List.getElem?_eq_getElem hlt', Option.getD_some, hall]
        exact HL.out.el _ _ (List.getElem?_eq_getElem hlt')
      have HF := Lib.hid hfin
      clear hall hls hvl hel hfin hjm
      generalize vs[bestJ ((cand V f g m j).map List.length) (((cand V f g m j).map List.length).length - 1)]?.getD (.slice none 0 0) = vf at *
      go_wp2_with fail
      refine HBL.out.mono ?_
      rintro e w3 ⟨rfl, rfl⟩
      go_wp2_with fail
      rw [Exit.noGoto_ret]
      go_ret
      exact ⟨vf, rfl, HF.out, HB.out⟩
end Go.Proofs.Ytooddicegkiiiaa
