/- CheckClash, CheckGroup of the program. -/
import Derived.Test.YtooddicegkiiiaaV9
namespace Go.Proofs.Ytooddicegkiiiaa
open Go.RowKit Go.Shelf

/-- What CheckClash returns. -/
def badTwo (V : List (Int × Int)) (i k : Int) : Bool := [i, k].any (outB 0 ((V.length : Int) - 1)) || decide (i = k)
def ccE (V : List (Int × Int)) (i k : Int) : Int := if checkP V ≠ 0 then checkP V else if badTwo V i k then 2 else if clB (pin V i.toNat) (pin V k.toNat) then 0 else 14
def ccN (V : List (Int × Int)) (i k : Int) : Int := if checkP V ≠ 0 then 0 else if badTwo V i k then 0 else if clB (pin V i.toNat) (pin V k.toNat) then gcdI (pin V i.toNat).1 (pin V k.toNat).1 else 0

set_option maxRecDepth 100000 in
set_option maxHeartbeats 2000000 in
theorem cc_two (x : Value) (V : List (Int × Int)) (m n lo hi : Nat) (w : World) (hx0 : RdP w x V) (hc : checkP V = 0) (hlt : lo < hi) (hhi : hi < V.length) (hord : (lo = m ∧ hi = n) ∨ (hi = m ∧ lo = n))
    (b : Bool) (hcb : clB (pin V lo) (pin V hi) = b) :
    Calls Try.prog 31 #[x, .int .i64 m, .int .i64 n] w fun e w' => e = .returned (.tuple #[.int .i64 (if b then gcdI (pin V lo).1 (pin V hi).1 else 0), .int .i64 (if b then 0 else 14)]) ∧ Below w.heap.size w w' := by
  obtain ⟨a, ca, rfl, _, _, _⟩ := hx0.form
  have hV := okPins_of hc
  have h1 := hV.l1; have h5 := hV.l5
  have HO := Lib.hid (open_ok _ _ V [] w hx0 (rdI_nil _ _) (by simp) (by rw [openE_nil]; exact hc))
  have hm : m < V.length := by rcases hord with ⟨h, k⟩ | ⟨h, k⟩ <;> omega
  have hn : n < V.length := by rcases hord with ⟨h, k⟩ | ⟨h, k⟩ <;> omega
  have ho : [(m : Int), (n : Int)].any (outB 0 ((V.length : Int) - 1)) = false := by
    clear hord; simp [outB]; omega
  clear hm hn
  have hmn : m ≠ n := by rcases hord with ⟨h, k⟩ | ⟨h, k⟩ <;> omega
  have hnb : ((m : Int) == (n : Int)) = false := by rw [beq_eq_false_iff_ne]; intro h; exact hmn (Int.ofNat.inj h)
  clear hmn
  have HR := Lib.hid (fun (L : Ents) (hcl : ClM V L) => look_cl hcl lo hi hlt hhi)
  rw [hcb] at HR
  have HH := Lib.hid ho; clear ho hc hcb
  have hlti : (lo : Int) < hi := by omega
  have hnlt : ¬ hi < lo := by omega
  have hnle : ¬ hi ≤ lo := by omega
  have hle : lo ≤ hi := by omega
  rcases hord with ⟨rfl, rfl⟩ | ⟨rfl, rfl⟩
  all_goals
    go_enter Try.func31, Try.ntmps31
    go_wp2_with fail
    refine HO.out.mono ?_
    rintro e w2 ⟨db, rfl, hb, hD, hB2⟩
    go_wp2_with fail
    refine (within_any _ [_, _] _ _ _ (slice_two _ _ _ _) (by simp)).mono ?_
    rintro e w3 ⟨rfl, hB3⟩
    rw [HH.out]
    obtain ⟨x, M, L, c, hb', hM, hok, hcl, hx1⟩ := hD.mono (btr (bal (bz _) _) hB3)
    have d0 : w3.cell? ⟨db, 0, none⟩ = some x := by rw [cell_of_row w3 _ 0 _ _ _ hb']; rfl
    have d1 : w3.cell? ⟨db, 1, none⟩ = some (.map (some M)) := by rw [cell_of_row w3 _ 1 _ _ _ hb']; rfl
    have dz := (Array.getElem?_eq_some_iff.1 hb').1
    obtain ⟨l1, l2, n', l3⟩ := HR.out L hcl
    have hlk := run_lookupL hM ((lo : Int), (hi : Int))
    have HL2 := Lib.hid l2; have HL3 := Lib.hid l3
    clear hb' hM hok hcl hx1 l2 hx0 hD
    rw [l1, l3] at hlk
    unfold kv at hlk
    simp only at hlk
    clear l1 l3
    cases b
    · go_wp2_with fail
      go_ret2
      exact ⟨rfl, btr (bal hB2 _) hB3⟩
    · obtain rfl : n' = gcdI (pin V lo).1 (pin V hi).1 := by
        have := (HL3.out.symm.trans (HL2.out rfl)); simp at this; exact this
      go_wp2_with fail
      go_ret2
      exact ⟨rfl, btr (bal hB2 _) hB3⟩

set_option maxRecDepth 100000 in
set_option maxHeartbeats 1000000 in
theorem checkclash_any (x : Value) (V : List (Int × Int)) (i k : Int) (w : World) (hx0 : RdP w x V) (hl : V.length ≤ 1000) :
    Calls Try.prog 31 #[x, .int .i64 i, .int .i64 k] w fun e w' => e = .returned (.tuple #[.int .i64 (ccN V i k), .int .i64 (ccE V i k)]) ∧ Below w.heap.size w w' := by
  obtain ⟨a, ca, rfl, _, _, _⟩ := hx0.form
  by_cases hc : checkP V = 0
  · have hV := okPins_of hc
    have hc0 := hc
    have h1 := hV.l1; have h5 := hV.l5
    have HO := Lib.hid (open_ok _ _ V [] w hx0 (rdI_nil _ _) (by simp) (by rw [openE_nil]; exact hc))
    have e1 : ccN V i k = if badTwo V i k then 0 else if clB (pin V i.toNat) (pin V k.toNat) then gcdI (pin V i.toNat).1 (pin V k.toNat).1 else 0 := by unfold ccN; rw [if_neg (by simpa using hc)]
    have e2 : ccE V i k = if badTwo V i k then 2 else if clB (pin V i.toNat) (pin V k.toNat) then 0 else 14 := by unfold ccE; rw [if_neg (by simpa using hc)]
    rw [e1, e2]; clear e1 e2 hc
    cases ho : [i, k].any (outB 0 ((V.length : Int) - 1))
    · have hb : 0 ≤ i ∧ i < V.length ∧ 0 ≤ k ∧ k < V.length := by simp [outB] at ho; omega
      by_cases hik : i = k
      · subst hik
        have e : badTwo V i i = true := by simp [badTwo]
        rw [e]; clear e
        have HH := Lib.hid ho; clear ho hb hc0
        go_enter Try.func31, Try.ntmps31
        go_wp2_with fail
        refine HO.out.mono ?_
        rintro e w2 ⟨b, rfl, hb, hD, hB2⟩
        go_wp2_with fail
        refine (within_any _ [i, i] _ _ _ (slice_two _ _ _ _) (by simp)).mono ?_
        rintro e w3 ⟨rfl, hB3⟩
        rw [HH.out]
        go_wp2_with fail
        go_ret2
        exact ⟨rfl, btr (bal hB2 _) hB3⟩
      · have e : badTwo V i k = false := by simp [badTwo, ho, hik]
        rw [e]; clear e
        have HH := Lib.hid ho; clear ho
        obtain ⟨m, rfl⟩ := Int.eq_ofNat_of_zero_le hb.1
        obtain ⟨n, rfl⟩ := Int.eq_ofNat_of_zero_le hb.2.2.1
        simp only [Int.toNat_natCast, Bool.false_eq_true, if_false]
        have hm : m < V.length := by omega
        have hn : n < V.length := by omega
        rcases Nat.lt_or_gt_of_ne (show m ≠ n by omega) with hlt | hlt
        · have h := cc_two _ V m n m n w hx0 hc0 hlt hn (.inl ⟨rfl, rfl⟩) _ rfl
          exact h
        · have h := cc_two _ V m n n m w hx0 hc0 hlt hm (.inr ⟨rfl, rfl⟩) _ rfl
          rw [clB_comm, gcdI_comm] at h
          exact h
    · have e : badTwo V i k = true := by simp [badTwo, ho]
      rw [e]; clear e
      have HH := Lib.hid ho; clear ho hc0
      go_enter Try.func31, Try.ntmps31
      go_wp2_with fail
      refine HO.out.mono ?_
      rintro e w2 ⟨b, rfl, hb, hD, hB2⟩
      go_wp2_with fail
      refine (within_any _ [i, k] _ _ _ (slice_two _ _ _ _) (by simp)).mono ?_
      rintro e w3 ⟨rfl, hB3⟩
      rw [HH.out]
      go_wp2_with fail
      go_ret2
      exact ⟨rfl, btr (bal hB2 _) hB3⟩
  · have HO := Lib.hid (open_no _ _ V [] w hx0 (rdI_nil _ _) hl (by simp) (by rw [openE_nil]; exact hc))
    have e1 : ccN V i k = 0 := by unfold ccN; rw [if_pos (by simpa using hc)]
    have e2 : ccE V i k = checkP V := by unfold ccE; rw [if_pos (by simpa using hc)]
    rw [e1, e2]; clear e1 e2
    rw [openE_nil] at HO
    have hcb : (checkP V != 0) = true := by simpa using hc
    have hce : (checkP V == 0) = false := by simpa using hc
    clear hc
    generalize checkP V = q at *
    go_enter Try.func31, Try.ntmps31
    go_wp2_with fail
    refine HO.out.mono ?_
    rintro e w2 ⟨rfl, hB2⟩
    go_wp2_with fail
    go_ret2
    exact ⟨rfl, hB2⟩
end Go.Proofs.Ytooddicegkiiiaa
