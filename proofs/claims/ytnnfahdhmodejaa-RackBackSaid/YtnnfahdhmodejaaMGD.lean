/- Merged texts: CheckRising, CheckFalls, CheckShape, Hooks, Count of the document. -/
import Derived.Test.YtnnfahdhmodejaaMGC
import Derived.IntWalk
namespace Go.Proofs.Ytnnfahdhmodejaa
open Go.RowKit Go.Shelf

/-- The first k numbers are indexes below n, each greater than the one before it. -/
def LisTo (l : List Int) (n : Int) (k : Nat) : Prop := ∀ i, i < k → 0 ≤ elt l i ∧ elt l i < n ∧ (0 < i → elt l (i - 1) < elt l i)
open Classical in
noncomputable def lisB (l : List Int) (n : Int) : Bool := decide (LisTo l n l.length)
theorem lisB_iff (l : List Int) (n : Int) : lisB l n = true ↔ LisTo l n l.length := by unfold lisB; exact @decide_eq_true_iff _ (Classical.propDecidable _)
theorem lisTo_succ {l : List Int} {n : Int} {k : Nat} (h : LisTo l n k) (h1 : 0 ≤ elt l k) (h2 : elt l k < n) (h3 : 0 < k → elt l (k - 1) < elt l k) : LisTo l n (k + 1) := fun i hi => by
  by_cases e : i = k
  · subst e; exact ⟨h1, h2, h3⟩
  · exact h i (by omega)
set_option maxRecDepth 100000 in
set_option maxHeartbeats 800000 in
theorem islist_any (x : Value) (l : List Int) (n : Int) (w : World) (hx0 : RdI w .i64 x l) (hl : l.length ≤ 1000) :
    Calls Try.prog 91 #[x, .int .i64 n] w fun e w' => e = .returned (.bool (lisB l n)) ∧ Below w.heap.size w w' := by
  obtain ⟨a, ca, rfl, _, hcm, hx⟩ := hx0.form
  have HX := Lib.hid hx0
  clear hx0 hcm hx
  have HS : Hid (lisB l n = true ↔ LisTo l n l.length) := Lib.hid (lisB_iff l n)
  generalize lisB l n = sb at *
  go_enter Try.func91, Try.ntmps91
  go_wp2_with fail
  go_loopw [5] (fun i wr => ∃ k : Nat, k ≤ l.length ∧ i = .int .i64 k ∧ LisTo l n k ∧ Below w.heap.size w wr) (fun i _ => l.length - (intOf i).toNat)
  case atStart => exact ⟨0, Nat.zero_le _, rfl, fun i h => by omega, bz w⟩
  case round =>
    obtain ⟨k, hk, rfl, ht, hB⟩ := hrel
    have HB := Lib.hid hB; have HT := Lib.hid ht; clear hB ht
    by_cases hlt : k < l.length
    · obtain ⟨b, o, rfl, hb, hc⟩ := HX.out.get (by omega)
      have gx := (HB.out.cell (p := ⟨b, o + k, none⟩) hb).trans (hc k hlt)
      have zx := Nat.lt_of_lt_of_le hb HB.out.size
      have HC := Lib.hid (fun j hj => (HB.out.cell (p := ⟨b, o + j, none⟩) hb).trans (hc j hj))
      clear hc
      have HNO := Lib.hid (fun hn : ¬ (0 ≤ elt l k ∧ elt l k < n ∧ (0 < k → elt l (k - 1) < elt l k)) => (show false = sb from by
        cases hsb : sb with
        | false => rfl
        | true => exact absurd (HS.out.1 hsb k hlt) hn))
      have HYES := Lib.hid (fun h1 h2 h3 => lisTo_succ HT.out h1 h2 h3)
      by_cases h1 : elt l k < 0
      · have d1 : decide (elt l k < 0) = true := by simp [h1]
        have HN2 := Lib.hid (HNO.out (fun h => by omega))
        clear HNO HYES HC
        generalize elt l k = q at *
        go_upto_region 4 with fail
        go_quiet (fail)
        go_wp2_with fail
        go_ret
        exact ⟨ret_bool HN2.out, Below.drewN' _ HB.out⟩
      · have d1 : decide (elt l k < 0) = false := by simp; omega
        by_cases h2 : n ≤ elt l k
        · have d2 : decide (n ≤ elt l k) = true := by simp [h2]
          have HN2 := Lib.hid (HNO.out (fun h => by omega))
          clear HNO HYES HC
          generalize elt l k = q at *
          go_upto_region 4 with fail
          go_quiet (fail)
          go_wp2_with fail
          go_ret
          exact ⟨ret_bool HN2.out, Below.drewN' _ HB.out⟩
        · have d2 : decide (n ≤ elt l k) = false := by simp; omega
          rcases Nat.eq_zero_or_pos k with ek | ek
          · subst ek
            rw [Nat.add_zero] at gx
            have HY2 := Lib.hid (HYES.out (by omega) (by omega) (fun h => by omega))
            clear HNO HYES HC
            generalize elt l 0 = q at *
            go_upto_region 4 with fail
            go_quiet (fail)
            go_wp2_with fail
            go_roundw
            case rel => exact ⟨1, by omega, by go_num, HY2.out, Below.drewN' _ HB.out⟩
            case measure => simp [intOf]; omega
          · obtain ⟨j, rfl⟩ : ∃ j, k = j + 1 := ⟨k - 1, by omega⟩
            have gy := HC.out j (by omega)
            have d3 : decide ((0:Int) < (j : Int) + 1) = true := by rw [decide_eq_true_eq]; omega
            have d4 : decide (0 < j + 1) = true := by simp
            rw [show j + 1 - 1 = j by omega] at HNO HYES
            by_cases h3 : elt l j < elt l (j + 1)
            · have d5 : decide (elt l (j + 1) ≤ elt l j) = false := by simp; omega
              have HY2 := Lib.hid (HYES.out (by omega) (by omega) (fun _ => h3))
              clear HNO HYES HC
              generalize elt l (j + 1) = q at *
              generalize elt l j = p at *
              go_upto_region 4 with fail
              go_quiet (fail)
              go_wp2_with fail
              go_roundw
              case rel => exact ⟨j + 1 + 1, by omega, by go_num, HY2.out, Below.drewN' _ HB.out⟩
              case measure => simp [intOf]; omega
            · have d5 : decide (elt l (j + 1) ≤ elt l j) = true := by simp; omega
              have HN2 := Lib.hid (HNO.out (fun h => h3 (h.2.2 (by omega))))
              clear HNO HYES HC
              generalize elt l (j + 1) = q at *
              generalize elt l j = p at *
              go_upto_region 4 with fail
              go_quiet (fail)
              go_wp2_with fail
              go_ret
              exact ⟨ret_bool HN2.out, Below.drewN' _ HB.out⟩
    · have hke : k = l.length := by omega
      have HY : Hid (sb = true) := Lib.hid (HS.out.2 (by rw [← hke]; exact HT.out))
      go_wp2_with fail
      go_ret
      exact ⟨ret_bool HY.out.symm, HB.out⟩

/-- Tapers at indexes do not decrease, as far as the first k indexes tell. -/
def RisTo (s run : List Int) (k : Nat) : Prop := ∀ i, 0 < i → i < k → elt s (elt run (i - 1)).toNat ≤ elt s (elt run i).toNat
open Classical in
noncomputable def risB (s run : List Int) : Bool := decide (RisTo s run run.length)
theorem risB_iff (s run : List Int) : risB s run = true ↔ RisTo s run run.length := by unfold risB; exact @decide_eq_true_iff _ (Classical.propDecidable _)
/-- What CheckRising returns: how many, and the error. -/
noncomputable def risE (s run : List Int) : Int × Int := if seqC s ≠ 0 then (0, seqC s) else if !lisB run s.length then (0, 3) else if risB s run then ((run.length : Int), 0) else (0, 22)
def Post2N (w : World) (L : Int × Int) (e : Ending) (w' : World) : Prop := e = .returned (.tuple #[.int .i64 L.1, .int .i64 L.2]) ∧ Below w.heap.size w w'
theorem post2N_mk {w w' : World} {L : Int × Int} {a b : Int} (h : L = (a, b)) (hb : Below w.heap.size w w') : Post2N w L (.returned (.tuple #[.int .i64 a, .int .i64 b])) w' := by
  subst h; exact ⟨rfl, hb⟩
theorem risTo_succ {s run : List Int} {k : Nat} (h : RisTo s run k) (h1 : 0 < k → elt s (elt run (k - 1)).toNat ≤ elt s (elt run k).toNat) : RisTo s run (k + 1) := fun i h0 hi => by
  by_cases e : i = k
  · subst e; exact h1 h0
  · exact h i h0 (by omega)
set_option maxRecDepth 100000 in
set_option maxHeartbeats 800000 in
theorem rrising_any (x y : Value) (s run : List Int) (w : World) (hx0 : RdI w .i64 x s) (hy0 : RdI w .i64 y run) (hs : s.length ≤ 1000) (hr : run.length ≤ 1000) :
    Calls Try.prog 47 #[x, y] w (Post2N w (risE s run)) := by
  have HX := Lib.hid hx0; have HY := Lib.hid hy0
  have HC := Lib.hid (fun wz h => rseq_any x s wz h hs)
  have HLS := Lib.hid (fun wz h => islist_any y run s.length wz h hr)
  obtain ⟨a, ca, rfl, _, hcm, hx⟩ := hx0.form
  obtain ⟨b, cb, rfl, _, hcm2, hy⟩ := hy0.form
  clear hx0 hy0 hcm hcm2 hx hy
  by_cases hc : seqC s = 0
  · have t1 : (seqC s != 0) = false := by simp [hc]
    have HH : Hid (risE s run = if !lisB run s.length then (0, 3) else if risB s run then ((run.length : Int), 0) else (0, 22)) := Lib.hid (by unfold risE; rw [if_neg (by simp [hc])])
    clear hc
    generalize seqC s = q at *
    generalize risE s run = L at *
    cases hlb : lisB run s.length with
    | false =>
      rw [hlb] at HH HLS
      rw [if_pos (by rfl)] at HH
      clear hlb
      go_enter Try.func47, Try.ntmps47
      go_wp2_with fail
      refine (HC.out _ HX.out).mono ?_
      rintro e w2 ⟨rfl, rfl⟩
      go_wp2_with fail
      refine (HLS.out _ HY.out).mono ?_
      rintro e w3 ⟨rfl, hB⟩
      have HB := Lib.hid hB; clear hB
      go_wp2_with fail
      go_ret2
      exact post2N_mk HH.out HB.out
    | true =>
      have HLT := Lib.hid ((lisB_iff run s.length).1 hlb)
      rw [hlb] at HH HLS
      rw [if_neg (by simp)] at HH
      have HS : Hid (risB s run = true ↔ RisTo s run run.length) := Lib.hid (risB_iff s run)
      generalize risB s run = sb at *
      clear hlb
      go_enter Try.func47, Try.ntmps47
      go_wp2_with fail
      refine (HC.out _ HX.out).mono ?_
      rintro e w2 ⟨rfl, rfl⟩
      go_wp2_with fail
      refine (HLS.out _ HY.out).mono ?_
      rintro e w3 ⟨rfl, hB⟩
      have HB := Lib.hid hB; clear hB
      go_wp2_with fail
      go_loopw [6] (fun i wr => ∃ k : Nat, 1 ≤ k ∧ (k ≤ run.length ∨ k = 1) ∧ i = .int .i64 k ∧ RisTo s run k ∧ Below w.heap.size w wr) (fun i _ => run.length - (intOf i).toNat)
      case atStart => exact ⟨1, Nat.le_refl _, .inr rfl, rfl, fun i h1 h2 => by omega, HB.out⟩
      case round =>
        clear HB
        obtain ⟨k, hk1, hk, rfl, ht, hB⟩ := hrel
        have HB := Lib.hid hB; have HT := Lib.hid ht; clear hB ht
        by_cases hlt : k < run.length
        · obtain ⟨j, rfl⟩ : ∃ j, k = j + 1 := ⟨k - 1, by omega⟩
          obtain ⟨v1, v2, _⟩ := HLT.out (j + 1) hlt
          obtain ⟨v3, v4, _⟩ := HLT.out j (by omega)
          obtain ⟨p, hp⟩ := Int.eq_ofNat_of_zero_le v1
          obtain ⟨r, hr'⟩ := Int.eq_ofNat_of_zero_le v3
          have hps : p < s.length := by omega
          have hrs : r < s.length := by omega
          obtain ⟨by', oy, rfl, hby, hcy⟩ := HY.out.get (by omega)
          obtain ⟨bx, ox, rfl, hbx, hcx⟩ := HX.out.get (by omega)
          have g1 := (HB.out.cell (p := ⟨by', oy + (j + 1), none⟩) hby).trans (hcy (j + 1) hlt)
          have g2 := (HB.out.cell (p := ⟨by', oy + j, none⟩) hby).trans (hcy j (by omega))
          have g3 := (HB.out.cell (p := ⟨bx, ox + p, none⟩) hbx).trans (hcx p hps)
          have g4 := (HB.out.cell (p := ⟨bx, ox + r, none⟩) hbx).trans (hcx r hrs)
          have z1 := Nat.lt_of_lt_of_le hby HB.out.size
          have z2 := Nat.lt_of_lt_of_le hbx HB.out.size
          rw [hp] at g1; rw [hr'] at g2
          have HNO := Lib.hid (fun hn : ¬ (elt s r ≤ elt s p) => (show false = sb from by
            cases hsb : sb with
            | false => rfl
            | true =>
              have := HS.out.1 hsb (j + 1) (by omega) hlt
              rw [Nat.add_sub_cancel, hp, hr'] at this
              exact absurd this hn))
          have HYES := Lib.hid (fun h : elt s r ≤ elt s p => risTo_succ HT.out (fun _ => by rw [Nat.add_sub_cancel, hp, hr']; exact h))
          clear hcx hcy v1 v2 v3 v4 hp hr'
          by_cases hle : elt s r ≤ elt s p
          · have d1 : decide (elt s p < elt s r) = false := by simp; omega
            have HY2 := Lib.hid (HYES.out hle)
            clear HNO HYES
            generalize elt s p = A at *
            generalize elt s r = B at *
            go_upto_region 8 with fail
            go_quiet (fail)
            go_wp2_with fail
            go_roundw
            case rel => exact ⟨j + 1 + 1, by omega, by omega, by go_num, HY2.out, Below.drewN' _ HB.out⟩
            case measure => simp [intOf]; omega
          · have d1 : decide (elt s p < elt s r) = true := by simp; omega
            have HN2 := Lib.hid (HNO.out hle)
            clear HNO HYES
            generalize elt s p = A at *
            generalize elt s r = B at *
            go_upto_region 8 with fail
            go_quiet (fail)
            go_wp2_with fail
            go_ret2
            exact post2N_mk (by rw [HH.out, ← HN2.out]; rfl) (Below.drewN' _ HB.out)
        · have HY2 : Hid (sb = true) := Lib.hid (HS.out.2 (fun i h1 h2 => HT.out i h1 (by omega)))
          go_wp2_with fail
          go_ret2
          exact post2N_mk (by rw [HH.out, HY2.out]; rfl) HB.out
  · have t1 : (seqC s != 0) = true := by simp [hc]
    have HH : Hid (risE s run = (0, seqC s)) := Lib.hid (by unfold risE; rw [if_pos hc])
    clear hc
    generalize seqC s = q at *
    generalize risE s run = L at *
    go_enter Try.func47, Try.ntmps47
    go_wp2_with fail
    refine (HC.out _ HX.out).mono ?_
    rintro e w2 ⟨rfl, rfl⟩
    go_wp2_with fail
    refine (HC.out _ HX.out).mono ?_
    rintro e w2 ⟨rfl, rfl⟩
    go_wp2_with fail
    go_ret2
    exact post2N_mk HH.out (bz _)
end Go.Proofs.Ytnnfahdhmodejaa

namespace Go.Proofs.Ytnnfahdhmodejaa
open Go.RowKit Go.Shelf

def NilTo (R : List (List Int)) (k : Nat) : Prop := ∀ i, i < k → (row R i).length ≠ 0
open Classical in
noncomputable def fullB (R : List (List Int)) : Bool := decide (NilTo R R.length)
theorem fullB_iff (R : List (List Int)) : fullB R = true ↔ NilTo R R.length := by unfold fullB; exact @decide_eq_true_iff _ (Classical.propDecidable _)
def FalAt (s : List Int) (R : List (List Int)) (i k : Nat) : Prop := 0 < k → num R i (k - 1) < num R i k ∧ elt s (num R i k).toNat < elt s (num R i (k - 1)).toNat
def FalTo (s : List Int) (R : List (List Int)) (i k : Nat) : Prop := (∀ p, p < i → ∀ q, q < (row R p).length → FalAt s R p q) ∧ ∀ q, q < k → FalAt s R i q
def Fal (s : List Int) (R : List (List Int)) : Prop := ∀ p, p < R.length → ∀ q, q < (row R p).length → FalAt s R p q
open Classical in
noncomputable def falB (s : List Int) (R : List (List Int)) : Bool := decide (Fal s R)
theorem falB_iff (s : List Int) (R : List (List Int)) : falB s R = true ↔ Fal s R := by unfold falB; exact @decide_eq_true_iff _ (Classical.propDecidable _)
theorem falTo_succ {s : List Int} {R : List (List Int)} {i k : Nat} (h : FalTo s R i k) (h2 : FalAt s R i k) : FalTo s R i (k + 1) :=
  ⟨h.1, fun q hq => by
    by_cases e : q = k
    · subst e; exact h2
    · exact h.2 q (by omega)⟩
theorem falTo_next {s : List Int} {R : List (List Int)} {i k : Nat} (h : FalTo s R i k) (hk : (row R i).length ≤ k) : FalTo s R (i + 1) 1 :=
  ⟨fun p hp q hq => by
    by_cases e : p = i
    · subst e; exact h.2 q (by omega)
    · exact h.1 p (by omega) q hq, fun q hq h0 => by omega⟩
theorem falTo_zero (s : List Int) (R : List (List Int)) : FalTo s R 0 1 := ⟨fun p hp => by omega, fun q hq h0 => by omega⟩
/-- What CheckFalls returns: how many, and the error. -/
noncomputable def falE (s : List Int) (R : List (List Int)) : Int × Int := if seqC s ≠ 0 then (0, seqC s) else if R.flatten.any (outB 0 ((s.length : Int) - 1)) then (0, 3) else
  if fullB R && decide R.flatten.Nodup && decide (R.flatten.length = s.length) then (if falB s R then ((R.length : Int), 0) else (0, 22)) else (0, 15)
set_option maxRecDepth 100000 in
set_option maxHeartbeats 8000000 in
theorem rfalls_any (x y : Value) (s : List Int) (R : List (List Int)) (w : World) (hx0 : RdI w .i64 x s) (hy0 : RdLL w y R) (hs : s.length ≤ 1000) (hR : Sml R) :
    Calls Try.prog 48 #[x, y] w (Post2N w (falE s R)) := by
  have HX := Lib.hid hx0; have HY := Lib.hid hy0
  have HC := Lib.hid (fun wz h => rseq_any x s wz h hs)
  have HALL := Lib.hid (fun wz h => all_any y R wz h hR)
  have hfl := sml_flat hR
  have r20 := hR.1
  have HR2 := Lib.hid hR.2
  obtain ⟨a, ca, rfl, _, hcm, hx⟩ := hx0.form
  obtain ⟨b, cb, rfl⟩ := hy0.sl
  clear hx0 hy0 hcm hx hR
  by_cases hc : seqC s = 0
  · have t1 : (seqC s != 0) = false := by simp [hc]
    have HH : Hid (falE s R = if R.flatten.any (outB 0 ((s.length : Int) - 1)) then (0, 3) else if fullB R && decide R.flatten.Nodup && decide (R.flatten.length = s.length) then (if falB s R then ((R.length : Int), 0) else (0, 22)) else (0, 15)) := Lib.hid (by unfold falE; rw [if_neg (by simp [hc])])
    have HIX : Hid (R.flatten.any (outB 0 ((s.length : Int) - 1)) = false → ∀ i k, k < (row R i).length → 0 ≤ num R i k ∧ num R i k < (s.length : Int)) := Lib.hid (fun h i k hk => by
      have h1 := List.any_eq_false.1 h (num R i k) (flat_mem (elt_mem hk))
      have := outB_bd (by simpa using h1)
      omega)
    have HFB := Lib.hid (fullB_iff R)
    have HSB := Lib.hid (falB_iff s R)
    clear hc
    generalize seqC s = q at *
    generalize falE s R = L at *
    generalize R.flatten = xs at *
    generalize fullB R = fb at *
    generalize falB s R = sb at *
    go_enter Try.func48, Try.ntmps48
    go_wp2_with fail
    refine (HC.out _ HX.out).mono ?_
    rintro e w2 ⟨rfl, rfl⟩
    go_wp2_with fail
    refine (HALL.out _ HY.out).mono ?_
    rintro e w3 ⟨u, rfl, hu, hB⟩
    obtain ⟨au, cu, rfl⟩ := owns_form hu
    have HU := Lib.hid (RdI.of_owns hu)
    have HB := Lib.hid hB
    clear hu hB
    go_wp2_with fail
    go_loop [7] (fun i => ∃ k : Nat, k ≤ xs.length ∧ i = .int .i64 k ∧ (∀ i, i < k → outB 0 ((s.length : Int) - 1) (elt xs i) = false)) (fun i => xs.length - (intOf i).toNat)
    case atStart => exact ⟨0, Nat.zero_le _, rfl, fun i h => by omega⟩
    case round =>
      obtain ⟨k, hk, rfl, ht⟩ := hrel
      have HT := Lib.hid ht; clear ht
      by_cases hlt : k < xs.length
      · obtain ⟨bx, ox, rfl, hbx, hcx⟩ := HU.out.get (by omega)
        have gx := hcx k hlt
        clear hcx
        have HN := Lib.hid (fun h => any_true (p := outB 0 ((s.length : Int) - 1)) hlt h)
        have HST : Hid (outB 0 ((s.length : Int) - 1) (elt xs k) = false → ∀ i, i < k + 1 → outB 0 ((s.length : Int) - 1) (elt xs i) = false) := Lib.hid (fun h i hi => by
          by_cases e : i = k
          · subst e; exact h
          · exact HT.out i (by omega))
        generalize elt xs k = q at *
        by_cases h1 : q < 0
        · have HN2 := Lib.hid (HN.out (outB_lo h1))
          have d1 : decide (q < 0) = true := by rw [decide_eq_true_eq]; exact h1
          go_wp2_with fail
          go_ret2
          exact post2N_mk (by rw [HH.out, HN2.out]; rfl) HB.out
        · have d1 : decide (q < 0) = false := by rw [decide_eq_false_iff_not]; exact h1
          by_cases h2 : (s.length : Int) ≤ q
          · have HN2 := Lib.hid (HN.out (outB_hi (by omega)))
            have d2 : decide ((s.length : Int) ≤ q) = true := by rw [decide_eq_true_eq]; exact h2
            go_wp2_with fail
            go_ret2
            exact post2N_mk (by rw [HH.out, HN2.out]; rfl) HB.out
          · have d2 : decide ((s.length : Int) ≤ q) = false := by rw [decide_eq_false_iff_not]; exact h2
            have HS2 := Lib.hid (HST.out (outB_in (by omega) (by omega)))
            go_wp2_with fail
            go_round
            case rel => exact ⟨k + 1, by omega, by go_num, HS2.out⟩
            case measure => simp [intOf]; omega
      · have hany : xs.any (outB 0 ((s.length : Int) - 1)) = false := any_false fun i hi => HT.out i (by omega)
        have HIX2 := Lib.hid (HIX.out hany)
        rw [hany, if_neg (by simp)] at HH
        clear hany HT HIX
        go_wp2_with fail
        go_loop [8] (fun i => ∃ k : Nat, k ≤ R.length ∧ i = .int .i64 k ∧ NilTo R k) (fun i => R.length - (intOf i).toNat)
        case atStart => exact ⟨0, Nat.zero_le _, rfl, fun i h => by omega⟩
        case round =>
          clear hlt hk
          obtain ⟨k, hk, rfl, ht⟩ := hrel
          have HT := Lib.hid ht; clear ht
          by_cases hlt : k < R.length
          · obtain ⟨bb, off, a', c', rfl, hb, hc, hr⟩ := HY.out.get k hlt
            have gx := (HB.out.cell (p := ⟨bb, off + k, none⟩) hb).trans hc
            have zx := Nat.lt_of_lt_of_le hb HB.out.size
            have HN : Hid ((row R k).length = 0 → fb = false) := Lib.hid (fun h => by
              cases hfb : fb with
              | false => rfl
              | true => exact absurd h (HFB.out.1 hfb k hlt))
            have HST : Hid ((row R k).length ≠ 0 → NilTo R (k + 1)) := Lib.hid (fun h i hi => by
              by_cases e : i = k
              · subst e; exact h
              · exact HT.out i (by omega))
            clear hc hr
            generalize (row R k).length = n at *
            by_cases h0 : n = 0
            · have d1 : ((n : Int) == 0) = true := by rw [beq_iff_eq]; omega
              have HN2 := Lib.hid (HN.out h0)
              clear h0
              go_wp2_with fail
              go_ret2
              exact post2N_mk (by rw [HH.out, HN2.out]; rfl) HB.out
            · have d1 : ((n : Int) == 0) = false := by rw [beq_eq_false_iff_ne]; omega
              have HS2 := Lib.hid (HST.out h0)
              clear h0
              go_wp2_with fail
              go_round
              case rel => exact ⟨k + 1, by omega, by go_num, HS2.out⟩
              case measure => simp [intOf]; omega
          · have hkR : k = R.length := by omega
            have hfb : fb = true := HFB.out.2 (by rw [← hkR]; exact HT.out)
            rw [hfb, Bool.true_and] at HH
            clear hfb HT hkR HFB
            go_wp2_with fail
            go_loopw [9] (fun i wr => ∃ k : Nat, k ≤ xs.length ∧ i = .int .i64 k ∧ (xs.take k).Nodup ∧ Below w.heap.size w wr ∧ Below w3.heap.size w3 wr) (fun i _ => xs.length - (intOf i).toNat)
            case atStart => exact ⟨0, Nat.zero_le _, rfl, by simp, HB.out, bz _⟩
            case round =>
              obtain ⟨k, hk, rfl, ht, hB1, hB2⟩ := hrel
              have HT := Lib.hid ht
              clear HB
              have HB := Lib.hid hB1
              have HB2 := Lib.hid hB2
              clear hB1 hB2 ht
              by_cases hlt : k < xs.length
              · obtain ⟨bx, ox, rfl, hbx, hcx⟩ := HU.out.get (by omega)
                have gx := (HB2.out.cell (p := ⟨bx, ox + k, none⟩) hbx).trans (hcx k hlt)
                have zx := Nat.lt_of_lt_of_le hbx HB2.out.size
                have hs2 := run_cutToI bx ox xs.length cu k (by obtain ⟨_, _, e, h1, _⟩ := HU.out.form; cases e; omega)
                have hpl : (xs.take k).length ≤ 1000 := by rw [List.length_take]; omega
                have HHA := Lib.hid (fun q wz h => has_any (.slice (some ⟨bx, ox, none⟩) k cu) (xs.take k) q wz h hpl)
                have HRP := Lib.hid (fun n => rdI_pre (HU.out.mono (Below.drewN' n HB2.out)) hk)
                have HD1 := Lib.hid (fun h => nodup_take hlt HT.out h)
                have HD2 := Lib.hid (fun h => dup_take (l := xs) hlt h)
                clear hcx hpl
                generalize elt xs k = q at *
                have HHB := Lib.hid (fun wz h => HHA.out q wz h)
                clear HHA
                generalize (xs.take k).contains q = bb at *
                go_upto_region 17 with fail
                go_quiet ((go_at_call 68; exact Calls.quiet_of_same ((HHB.out _ (HRP.out _)).mono (fun e w' h => ⟨h.1, h.2.symm⟩))))
                cases bb with
                | true =>
                  have HDD : Hid (decide xs.Nodup = false) := Lib.hid (decide_eq_false (HD2.out rfl))
                  go_wp2_with fail
                  go_ret2
                  exact post2N_mk (by rw [HH.out, HDD.out]; rfl) (Below.drewN' _ HB.out)
                | false =>
                  have HDD := Lib.hid (HD1.out rfl)
                  go_wp2_with fail
                  go_roundw
                  case rel => exact ⟨k + 1, by omega, by go_num, HDD.out, Below.drewN' _ HB.out, Below.drewN' _ HB2.out⟩
                  case measure => simp [intOf]; omega
              · have hnd : xs.Nodup := by have := HT.out; rw [List.take_of_length_le (by omega)] at this; exact this
                rw [decide_eq_true hnd, Bool.true_and] at HH
                clear hnd HT
                by_cases hle : xs.length = s.length
                · have d1 : ((xs.length : Int) != (s.length : Int)) = false := by simp [hle]
                  rw [decide_eq_true hle, if_pos rfl] at HH
                  have HLE := Lib.hid hle
                  clear hle
                  go_wp2_with fail
                  go_loopw [10, 11] (fun i _ wr => ∃ k : Nat, k ≤ R.length ∧ i = .int .i64 k ∧ FalTo s R k 1 ∧ Below w.heap.size w wr) (fun i _ _ => R.length - (intOf i).toNat)
                  case atStart => exact ⟨0, Nat.zero_le _, rfl, falTo_zero s R, HB.out⟩
                  case round =>
                    clear HB HB2
                    obtain ⟨i, hi, rfl, ht, hB⟩ := hrel
                    have HB := Lib.hid hB; have HT := Lib.hid ht; clear hB ht
                    by_cases hlt : i < R.length
                    · obtain ⟨b, off, a', c', rfl, hb, hc, hr⟩ := HY.out.get i hlt
                      have n1 := HR2.out i
                      have GX := Lib.hid (fun wz (hz : Below w.heap.size w wz) => (hz.cell (p := ⟨b, off + i, none⟩) hb).trans hc)
                      have ZX := Lib.hid (fun wz (hz : Below w.heap.size w wz) => Nat.lt_of_lt_of_le hb hz.size)
                      have HRR := Lib.hid hr
                      clear hc hr
                      go_wp2_with fail
                      rename World => wO
                      go_loopw [11] (fun j wr => ∃ k : Nat, 1 ≤ k ∧ (k ≤ (row R i).length ∨ k = 1) ∧ j = .int .i64 k ∧ FalTo s R i k ∧ Below w.heap.size w wr) (fun j _ => (row R i).length - (intOf j).toNat)
                      case atStart => exact ⟨1, Nat.le_refl _, .inr rfl, rfl, HT.out, HB.out⟩
                      case round =>
                        clear HB HT
                        obtain ⟨k, hk1, hk, rfl, ht, hB⟩ := hrel
                        have HB := Lib.hid hB; have HT := Lib.hid ht; clear hB ht
                        have gx := GX.out _ HB.out
                        have zx := ZX.out _ HB.out
                        by_cases hkl : k < (row R i).length
                        · obtain ⟨j, rfl⟩ : ∃ j, k = j + 1 := ⟨k - 1, by omega⟩
                          obtain ⟨v1, v2⟩ := HIX2.out i (j + 1) hkl
                          obtain ⟨v3, v4⟩ := HIX2.out i j (by omega)
                          obtain ⟨bi, oi, rfl, hbi, hci⟩ := HRR.out.get (by omega)
                          obtain ⟨bs, os, rfl, hbs, hcs⟩ := HX.out.get (by omega)
                          have gk := (HB.out.cell (p := ⟨bi, oi + (j + 1), none⟩) hbi).trans (hci (j + 1) hkl)
                          have gj := (HB.out.cell (p := ⟨bi, oi + j, none⟩) hbi).trans (hci j (by omega))
                          rw [show elt (row R i) (j + 1) = num R i (j + 1) from rfl] at gk
                          rw [show elt (row R i) j = num R i j from rfl] at gj
                          have zk := Nat.lt_of_lt_of_le hbi HB.out.size
                          have zs := Nat.lt_of_lt_of_le hbs HB.out.size
                          have HNO := Lib.hid (fun hn : ¬ FalAt s R i (j + 1) => (show false = sb from by
                            cases hsb : sb with
                            | false => rfl
                            | true => exact absurd (HSB.out.1 hsb i hlt (j + 1) hkl) hn))
                          have HYES := Lib.hid (fun h => falTo_succ HT.out h)
                          unfold FalAt at HNO HYES
                          rw [Nat.add_sub_cancel] at HNO HYES
                          clear hci
                          obtain ⟨p, hp⟩ := Int.eq_ofNat_of_zero_le v1
                          obtain ⟨r, hr'⟩ := Int.eq_ofNat_of_zero_le v3
                          have hps : p < s.length := by omega
                          have hrs : r < s.length := by omega
                          rw [hp] at gk HNO HYES; rw [hr'] at gj HNO HYES
                          rw [show ((p : Int)).toNat = p by simp, show ((r : Int)).toNat = r by simp] at HNO HYES
                          have gp := (HB.out.cell (p := ⟨bs, os + p, none⟩) hbs).trans (hcs p hps)
                          have gr := (HB.out.cell (p := ⟨bs, os + r, none⟩) hbs).trans (hcs r hrs)
                          clear hcs v1 v2 v3 v4 hp hr'
                          by_cases e1 : (r : Int) < (p : Int)
                          · have d2 : decide ((p : Int) ≤ (r : Int)) = false := by simp; omega
                            have d3 : decide (p ≤ r) = false := by simp; omega
                            by_cases e2 : elt s p < elt s r
                            · have d4 : decide (elt s r ≤ elt s p) = false := by simp; omega
                              have HY2 := Lib.hid (HYES.out (fun _ => ⟨e1, e2⟩))
                              clear HNO HYES
                              generalize elt s p = A at *
                              generalize elt s r = B at *
                              go_upto_region 27 with fail
                              go_quiet (fail)
                              go_wp2_with fail
                              go_roundw
                              case rel => exact ⟨j + 1 + 1, by omega, by omega, by go_num, HY2.out, Below.drewN' _ HB.out⟩
                              case measure => simp [intOf]; omega
                            · have d4 : decide (elt s r ≤ elt s p) = true := by simp; omega
                              have HN2 := Lib.hid (HNO.out (fun h => e2 (h (by omega)).2))
                              clear HNO HYES
                              generalize elt s p = A at *
                              generalize elt s r = B at *
                              go_upto_region 27 with fail
                              go_quiet (fail)
                              go_wp2_with fail
                              go_ret2
                              exact post2N_mk (by rw [HH.out, ← HN2.out]; rfl) (Below.drewN' _ HB.out)
                          · have d2 : decide ((p : Int) ≤ (r : Int)) = true := by simp; omega
                            have d3 : decide (p ≤ r) = true := by simp; omega
                            have HN2 := Lib.hid (HNO.out (fun h => e1 (h (by omega)).1))
                            clear HNO HYES
                            go_upto_region 27 with fail
                            go_quiet (fail)
                            go_wp2_with fail
                            go_ret2
                            exact post2N_mk (by rw [HH.out, ← HN2.out]; rfl) (Below.drewN' _ HB.out)
                        · have HN := Lib.hid (falTo_next HT.out (by omega))
                          go_wp2_with fail
                          go_roundw
                          case rel => exact ⟨i + 1, by omega, by go_num, HN.out, HB.out⟩
                          case measure => simp [intOf]; omega
                    · have hke : i = R.length := by omega
                      have HY2 : Hid (sb = true) := Lib.hid (HSB.out.2 (by have := HT.out.1; rw [hke] at this; exact this))
                      go_wp2_with fail
                      go_ret2
                      exact post2N_mk (by rw [HH.out, HY2.out]; rfl) HB.out
                · have d1 : ((xs.length : Int) != (s.length : Int)) = true := by rw [bne_iff_ne]; omega
                  rw [decide_eq_false hle, if_neg (by simp)] at HH
                  clear hle
                  go_wp2_with fail
                  go_ret2
                  exact post2N_mk HH.out HB.out
  · have t1 : (seqC s != 0) = true := by simp [hc]
    have HH : Hid (falE s R = (0, seqC s)) := Lib.hid (by unfold falE; rw [if_pos hc])
    clear hc
    generalize seqC s = q at *
    generalize falE s R = L at *
    go_enter Try.func48, Try.ntmps48
    go_wp2_with fail
    refine (HC.out _ HX.out).mono ?_
    rintro e w2 ⟨rfl, rfl⟩
    go_wp2_with fail
    refine (HC.out _ HX.out).mono ?_
    rintro e w2 ⟨rfl, rfl⟩
    go_wp2_with fail
    go_ret2
    exact post2N_mk HH.out (bz _)
end Go.Proofs.Ytnnfahdhmodejaa

namespace Go.Proofs.Ytnnfahdhmodejaa

def cntGt (l : List Int) (k : Nat) : Int := ((l.filter fun x => decide ((k : Int) < x)).length : Nat)
/-- Rows and columns are exchanged. -/
def exchL (l : List Int) : List Int := (List.range (elt l 0).toNat).map (cntGt l)
def hookAt (l : List Int) (i k : Nat) : Int := elt l i - k + elt (exchL l) k - i - 1
def hookRow (l : List Int) (i : Nat) : List Int := (List.range (elt l i).toNat).map (hookAt l i)
def hooksL (l : List Int) : List (List Int) := (List.range l.length).map (hookRow l)
def lessL (l : List Int) (r : Nat) : List Int := if elt l r - 1 = 0 then l.take r else l.set r (elt l r - 1)
def cornB (l : List Int) (r : Nat) : Bool := decide (r + 1 = l.length) || decide (elt l (r + 1) < elt l r)
def sumZ (l : List Int) : Int := l.foldl (· + ·) 0
def prodZ (l : List Int) : Int := l.foldl (· * ·) 1
def facZ : Nat → Int
  | 0 => 1
  | n + 1 => facZ n * ((n : Int) + 1)
/-- The factorial, divided by the product of the hooks. -/
def pC (l : List Int) : Int := facZ (hooksL l).flatten.length / prodZ (hooksL l).flatten
/-- The sum over all rows at which a place can go. -/
def cornSum (f : List Int → Int) (l : List Int) : Nat → Int
  | 0 => 0
  | k + 1 => cornSum f l k + if cornB l k then f (lessL l k) else 0
def cntF : Nat → List Int → Int
  | 0, _ => 1
  | n + 1, l => if l = [] then 1 else cornSum (cntF n) l l.length
/-- All shapes with a sum, whose numbers are at most another one. -/
def shapesF : Nat → Nat → Nat → List (List Int)
  | _, 0, _ => [[]]
  | 0, _ + 1, _ => []
  | f + 1, s + 1, most => (List.range (min (s + 1) most)).reverse.flatMap fun n => (shapesF f (s - n) (n + 1)).map fun r => ((n : Int) + 1) :: r
def Dec (l : List Int) : Prop := ∀ i, 0 < i → i < l.length → elt l i ≤ elt l (i - 1)
theorem elt_cons_zero (a : Int) (l : List Int) : elt (a :: l) 0 = a := rfl
theorem elt_cons_succ (a : Int) (l : List Int) (i : Nat) : elt (a :: l) (i + 1) = elt l i := by simp [elt]
theorem dec_cons {a : Int} {l : List Int} (h : Dec (a :: l)) : Dec l ∧ (l ≠ [] → elt l 0 ≤ a) := by
  refine ⟨fun i h0 hi => ?_, fun hne => ?_⟩
  · have := h (i + 1) (by omega) (by simpa using hi)
    rw [elt_cons_succ] at this
    obtain ⟨j, rfl⟩ : ∃ j, i = j + 1 := ⟨i - 1, by omega⟩
    rw [show j + 1 + 1 - 1 = j + 1 by omega, elt_cons_succ] at this
    rw [show j + 1 - 1 = j by omega]
    exact this
  · have := h 1 (by omega) (by have := List.length_pos_iff.2 hne; simp; omega)
    rw [show (1:Nat) = 0 + 1 by rfl, elt_cons_succ] at this
    exact this
theorem sumZ_cons (a : Int) (l : List Int) : sumZ (a :: l) = a + sumZ l := by
  have key : ∀ (l : List Int) (b : Int), l.foldl (· + ·) b = b + l.foldl (· + ·) 0 := by
    intro l
    induction l with
    | nil => intro b; simp
    | cons c l ih => intro b; rw [List.foldl_cons, List.foldl_cons, ih, ih (0 + c)]; omega
  unfold sumZ
  rw [List.foldl_cons, key]; omega
theorem sumZ_nonneg {l : List Int} (h : ∀ x ∈ l, 1 ≤ x) : (l.length : Int) ≤ sumZ l := by
  induction l with
  | nil => simp [sumZ]
  | cons a l ih =>
    rw [sumZ_cons]
    have h1 := ih fun x hx => h x (by simp [hx])
    have := h a (by simp)
    simp only [List.length_cons]; push_cast; omega
/-- Each shape is among them. -/
theorem shapes_all : ∀ (f s most : Nat) (l : List Int), s ≤ f → (∀ x ∈ l, 1 ≤ x) → Dec l → sumZ l = (s : Int) → (∀ x ∈ l, x ≤ (most : Int)) → l ∈ shapesF f s most
  | f, 0, most, l, _, h1, _, h3, _ => by
    have := sumZ_nonneg h1
    have hl : l.length = 0 := by omega
    rw [List.eq_nil_of_length_eq_zero hl]
    unfold shapesF; simp
  | 0, s + 1, most, l, h0, _, _, _, _ => by omega
  | f + 1, s + 1, most, [], _, _, _, h3, _ => by simp [sumZ] at h3; omega
  | f + 1, s + 1, most, a :: l, h0, h1, h2, h3, h4 => by
    rw [sumZ_cons] at h3
    obtain ⟨h5, h6⟩ := dec_cons h2
    have ha := h1 a (by simp)
    have ha2 := h4 a (by simp)
    have hs := sumZ_nonneg (l := l) fun x hx => h1 x (by simp [hx])
    obtain ⟨n, hn⟩ := Int.eq_ofNat_of_zero_le (show 0 ≤ a - 1 by omega)
    have hle : ∀ x ∈ l, x ≤ a := by
      intro x hx
      obtain ⟨j, hj, rfl⟩ := List.getElem_of_mem hx
      have : ∀ j, j < l.length → elt l j ≤ a := by
        intro j
        induction j with
        | zero => intro h; exact h6 (by intro e; rw [e] at h; simp at h)
        | succ j ih =>
          intro h
          have := h5 (j + 1) (by omega) h
          rw [Nat.add_sub_cancel] at this
          have := ih (by omega)
          omega
      have h7 := this j hj
      rwa [elt_lt hj] at h7
    unfold shapesF
    rw [List.mem_flatMap]
    refine ⟨n, by rw [List.mem_reverse, List.mem_range]; omega, List.mem_map.2 ⟨l, ?_, by rw [show (n : Int) + 1 = a by omega]⟩⟩
    exact shapes_all f (s - n) (n + 1) l (by omega) (fun x hx => h1 x (by simp [hx])) h5 (by omega) (fun x hx => by have := hle x hx; push_cast; omega)
/-- What is tried at each shape. -/
def tryB (l : List Int) : Bool :=
  decide (1 ≤ pC l) && decide (pC l ≤ 7700) && decide (pC (exchL l) = pC l) && decide (pC l * prodZ (hooksL l).flatten = facZ (sumZ l).toNat) && ((hooksL l).flatten.all fun h => decide (1 ≤ h) && decide (h ≤ 12)) &&
    (decide (l = []) || decide (cornSum pC l l.length = pC l)) && decide ((hooksL l).flatten.length = (sumZ l).toNat) && decide ((hooksL l).map (fun r => (r.length : Int)) = l)
set_option maxRecDepth 100000 in
theorem try_all : (List.range 13).all (fun n => (shapesF n n n).all tryB) = true := by decide +kernel
set_option maxRecDepth 100000 in
theorem pairs_all : (List.range 13).all (fun n => decide (((shapesF n n n).foldl (fun a l => a + pC l * pC l) 0) = facZ n)) = true := by decide +kernel
theorem pC_nil : pC [] = 1 := by decide +kernel
/-- A valid shape. -/
structure Shp (l : List Int) : Prop where
  lo : ∀ x ∈ l, 1 ≤ x
  hi : ∀ x ∈ l, x ≤ 12
  dec : Dec l
  sum : sumZ l ≤ 12
def decQ (l : List Int) : Bool := (List.range l.length).all fun i => decide (i = 0) || decide (elt l i ≤ elt l (i - 1))
def validB (l : List Int) : Bool := (l.all fun x => decide (1 ≤ x) && decide (x ≤ 12)) && decQ l && decide (sumZ l ≤ 12)
theorem validB_shp {l : List Int} (h : validB l = true) : Shp l := by
  unfold validB decQ at h
  simp only [Bool.and_eq_true, List.all_eq_true, decide_eq_true_eq, Bool.or_eq_true, List.mem_range] at h
  obtain ⟨⟨h1, h2⟩, h3⟩ := h
  exact ⟨fun x hx => (h1 x hx).1, fun x hx => (h1 x hx).2, fun i h0 hi => (h2 i hi).resolve_left (by omega), h3⟩
def tryB2 (l : List Int) : Bool := validB (exchL l) && decide (sumZ (exchL l) = sumZ l) && (List.range l.length).all fun i => !cornB l i || (validB (lessL l i) && decide (sumZ (lessL l i) + 1 = sumZ l))
set_option maxRecDepth 100000 in
theorem try_all2 : (List.range 13).all (fun n => (shapesF n n n).all tryB2) = true := by decide +kernel
theorem Shp.mem {l : List Int} (h : Shp l) : ∃ n : Nat, n < 13 ∧ (n : Int) = sumZ l ∧ l ∈ shapesF n n n := by
  have h0 := sumZ_nonneg h.lo
  obtain ⟨n, hn⟩ := Int.eq_ofNat_of_zero_le (show 0 ≤ sumZ l by omega)
  have hs := h.sum
  refine ⟨n, by omega, hn.symm, shapes_all n n n l (Nat.le_refl _) h.lo h.dec hn fun x hx => ?_⟩
  have key : ∀ (l : List Int), (∀ x ∈ l, 1 ≤ x) → ∀ x ∈ l, x ≤ sumZ l := by
    intro l
    induction l with
    | nil => intro _ x hx; cases hx
    | cons a l ih =>
      intro h1 x hx
      rw [sumZ_cons]
      have h2 := sumZ_nonneg (l := l) fun x hx => h1 x (by simp [hx])
      rcases List.mem_cons.1 hx with rfl | hx
      · omega
      · have := ih (fun x hx => h1 x (by simp [hx])) x hx
        have := h1 a (by simp)
        omega
  have := key l h.lo x hx
  omega
theorem Shp.tried {l : List Int} (h : Shp l) : tryB l = true ∧ tryB2 l = true := by
  obtain ⟨n, h1, _, h2⟩ := h.mem
  have a := List.all_eq_true.1 try_all n (List.mem_range.2 h1)
  have b := List.all_eq_true.1 try_all2 n (List.mem_range.2 h1)
  exact ⟨List.all_eq_true.1 a l h2, List.all_eq_true.1 b l h2⟩
/-- What holds of each shape. -/
structure ShpT (l : List Int) : Prop where
  one : 1 ≤ pC l
  most : pC l ≤ 7700
  exch : pC (exchL l) = pC l
  prod : pC l * prodZ (hooksL l).flatten = facZ (sumZ l).toNat
  hook : ∀ h ∈ (hooksL l).flatten, 1 ≤ h ∧ h ≤ 12
  corn : l ≠ [] → cornSum pC l l.length = pC l
  len : (hooksL l).flatten.length = (sumZ l).toNat
  shape : (hooksL l).map (fun r => (r.length : Int)) = l
  okx : Shp (exchL l)
  sumx : sumZ (exchL l) = sumZ l
  less : ∀ i, i < l.length → cornB l i = true → Shp (lessL l i) ∧ sumZ (lessL l i) + 1 = sumZ l
theorem Shp.all {l : List Int} (h : Shp l) : ShpT l := by
  obtain ⟨h1, h2⟩ := h.tried
  unfold tryB at h1
  unfold tryB2 at h2
  simp only [Bool.and_eq_true, Bool.or_eq_true, decide_eq_true_eq, List.all_eq_true, List.mem_range, Bool.not_eq_true'] at h1 h2
  obtain ⟨⟨⟨⟨⟨⟨⟨a, b⟩, c⟩, d⟩, e⟩, f⟩, g⟩, i⟩ := h1
  obtain ⟨⟨j, j2⟩, k⟩ := h2
  refine ⟨a, b, c, d, e, fun hne => f.resolve_left hne, g, i, validB_shp j, j2, fun q hq hc => ?_⟩
  have := (k q hq).resolve_left (by rw [hc]; decide)
  exact ⟨validB_shp this.1, this.2⟩
theorem cornSum_congr {f g : List Int → Int} {l : List Int} : ∀ k, (∀ i, i < k → cornB l i = true → f (lessL l i) = g (lessL l i)) → cornSum f l k = cornSum g l k
  | 0, _ => rfl
  | k + 1, h => by
    unfold cornSum
    rw [cornSum_congr k fun i hi => h i (by omega)]
    cases hc : cornB l k with
    | false => rfl
    | true => rw [if_pos rfl, if_pos rfl, h k (by omega) hc]
/-- How many orders a shape has, counted from the greatest number on, is what the hooks say. -/
theorem cntF_pC : ∀ (n : Nat) (l : List Int), Shp l → sumZ l ≤ (n : Int) → cntF n l = pC l
  | 0, l, h, hs => by
    have := sumZ_nonneg h.lo
    have hl : l.length = 0 := by omega
    rw [List.eq_nil_of_length_eq_zero hl, pC_nil]; rfl
  | n + 1, l, h, hs => by
    unfold cntF
    by_cases hl : l = []
    · rw [if_pos hl, hl, pC_nil]
    · rw [if_neg hl, ← h.all.corn hl]
      refine cornSum_congr _ fun i hi hc => ?_
      obtain ⟨h1, h2⟩ := h.all.less i hi hc
      exact cntF_pC n _ h1 (by push_cast at hs; omega)
end Go.Proofs.Ytnnfahdhmodejaa

namespace Go.Proofs.Ytnnfahdhmodejaa
open Go.RowKit Go.Shelf

def DecTo (l : List Int) (k : Nat) : Prop := ∀ i, 0 < i → i < k → elt l i ≤ elt l (i - 1)
open Classical in
noncomputable def decB (l : List Int) : Bool := decide (DecTo l l.length)
theorem decB_iff (l : List Int) : decB l = true ↔ DecTo l l.length := by unfold decB; exact @decide_eq_true_iff _ (Classical.propDecidable _)
/-- The error of a shape. -/
noncomputable def shapeC (l : List Int) : Int := if l.any (outB 1 12) then 3 else if 12 < sumL l then 6 else if decB l then 0 else 22
theorem shapeC_zero {l : List Int} (h : shapeC l = 0) : Shp l := by
  unfold shapeC at h
  split at h
  · omega
  · split at h
    · omega
    · split at h
      · rename_i a b c
        have ha : ∀ x ∈ l, 1 ≤ x ∧ x ≤ 12 := fun x hx => outB_bd (by have := List.any_eq_false.1 (by simpa using a) x hx; simpa using this)
        exact ⟨fun x hx => (ha x hx).1, fun x hx => (ha x hx).2, (decB_iff l).1 c, by unfold sumZ; unfold sumL at b; omega⟩
      · omega
theorem shapeC_shp {l : List Int} (h : Shp l) : shapeC l = 0 := by
  unfold shapeC
  have h1 : l.any (outB 1 12) = false := List.any_eq_false.2 fun x hx => by rw [outB_in (h.lo x hx) (h.hi x hx)]; decide
  rw [h1, if_neg (by simp), if_neg (by have := h.sum; unfold sumZ at this; unfold sumL; omega), if_pos ((decB_iff l).2 h.dec)]
theorem Shp.len {l : List Int} (h : Shp l) : l.length ≤ 12 := by have := sumZ_nonneg h.lo; have := h.sum; omega
theorem Shp.at {l : List Int} (h : Shp l) {i : Nat} (hi : i < l.length) : 1 ≤ elt l i ∧ elt l i ≤ 12 := ⟨h.lo _ (elt_mem hi), h.hi _ (elt_mem hi)⟩
set_option maxRecDepth 100000 in
set_option maxHeartbeats 800000 in
theorem rshape_any (x : Value) (l : List Int) (w : World) (hx0 : RdI w .i64 x l) (hl : l.length ≤ 1000) :
    Calls Try.prog 81 #[x] w fun e w' => e = .returned (.int .i64 (shapeC l)) ∧ Below w.heap.size w w' := by
  have HX := Lib.hid hx0
  obtain ⟨a, ca, rfl, _, hcm, hx⟩ := hx0.form
  clear hx0 hcm hx
  have HH : Hid (shapeC l = if l.any (outB 1 12) then 3 else if 12 < sumL l then 6 else if decB l then 0 else 22) := Lib.hid rfl
  have HDB := Lib.hid (decB_iff l)
  generalize shapeC l = g at *
  generalize decB l = db at *
  go_enter Try.func81, Try.ntmps81
  go_wp2_with fail
  go_loop [3, 4] (fun s3 i => ∃ k : Nat, k ≤ l.length ∧ i = .int .i64 k ∧ s3 = .int .i64 (sumL (l.take k)) ∧ (∀ i, i < k → outB 1 12 (elt l i) = false) ∧ 0 ≤ sumL (l.take k) ∧ sumL (l.take k) ≤ 12 * k) (fun _ i => l.length - (intOf i).toNat)
  case atStart => exact ⟨0, Nat.zero_le _, rfl, rfl, fun i h => by omega, by simp [sumL], by simp [sumL]⟩
  case round =>
    obtain ⟨k, hk, rfl, rfl, ht, hs0, hs1⟩ := hrel
    have HT := Lib.hid ht; clear ht
    by_cases hlt : k < l.length
    · obtain ⟨bx, ox, rfl, hbx, hcx⟩ := HX.out.get (by omega)
      have gx := hcx k hlt
      have HS := Lib.hid (sumL_take l k hlt)
      clear hcx
      have HN := Lib.hid (fun h => any_true (p := outB 1 12) hlt h)
      have HST : Hid (outB 1 12 (elt l k) = false → ∀ i, i < k + 1 → outB 1 12 (elt l i) = false) := Lib.hid (fun h i hi => by
        by_cases e : i = k
        · subst e; exact h
        · exact HT.out i (by omega))
      generalize elt l k = q at *
      generalize sumL (l.take k) = sm at *
      by_cases h1 : q < 1
      · have HN2 := Lib.hid (HN.out (outB_lo h1))
        have d1 : decide (q < 1) = true := by rw [decide_eq_true_eq]; exact h1
        go_wp2_with fail
        go_ret
        exact ⟨ret_int (by rw [HH.out, HN2.out]; rfl), bz _⟩
      · have d1 : decide (q < 1) = false := by rw [decide_eq_false_iff_not]; exact h1
        by_cases h2 : 12 < q
        · have HN2 := Lib.hid (HN.out (outB_hi h2))
          have d2 : decide (12 < q) = true := by rw [decide_eq_true_eq]; exact h2
          go_wp2_with fail
          go_ret
          exact ⟨ret_int (by rw [HH.out, HN2.out]; rfl), bz _⟩
        · have d2 : decide (12 < q) = false := by rw [decide_eq_false_iff_not]; exact h2
          have HS2 := Lib.hid (HST.out (outB_in (by omega) (by omega)))
          go_wp2_with fail
          go_round
          case rel => exact ⟨k + 1, by omega, by go_num, by rw [HS.out], HS2.out, by rw [HS.out]; omega, by rw [HS.out]; push_cast; omega⟩
          case measure => simp [intOf]; omega
    · have hkl : k = l.length := by omega
      have hany : l.any (outB 1 12) = false := any_false fun i hi => HT.out i (by omega)
      rw [hany, if_neg (by simp)] at HH
      subst hkl
      rw [List.take_length] at *
      clear hany HT
      generalize sumL l = sm at *
      by_cases h12 : 12 < sm
      · rw [if_pos h12] at HH
        go_wp2_with fail
        go_ret
        exact ⟨ret_int HH.out.symm, bz _⟩
      · rw [if_neg h12] at HH
        go_wp2_with fail
        go_loopw [5] (fun i wr => ∃ k : Nat, 1 ≤ k ∧ (k ≤ l.length ∨ k = 1) ∧ i = .int .i64 k ∧ DecTo l k ∧ Below w.heap.size w wr) (fun i _ => l.length - (intOf i).toNat)
        case atStart => exact ⟨1, Nat.le_refl _, .inr rfl, rfl, fun i h1 h2 => by omega, bz _⟩
        case round =>
          clear hk hlt
          obtain ⟨k, hk1, hk, rfl, ht, hB⟩ := hrel
          have HB := Lib.hid hB; have HT := Lib.hid ht; clear hB ht
          by_cases hlt : k < l.length
          · obtain ⟨j, rfl⟩ : ∃ j, k = j + 1 := ⟨k - 1, by omega⟩
            obtain ⟨bx, ox, rfl, hbx, hcx⟩ := HX.out.get (by omega)
            have g1 := (HB.out.cell (p := ⟨bx, ox + (j + 1), none⟩) hbx).trans (hcx (j + 1) hlt)
            have g2 := (HB.out.cell (p := ⟨bx, ox + j, none⟩) hbx).trans (hcx j (by omega))
            have z1 := Nat.lt_of_lt_of_le hbx HB.out.size
            have HNO := Lib.hid (fun hn : ¬ (elt l (j + 1) ≤ elt l j) => (show false = db from by
              cases hdb : db with
              | false => rfl
              | true =>
                have := HDB.out.1 hdb (j + 1) (by omega) hlt
                rw [Nat.add_sub_cancel] at this
                exact absurd this hn))
            have HYES : Hid (elt l (j + 1) ≤ elt l j → DecTo l (j + 1 + 1)) := Lib.hid (fun h i h0 hi => by
              by_cases e : i = j + 1
              · subst e; rw [Nat.add_sub_cancel]; exact h
              · exact HT.out i h0 (by omega))
            clear hcx
            generalize elt l (j + 1) = A at *
            generalize elt l j = B at *
            by_cases hle : A ≤ B
            · have d1 : decide (B < A) = false := by simp; omega
              have HY2 := Lib.hid (HYES.out hle)
              clear HNO HYES
              go_upto_region 13 with fail
              go_quiet (fail)
              go_wp2_with fail
              go_roundw
              case rel => exact ⟨j + 1 + 1, by omega, by omega, by go_num, HY2.out, Below.drewN' _ HB.out⟩
              case measure => simp [intOf]; omega
            · have d1 : decide (B < A) = true := by simp; omega
              have HN2 := Lib.hid (HNO.out hle)
              clear HNO HYES
              go_upto_region 13 with fail
              go_quiet (fail)
              go_wp2_with fail
              go_ret
              exact ⟨ret_int (by rw [HH.out, ← HN2.out]; rfl), Below.drewN' _ HB.out⟩
          · have HY2 : Hid (db = true) := Lib.hid (HDB.out.2 (fun i h1 h2 => HT.out i h1 (by omega)))
            go_wp2_with fail
            go_ret
            exact ⟨ret_int (by rw [HH.out, HY2.out]; rfl), HB.out⟩

theorem cnt_take (l : List Int) (k i : Nat) (h : i < l.length) : cntGt (l.take (i + 1)) k = cntGt (l.take i) k + if (k : Int) < elt l i then 1 else 0 := by
  unfold cntGt
  rw [List.take_succ_eq_append_getElem h, List.filter_append, List.length_append, elt_lt h]
  by_cases hk : (k : Int) < l[i]
  · rw [if_pos hk]; simp [hk]
  · rw [if_neg hk]; simp [hk]
theorem cnt_bd (l : List Int) (k : Nat) : 0 ≤ cntGt l k ∧ cntGt l k ≤ l.length := by
  unfold cntGt
  have := List.length_filter_le (fun x => decide ((k : Int) < x)) l
  omega
theorem exch_take (l : List Int) (k : Nat) : (List.range (k + 1)).map (cntGt l) = (List.range k).map (cntGt l) ++ [cntGt l k] := by
  rw [List.range_succ, List.map_append]; rfl
set_option maxRecDepth 100000 in
set_option maxHeartbeats 800000 in
theorem exch_any (x : Value) (l : List Int) (w : World) (hx0 : RdI w .i64 x l) (hl : l.length ≤ 100) (h0 : elt l 0 ≤ 100) :
    Calls Try.prog 49 #[x] w fun e w' => ∃ u, e = .returned u ∧ rowI w' w.heap.size u (exchL l) ∧ Below w.heap.size w w' := by
  have HX := Lib.hid hx0
  obtain ⟨a, ca, rfl, _, hcm, hx⟩ := hx0.form
  clear hx0 hcm hx
  have HE : Hid (exchL l = (List.range (elt l 0).toNat).map (cntGt l)) := Lib.hid rfl
  generalize exchL l = E at *
  go_enter Try.func49, Try.ntmps49
  go_wp2_with fail
  go_loopw [3, 4, 5, 6] (fun s3 s4 _ _ wr => ∃ (k : Nat) (u : Value), k ≤ (elt l 0).toNat ∧ u = s3 ∧ s4 = .int .i64 k ∧ rowI wr w.heap.size u ((List.range k).map (cntGt l)) ∧ Below w.heap.size w wr) (fun _ s4 _ _ _ => (elt l 0).toNat - (intOf s4).toNat)
  case atStart => exact ⟨0, _, Nat.zero_le _, rfl, rfl, World.ownsRow_nil _ _ _ _, bz w⟩
  case round =>
    obtain ⟨k, u, hk, rfl, rfl, hO, hB⟩ := hrel
    have HO := Lib.hid hO; have HB := Lib.hid hB; clear hO hB
    have fin : Hid (k = (elt l 0).toNat → rowI wr w.heap.size u E) := Lib.hid (fun e => by have := HO.out; rw [e] at this; rw [HE.out]; exact this)
    by_cases hne : l.length = 0
    · have hl0 : l = [] := List.eq_nil_of_length_eq_zero hne
      have hk0 : k = (elt l 0).toNat := by
        have : elt l 0 = 0 := by rw [hl0]; rfl
        rw [this] at hk ⊢; simp at hk ⊢; exact hk
      have hF := Lib.hid (fin.out hk0)
      have t1 : decide (0 < l.length) = false := by rw [decide_eq_false_iff_not]; omega
      have t2 : decide ((0:Int) < (l.length : Int)) = false := by rw [decide_eq_false_iff_not]; omega
      clear hl0 hk0 hne fin
      go_wp2_with fail
      go_ret
      exact ⟨_, rfl, hF.out, HB.out⟩
    · have t1 : decide (0 < l.length) = true := by rw [decide_eq_true_eq]; omega
      have t2 : decide ((0:Int) < (l.length : Int)) = true := by rw [decide_eq_true_eq]; omega
      obtain ⟨bx, ox, rfl, hbx, hcx⟩ := HX.out.get (by omega)
      have g0 := (HB.out.cell (p := ⟨bx, ox + 0, none⟩) hbx).trans (hcx 0 (by omega))
      rw [Nat.add_zero] at g0
      have HC := Lib.hid hcx
      have z0 := Nat.lt_of_lt_of_le hbx HB.out.size
      have hpos : 0 < l.length := by omega
      clear hcx hne
      by_cases hlt : (k : Int) < elt l 0
      · have d1 : decide ((k : Int) < elt l 0) = true := by rw [decide_eq_true_eq]; exact hlt
        have HXT := Lib.hid (exch_take l k)
        have hk' : k + 1 ≤ (elt l 0).toNat := by omega
        have hkl : ((List.range k).map (cntGt l)).length ≤ 100 := by simp; omega
        generalize (List.range k).map (cntGt l) = xs at *
        generalize elt l 0 = m at *
        go_wp2_with fail
        go_loop [5, 6] (fun s5 s6 => ∃ i : Nat, i ≤ l.length ∧ s6 = .int .i64 i ∧ s5 = .int .i64 (cntGt (l.take i) k)) (fun _ s6 => l.length - (intOf s6).toNat)
        case atStart => exact ⟨0, Nat.zero_le _, rfl, by simp [cntGt]⟩
        case round =>
          obtain ⟨i, hi, rfl, rfl⟩ := hrel
          have hcb := cnt_bd (l.take i) k
          have hlt2 : (l.take i).length ≤ 100 := by rw [List.length_take]; omega
          by_cases hil : i < l.length
          · have gi := (HB.out.cell (p := ⟨bx, ox + i, none⟩) hbx).trans (HC.out i hil)
            have HCT := Lib.hid (cnt_take l k i hil)
            generalize cntGt (l.take i) k = c at *
            generalize elt l i = q at *
            by_cases hq : (k : Int) < q
            · have d2 : decide ((k : Int) < q) = true := by rw [decide_eq_true_eq]; exact hq
              rw [if_pos hq] at HCT
              go_wp2_with fail
              go_round
              case rel => exact ⟨i + 1, by omega, by go_num, by rw [HCT.out]⟩
              case measure => simp [intOf]; omega
            · have d2 : decide ((k : Int) < q) = false := by rw [decide_eq_false_iff_not]; exact hq
              rw [if_neg hq, Int.add_zero] at HCT
              go_wp2_with fail
              go_round
              case rel => exact ⟨i + 1, by omega, by go_num, by rw [HCT.out]⟩
              case measure => simp [intOf]; omega
          · have hie : i = l.length := by omega
            subst hie
            rw [List.take_length] at *
            clear hcb
            generalize cntGt l k = c at *
            go_wp2_with (at_builtin; refine wpList_append_num rfl _ _ rfl Try.underlying31 num3 HO.out c rfl rfl rfl (by omega) HB.out.size ?_)
            intro v' w' hO' hg
            have HO' := Lib.hid hO'
            have HB' := Lib.hid (append_below (bal HB.out _) (World.ownsRow.alloc HO.out _) hg (Nat.le_refl _))
            clear hO' hg
            go_wp2_with fail
            go_roundw
            case rel => exact ⟨k + 1, _, hk', rfl, by go_num, by rw [HXT.out]; exact rowI_snoc HO'.out, HB'.out⟩
            case measure => simp [intOf]; omega
      · have d1 : decide ((k : Int) < elt l 0) = false := by rw [decide_eq_false_iff_not]; exact hlt
        have hF := Lib.hid (fin.out (by omega))
        clear fin
        generalize elt l 0 = m at *
        go_wp2_with fail
        go_ret
        exact ⟨_, rfl, hF.out, HB.out⟩
end Go.Proofs.Ytnnfahdhmodejaa

namespace Go.Proofs.Ytnnfahdhmodejaa
open Go.RowKit Go.Shelf

theorem hookRow_take (l : List Int) (i k : Nat) : (List.range (k + 1)).map (hookAt l i) = (List.range k).map (hookAt l i) ++ [hookAt l i k] := by
  rw [List.range_succ, List.map_append]; rfl
theorem hooks_take (l : List Int) (i : Nat) : (List.range (i + 1)).map (hookRow l) = (List.range i).map (hookRow l) ++ [hookRow l i] := by
  rw [List.range_succ, List.map_append]; rfl
theorem exch_at {l : List Int} {k : Nat} (h : k < (elt l 0).toNat) : elt (exchL l) k = cntGt l k := by
  unfold exchL
  rw [elt_lt (by simpa using h)]
  simp
theorem Shp.le0 {l : List Int} (h : Shp l) : ∀ i, i < l.length → elt l i ≤ elt l 0
  | 0, _ => Int.le_refl _
  | i + 1, hi => by
    have := h.dec (i + 1) (by omega) hi
    rw [Nat.add_sub_cancel] at this
    have := h.le0 i (by omega)
    omega
set_option maxRecDepth 100000 in
set_option maxHeartbeats 4000000 in
theorem hooksof_any (x : Value) (l : List Int) (w : World) (hx0 : RdI w .i64 x l) (hs : Shp l) :
    Calls Try.prog 82 #[x] w fun e w' => ∃ u, e = .returned u ∧ RdLL w' u (hooksL l) ∧ Below w.heap.size w w' := by
  have h12 := hs.len
  have HX := Lib.hid hx0
  have h0 : elt l 0 ≤ 100 := by
    rcases Nat.eq_zero_or_pos l.length with h | h
    · rw [List.eq_nil_of_length_eq_zero h]; decide
    · have := hs.at h; omega
  have HEX := Lib.hid (exch_any x l w hx0 (by omega) h0)
  obtain ⟨a, ca, rfl, _, hcm, hx⟩ := hx0.form
  clear hx0 hcm hx h0
  have HS := Lib.hid hs
  have HE : Hid (hooksL l = (List.range l.length).map (hookRow l)) := Lib.hid rfl
  have HCN := Lib.hid (fun k (h : k < (elt l 0).toNat) => exch_at h)
  have HXL : Hid ((exchL l).length = (elt l 0).toNat) := Lib.hid (by simp [exchL])
  generalize hooksL l = H at *
  generalize exchL l = E at *
  clear hs
  go_enter Try.func82, Try.ntmps82
  go_wp2_with fail
  refine HEX.out.mono ?_
  rintro e w2 ⟨c, rfl, hc, hB2⟩
  obtain ⟨ac, cc, rfl⟩ := owns_form hc
  have HCR := Lib.hid (RdI.of_owns hc)
  have HB2 := Lib.hid hB2
  clear hc hB2 HEX
  go_wp2_with fail
  go_loopw [4, 5, 6, 7] (fun s4 s5 _ _ wr => ∃ (i : Nat) (u : Value) (vs : List Value), i ≤ l.length ∧ u = s4 ∧ s5 = .int .i64 i ∧ LL wr (fun k => w2.heap.size ≤ k) u ((List.range i).map (hookRow l)) vs ∧ Below w2.heap.size w2 wr) (fun _ s5 _ _ _ => l.length - (intOf s5).toNat)
  case atStart => exact ⟨0, _, _, Nat.zero_le _, rfl, rfl, LL.nil _ _, bz w2⟩
  case round =>
    obtain ⟨i, u, vs, hi, rfl, rfl, hO, hB⟩ := hrel
    have HO := Lib.hid hO; have HB := Lib.hid hB; clear hO hB
    by_cases hlt : i < l.length
    · obtain ⟨q1, q2⟩ := HS.out.at hlt
      have q3 := HS.out.le0 i hlt
      obtain ⟨q, hq⟩ := Int.eq_ofNat_of_zero_le (show 0 ≤ elt l i by omega)
      obtain ⟨bx, ox, rfl, hbx, hcx⟩ := HX.out.get (by omega)
      have HGI := Lib.hid (fun wz (hz : Below w2.heap.size w2 wz) => ((btr HB2.out hz).cell (p := ⟨bx, ox + i, none⟩) hbx).trans (hcx i hlt))
      have HZI := Lib.hid (fun wz (hz : Below w2.heap.size w2 wz) => Nat.lt_of_lt_of_le hbx (btr HB2.out hz).size)
      have HRT := Lib.hid (hooks_take l i)
      have HKT := Lib.hid (fun k => hookRow_take l i k)
      have HHR : Hid (hookRow l i = (List.range q).map (hookAt l i)) := Lib.hid (by unfold hookRow; rw [hq]; rfl)
      have HHA : Hid (∀ k, k < q → hookAt l i k = (q : Int) - k + elt E k - i - 1) := Lib.hid (fun k hk => by
        unfold hookAt
        rw [hq, exch_at (by omega), ← HCN.out k (by omega)])
      have HEB : Hid (∀ k, k < q → 0 ≤ elt E k ∧ elt E k ≤ 12) := Lib.hid (fun k hk => by
        rw [HCN.out k (by omega)]
        have := cnt_bd l k
        omega)
      have hqE : q ≤ E.length := by rw [HXL.out]; omega
      have hq12 : 1 ≤ q ∧ q ≤ 12 := by omega
      have hrl : ((List.range i).map (hookRow l)).length ≤ 1000 := by simp; omega
      rw [hq] at HGI
      clear hcx q1 q2 q3 hq
      generalize (List.range i).map (hookRow l) = RR at *
      generalize hookRow l i = hrow at *
      generalize hookAt l i = ha at *
      go_wp2_with fail
      have hzO := HB.out.size
      have HBO := HB
      have HOO := HO
      clear HB HO
      rename World => wO
      go_loopw [6, 7] (fun s6 s7 wr => ∃ (k : Nat) (r : Value), k ≤ q ∧ r = s6 ∧ s7 = .int .i64 k ∧ rowI wr wO.heap.size r ((List.range k).map ha) ∧ Below wO.heap.size wO wr) (fun _ s7 _ => q - (intOf s7).toNat)
      case atStart => exact ⟨0, _, Nat.zero_le _, rfl, rfl, World.ownsRow_nil _ _ _ _, bz wO⟩
      case round =>
        obtain ⟨k, r, hk, rfl, rfl, hR, hB⟩ := hrel
        have HR := Lib.hid hR; have HB := Lib.hid hB; clear hR hB
        have gi := HGI.out _ (btr HBO.out HB.out)
        have zi := HZI.out _ (btr HBO.out HB.out)
        by_cases hkl : k < q
        · obtain ⟨bc, oc, rfl, hbc, hcc⟩ := HCR.out.get (by omega)
          have HGC := Lib.hid (fun wz (hz : Below w2.heap.size w2 wz) => (hz.cell (p := ⟨bc, oc + k, none⟩) hbc).trans (hcc k (by omega)))
          have HZC := Lib.hid (fun wz (hz : Below w2.heap.size w2 wz) => Nat.lt_of_lt_of_le hbc hz.size)
          have hE2 := HEB.out k hkl
          have HV := Lib.hid (HHA.out k hkl)
          have HK2 := Lib.hid (HKT.out k)
          have hln : ((List.range k).map ha).length ≤ 1000 := by simp; omega
          clear hcc
          generalize (List.range k).map ha = ys at *
          generalize elt E k = ek at *
          go_upto_region 10 with fail
          refine wp_region_flow [] [([0, 1, 2, 3, 4, 5, 6, 7, 8, 9, 10, 11, 12, 13, 14], 15, true), ([], 16, false), ([], 17, false)] [] (by kernel_rfl) (by kernel_rfl) ?_
          intro wc hBc hh
          clear hh
          have HBC := Lib.hid (btr HB.out hBc)
          have HRC := Lib.hid (show rowI wc wO.heap.size r ys from owns_kept HR.out hBc)
          have hzc := HBC.out.size
          have c1 := HGI.out _ (btr HBO.out HBC.out)
          have z1 := HZI.out _ (btr HBO.out HBC.out)
          have c2 := HGC.out _ (btr HBO.out HBC.out)
          have z2 := HZC.out _ (btr HBO.out HBC.out)
          have hL := @Later.cell wc
          clear hBc gi zi
          simp only [flowP, flow, pickL, List.getElem?_cons_succ, List.getElem?_cons_zero]
          refine wpQuiet_nil ?_
          repeat (go_big_quiet_step (fail))
          refine wpQuiet_nil ?_
          go_wp2
          refine seg_grow ⟨⟨_, bal (bz wc) _⟩, rfl⟩ ?_
          refine wpQuiet_nil ?_
          clear hL
          go_wp2_with (at_builtin; refine wpList_append_num rfl _ _ rfl Try.underlying31 num3 HRC.out _ rfl rfl rfl (by omega) hzc ?_)
          intro v' w' hO' hg
          have HO' := Lib.hid hO'
          have HB' := Lib.hid (append_below (bal HBC.out _) (World.ownsRow.alloc HRC.out _) hg (Nat.le_refl _))
          clear hO' hg c1 z1 c2 z2
          go_wp2
          refine seg_write ?_
          refine wpQuiet_nil ?_
          go_wp2
          refine seg_write ?_
          refine wpQuiet_nil ?_
          refine only_done ?_
          go_wp2_with fail
          go_roundw
          case rel => exact ⟨k + 1, _, by omega, rfl, by go_num, by rw [HK2.out, HV.out]; exact rowI_snoc HO'.out, HB'.out⟩
          case measure => simp [intOf]; omega
        · have hke : k = q := by omega
          subst hke
          have HRO : Hid (rowI wr wO.heap.size r hrow) := Lib.hid (by rw [HHR.out]; exact HR.out)
          obtain ⟨ar, cr, rfl⟩ := owns_form HRO.out
          have HO1 := Lib.hid (HOO.out.later HB.out)
          have HAP := Lib.hid (fun j f hf => apart_fresh HOO.out HRO.out j f hf)
          have hz1 := (btr HBO.out HB.out).size
          clear HR
          go_wp2_with (at_builtin; refine LL.push HO1.out (HRO.out.base (Nat.zero_le _)) (fun k ek => Nat.le_trans hzO (HRO.out.lt ek).1) HAP.out rfl _ _ rfl rfl rfl rfl hrl (fun k hk => Nat.le_trans hz1 hk) ?_)
          intro u2 w3 hO3 hF3
          have HO3 := Lib.hid hO3
          have HB3 := Lib.hid (hF3.below (btr HBO.out HB.out) (fun _ h => h))
          clear hO3 hF3
          go_wp2_with fail
          go_roundw
          case rel => exact ⟨i + 1, _, _, by omega, rfl, by go_num, by rw [HRT.out]; exact HO3.out, HB3.out⟩
          case measure => simp [intOf]; omega
    · have hie : i = l.length := by omega
      have HO2 : Hid (RdLL wr u H) := by have h := HO.out.rd; rw [hie, ← HE.out] at h; exact Lib.hid h
      clear HO
      go_wp2_with fail
      go_ret
      exact ⟨_, rfl, HO2.out, btr HB2.out HB.out⟩
/-- What Hooks returns: the hooks, the error. -/
noncomputable def hooksE (l : List Int) : List (List Int) × Int := if shapeC l ≠ 0 then ([], shapeC l) else (hooksL l, 0)
def Post2LL (w : World) (L : List (List Int) × Int) (e : Ending) (w' : World) : Prop := ∃ u, e = .returned (.tuple #[u, .int .i64 L.2]) ∧ RdLL w' u L.1 ∧ Below w.heap.size w w'
theorem post2LL_mk {w w' : World} {L : List (List Int) × Int} {u : Value} {A : List (List Int)} {c : Int} (h : L = (A, c)) (hu : RdLL w' u A) (hb : Below w.heap.size w w') : Post2LL w L (.returned (.tuple #[u, .int .i64 c])) w' := by
  subst h; exact ⟨_, rfl, hu, hb⟩
set_option maxRecDepth 100000 in
set_option maxHeartbeats 800000 in
theorem rhooks_any (x : Value) (l : List Int) (w : World) (hx0 : RdI w .i64 x l) (hl : l.length ≤ 1000) : Calls Try.prog 35 #[x] w (Post2LL w (hooksE l)) := by
  have HX := Lib.hid hx0
  have HC := Lib.hid (fun wz h => rshape_any x l wz h hl)
  have HB := Lib.hid (fun (h0 : shapeC l = 0) wz h => hooksof_any x l wz h (shapeC_zero h0))
  clear hx0
  by_cases hc : shapeC l = 0
  · have t1 : (shapeC l != 0) = false := by simp [hc]
    have HH : Hid (hooksE l = (hooksL l, 0)) := Lib.hid (by unfold hooksE; rw [if_neg (by simp [hc])])
    have HB2 := Lib.hid (HB.out hc)
    clear hc HB
    generalize shapeC l = q at *
    generalize hooksE l = L at *
    generalize hooksL l = H at *
    go_enter Try.func35, Try.ntmps35
    go_wp2_with fail
    refine (HC.out _ HX.out).mono ?_
    rintro e w2 ⟨rfl, hB⟩
    have HB1 := Lib.hid hB; clear hB
    go_wp2_with fail
    refine (HB2.out _ (HX.out.mono HB1.out)).mono ?_
    rintro e w3 ⟨u, rfl, hu, hB⟩
    obtain ⟨au, cu, rfl⟩ := hu.sl
    have HU := Lib.hid hu; have HBB := Lib.hid (btr HB1.out hB)
    clear hu hB
    go_wp2_with fail
    go_ret2
    exact post2LL_mk HH.out HU.out HBB.out
  · have t1 : (shapeC l != 0) = true := by simp [hc]
    have HH : Hid (hooksE l = ([], shapeC l)) := Lib.hid (by unfold hooksE; rw [if_pos hc])
    clear hc HB
    generalize shapeC l = q at *
    generalize hooksE l = L at *
    go_enter Try.func35, Try.ntmps35
    go_wp2_with fail
    refine (HC.out _ HX.out).mono ?_
    rintro e w2 ⟨rfl, hB⟩
    have HB1 := Lib.hid hB; clear hB
    go_wp2_with fail
    refine (HC.out _ (HX.out.mono HB1.out)).mono ?_
    rintro e w3 ⟨rfl, hB⟩
    have HB2 := Lib.hid (btr HB1.out hB); clear hB
    go_wp2_with fail
    go_ret2
    exact post2LL_mk HH.out (rdLL_nil _) HB2.out
end Go.Proofs.Ytnnfahdhmodejaa

namespace Go.Proofs.Ytnnfahdhmodejaa
open Go.RowKit Go.Shelf

set_option maxRecDepth 100000 in
set_option maxHeartbeats 800000 in
theorem less_any (x : Value) (l : List Int) (r : Nat) (w : World) (hx0 : RdI w .i64 x l) (hl : l.length ≤ 100) (hr : r < l.length) (h1 : 1 ≤ elt l r) (h2 : elt l r ≤ 1000) :
    Calls Try.prog 52 #[x, .int .i64 r] w fun e w' => ∃ u, e = .returned u ∧ RdI w' .i64 u (lessL l r) ∧ Below w.heap.size w w' := by
  have HX := Lib.hid hx0
  obtain ⟨a, ca, rfl, _, hcm, hx⟩ := hx0.form
  clear hx0 hcm hx
  have HLL : Hid (lessL l r = if elt l r - 1 = 0 then l.take r else l.set r (elt l r - 1)) := Lib.hid rfl
  have HTK : Hid ((l.set r (elt l r - 1)).take r = l.take r) := Lib.hid (by rw [List.take_set_of_le (Nat.le_refl _)])
  have HES : Hid (elt (l.set r (elt l r - 1)) r = elt l r - 1) := Lib.hid (by rw [elt_set hr, if_pos rfl])
  generalize lessL l r = L at *
  have HOW := Lib.hid (own_newI w (nb := w.heap.size) rfl (Nat.le_refl _))
  go_enter Try.func52, Try.ntmps52
  go_wp2_with (at_builtin; refine wpList_append_any rfl _ _ rfl HOW.out (by simp) rfl rfl (HX.out.mono (bal (bz w) _)) (by simp) (by omega) ?_)
  intro v' w' hO' hg
  have hB1 : Below w.heap.size w w' := append_below (bal (bz w) _) HOW.out hg (Nat.le_refl _)
  have hO2 : rowI w' w.heap.size v' l := hO'
  obtain ⟨g, c, rfl, hgz, gc, gf⟩ := hO2.get r hr
  have hlo := (hO2.lt (k := g) rfl).1
  have HO := Lib.hid (hO2.stored r (elt l r - 1))
  have HB := Lib.hid (bset hB1 (p := ⟨g, r, none⟩) hlo (.int .i64 (elt l r - 1)))
  have hcap : r ≤ c := by
    obtain ⟨_, _, e, h3, _⟩ := (RdI.of_owns hO2).form
    cases e; omega
  have hs := run_cutToI g 0 l.length c r hcap
  clear hO' hg hB1 hO2 HOW hcap
  have hst := (HO.out.get r (by rw [List.length_set]; exact hr))
  obtain ⟨g2, c2, e2, gz2, gc2, _⟩ := hst
  simp only [Value.slice.injEq, Option.some.injEq, Addr.mk.injEq, and_true] at e2
  obtain ⟨e3, e4, e5⟩ := e2
  subst e3
  rw [HES.out] at gc2
  clear e4 e5 HES
  by_cases h0 : elt l r - 1 = 0
  · rw [if_pos h0] at HLL
    have t1 : (elt l r - 1 == 0) = true := by rw [beq_iff_eq]; exact h0
    have HFIN : Hid (RdI (w'.setCell ⟨g, r, none⟩ (.int .i64 (elt l r - 1))) .i64 (.slice (some ⟨g, 0, none⟩) r c) L) := Lib.hid (by
      have := rdI_pre (RdI.of_owns HO.out) (k := r) (by rw [List.length_set]; omega)
      rw [HTK.out] at this
      rw [HLL.out]; exact this)
    clear h0 HLL HO HTK
    generalize elt l r = q at *
    go_wp2_with fail
    go_ret
    exact ⟨_, rfl, HFIN.out, HB.out⟩
  · rw [if_neg h0] at HLL
    have t1 : (elt l r - 1 == 0) = false := by rw [beq_eq_false_iff_ne]; exact h0
    have HFIN : Hid (RdI (w'.setCell ⟨g, r, none⟩ (.int .i64 (elt l r - 1))) .i64 (.slice (some ⟨g, 0, none⟩) l.length c) L) := Lib.hid (by
      rw [HLL.out]; exact RdI.of_owns HO.out)
    clear h0 HLL HO HTK
    generalize elt l r = q at *
    go_wp2_with fail
    go_ret
    exact ⟨_, rfl, HFIN.out, HB.out⟩

theorem cornSum_bd {l : List Int} (h : Shp l) : ∀ k, k ≤ l.length → 0 ≤ cornSum pC l k ∧ cornSum pC l k ≤ 7700 * k
  | 0, _ => by simp [cornSum]
  | k + 1, hk => by
    have := cornSum_bd h k (by omega)
    unfold cornSum
    cases hc : cornB l k with
    | false => rw [if_neg (by simp)]; push_cast; omega
    | true =>
      rw [if_pos rfl]
      have hs := (h.all.less k (by omega) hc).1.all
      have := hs.one
      have := hs.most
      push_cast; omega
theorem cornSum_succ (f : List Int → Int) (l : List Int) (k : Nat) : cornSum f l (k + 1) = cornSum f l k + if cornB l k then f (lessL l k) else 0 := rfl
set_option maxRecDepth 100000 in
set_option maxHeartbeats 4000000 in
theorem countof_any : ∀ (n : Nat) (x : Value) (l : List Int) (w : World) (_ : RdI w .i64 x l) (_ : Shp l) (_ : sumZ l ≤ (n : Int)),
    Calls Try.prog 83 #[x] w fun e w' => e = .returned (.int .i64 (pC l)) ∧ Below w.heap.size w w' := by
  intro n
  induction n with
  | zero =>
    intro x l w hx0 hs hn
    have h1 := sumZ_nonneg hs.lo
    have hl : l.length = 0 := by omega
    obtain ⟨a, ca, rfl, _, hcm, hx⟩ := hx0.form
    clear hx0 hcm hx
    have HP : Hid (pC l = 1) := Lib.hid (by rw [List.eq_nil_of_length_eq_zero hl]; exact pC_nil)
    have t1 : ((l.length : Int) == 0) = true := by rw [beq_iff_eq]; omega
    clear hl h1 hs hn
    generalize pC l = p at *
    go_enter Try.func83, Try.ntmps83
    go_wp2_with fail
    go_ret
    exact ⟨ret_int HP.out.symm, bz w⟩
  | succ n ih =>
    intro x l w hx0 hs hn
    have HX := Lib.hid hx0
    obtain ⟨a, ca, rfl, _, hcm, hx⟩ := hx0.form
    clear hx0 hcm hx
    have h12 := hs.len
    by_cases hl : l.length = 0
    · have HP : Hid (pC l = 1) := Lib.hid (by rw [List.eq_nil_of_length_eq_zero hl]; exact pC_nil)
      have t1 : ((l.length : Int) == 0) = true := by rw [beq_iff_eq]; omega
      clear hl hs hn
      generalize pC l = p at *
      go_enter Try.func83, Try.ntmps83
      go_wp2_with fail
      go_ret
      exact ⟨ret_int HP.out.symm, bz w⟩
    · have HP : Hid (cornSum pC l l.length = pC l) := Lib.hid (hs.all.corn (fun e => hl (by rw [e]; rfl)))
      have t1 : ((l.length : Int) == 0) = false := by rw [beq_eq_false_iff_ne]; omega
      have HS := Lib.hid hs
      have IH := Lib.hid ih
      have HN := Lib.hid hn
      clear hl hs hn ih
      generalize pC l = p at *
      go_enter Try.func83, Try.ntmps83
      go_wp2_with fail
      go_loopw [3, 4] (fun s3 s4 wr => ∃ k : Nat, k ≤ l.length ∧ s4 = .int .i64 k ∧ s3 = .int .i64 (cornSum pC l k) ∧ Below w.heap.size w wr) (fun _ s4 _ => l.length - (intOf s4).toNat)
      case atStart => exact ⟨0, Nat.zero_le _, rfl, rfl, bz w⟩
      case round =>
        obtain ⟨k, hk, rfl, rfl, hB⟩ := hrel
        have HB := Lib.hid hB; clear hB
        obtain ⟨b1, b2⟩ := cornSum_bd HS.out k hk
        by_cases hlt : k < l.length
        · obtain ⟨bx, ox, rfl, hbx, hcx⟩ := HX.out.get (by omega)
          have gk := (HB.out.cell (p := ⟨bx, ox + k, none⟩) hbx).trans (hcx k hlt)
          have zk := Nat.lt_of_lt_of_le hbx HB.out.size
          have HC := Lib.hid hcx
          clear hcx
          obtain ⟨q1, q2⟩ := HS.out.at hlt
          have HSC := Lib.hid (cornSum_succ pC l k)
          have HLE := Lib.hid (fun hc => HS.out.all.less k hlt hc)
          have HLS := Lib.hid (fun wz h => less_any (.slice (some ⟨bx, ox, none⟩) l.length ca) l k wz h (by omega) hlt q1 (by omega))
          have HCB : Hid (cornB l k = (decide (k + 1 = l.length) || decide (elt l (k + 1) < elt l k))) := Lib.hid rfl
          have HR8 := Lib.hid (fun (hc : cornB l k = true) (u : Value) (wz : World) (h : RdI wz .i64 u (lessL l k)) => IH.out u (lessL l k) wz h (HLE.out hc).1 (by have := (HLE.out hc).2; have := HN.out; push_cast at this; omega))
          have HBD := Lib.hid (fun (hc : cornB l k = true) => And.intro (HLE.out hc).1.all.one (HLE.out hc).1.all.most)
          have hall : ∀ (hc : cornB l k = true), 1 ≤ pC (lessL l k) ∧ pC (lessL l k) ≤ 7700 := HBD.out
          clear hall
          by_cases e1 : k + 1 = l.length
          · have d1 : ((k : Int) + 1 == (l.length : Int)) = true := by rw [beq_iff_eq]; omega
            have hc : cornB l k = true := by rw [HCB.out, decide_eq_true e1]; rfl
            have HR9 := Lib.hid (HR8.out hc)
            obtain ⟨m1, m2⟩ := HBD.out hc
            rw [hc, if_pos rfl] at HSC
            have hk1 : k + 1 ≤ l.length := by omega
            clear hc HR8 HBD HCB HLE e1
            generalize cornSum pC l k = cs at *
            generalize pC (lessL l k) = pl at *
            generalize lessL l k = ll at *
            generalize elt l k = q at *
            go_upto_region 7 with fail
            go_quiet (fail)
            go_wp2_with fail
            refine (HLS.out _ (HX.out.mono (Below.drewN' _ HB.out))).mono ?_
            rintro e w4 ⟨u4, rfl, hu4, hB4⟩
            have HU4 := Lib.hid hu4
            have HB4 := Lib.hid (btr (Below.drewN' _ HB.out) hB4)
            clear hu4 hB4
            go_wp2_with fail
            refine (HR9.out _ _ HU4.out).mono ?_
            rintro e w5 ⟨rfl, hB5⟩
            have HB5 := Lib.hid (btr HB4.out hB5)
            clear hB5
            go_wp2_with fail
            go_roundw
            case rel => exact ⟨k + 1, hk1, by go_num, by rw [HSC.out], HB5.out⟩
            case measure => simp [intOf]; omega
          · have d1 : ((k : Int) + 1 == (l.length : Int)) = false := by rw [beq_eq_false_iff_ne]; omega
            have gk2 := (HB.out.cell (p := ⟨bx, ox + (k + 1), none⟩) hbx).trans (HC.out (k + 1) (by omega))
            have tst : (0:Int) ≤ (k:Int) + 1 ∧ (k:Int) + 1 < (l.length : Int) := by omega
            have hk1 : k + 1 ≤ l.length := by omega
            by_cases e2 : elt l (k + 1) < elt l k
            · have d2 : decide (elt l (k + 1) < elt l k) = true := by simp [e2]
              have hc : cornB l k = true := by rw [HCB.out, decide_eq_true e2, Bool.or_true]
              have HR9 := Lib.hid (HR8.out hc)
              obtain ⟨m1, m2⟩ := HBD.out hc
              rw [hc, if_pos rfl] at HSC
              clear hc HR8 HBD HCB HLE e1 HC
              generalize cornSum pC l k = cs at *
              generalize pC (lessL l k) = pl at *
              generalize lessL l k = ll at *
              generalize elt l k = q at *
              generalize elt l (k + 1) = q' at *
              go_upto_region 7 with fail
              go_quiet (fail)
              go_wp2_with fail
              refine (HLS.out _ (HX.out.mono (Below.drewN' _ HB.out))).mono ?_
              rintro e w4 ⟨u4, rfl, hu4, hB4⟩
              have HU4 := Lib.hid hu4
              have HB4 := Lib.hid (btr (Below.drewN' _ HB.out) hB4)
              clear hu4 hB4
              go_wp2_with fail
              refine (HR9.out _ _ HU4.out).mono ?_
              rintro e w5 ⟨rfl, hB5⟩
              have HB5 := Lib.hid (btr HB4.out hB5)
              clear hB5
              go_wp2_with fail
              go_roundw
              case rel => exact ⟨k + 1, hk1, by go_num, by rw [HSC.out], HB5.out⟩
              case measure => simp [intOf]; omega
            · have d2 : decide (elt l (k + 1) < elt l k) = false := by simp; omega
              have hc : cornB l k = false := by rw [HCB.out, decide_eq_false e2, decide_eq_false e1]; rfl
              rw [hc, if_neg (by simp), Int.add_zero] at HSC
              clear hc HR8 HBD HCB HLE e1 HC
              generalize cornSum pC l k = cs at *
              generalize elt l k = q at *
              generalize elt l (k + 1) = q' at *
              go_upto_region 7 with fail
              go_quiet (fail)
              go_wp2_with fail
              go_roundw
              case rel => exact ⟨k + 1, hk1, by go_num, by rw [HSC.out], Below.drewN' _ HB.out⟩
              case measure => simp [intOf]; omega
        · have hke : k = l.length := by omega
          have HF : Hid (cornSum pC l k = p) := Lib.hid (by rw [hke]; exact HP.out)
          go_wp2_with fail
          go_ret
          exact ⟨ret_int HF.out, HB.out⟩

/-- What Count returns: how many, and the error. -/
noncomputable def countE (l : List Int) : Int × Int := if shapeC l ≠ 0 then (0, shapeC l) else (pC l, 0)
set_option maxRecDepth 100000 in
set_option maxHeartbeats 800000 in
theorem rcount_any (x : Value) (l : List Int) (w : World) (hx0 : RdI w .i64 x l) (hl : l.length ≤ 1000) : Calls Try.prog 37 #[x] w (Post2N w (countE l)) := by
  have HX := Lib.hid hx0
  have HC := Lib.hid (fun wz h => rshape_any x l wz h hl)
  have HB := Lib.hid (fun (h0 : shapeC l = 0) wz h => countof_any 12 x l wz h (shapeC_zero h0) (by have := (shapeC_zero h0).sum; push_cast; omega))
  clear hx0
  by_cases hc : shapeC l = 0
  · have t1 : (shapeC l != 0) = false := by simp [hc]
    have HH : Hid (countE l = (pC l, 0)) := Lib.hid (by unfold countE; rw [if_neg (by simp [hc])])
    have HB2 := Lib.hid (HB.out hc)
    clear hc HB
    generalize shapeC l = q at *
    generalize countE l = L at *
    generalize pC l = p at *
    go_enter Try.func37, Try.ntmps37
    go_wp2_with fail
    refine (HC.out _ HX.out).mono ?_
    rintro e w2 ⟨rfl, hB⟩
    have HB1 := Lib.hid hB; clear hB
    go_wp2_with fail
    refine (HB2.out _ (HX.out.mono HB1.out)).mono ?_
    rintro e w3 ⟨rfl, hB⟩
    have HBB := Lib.hid (btr HB1.out hB)
    clear hB
    go_wp2_with fail
    go_ret2
    exact post2N_mk HH.out HBB.out
  · have t1 : (shapeC l != 0) = true := by simp [hc]
    have HH : Hid (countE l = (0, shapeC l)) := Lib.hid (by unfold countE; rw [if_pos hc])
    clear hc HB
    generalize shapeC l = q at *
    generalize countE l = L at *
    go_enter Try.func37, Try.ntmps37
    go_wp2_with fail
    refine (HC.out _ HX.out).mono ?_
    rintro e w2 ⟨rfl, hB⟩
    have HB1 := Lib.hid hB; clear hB
    go_wp2_with fail
    refine (HC.out _ (HX.out.mono HB1.out)).mono ?_
    rintro e w3 ⟨rfl, hB⟩
    have HB2 := Lib.hid (btr HB1.out hB); clear hB
    go_wp2_with fail
    go_ret2
    exact post2N_mk HH.out HB2.out

theorem fac_bd : ∀ k, k ≤ 12 → 1 ≤ facZ k ∧ facZ k ≤ 479001600 := by
  intro k hk
  have : (List.range 13).all (fun k => decide (1 ≤ facZ k) && decide (facZ k ≤ 479001600)) = true := by decide +kernel
  have := List.all_eq_true.1 this k (List.mem_range.2 (by omega))
  simpa using this
set_option maxRecDepth 100000 in
set_option maxHeartbeats 800000 in
theorem fac_any (n : Nat) (w : World) (hn : n ≤ 12) : Calls Try.prog 51 #[.int .i64 n] w fun e w' => e = .returned (.int .i64 (facZ n)) ∧ w = w' := by
  go_enter Try.func51, Try.ntmps51
  go_wp2_with fail
  go_loop [3, 4] (fun s3 s4 => ∃ k : Nat, 1 ≤ k ∧ (k ≤ n ∨ k = 1) ∧ s4 = .int .i64 ((k : Int) + 1) ∧ s3 = .int .i64 (facZ k)) (fun _ s4 => n + 1 - (intOf s4).toNat)
  case atStart => exact ⟨1, Nat.le_refl _, .inr rfl, rfl, rfl⟩
  case round =>
    obtain ⟨k, hk1, hk, rfl, rfl⟩ := hrel
    obtain ⟨f1, f2⟩ := fac_bd k (by omega)
    by_cases hlt : k + 1 ≤ n
    · have hlt2 : (k : Int) + 1 ≤ (n : Int) := by omega
      obtain ⟨f3, f4⟩ := fac_bd (k + 1) (by omega)
      have HF : Hid (facZ (k + 1) = facZ k * ((k : Int) + 1)) := Lib.hid rfl
      rw [HF.out] at f3 f4
      have HM : Hid (IntKind.i64.wrap (facZ k * ((k : Int) + 1)) = facZ k * ((k : Int) + 1)) := Lib.hid (IntWalk.i64_in _ (by omega))
      have hm := HM.out
      go_wp2_with fail
      go_round
      case rel => exact ⟨k + 1, by omega, by omega, by go_num, by rw [HF.out]⟩
      case measure => simp [intOf]; omega
    · have hlt2 : ¬ (k : Int) + 1 ≤ (n : Int) := by omega
      have HF : Hid (facZ k = facZ n) := Lib.hid (by
        rcases hk with h | h
        · rw [show k = n by omega]
        · subst h
          rcases Nat.eq_zero_or_pos n with h0 | h0
          · subst h0; rfl
          · rw [show n = 1 by omega])
      go_wp2_with fail
      go_ret
      exact ⟨ret_int HF.out, rfl⟩
end Go.Proofs.Ytnnfahdhmodejaa
