/- Ends: where a value can be; every row of at most 1000 valves. -/
import Derived.Test.YtdnaipiiponhpaaW8
namespace Go.Proofs.Ytdnaipiiponhpaa
open Go.RowKit Go.Shelf

/-- The places to which a value can come, up to a place. -/
def endsK (p : Nat) (V : List (Int × Int)) (place k : Nat) : List Int := ((List.range k).filter (endsB p V place)).map fun i => ((i : Nat) : Int)
theorem endsK_succ (p : Nat) (V : List (Int × Int)) (place k : Nat) : endsK p V place (k + 1) = if endsB p V place k then endsK p V place k ++ [(k : Int)] else endsK p V place k := by
  unfold endsK
  rw [List.range_succ, List.filter_append]
  cases h : endsB p V place k <;> simp [h]
theorem endsK_le (p : Nat) (V : List (Int × Int)) (place k : Nat) : (endsK p V place k).length ≤ k := by
  unfold endsK
  have := List.length_filter_le (endsB p V place) (List.range k)
  simp at this ⊢
  exact this
/-- Ends' answers. -/
def endsE (p : Int) (V : List (Int × Int)) (place : Int) : Int := if checkR p V ≠ 0 then checkR p V else if outB 0 (p - 1) place then 2 else 0
def endsL (p : Int) (V : List (Int × Int)) (place : Int) : List Int := if checkR p V ≠ 0 then [] else if outB 0 (p - 1) place then [] else endsK p.toNat V place.toNat p.toNat

set_option maxRecDepth 100000 in
set_option maxHeartbeats 1000000 in
theorem ends_any (p place : Int) (x : Value) (V : List (Int × Int)) (w : World) (hx0 : RdP w x V) (hl : V.length ≤ 1000) :
    Calls Try.prog 39 #[.agg #[.int .i64 p, x], .int .i64 place] w fun e w' => ∃ v, e = .returned (.tuple #[v, .int .i64 (endsE p V place)]) ∧ RdI w' .i64 v (endsL p V place) ∧ Below w.heap.size w w' := by
  obtain ⟨a, ca, rfl, hca, hca2, _⟩ := hx0.form
  unfold endsE endsL
  by_cases h : checkR p V = 0
  · have hc0 : ¬ (checkR p V ≠ 0) := by simpa using h
    simp only [if_neg hc0]
    clear hc0
    obtain ⟨n, rfl, hV⟩ := cond_row h
    clear h
    have hp1 := hV.p1; have hp8 := hV.p8; have h40 := hV.len
    have H0 := Lib.hid (open_ok n _ V _ (hx0.mono (bal (bz w) (.cells #[.int .i64 n, .slice a V.length ca] 24))) hV)
    have hw : IntKind.i64.wrap ((n : Int) - 1) = (n : Int) - 1 := IntWalk.i64_in _ (by omega)
    have HW : ∀ w2 : World, Calls Try.prog 62 #[.int .i64 0, .int .i64 ((n : Int) - 1), .slice (some ⟨w2.heap.size, 0, none⟩) 1 1] (w2.alloc (.cells #[.int .i64 place] 3)) fun e w' => e = .returned (.bool (!outB 0 ((n : Int) - 1) place)) ∧ Below (w2.alloc (.cells #[.int .i64 place] 3)).heap.size (w2.alloc (.cells #[.int .i64 place] 3)) w' := by
      intro w2
      have := within_any (.slice (some ⟨w2.heap.size, 0, none⟩) 1 1) [place] 0 ((n : Int) - 1) (w2.alloc (.cells #[.int .i64 place] 3)) (one_slice (cnew rfl rfl) (by simp)) (by simp)
      simpa using this
    have HWW := Lib.hid HW; clear HW
    cases ho : outB 0 ((n : Int) - 1) place
    · rw [if_neg (by simp), if_neg (by simp)]
      rw [ho] at HWW
      have hpl : 0 ≤ place ∧ place ≤ (n : Int) - 1 := by
        simp only [outB, decide_eq_false_iff_not] at ho; omega
      obtain ⟨q, rfl⟩ : ∃ q : Nat, place = q := ⟨place.toNat, by omega⟩
      have hqn : q < n := by omega
      rw [show ((n : Nat) : Int).toNat = n by omega, show ((q : Nat) : Int).toNat = q by omega]
      clear ho hpl
      obtain ⟨i0, hi, hz0, hz1, hz2⟩ := info_parts Try.info3'
      go_enter Try.func39, Try.ntmps39
      go_wp2_with fail
      refine H0.out.mono ?_
      rintro e w2 ⟨bb, rfl, hb0, hb, hB2⟩
      have hB3 : Below w.heap.size w w2 := btr (bal (bz _) _) hB2
      obtain ⟨q0, q1, q2⟩ := id hb
      go_wp2_with fail
      refine (HWW.out w2).mono ?_
      rintro e w3 ⟨rfl, hB4⟩
      have hB5 : Below w2.heap.size w2 w3 := btr (bal (bz _) _) hB4
      have hb3 := hb.mono hB5
      have hB6 := btr hB3 hB5
      have hx3 := hx0.mono hB6
      clear q0 q1 q2
      obtain ⟨q0, q1, q2⟩ := id hb3
      have hz6 := hB6.size
      go_wp2
      go_loopw [8, 9, 35, 36, 37, 38, 39, 40, 41, 42, 43, 44, 45, 46] (fun o _ i _ _ _ _ _ _ _ _ _ _ _ wr => ∃ k : Nat, k ≤ n ∧ i = .int .i64 k ∧ Below w3.heap.size w3 wr ∧ wr.ownsRow w3.heap.size 3 1 o (endsK n V q k).length ((endsK n V q k).map (Value.int .i64)))
        (fun _ _ i _ _ _ _ _ _ _ _ _ _ _ _ => ((n : Int) - intOf i).toNat)
      case atStart => exact ⟨0, Nat.zero_le _, rfl, bz _, World.ownsRow_nil _ _ _ _⟩
      case round =>
        obtain ⟨k, hk, rfl, hbr, hor⟩ := hrel
        have hkl := endsK_le n V q k
        have hO := Lib.hid hor; clear hor
        by_cases hkp : k < n
        · have hwz := hbr.size
          go_wp2_with fail
          refine (bends_any bb n _ V q k wr (hb3.mono hbr) (hx3.mono hbr) hV hqn hkp).mono ?_
          rintro e w4 ⟨rfl, hB4⟩
          have ho4 := owns_kept hO.out hB4
          have hB7 : Below w3.heap.size w3 w4 := btr hbr hB4
          have hz5 := hB7.size
          have hst := endsK_succ n V q k
          generalize hv : endsB n V q k = y at *
          have HO4 := Lib.hid ho4; clear ho4 hO
          cases y
          · rw [if_neg (by simp)] at hst
            have HST := Lib.hid hst; clear hst hv
            go_wp2
            exact ⟨⟨k + 1, by omega, by simp, hB7, by rw [HST.out]; exact HO4.out⟩, by simp [intOf]; omega⟩
          · rw [if_pos rfl] at hst
            have HST := Lib.hid hst; clear hst hv
            go_wp2_with (at_builtin; refine wpList_append_own _ rfl _ _ 34 rfl w3.heap.size 3 i0 (.int .i64 0) 1 8 Try.underlying34 hi hz0 hz1 hz2 rfl (by decide) _ _ _ rfl (HO4.out.alloc _) ⟨w4.heap.size, 0, none⟩ 1 1 [.int .i64 k] rfl rfl (cell_one_new _ _ _) (one_int _ _) (by simp only [maxLen]; omega) (by omega) (by simp; omega) ?_)
            intro v' w' hown' hgrow hnil
            have hB8 : Below w3.heap.size w3 w' := append_below (bal hB7 _) (HO4.out.alloc _) hgrow (Nat.le_refl _)
            have HOW := Lib.hid hown'; clear hown' hgrow hnil
            go_wp2
            refine ⟨⟨k + 1, by omega, by simp, hB8, ?_⟩, by simp [intOf]; omega⟩
            rw [HST.out, List.length_append, List.map_append]
            exact HOW.out
        · obtain rfl : k = n := by omega
          go_wp2
          go_ret2
          exact ⟨_, rfl, RdI.of_owns hO.out, btr hB6 hbr⟩
    · rw [if_pos rfl, if_pos rfl]
      rw [ho] at HWW
      clear ho
      go_enter Try.func39, Try.ntmps39
      go_wp2_with fail
      refine H0.out.mono ?_
      rintro e w2 ⟨bb, rfl, hb0, hb, hB2⟩
      have hB3 : Below w.heap.size w w2 := btr (bal (bz _) _) hB2
      obtain ⟨q0, q1, q2⟩ := id hb
      go_wp2_with fail
      refine (HWW.out w2).mono ?_
      rintro e w3 ⟨rfl, hB4⟩
      have hB5 : Below w2.heap.size w2 w3 := btr (bal (bz _) _) hB4
      go_wp2
      go_ret2
      exact ⟨_, rfl, rdI_nil _ _, btr hB3 hB5⟩
  · simp only [if_pos (show checkR p V ≠ 0 from h)]
    have H0 := Lib.hid (open_no p _ V _ (hx0.mono (bal (bz w) (.cells #[.int .i64 p, .slice a V.length ca] 24))) hl h)
    generalize checkR p V = c at *
    have e0 : (c != 0) = true := by simpa using h
    clear h
    go_enter Try.func39, Try.ntmps39
    go_wp2_with fail
    refine H0.out.mono ?_
    rintro e w2 ⟨rfl, hB2⟩
    go_wp2
    go_ret2
    exact ⟨_, rfl, rdI_nil _ _, btr (bal (bz _) _) hB2⟩
end Go.Proofs.Ytdnaipiiponhpaa
