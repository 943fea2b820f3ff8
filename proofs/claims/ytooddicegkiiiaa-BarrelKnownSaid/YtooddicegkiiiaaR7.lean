/- The document's Clash. -/
import Derived.Test.YtooddicegkiiiaaR6
import Derived.Test.YtooddicegkiiiaaW7
namespace Go.Proofs.Ytooddicegkiiiaa
open Go.RowKit Go.Shelf

set_option maxRecDepth 100000 in
set_option maxHeartbeats 2000000 in
theorem rclash_any (x : Value) (V : List (Int × Int)) (w : World) (hx0 : RdP w x V) (hl : V.length ≤ 1000) :
    Calls Try.prog 34 #[x] w fun e w' => e = .returned (.tuple #[.int .i64 (clA V), .int .i64 (clK V), .int .i64 (clE' V)]) ∧ Below w.heap.size w w' := by
  obtain ⟨a, ca, rfl, hca, hca2, hx⟩ := hx0.form
  clear hca2
  have HK := Lib.hid (fun w' hx => rcheck_any (.slice a V.length ca) V w' hx hl)
  by_cases hc : checkP V = 0
  · have hV := okPins_of hc
    have h5 := hV.l5
    have HF : Hid (Free V → clA V = 0 ∧ clK V = 0 ∧ clE' V = 5) := Lib.hid (fun h => by unfold clA clK clE'; rw [if_pos hc, if_pos hc, if_pos hc, if_pos h, clP_free h]; exact ⟨rfl, rfl, rfl⟩)
    have HC : Hid (∀ i k : Nat, FirstCl V i k → clA V = i ∧ clK V = k ∧ clE' V = 0) := Lib.hid (fun i k h => by
      unfold clA clK clE'
      rw [if_pos hc, if_pos hc, if_pos hc, if_neg (fun hf => by have := hf i k h.lt h.len; rw [h.cl] at this; cases this), clP_of h]
      exact ⟨rfl, rfl, rfl⟩)
    rw [hc] at HK
    have HV := Lib.hid hV
    clear hc hV
    generalize clA V = rA at *
    generalize clK V = rK at *
    generalize clE' V = rE at *
    have HX0 := Lib.hid hx0; clear hx0
    go_enter Try.func34, Try.ntmps34
    go_wp2_with fail
    refine (HK.out _ HX0.out).mono ?_
    rintro e w2 ⟨rfl, hB2⟩
    have HB2 := Lib.hid hB2; clear hB2
    go_wp2_with fail
    go_loopw [5, 6] (fun i _ wr => ∃ k : Nat, k ≤ V.length ∧ i = .int .i64 k ∧ (∀ a b : Nat, a < b → b < V.length → a < k → clB (pin V a) (pin V b) = false) ∧ Below w2.heap.size w2 wr) (fun i _ _ => V.length - (intOf i).toNat)
    case atStart => exact ⟨0, Nat.zero_le _, rfl, fun a b _ _ h => absurd h (Nat.not_lt_zero _), bz _⟩
    case round =>
      obtain ⟨i, hi, rfl, hno, hB⟩ := hrel
      have HNO := Lib.hid hno; have HB := Lib.hid hB
      clear hno hB
      by_cases hlt : i < V.length
      · go_wp2_with fail
        go_loopw [6] (fun s wr => ∃ k : Nat, i < k ∧ k ≤ V.length ∧ s = .int .i64 k ∧ (∀ b : Nat, i < b → b < k → clB (pin V i) (pin V b) = false) ∧ Below w2.heap.size w2 wr) (fun s _ => V.length - (intOf s).toNat)
        case atStart => exact ⟨i + 1, by omega, by omega, by go_num, fun b h1 h2 => by omega, HB.out⟩
        case round =>
          clear HB
          obtain ⟨k, hik, hk, rfl, hnk, hB⟩ := hrel
          have HNK := Lib.hid hnk; have HB := Lib.hid hB
          clear hnk hB
          by_cases hkl : k < V.length
          · obtain ⟨bx, ox, rfl, hbx, hcx⟩ := hx (by omega)
            have gm0 : wr.cell? ⟨bx, ox + i * 2, none⟩ = some (Value.int .i64 (pin V i).1) := ((btr HB2.out HB.out).cell hbx).trans (hcx i hlt).1
            have gm1 : wr.cell? ⟨bx, ox + i * 2 + 1, none⟩ = some (Value.int .i64 (pin V i).2) := ((btr HB2.out HB.out).cell hbx).trans (hcx i hlt).2
            have gn0 : wr.cell? ⟨bx, ox + k * 2, none⟩ = some (Value.int .i64 (pin V k).1) := ((btr HB2.out HB.out).cell hbx).trans (hcx k hkl).1
            have gn1 : wr.cell? ⟨bx, ox + k * 2 + 1, none⟩ = some (Value.int .i64 (pin V k).2) := ((btr HB2.out HB.out).cell hbx).trans (hcx k hkl).2
            obtain ⟨p1, p2, p3, p4⟩ := HV.out.v.at hlt
            obtain ⟨q1, q2, q3, q4⟩ := HV.out.v.at hkl
            have HCL := Lib.hid (fun w' => clashes_any (pin V i) (pin V k) w' p1 p2 p3 p4 q1 q2 q3 q4)
            unfold kv at HCL
            clear hx hcx p1 p2 p3 p4 q1 q2 q3 q4
            have HN : Hid (clB (pin V i) (pin V k) = false → ∀ b : Nat, i < b → b < k + 1 → clB (pin V i) (pin V b) = false) := Lib.hid (fun h b h1 h2 => by
              by_cases e : b = k
              · subst e; exact h
              · exact HNK.out b h1 (by omega))
            have HY : Hid (clB (pin V i) (pin V k) = true → FirstCl V i k) := Lib.hid (fun h => ⟨hik, hkl, h, fun a b h1 h2 h3 => by
              by_cases e : a < i
              · rw [HNO.out a b h1 h2 e] at h3; cases h3
              · by_cases e2 : a = i
                · subst e2
                  by_cases e3 : b < k
                  · rw [HNK.out b h1 e3] at h3; cases h3
                  · omega
                · omega⟩)
            generalize clB (pin V i) (pin V k) = cb at *
            generalize pin V i = p at *
            generalize pin V k = q at *
            obtain ⟨pa, pb⟩ := p
            obtain ⟨qa, qb⟩ := q
            simp only at *
            have z2 : bx < wr.heap.size := World.block_lt_of_cell? wr _ gm0
            go_wp2_with fail
            refine wp_region_flow [] [([0, 1, 2, 3, 4, 5, 6, 7], 8, true)] [] (by kernel_rfl) (by kernel_rfl) ?_
            intro wc hBc hh
            have d0 := (hBc.cell z2).trans gm0
            have d1 := (hBc.cell z2).trans gm1
            have d2 := (hBc.cell z2).trans gn0
            have d3 := (hBc.cell z2).trans gn1
            have zc : bx < wc.heap.size := Nat.lt_of_lt_of_le z2 hBc.size
            have hL := @Later.cell wc
            have HBc := Lib.hid hBc
            clear hh hBc gm0 gm1 gn0 gn1
            simp only [flowP, flow, pickL, List.getElem?_cons_succ, List.getElem?_cons_zero]
            refine wpQuiet_nil ?_
            repeat (go_big_quiet_step (fail))
            refine wpQuiet_nil ?_
            go_wp2_with fail
            refine (HCL.out _).mono ?_
            rintro e w5 ⟨rfl, hB5⟩
            go_wp2
            refine seg_grow ⟨⟨_, hB5⟩, rfl⟩ ?_
            refine wpQuiet_nil ?_
            refine only_done ?_
            have HB5 := Lib.hid (btr HB.out (btr HBc.out hB5))
            clear d0 d1 d2 d3 hL hB5
            cases cb
            · have HNN := Lib.hid (HN.out rfl)
              go_wp2_with fail
              go_roundw
              case rel => exact ⟨k + 1, by omega, by omega, by go_num, HNN.out, HB5.out⟩
              case measure => simp [intOf]; omega
            · obtain ⟨h1, h2, h3⟩ := HC.out i k (HY.out rfl)
              have H1 := Lib.hid h1; have H2 := Lib.hid h2; have H3 := Lib.hid h3
              clear h1 h2 h3
              go_wp2_with fail
              go_ret3
              exact ⟨by rw [H1.out, H2.out, H3.out]; rfl, btr HB2.out HB5.out⟩
          · go_wp2_with fail
            go_roundw
            case rel =>
              refine ⟨i + 1, by omega, by go_num, fun a b h1 h2 h3 => ?_, HB.out⟩
              by_cases e : a < i
              · exact HNO.out a b h1 h2 e
              · obtain rfl : a = i := by omega
                exact HNK.out b h1 (by omega)
            case measure => simp [intOf]; omega
      · have hfr : Free V := fun a b h1 h2 => HNO.out a b h1 h2 (by omega)
        obtain ⟨h1, h2, h3⟩ := HF.out hfr
        have H1 := Lib.hid h1; have H2 := Lib.hid h2; have H3 := Lib.hid h3
        clear h1 h2 h3 hfr
        go_wp2_with fail
        go_ret3
        exact ⟨by rw [H1.out, H2.out, H3.out]; rfl, btr HB2.out HB.out⟩
  · have e1 : clA V = 0 := by unfold clA; rw [if_neg hc]
    have e2 : clK V = 0 := by unfold clK; rw [if_neg hc]
    have e3 : clE' V = checkP V := by unfold clE'; rw [if_neg hc]
    rw [e1, e2, e3]; clear e1 e2 e3
    have hcb : (checkP V != 0) = true := by simpa using hc
    have hce : (checkP V == 0) = false := by simpa using hc
    clear hc
    generalize checkP V = q at *
    go_enter Try.func34, Try.ntmps34
    go_wp2_with fail
    refine (HK.out _ hx0).mono ?_
    rintro e w2 ⟨rfl, hB2⟩
    go_wp2_with fail
    refine (HK.out _ (hx0.mono hB2)).mono ?_
    rintro e w3 ⟨rfl, hB3⟩
    go_wp2_with fail
    go_ret3
    exact ⟨rfl, btr hB2 hB3⟩
end Go.Proofs.Ytooddicegkiiiaa
