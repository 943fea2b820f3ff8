/- CircleError of the document (the first seat alone has it). -/
import Derived.Test.YteknehlkdgamjaaMGB
namespace Go.Proofs.Yteknehlkdgamjaa
open Go.RowKit Go.Shelf

set_option maxRecDepth 100000 in
set_option maxHeartbeats 800000 in
theorem cerror_any (v : Value) (J : List Job) (w : World) (hx0 : RdJ w v J) (hs : SmJ J) :
    Calls Try.prog 10 #[.agg #[v]] w fun e w' => e = .returned (.int .i64 (cirC J)) ∧ Below w.heap.size w w' := by
  obtain ⟨a, c, rfl⟩ := hx0.sl
  have HC := Lib.hid (fun wz (h : Below w.heap.size w wz) => rwork_any _ J wz (hx0.mono h) hs)
  have HB0 := Lib.hid (bal (bz w) (.cells #[.slice a J.length c] 24))
  by_cases h0 : workC J = 0
  · have HH := Lib.hid (fun wz (h : Below w.heap.size w wz) => hascircle_any _ J wz (hx0.mono h) (fine_of h0))
    have HE : Hid (cirC J = if cir J then 0 else 5) := Lib.hid (by unfold cirC; rw [if_pos h0])
    rw [h0] at HC
    clear h0 hx0 hs
    generalize cirC J = q at *
    generalize J.length = n at *
    generalize hg : cir J = g at *
    clear hg
    go_enter Try.func10, Try.ntmps10
    go_wp2_with fail
    have gq : (w.alloc (.cells #[.slice a n c] 24)).cell? ⟨w.heap.size, 0, none⟩ = some (.slice a n c) := cnew rfl rfl
    have zq : w.heap.size < (w.alloc (.cells #[.slice a n c] 24)).heap.size := by simp
    generalize w.alloc (.cells #[.slice a n c] 24) = w3 at *
    refine (HC.out _ HB0.out).mono ?_
    rintro e w4 ⟨rfl, hB⟩
    have HB4 := Lib.hid (btr HB0.out hB)
    have gq4 := (hB.cell (p := ⟨w.heap.size, 0, none⟩) zq).trans gq
    clear hB gq zq
    go_wp2_with fail
    refine (HH.out _ HB4.out).mono ?_
    rintro e w5 ⟨rfl, hB⟩
    have HB5 := Lib.hid (btr HB4.out hB)
    clear hB gq4
    cases g
    · go_wp2_with fail
      go_ret
      exact ⟨ret_int HE.out.symm, HB5.out⟩
    · go_wp2_with fail
      go_ret
      exact ⟨ret_int HE.out.symm, HB5.out⟩
  · have HE : Hid (cirC J = workC J) := Lib.hid (by unfold cirC; rw [if_neg h0])
    have t1 : (workC J != 0) = true := by simp [h0]
    clear h0 hx0 hs
    generalize cirC J = q at *
    generalize workC J = p at *
    generalize J.length = n at *
    go_enter Try.func10, Try.ntmps10
    go_wp2_with fail
    have gq : (w.alloc (.cells #[.slice a n c] 24)).cell? ⟨w.heap.size, 0, none⟩ = some (.slice a n c) := cnew rfl rfl
    have zq : w.heap.size < (w.alloc (.cells #[.slice a n c] 24)).heap.size := by simp
    generalize w.alloc (.cells #[.slice a n c] 24) = w3 at *
    refine (HC.out _ HB0.out).mono ?_
    rintro e w4 ⟨rfl, hB⟩
    have HB4 := Lib.hid (btr HB0.out hB)
    have gq4 := (hB.cell (p := ⟨w.heap.size, 0, none⟩) zq).trans gq
    clear hB gq zq
    go_wp2_with fail
    refine (HC.out _ HB4.out).mono ?_
    rintro e w5 ⟨rfl, hB⟩
    have HB5 := Lib.hid (btr HB4.out hB)
    clear hB gq4
    go_wp2_with fail
    go_ret
    exact ⟨ret_int HE.out.symm, HB5.out⟩
end Go.Proofs.Yteknehlkdgamjaa
