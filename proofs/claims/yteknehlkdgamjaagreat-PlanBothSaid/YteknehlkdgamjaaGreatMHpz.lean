/- Valid works without a circle; no condition. -/
import Derived.Test.YteknehlkdgamjaaGreatMEn
import Derived.Test.YteknehlkdgamjaaGreatMGB
namespace Go.Proofs.YteknehlkdgamjaaGreat
open Go.RowKit Go.Shelf

def fineJ (J : List Job) : Bool := !greatJ J && (errC J == 0)
theorem fineJ_true {J : List Job} (h : fineJ J = true) : SmJ J ∧ errC J = 0 := by
  unfold fineJ at h
  simp only [Bool.and_eq_true, Bool.not_eq_true', beq_iff_eq] at h
  exact ⟨great_sm h.1, h.2⟩
set_option maxRecDepth 100000 in
set_option maxHeartbeats 1600000 in
theorem fine_any (v : Value) (J : List Job) (w : World) (hx0 : RdJ w v J) :
    Calls Tryz.prog 33 #[.agg #[v]] w fun e w' => e = .returned (.bool (fineJ J)) ∧ Below w.heap.size w w' := by
  have HGR := Lib.hid (fun wz (h : Below w.heap.size w wz) => great_any v J wz (hx0.mono h))
  have HGS := Lib.hid (fun h => great_sm (J := J) h)
  have HER := Lib.hid (fun wz (h : Below w.heap.size w wz) (hs : SmJ J) => error_any v J wz (hx0.mono h) hs)
  obtain ⟨a, c, rfl⟩ := hx0.sl
  clear hx0
  unfold fineJ
  obtain ⟨n, hn⟩ : ∃ n, n = J.length := ⟨_, rfl⟩
  rw [← hn] at HGR HER ⊢
  clear hn
  have HB0 := Lib.hid (bal (bz w) (.cells #[.slice a n c] 24))
  have gq : (w.alloc (.cells #[.slice a n c] 24)).cell? ⟨w.heap.size, 0, none⟩ = some (.slice a n c) := cnew rfl rfl
  have zq : w.heap.size < (w.alloc (.cells #[.slice a n c] 24)).heap.size := by simp
  generalize greatJ J = gr at *
  generalize errC J = eq at *
  go_enter Tryz.func33, Tryz.ntmps33
  go_wp2_with fail
  generalize w.alloc (.cells #[.slice a n c] 24) = w1 at *
  refine (HGR.out _ HB0.out).mono ?_
  rintro e w2 ⟨rfl, hB⟩
  have HB2 := Lib.hid hB
  have g2 := (hB.cell (p := ⟨w.heap.size, 0, none⟩) zq).trans gq
  have z2 := Nat.lt_of_lt_of_le zq hB.size
  clear hB gq zq
  cases gr with
  | true =>
    go_wp2_with fail
    go_ret
    exact ⟨rfl, btr HB0.out HB2.out⟩
  | false =>
    have HSM := Lib.hid (HGS.out (by first | trivial | rfl))
    go_wp2_with fail
    refine (HER.out _ (btr HB0.out HB2.out) HSM.out).mono ?_
    rintro e w3 ⟨rfl, hB⟩
    have HB3 := Lib.hid (btr HB0.out (btr HB2.out hB))
    clear hB
    go_wp2_with fail
    go_ret
    exact ⟨rfl, HB3.out⟩
end Go.Proofs.YteknehlkdgamjaaGreat
