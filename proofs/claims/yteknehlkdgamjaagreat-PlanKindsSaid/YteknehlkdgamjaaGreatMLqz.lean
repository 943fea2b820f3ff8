/- PlanKinds, in terms of Works: whether a job is on a longest chain is what the document says; no condition. -/
import Derived.Test.YteknehlkdgamjaaGreatMGV
import Derived.Test.YteknehlkdgamjaaGreatMEn
namespace Go.Proofs.YteknehlkdgamjaaGreat
open Go.RowKit Go.Shelf

set_option maxRecDepth 100000 in
set_option maxHeartbeats 3200000 in
theorem plankinds_core (hwk : WorksSaid) (v : Value) (J : List Job) (j : Int) (w : World) (hx0 : RdJ w v J) :
    Calls Tryz.prog 5 #[.agg #[v], .int .i64 j] w fun e w' => e = .returned (.bool true) ∧ Below w.heap.size w w' := by
  have HWK := Lib.hid hwk
  unfold WorksSaid at HWK
  have HGR := Lib.hid (fun wz (h : Below w.heap.size w wz) => heavy_any v J wz (hx0.mono h))
  have HGS := Lib.hid (fun (h : heavyJ J = false) => (⟨great_sm (heavy_false h).1, (heavy_false h).2⟩ : SmJ J ∧ (errC J = 0 → J.length ≤ 9)))
  have HPK := Lib.hid (fun wz (h : Below w.heap.size w wz) (hs : SmJ J) => pkind_any v J j wz (hx0.mono h) hs)
  have HRK := Lib.hid (fun wz (h : Below w.heap.size w wz) (hs : SmJ J) (h9 : errC J = 0 → J.length ≤ 9) => rkind_any v J j wz (hx0.mono h) hs h9)
  obtain ⟨a, c, rfl⟩ := hx0.sl
  clear hx0 hwk
  obtain ⟨n, hn⟩ : ∃ n, n = J.length := ⟨_, rfl⟩
  rw [← hn] at HGR HPK HRK HGS ⊢
  clear hn
  unfold RetN at HPK HRK
  have HB0 := Lib.hid (bal (bz w) (.cells #[.slice a n c] 24))
  have gq : (w.alloc (.cells #[.slice a n c] 24)).cell? ⟨w.heap.size, 0, none⟩ = some (.slice a n c) := cnew rfl rfl
  have zq : w.heap.size < (w.alloc (.cells #[.slice a n c] 24)).heap.size := by simp
  generalize hgr : heavyJ J = gr at *
  clear hgr
  generalize kindV J j = kv at *
  generalize hkc : kindC J j = kc at *
  clear hkc
  go_enter Tryz.func5, Tryz.ntmps5
  go_wp2_with fail
  generalize w.alloc (.cells #[.slice a n c] 24) = w1 at *
  have HGQ := Lib.hid (fun (wz : World) (h : Below w1.heap.size w1 wz) => (⟨(h.cell (p := ⟨w.heap.size, 0, none⟩) zq).trans gq, Nat.lt_of_lt_of_le zq h.size⟩ : wz.cell? ⟨w.heap.size, 0, none⟩ = some (.slice a n c) ∧ w.heap.size < wz.heap.size))
  refine (HGR.out _ HB0.out).mono ?_
  rintro e w2 ⟨rfl, hB⟩
  have HB2 := Lib.hid hB
  clear hB gq zq
  cases gr with
  | true =>
    go_wp2_with fail
    refine (HWK.out _).mono ?_
    rintro e w3 ⟨rfl, hB⟩
    have HB3 := Lib.hid (btr HB0.out (btr HB2.out hB))
    clear hB
    go_wp2_with fail
    go_ret
    exact ⟨rfl, HB3.out⟩
  | false =>
    have HSM := Lib.hid (HGS.out (by first | trivial | rfl))
    obtain ⟨g2, z2⟩ := HGQ.out _ HB2.out
    go_wp2_with fail
    refine (HPK.out _ (btr HB0.out HB2.out) HSM.out.1).mono ?_
    rintro e w3 ⟨rfl, hB⟩
    have HB3 := Lib.hid (btr HB2.out hB)
    clear hB g2 z2
    obtain ⟨g3, z3⟩ := HGQ.out _ HB3.out
    go_wp2_with fail
    refine (HRK.out _ (btr HB0.out HB3.out) HSM.out.1 HSM.out.2).mono ?_
    rintro e w4 ⟨rfl, hB⟩
    have HB4 := Lib.hid (btr HB3.out hB)
    clear hB g3 z3
    go_wp2_with fail
    refine (HWK.out _).mono ?_
    rintro e w5 ⟨rfl, hB⟩
    have HB5 := Lib.hid (btr HB0.out (btr HB4.out hB))
    clear hB
    go_wp2_with fail
    go_ret
    exact ⟨rfl, HB5.out⟩
end Go.Proofs.YteknehlkdgamjaaGreat
