/- Times of the program; lists of at most 1000 wants. -/
import Derived.Test.YtjajdpggoggoiaaT9
namespace Go.Proofs.Ytjajdpggoggoiaa
open Go.RowKit Go.Shelf

def timsL (R : Int) (W : List Int) : List Int := if checkD R W = 0 then timesP R W else []
set_option maxRecDepth 100000 in
set_option maxHeartbeats 4000000 in
theorem ptimes_any (R : Int) (x : Value) (W : List Int) (w : World) (hx0 : RdI w .i64 x W) (hl : W.length ≤ 1000) :
    Calls Try.prog 30 #[.agg #[.int .i64 R, x]] w fun e w' => ∃ u, e = .returned (.tuple #[u, .int .i64 (checkD R W)]) ∧ RdI w' .i64 u (timsL R W) ∧ Below w.heap.size w w' := by
  obtain ⟨a, c, rfl⟩ := hx0.ex _ rfl
  have HX := Lib.hid hx0
  unfold timsL
  by_cases hc : checkD R W = 0
  · have HO := Lib.hid (fun wz hx => open_ok R (.slice a W.length c) W wz hx hc)
    have hd := okD_of hc
    unfold OpenOk at HO
    have HT := Lib.hid (fun b wz (hI : IsBench wz b R W zeros) => times_any b R W zeros wz hI hd)
    rw [if_pos hc]
    rw [hc]
    clear hc hx0 hd
    go_enter Try.func30, Try.ntmps30
    go_wp2_with fail
    refine (HO.out _ (HX.out.mono (bal (bz _) _))).mono ?_
    rintro e w2 ⟨b, rfl, hb, hD, hB2⟩
    have HB2 := Lib.hid (btr (bal (bz w) _) hB2); have HD := Lib.hid hD
    clear hB2 hD hb
    go_wp2_with fail
    refine (HT.out b w2 HD.out).mono ?_
    rintro e w3 ⟨u, rfl, hu, hB3⟩
    have HU := Lib.hid hu; have HB3 := Lib.hid hB3
    clear hu hB3
    go_wp2_with fail
    go_ret2
    exact ⟨u, rfl, HU.out, btr HB2.out HB3.out⟩
  · have HO := Lib.hid (fun wz hx => open_no R (.slice a W.length c) W wz hx hl hc)
    rw [if_neg hc]
    have t1 : (checkD R W != 0) = true := by simpa using hc
    generalize checkD R W = q at *
    clear hc hx0
    go_enter Try.func30, Try.ntmps30
    go_wp2_with fail
    refine (HO.out _ (HX.out.mono (bal (bz _) _))).mono ?_
    rintro e w2 ⟨rfl, hB2⟩
    have HB2 := Lib.hid (btr (bal (bz w) _) hB2)
    clear hB2
    go_wp2_with fail
    go_ret2
    exact ⟨_, rfl, rdI_nil _ _, HB2.out⟩
end Go.Proofs.Ytjajdpggoggoiaa
