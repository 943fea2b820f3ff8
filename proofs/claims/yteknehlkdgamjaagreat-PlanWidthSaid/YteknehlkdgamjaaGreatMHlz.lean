/- long, of the laws: whether there are too many lists, or one is too long; no condition. -/
import Derived.Test.YteknehlkdgamjaaGreatMS9
import Derived.Test.YteknehlkdgamjaaGreatMGK
namespace Go.Proofs.YteknehlkdgamjaaGreat
open Go.RowKit Go.Shelf

set_option maxRecDepth 100000 in
set_option maxHeartbeats 1600000 in
theorem long_any (x : Value) (R : List (List Int)) (w : World) (hx0 : RdLL w x R) :
    Calls Tryz.prog 43 #[x] w fun e w' => e = .returned (.bool (longB R)) ∧ w = w' := by
  have HX := Lib.hid hx0
  have HLG := Lib.hid (show longB R = (decide (20 < R.length) || decide (20 < mxR R R.length)) from rfl)
  have HM0 := Lib.hid (show mxR R 0 = 0 from rfl)
  have HMS := Lib.hid (fun k => show ((mxR R (k + 1) : Nat) : Int) = max (mxR R k : Int) ((row R k).length : Int) by
    rw [show mxR R (k + 1) = max (mxR R k) (row R k).length from rfl]; omega)
  obtain ⟨a, c, rfl, _, hc0⟩ := hx0.form
  have HC := Lib.hid hc0
  clear hx0 hc0
  obtain ⟨n, hn⟩ : ∃ n, n = R.length := ⟨_, rfl⟩
  rw [← hn] at HLG HC ⊢
  clear hn HX
  generalize longB R = lb at *
  generalize hmx : mxR R = mx at *
  clear hmx
  go_enter Tryz.func43, Tryz.ntmps43
  by_cases h20 : 20 < n
  · have t1 : decide ((20 : Int) < (n : Int)) = true := decide_eq_true (by omega)
    have HE := HLG.out
    rw [decide_eq_true h20, Bool.true_or] at HE
    subst HE
    clear h20
    go_wp2_with fail
    go_ret
    exact ⟨rfl, rfl⟩
  · have t1 : decide ((20 : Int) < (n : Int)) = false := decide_eq_false (by omega)
    have hn20 : n ≤ 20 := by omega
    have HE := HLG.out
    rw [decide_eq_false h20, Bool.false_or] at HE
    have HE2 := Lib.hid HE
    clear h20 HE HLG
    go_wp2_with fail
    clear t1
    go_loopw [3, 4] (fun s3 s4 wr => ∃ k : Nat, k ≤ n ∧ s3 = .int .i64 (mx k) ∧ s4 = .int .i64 k ∧ wr = w) (fun _ s4 _ => n - (intOf s4).toNat)
    case atStart => exact ⟨0, Nat.zero_le _, by rw [HM0.out]; rfl, rfl, rfl⟩
    case round =>
      obtain ⟨k, hk, rfl, rfl, hw⟩ := hrel
      subst hw
      by_cases hlt : k < n
      · obtain ⟨b, o, rfl, hb, hc⟩ := HC.out (by omega)
        obtain ⟨e, ge, hr⟩ := hc k hlt
        obtain ⟨a', c', hu⟩ := exI hr _ rfl
        subst hu
        have HS := Lib.hid (HMS.out k)
        clear hc hr
        generalize (row R k).length = y at *
        go_wp2_with fail
        go_roundw
        case rel => exact ⟨k + 1, by omega, by rw [HS.out], by go_num, trivial⟩
        case measure => simp [intOf]; omega
      · have hkn : k = n := by omega
        subst hkn
        by_cases hm : 20 < mx k
        · have HE := HE2.out
          rw [decide_eq_true hm] at HE
          subst HE
          have t2 : decide ((20 : Int) < (mx k : Int)) = true := decide_eq_true (by omega)
          go_wp2_with fail
          go_ret
          exact ⟨rfl, rfl⟩
        · have HE := HE2.out
          rw [decide_eq_false hm] at HE
          subst HE
          have t2 : decide ((20 : Int) < (mx k : Int)) = false := decide_eq_false (by omega)
          go_wp2_with fail
          go_ret
          exact ⟨rfl, rfl⟩
end Go.Proofs.YteknehlkdgamjaaGreat
