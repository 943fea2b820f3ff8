/- PlanStarts, in terms of Works: begins, length and latest days are what the document says; no condition. -/
import Derived.Test.YteknehlkdgamjaaGreatMGV
import Derived.Test.YteknehlkdgamjaaGreatMEn
namespace Go.Proofs.YteknehlkdgamjaaGreat
open Go.RowKit Go.Shelf

set_option maxRecDepth 100000 in
set_option maxHeartbeats 3200000 in
theorem planstarts_core (hwk : WorksSaid) (v : Value) (J : List Job) (day : Int) (w : World) (hx0 : RdJ w v J) :
    Calls Tryz.prog 3 #[.agg #[v], .int .i64 day] w fun e w' => e = .returned (.bool true) ∧ Below w.heap.size w w' := by
  have HWK := Lib.hid hwk
  unfold WorksSaid at HWK
  have HGR := Lib.hid (fun wz (h : Below w.heap.size w wz) => great_any v J wz (hx0.mono h))
  have HGS := Lib.hid (fun h => great_sm (J := J) h)
  have HPS := Lib.hid (fun wz (h : Below w.heap.size w wz) (hs : SmJ J) => pstarts_any v J wz (hx0.mono h) hs)
  have HRS := Lib.hid (fun wz (h : Below w.heap.size w wz) (hs : SmJ J) => rstarts_any v J wz (hx0.mono h) hs)
  have HPL := Lib.hid (fun wz (h : Below w.heap.size w wz) (hs : SmJ J) => plength_any v J wz (hx0.mono h) hs)
  have HRL := Lib.hid (fun wz (h : Below w.heap.size w wz) (hs : SmJ J) => rlength_any v J wz (hx0.mono h) hs)
  have HPT := Lib.hid (fun wz (h : Below w.heap.size w wz) (hs : SmJ J) (h1 : -(2 ^ 42) ≤ day) (h2 : day ≤ 2 ^ 42) => platest_any v J day wz (hx0.mono h) hs h1 h2)
  have HRT := Lib.hid (fun wz (h : Below w.heap.size w wz) (hs : SmJ J) (h1 : -(2 ^ 42) ≤ day) (h2 : day ≤ 2 ^ 42) => rlatest_any v J day wz (hx0.mono h) hs h1 h2)
  obtain ⟨a, c, rfl⟩ := hx0.sl
  clear hx0 hwk
  have HST : Hid (SmJ J → (staL J).length ≤ 1000) := Lib.hid (fun h => by have := h.1; unfold staL; split <;> simp [staP_len]; omega)
  have HLT : Hid (SmJ J → (latL J day).length ≤ 1000) := Lib.hid (fun h => by have := h.1; unfold latL; (repeat' split) <;> simp [fnL] <;> omega)
  have HRA := Lib.hid (fun x y wz (h1 : RdP wz x (staL J)) (h2 : RdP wz y (staL J)) (hl : (staL J).length ≤ 1000) => (show Calls Tryz.prog 21 #[x, y] wz fun e w' => e = .returned (.bool true) ∧ Below wz.heap.size wz w' from by have h := ranges_any x y _ _ wz h1 h2 hl hl; rwa [decide_eq_true rfl] at h))
  have HLA := Lib.hid (fun x y wz (h1 : RdI wz .i64 x (latL J day)) (h2 : RdI wz .i64 y (latL J day)) (hl : (latL J day).length ≤ 1000) => (show Calls Tryz.prog 22 #[x, y] wz fun e w' => e = .returned (.bool true) ∧ Below wz.heap.size wz w' from by have h := longs_any x y _ _ wz h1 h2 hl hl; rwa [decide_eq_true rfl] at h))
  obtain ⟨n, hn⟩ : ∃ n, n = J.length := ⟨_, rfl⟩
  rw [← hn] at HGR HPS HRS HPL HRL HPT HRT ⊢
  clear hn
  unfold RetR at HPS HRS
  unfold RetL at HPT HRT
  have HB0 := Lib.hid (bal (bz w) (.cells #[.slice a n c] 24))
  have gq : (w.alloc (.cells #[.slice a n c] 24)).cell? ⟨w.heap.size, 0, none⟩ = some (.slice a n c) := cnew rfl rfl
  have zq : w.heap.size < (w.alloc (.cells #[.slice a n c] 24)).heap.size := by simp
  generalize hgr : greatJ J = gr at *
  clear hgr
  generalize staL J = ST at *
  generalize latL J day = LT at *
  generalize lenR J = LE at *
  generalize hlc : latC J day = lc at *
  clear hlc
  generalize hec : errC J = ec at *
  clear hec
  obtain ⟨lo, hi⟩ := LE
  dsimp only at HPL HRL
  go_enter Tryz.func3, Tryz.ntmps3
  go_wp2_with fail
  generalize w.alloc (.cells #[.slice a n c] 24) = w1 at *
  have HGQ := Lib.hid (fun (wz : World) (h : Below w1.heap.size w1 wz) => (⟨(h.cell (p := ⟨w.heap.size, 0, none⟩) zq).trans gq, Nat.lt_of_lt_of_le zq h.size⟩ : wz.cell? ⟨w.heap.size, 0, none⟩ = some (.slice a n c) ∧ w.heap.size < wz.heap.size))
  refine (HGR.out _ HB0.out).mono ?_
  rintro e w2 ⟨rfl, hB⟩
  have HB2 := Lib.hid hB
  clear hB gq zq
  cases gr with
  | true =>
    go_wp2_with fail
    refine (HWK.out _).mono ?_
    rintro e w3 ⟨rfl, hB⟩
    have HB3 := Lib.hid (btr HB0.out (btr HB2.out hB))
    clear hB
    go_wp2_with fail
    go_ret
    exact ⟨rfl, HB3.out⟩
  | false =>
    have HSM := Lib.hid (HGS.out (by first | trivial | rfl))
    by_cases hd1 : day < -1099511627776
    · have t1 : decide (day < (-1099511627776 : Int)) = true := decide_eq_true hd1
      clear hd1
      go_wp2_with fail
      refine (HWK.out _).mono ?_
      rintro e w3 ⟨rfl, hB⟩
      have HB3 := Lib.hid (btr HB0.out (btr HB2.out hB))
      clear hB
      go_wp2_with fail
      go_ret
      exact ⟨rfl, HB3.out⟩
    · have t1 : decide (day < (-1099511627776 : Int)) = false := decide_eq_false hd1
      by_cases hd2 : 1099511627776 < day
      · have t2 : decide ((1099511627776 : Int) < day) = true := decide_eq_true hd2
        clear hd1 hd2
        go_wp2_with fail
        refine (HWK.out _).mono ?_
        rintro e w3 ⟨rfl, hB⟩
        have HB3 := Lib.hid (btr HB0.out (btr HB2.out hB))
        clear hB
        go_wp2_with fail
        go_ret
        exact ⟨rfl, HB3.out⟩
      · have t2 : decide ((1099511627776 : Int) < day) = false := decide_eq_false hd2
        have HD1 := Lib.hid (show -(2 ^ 42) ≤ day by omega)
        have HD2 := Lib.hid (show day ≤ 2 ^ 42 by omega)
        clear hd1 hd2
        obtain ⟨g2, z2⟩ := HGQ.out _ HB2.out
        go_wp2_with fail
        refine (HPS.out _ (btr HB0.out HB2.out) HSM.out).mono ?_
        rintro e w3 ⟨⟨va, rfl, hA⟩, hB⟩
        have HA3 := Lib.hid hA
        have HB3 := Lib.hid (btr HB2.out hB)
        clear hB g2 z2 hA
        obtain ⟨g3, z3⟩ := HGQ.out _ HB3.out
        go_wp2_with fail
        refine (HRS.out _ (btr HB0.out HB3.out) HSM.out).mono ?_
        rintro e w4 ⟨⟨vb, rfl, hA⟩, hB⟩
        have HA4 := Lib.hid (HA3.out.mono hB)
        have HC4 := Lib.hid hA
        have HB4 := Lib.hid (btr HB3.out hB)
        clear hB g3 z3 hA HA3
        obtain ⟨g4, z4⟩ := HGQ.out _ HB4.out
        go_wp2_with fail
        refine (HPL.out _ (btr HB0.out HB4.out) HSM.out).mono ?_
        rintro e w5 ⟨rfl, hB⟩
        have HA5 := Lib.hid (HA4.out.mono hB)
        have HC5 := Lib.hid (HC4.out.mono hB)
        have HB5 := Lib.hid (btr HB4.out hB)
        clear hB g4 z4 HA4 HC4
        obtain ⟨g5, z5⟩ := HGQ.out _ HB5.out
        go_wp2_with fail
        have hq0 : (w5.alloc (.cells #[.int .i64 lo, .int .i64 hi] 32)).cell? ⟨w5.heap.size, 0, none⟩ = some (.int .i64 lo) := cnew rfl rfl
        have hq1 : (w5.alloc (.cells #[.int .i64 lo, .int .i64 hi] 32)).cell? ⟨w5.heap.size, 0 + 1, none⟩ = some (.int .i64 hi) := cnew rfl rfl
        have zq : w5.heap.size < (w5.alloc (.cells #[.int .i64 lo, .int .i64 hi] 32)).heap.size := by simp
        have hB := bal (bz w5) (.cells #[.int .i64 lo, .int .i64 hi] 32)
        generalize w5.alloc (.cells #[.int .i64 lo, .int .i64 hi] 32) = w6 at hq0 hq1 zq hB ⊢
        have HA6 := Lib.hid (HA5.out.mono hB)
        have HC6 := Lib.hid (HC5.out.mono hB)
        have HB6 := Lib.hid (btr HB5.out hB)
        generalize w5.heap.size = b1 at hq0 hq1 zq ⊢
        have HL1 := Lib.hid (fun (wz : World) (h : Below w6.heap.size w6 wz) => (⟨(h.cell (p := ⟨b1, 0, none⟩) zq).trans hq0, (h.cell (p := ⟨b1, 0 + 1, none⟩) zq).trans hq1, Nat.lt_of_lt_of_le zq h.size⟩ : wz.cell? ⟨b1, 0, none⟩ = some (.int .i64 lo) ∧ wz.cell? ⟨b1, 0 + 1, none⟩ = some (.int .i64 hi) ∧ b1 < wz.heap.size))
        clear hB g5 z5 hq0 hq1 zq HA5 HC5
        obtain ⟨g6, z6⟩ := HGQ.out _ HB6.out
        refine (HRL.out _ (btr HB0.out HB6.out) HSM.out).mono ?_
        rintro e w7 ⟨rfl, hB⟩
        have HA7 := Lib.hid (HA6.out.mono hB)
        have HC7 := Lib.hid (HC6.out.mono hB)
        have HB7 := Lib.hid (btr HB6.out hB)
        have HS7 := Lib.hid hB
        clear hB g6 z6 HA6 HC6
        obtain ⟨g7, z7⟩ := HGQ.out _ HB7.out
        go_wp2_with fail
        have hq0 : (w7.alloc (.cells #[.int .i64 lo, .int .i64 hi] 32)).cell? ⟨w7.heap.size, 0, none⟩ = some (.int .i64 lo) := cnew rfl rfl
        have hq1 : (w7.alloc (.cells #[.int .i64 lo, .int .i64 hi] 32)).cell? ⟨w7.heap.size, 0 + 1, none⟩ = some (.int .i64 hi) := cnew rfl rfl
        have zq : w7.heap.size < (w7.alloc (.cells #[.int .i64 lo, .int .i64 hi] 32)).heap.size := by simp
        have hB := bal (bz w7) (.cells #[.int .i64 lo, .int .i64 hi] 32)
        generalize w7.alloc (.cells #[.int .i64 lo, .int .i64 hi] 32) = w8 at hq0 hq1 zq hB ⊢
        have HA8 := Lib.hid (HA7.out.mono hB)
        have HC8 := Lib.hid (HC7.out.mono hB)
        have HB8 := Lib.hid (btr HB7.out hB)
        have HS8 := Lib.hid (btr HS7.out hB)
        generalize w7.heap.size = b2 at hq0 hq1 zq ⊢
        have HL2 := Lib.hid (fun (wz : World) (h : Below w8.heap.size w8 wz) => (⟨(h.cell (p := ⟨b2, 0, none⟩) zq).trans hq0, (h.cell (p := ⟨b2, 0 + 1, none⟩) zq).trans hq1, Nat.lt_of_lt_of_le zq h.size⟩ : wz.cell? ⟨b2, 0, none⟩ = some (.int .i64 lo) ∧ wz.cell? ⟨b2, 0 + 1, none⟩ = some (.int .i64 hi) ∧ b2 < wz.heap.size))
        clear hB g7 z7 hq0 hq1 zq HA7 HC7 HS7
        obtain ⟨g8, z8⟩ := HGQ.out _ HB8.out
        refine (HPT.out _ (btr HB0.out HB8.out) HSM.out HD1.out HD2.out).mono ?_
        rintro e w9 ⟨⟨vc, rfl, hC⟩, hB⟩
        have HA9 := Lib.hid (HA8.out.mono hB)
        have HC9 := Lib.hid (HC8.out.mono hB)
        have HE9 := Lib.hid hC
        have HB9 := Lib.hid (btr HB8.out hB)
        have HS9 := Lib.hid hB
        clear hB g8 z8 HA8 HC8 hC
        obtain ⟨g9, z9⟩ := HGQ.out _ HB9.out
        go_wp2_with fail
        refine (HRT.out _ (btr HB0.out HB9.out) HSM.out HD1.out HD2.out).mono ?_
        rintro e w10 ⟨⟨vd, rfl, hC⟩, hB⟩
        have HA10 := Lib.hid (HA9.out.mono hB)
        have HC10 := Lib.hid (HC9.out.mono hB)
        have HE10 := Lib.hid (HE9.out.mono hB)
        have HF10 := Lib.hid hC
        have HB10 := Lib.hid (btr HB9.out hB)
        have HS10 := Lib.hid (btr HS9.out hB)
        clear hB g9 z9 HA9 HC9 HE9 hC HS9
        go_wp2_with fail
        refine (HRA.out _ _ _ HA10.out HC10.out (HST.out HSM.out)).mono ?_
        rintro e w11 ⟨rfl, hB⟩
        have HE11 := Lib.hid (HE10.out.mono hB)
        have HF11 := Lib.hid (HF10.out.mono hB)
        have HB11 := Lib.hid (btr HB10.out hB)
        obtain ⟨c10, c11, zb1⟩ := HL1.out _ (btr HS8.out (btr HS10.out hB))
        obtain ⟨c20, c21, zb2⟩ := HL2.out _ (btr HS10.out hB)
        clear hB
        go_wp2_with fail
        refine (HLA.out _ _ _ HE11.out HF11.out (HLT.out HSM.out)).mono ?_
        rintro e w12 ⟨rfl, hB⟩
        have HB12 := Lib.hid (btr HB11.out hB)
        clear hB c10 c11 zb1 c20 c21 zb2
        go_wp2_with fail
        refine (HWK.out _).mono ?_
        rintro e w13 ⟨rfl, hB⟩
        have HB13 := Lib.hid (btr HB0.out (btr HB12.out hB))
        clear hB
        go_wp2_with fail
        go_ret
        exact ⟨rfl, HB13.out⟩
end Go.Proofs.YteknehlkdgamjaaGreat
