/- The document's Join. -/
import Derived.Test.YtooddicegkiiiaaR2
namespace Go.Proofs.Ytooddicegkiiiaa
open Go.RowKit Go.Shelf

theorem joinS_none (x : Int × Int) : joinS none x = none := rfl
theorem fold_none : ∀ V : List (Int × Int), V.foldl joinS none = none
  | [] => rfl
  | x :: V => by rw [List.foldl_cons, joinS_none]; exact fold_none V
theorem joinO_cut {V : List (Int × Int)} {k : Nat} (h : joinO (V.take k) = none) : joinO V = none := by
  have e : joinO V = (V.drop k).foldl joinS (joinO (V.take k)) := by
    unfold joinO; rw [← List.foldl_append, List.take_append_drop]
  rw [e, h]; exact fold_none _
theorem findN_none {t p : Int} {x : Int × Int} {s : Nat} (hs : (x.1 / gcdI p x.1).toNat = s) (h : ∀ m, m < s → ((t + (m : Int) * p) % x.1 == x.2) = false) : findN t p x = none := by
  unfold findN
  rw [hs, List.find?_eq_none]
  intro m hm
  have := h m (List.mem_range.1 hm)
  simpa using this
theorem findN_some {t p : Int} {x : Int × Int} {s n : Nat} (hs : (x.1 / gcdI p x.1).toNat = s) (hn : n < s) (h : ∀ m, m < n → ((t + (m : Int) * p) % x.1 == x.2) = false) (hf : ((t + (n : Int) * p) % x.1 == x.2) = true) : findN t p x = some n := by
  unfold findN
  rw [hs, List.find?_range_eq_some]
  refine ⟨by simpa using hf, List.mem_range.2 hn, fun m hm => ?_⟩
  have := h m hm
  simpa using this

set_option maxRecDepth 100000 in
set_option maxHeartbeats 4000000 in
theorem rjoin_any (x : Value) (V : List (Int × Int)) (w : World) (hx0 : RdP w x V) (hV : OkV V) (hl : V.length ≤ 5) :
    Calls Try.prog 63 #[x] w fun e w' => e = .returned (.tuple #[.int .i64 (jA V), .int .i64 (jB V), .bool (jO V)]) ∧ Below w.heap.size w w' := by
  obtain ⟨a, ca, rfl, hca, hca2, hx⟩ := hx0.form
  clear hca2 hx0
  have hnone : joinO V = none → jA V = 0 ∧ jB V = 0 ∧ jO V = false := fun h => by simp [jA, jB, jO, h]
  have hsome : ∀ t p, joinO V = some (t, p) → jA V = t ∧ jB V = p ∧ jO V = true := fun t p h => by simp [jA, jB, jO, h]
  have HNO := Lib.hid hnone; have HSO := Lib.hid hsome; clear hnone hsome
  go_enter Try.func63, Try.ntmps63
  go_wp2_with fail
  go_loopw [5, 6, 7, 8, 9] (fun f p i _ _ wr => ∃ (k : Nat) (F P : Int), k ≤ V.length ∧ i = .int .i64 k ∧ f = .int .i64 F ∧ p = .int .i64 P ∧ joinO (V.take k) = some (F, P) ∧ 0 ≤ F ∧ F < P ∧ P ≤ 200 ^ k ∧ Below w.heap.size w wr) (fun _ _ i _ _ _ => V.length - (intOf i).toNat)
  case atStart => exact ⟨0, 0, 1, Nat.zero_le _, rfl, rfl, rfl, rfl, by omega, by omega, by decide, bz _⟩
  case round =>
    obtain ⟨k, F, P, hk, rfl, rfl, rfl, hJ, hF0, hFP, hP, hB⟩ := hrel
    by_cases hlt : k < V.length
    · obtain ⟨bx, ox, rfl, hbx, hcx⟩ := hx (by omega)
      have gx := (hB.cell (p := ⟨bx, ox + k * 2, none⟩) hbx).trans (hcx k hlt).1
      have gy := (hB.cell (p := ⟨bx, ox + k * 2 + 1, none⟩) hbx).trans (hcx k hlt).2
      change wr.cell? _ = some (Value.int .i64 (pin V k).1) at gx
      change wr.cell? _ = some (Value.int .i64 (pin V k).2) at gy
      obtain ⟨p1, p2, p3, p4⟩ := hV.at hlt
      have hP5 := Int.le_trans hP (pow200 k (by omega))
      have htk := take_pin V k hlt
      have hjn := joinO_snoc (V.take k) (pin V k)
      rw [← htk, hJ] at hjn
      have hcut := fun h => joinO_cut (V := V) (k := k + 1) h
      have HJN := Lib.hid hjn; have HCUT := Lib.hid hcut; have HP := Lib.hid hP; have HB := Lib.hid hB
      have hbz : bx < wr.heap.size := Nat.lt_of_lt_of_le hbx hB.size
      clear hx hcx hJ htk hjn hcut hP hB
      generalize pin V k = q at *
      have HFN : Hid (∀ s : Nat, (q.1 / gcdI P q.1).toNat = s → (∀ m : Nat, m < s → ((F + (m : Int) * P) % q.1 == q.2) = false) → joinO (V.take (k + 1)) = none) :=
        Lib.hid (fun s h1 h2 => by rw [HJN.out]; simp [joinS, findN_none h1 h2])
      have HFS : Hid (∀ s n : Nat, (q.1 / gcdI P q.1).toNat = s → n < s → (∀ m : Nat, m < n → ((F + (m : Int) * P) % q.1 == q.2) = false) → ((F + (n : Int) * P) % q.1 == q.2) = true → joinO (V.take (k + 1)) = some (F + (n : Int) * P, P * (q.1 / gcdI P q.1))) :=
        Lib.hid (fun s n h1 h2 h3 h4 => by rw [HJN.out]; simp [joinS, findN_some h1 h2 h3 h4])
      obtain ⟨q1, q2⟩ := q
      simp only at p1 p2 p3 p4 gx gy HFN HFS
      have g1 := gcdI_pos P q1 (by omega)
      have g2 := Int.le_of_dvd (by omega) (gcdI_dvd_right P q1)
      obtain ⟨s1, s2, s3⟩ := steps_pos (p := P) (P := q1) (by omega) (by omega)
      clear s3
      have HC := Lib.hid (fun w' => rcommon_i P q1 w' (by omega) (by omega) (by omega) (by omega))
      have wd : IntKind.i64.wrap (q1.tdiv (gcdI P q1)) = q1 / gcdI P q1 := by rw [Int.tdiv_eq_ediv_of_nonneg (by omega)]; exact IntWalk.i64_in _ (by omega)
      obtain ⟨s, hs⟩ : ∃ s : Nat, q1 / gcdI P q1 = (s : Int) := Int.eq_ofNat_of_zero_le (by omega)
      rw [hs] at HFN HFS wd s1 s2
      simp only [Int.toNat_natCast] at HFN HFS
      clear hs
      have hc0 : (gcdI P q1 == 0) = false := by rw [beq_eq_false_iff_ne]; omega
      generalize gcdI P q1 = c at *
      go_wp2_with fail
      refine wp_region_flow [] [([0, 1, 2, 3, 4, 5, 6, 7, 8, 9, 10], 11, true)] [12, 13] (by kernel_rfl) (by kernel_rfl) ?_
      intro wc hBc hh
      have d0 := (hBc.cell (World.block_lt_of_cell? wr _ gx)).trans gx
      have d1 := (hBc.cell (World.block_lt_of_cell? wr _ gy)).trans gy
      have hbc : bx < wc.heap.size := Nat.lt_of_lt_of_le hbz hBc.size
      have hL := @Later.cell wc
      have HBc := Lib.hid hBc
      clear hh hBc gx gy
      simp only [flowP, flow, pickL, List.getElem?_cons_succ, List.getElem?_cons_zero]
      refine wpQuiet_nil ?_
      repeat (go_big_quiet_step (fail))
      refine wpQuiet_nil ?_
      go_wp2_with fail
      refine (HC.out _).mono ?_
      rintro e w5 ⟨rfl, hB5⟩
      go_wp2
      refine seg_grow ⟨⟨_, hB5⟩, rfl⟩ ?_
      repeat (go_big_quiet_step (fail))
      refine wpQuiet_nil ?_
      refine only_done ?_
      have e0 := (hB5.cell (World.block_lt_of_cell? wc _ d0)).trans d0
      have e1 := (hB5.cell (World.block_lt_of_cell? wc _ d1)).trans d1
      have hb5 : bx < w5.heap.size := Nat.lt_of_lt_of_le hbc hB5.size
      have HB5 := Lib.hid (btr HB.out (btr HBc.out hB5))
      clear d0 d1 hL hB5 wd hc0
      go_wp2_with fail
      have hgt : ∀ m : Nat, m ≤ s → -64000000000000 ≤ (m : Int) * P ∧ (m : Int) * P ≤ 64000000000000 := fun m hm => by
        have := mul_bd (m : Int) P 200 320000000000 (by omega) (by omega) (by omega) (by omega)
        omega
      have HGT := Lib.hid hgt; clear hgt
      go_loopw [9] (fun n wr => ∃ m : Nat, m ≤ s ∧ n = .int .i64 m ∧ (∀ j : Nat, j < m → ((F + (j : Int) * P) % q1 == q2) = false) ∧ Below w5.heap.size w5 wr) (fun n _ => s - (intOf n).toNat)
      case atStart => exact ⟨0, Nat.zero_le _, rfl, fun j hj => absurd hj (Nat.not_lt_zero _), bz _⟩
      case round =>
        obtain ⟨m, hm, rfl, hno, hB⟩ := hrel
        have f0 := (hB.cell hb5).trans e0
        have f1 := (hB.cell hb5).trans e1
        have HNN := Lib.hid hno; have HBI := Lib.hid hB
        clear hno hB
        obtain ⟨t1, t2⟩ := HGT.out m hm
        have w1 : IntKind.i64.wrap ((m : Int) * P) = (m : Int) * P := IntWalk.i64_in _ (by omega)
        have w2 : IntKind.i64.wrap (F + (m : Int) * P) = F + (m : Int) * P := IntWalk.i64_in _ (by omega)
        have t0 : 0 ≤ (m : Int) * P := Int.mul_nonneg (by omega) (by omega)
        have w3 : IntKind.i64.wrap ((F + (m : Int) * P).tmod q1) = (F + (m : Int) * P) % q1 := by
          rw [Int.tmod_eq_emod_of_nonneg (by omega)]
          have a1 := Int.emod_nonneg (F + (m : Int) * P) (b := q1) (by omega)
          have a2 := Int.emod_lt_of_pos (F + (m : Int) * P) (b := q1) (by omega)
          exact IntWalk.i64_in _ (by omega)
        by_cases hms : m < s
        · have d1 : decide ((m : Int) < (s : Int)) = true := by simp; omega
          by_cases hf : ((F + (m : Int) * P) % q1 == q2) = true
          · have hf2 : ((F + (m : Int) * P) % q1 != q2) = false := by simpa using hf
            have HJ := Lib.hid (HFS.out s m rfl hms HNN.out hf)
            have hq4 : ((m : Int) == (s : Int)) = false := by rw [beq_eq_false_iff_ne]; omega
            obtain ⟨t3, t4⟩ := mul_bd P s 320000000000 200 (by omega) (by omega) (by omega) (by omega)
            have w4 : IntKind.i64.wrap (P * (s : Int)) = P * s := IntWalk.i64_in _ (by omega)
            clear hf
            go_wp2_with fail
            go_quiet (fail)
            go_wp2_with fail
            go_roundw
            case rel =>
              refine ⟨k + 1, F + (m : Int) * P, P * s, by omega, by go_num, rfl, rfl, HJ.out, by omega, ?_, ?_, btr HB5.out (Below.drewN' _ HBI.out)⟩
              · have h1 : P * (m + 1 : Int) ≤ P * s := Int.mul_le_mul_of_nonneg_left (by omega) (by omega)
                rw [Int.mul_add, Int.mul_comm P m] at h1; omega
              · have h1 : P * s ≤ P * 200 := Int.mul_le_mul_of_nonneg_left (by omega) (by omega)
                have h2 := HP.out
                rw [Int.pow_succ]; omega
            case measure => simp [intOf]; omega
          · have hf1 : ((F + (m : Int) * P) % q1 == q2) = false := by simpa using hf
            have hf2 : ((F + (m : Int) * P) % q1 != q2) = true := by simpa using hf
            clear hf
            go_wp2_with fail
            go_quiet (fail)
            go_wp2_with fail
            go_roundw
            case rel => exact ⟨m + 1, by omega, by go_num, fun j hj => by
                by_cases h : j = m
                · subst h; exact hf1
                · exact HNN.out j (by omega), Below.drewN' _ HBI.out⟩
            case measure => simp [intOf]; omega
        · have hms2 : m = s := by omega
          have HJ := Lib.hid (HFN.out s rfl (by rw [← hms2]; exact HNN.out))
          obtain ⟨j1, j2, j3⟩ := HNO.out (HCUT.out HJ.out)
          have H1 := Lib.hid j1; have H2 := Lib.hid j2; have H3 := Lib.hid j3
          clear j1 j2 j3 hms hm
          subst hms2
          go_wp2_with fail
          go_quiet (fail)
          go_wp2_with fail
          go_ret3
          exact ⟨by rw [H1.out, H2.out, H3.out]; rfl, btr HB5.out (Below.drewN' _ HBI.out)⟩
    · have hkl : k = V.length := by omega
      rw [hkl, List.take_length] at hJ
      obtain ⟨j1, j2, j3⟩ := HSO.out _ _ hJ
      have H1 := Lib.hid j1; have H2 := Lib.hid j2; have H3 := Lib.hid j3
      clear j1 j2 j3 hJ hP hkl
      go_wp2_with fail
      go_ret3
      exact ⟨by rw [H1.out, H2.out, H3.out]; rfl, hB⟩
end Go.Proofs.Ytooddicegkiiiaa
