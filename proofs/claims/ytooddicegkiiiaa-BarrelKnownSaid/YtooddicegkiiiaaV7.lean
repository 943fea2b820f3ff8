/- join: the first time at which all pins sound; at most 5 valid pins. -/
import Derived.Test.YtooddicegkiiiaaP3
namespace Go.Proofs.Ytooddicegkiiiaa
open Go.RowKit Go.Shelf

theorem run_lenL {W : World} {b : Nat} {L : Ents} {c : Nat} (hb : W.heap[b]? = some (.map (entsOf L) c)) (t : TypeId) : (Builtin.len_ #[82] t #[.map (some b)]).run Try.prog W = .ok (.int .i64 (L.length : Int)) W := by
  simp [Builtin.len_, Sem.run_bind, run_underlying Try.underlying82, Result.andThen_ok, run_getMap hb, entsOf, goInt]
theorem free_of_nil {V : List (Int × Int)} (h : ClM V []) : Free V := by
  intro i k hi hk
  cases hc : clB (pin V i) (pin V k) with
  | false => rfl
  | true =>
    obtain ⟨t, ht⟩ := (h _ _).2 ⟨i, k, hi, hk, rfl, rfl, hc⟩
    cases ht
theorem not_free {V : List (Int × Int)} {L : Ents} (h : ClM V L) (hL : L ≠ []) : ¬ Free V := by
  intro hF
  match L, hL with
  | (x, m, t) :: L, _ =>
    obtain ⟨a, b, h1, h2, _, _, h5⟩ := (h x m).1 ⟨t, by simp⟩
    rw [hF a b h1 h2] at h5
    cases h5
theorem take_pin (V : List (Int × Int)) (k : Nat) (hk : k < V.length) : V.take (k + 1) = V.take k ++ [pin V k] := by
  rw [List.take_succ_eq_append_getElem hk]; simp [pin, hk]
theorem free_at {V : List (Int × Int)} (h : Free V) (k : Nat) (hk : k < V.length) : ∀ y ∈ V.take k, gcdI y.1 (pin V k).1 ∣ (pin V k).2 - y.2 := by
  intro y hy
  obtain ⟨i, hi, rfl⟩ := List.getElem_of_mem hy
  have hik : i < k := by simp at hi; omega
  have := h i k hik hk
  rw [clB_comm, clB_false, gcdI_comm] at this
  have e : (V.take k)[i] = pin V i := by simp [pin, show i < V.length by omega]
  rw [e]; exact this
theorem pow200 (k : Nat) (h : k ≤ 5) : (200 : Int) ^ k ≤ 320000000000 := by
  match k, h with
  | 0, _ => decide
  | 1, _ => decide
  | 2, _ => decide
  | 3, _ => decide
  | 4, _ => decide
  | 5, _ => decide

theorem tdiv_bd (a c : Int) (b : Int) (h1 : -b ≤ a) (h2 : a ≤ b) : -b ≤ a.tdiv c ∧ a.tdiv c ≤ b := by
  have := Int.natAbs_tdiv_le_natAbs a c
  omega
theorem mul_bd (a c A C : Int) (h1 : -A ≤ a) (h2 : a ≤ A) (h3 : -C ≤ c) (h4 : c ≤ C) : -(A * C) ≤ a * c ∧ a * c ≤ A * C := by
  have h := Int.natAbs_mul a c
  have h5 : a.natAbs * c.natAbs ≤ A.toNat * C.toNat := Nat.mul_le_mul (by omega) (by omega)
  have h6 : ((A.toNat * C.toNat : Nat) : Int) = A * C := by rw [Int.natCast_mul, Int.toNat_of_nonneg (by omega), Int.toNat_of_nonneg (by omega)]
  omega
set_option maxRecDepth 100000 in
set_option maxHeartbeats 4000000 in
theorem join_any (b : Nat) (V : List (Int × Int)) (w : World) (hD : IsDrum w b V) (hV : OkV V) (hl : V.length ≤ 5) :
    Calls Try.prog 62 #[.pointer (some ⟨b, 0, none⟩)] w fun e w' => e = .returned (.tuple #[.int .i64 (jA V), .int .i64 (jB V), .bool (jO V)]) ∧ Below w.heap.size w w' := by
  obtain ⟨x, M, L, c, hb, hM, hok, hcl, hx0⟩ := hD
  have d0 : w.cell? ⟨b, 0, none⟩ = some x := by rw [cell_of_row w _ 0 _ _ _ hb]; rfl
  have d1 : w.cell? ⟨b, 1, none⟩ = some (.map (some M)) := by rw [cell_of_row w _ 1 _ _ _ hb]; rfl
  have dz := (Array.getElem?_eq_some_iff.1 hb).1
  have hln := run_lenL (W := w) hM
  by_cases hL : L = []
  · subst hL
    have hfr := free_of_nil hcl
    obtain ⟨a, ca, rfl, hca, hca2, hx⟩ := hx0.form
    clear hca2
    have HFR := Lib.hid hfr
    clear hb hM hok hcl hfr hx0
    simp only [List.length_nil] at hln
    go_enter Try.func62, Try.ntmps62
    go_wp2_with fail
    clear hln
    go_loopw [5, 6, 24] (fun f p i wr => ∃ (k : Nat) (F P : Int), k ≤ V.length ∧ i = .int .i64 k ∧ f = .int .i64 F ∧ p = .int .i64 P ∧ Joined (V.take k) F P ∧ P ≤ 200 ^ k ∧ Below w.heap.size w wr) (fun _ _ i _ => V.length - (intOf i).toNat)
    case atStart => exact ⟨0, 0, 1, Nat.zero_le _, rfl, rfl, rfl, Joined.nil, by decide, bz _⟩
    case round =>
      obtain ⟨k, F, P, hk, rfl, rfl, rfl, hJ, hP, hB⟩ := hrel
      by_cases hlt : k < V.length
      · obtain ⟨bx, ox, rfl, hbx, hcx⟩ := hx (by omega)
        have gx := (hB.cell (p := ⟨bx, ox + k * 2, none⟩) hbx).trans (hcx k hlt).1
        have gy := (hB.cell (p := ⟨bx, ox + k * 2 + 1, none⟩) hbx).trans (hcx k hlt).2
        obtain ⟨p1, p2, p3, p4⟩ := hV.at hlt
        have hp0 := hJ.t0; have hp1 := hJ.tp
        have hp2 := Int.le_trans hP (pow200 k (by omega))
        have HN := Lib.hid (fun v hv => hJ.prog (x := pin V k) (v := v) (fun y hy => (hV y (List.mem_of_mem_take hy)).1) p1 (free_at HFR.out k hlt) hv)
        have HP := Lib.hid hP; have HJ := Lib.hid hJ; have HB := Lib.hid hB
        clear hx hcx hP hJ hB
        change wr.cell? _ = some (Value.int .i64 (pin V k).1) at gx
        change wr.cell? _ = some (Value.int .i64 (pin V k).2) at gy
        generalize hq : pin V k = q at *
        obtain ⟨q1, q2⟩ := q
        simp only at *
        go_wp2_with fail
        refine (common_i _ _ _ (by omega) (by omega) (by omega) (by omega)).mono ?_
        rintro e w2 ⟨rfl, rfl⟩
        have g1 := gcdI_pos P q1 (by omega)
        have g2 := Int.le_of_dvd (by omega) (gcdI_dvd_right P q1)
        obtain ⟨s1, s2, s3⟩ := steps_pos (p := P) (P := q1) (by omega) (by omega)
        have k0 : 0 ≤ P / gcdI P q1 := Int.ediv_nonneg (by omega) (by omega)
        have k1 : P / gcdI P q1 ≤ P := Int.ediv_le_self _ (by omega)
        clear s3
        generalize gcdI P q1 = c at *
        go_wp2_with fail
        have s4 : q1 / c ≤ 200 := by omega
        have w1 : IntKind.i64.wrap (q2 - F) = q2 - F := IntWalk.i64_in _ (by omega)
        obtain ⟨t1, t2⟩ := tdiv_bd (q2 - F) c 320000000200 (by omega) (by omega)
        have w2 : IntKind.i64.wrap ((q2 - F).tdiv c) = (q2 - F).tdiv c := IntWalk.i64_in _ (by omega)
        have w4 : IntKind.i64.wrap (P.tdiv c) = P / c := by rw [Int.tdiv_eq_ediv_of_nonneg (by omega)]; exact IntWalk.i64_in _ (by omega)
        obtain ⟨t3, t4⟩ := tmod_bd ((q2 - F).tdiv c) (q1 / c) s1
        have w3 : IntKind.i64.wrap (((q2 - F).tdiv c).tmod (q1 / c)) = ((q2 - F).tdiv c).tmod (q1 / c) := IntWalk.i64_in _ (by omega)
        have hINV := fun w' => inverse_any (P / c) (q1 / c) w' k0 (by omega) s1 s4
        have HINV := Lib.hid hINV
        clear hINV t1 t2
        generalize hs : q1 / c = s at *
        generalize hk' : P / c = pc at *
        clear hs hk'
        have HT3 := Lib.hid t3; have HT4 := Lib.hid t4
        refine wp_region_flow [] [([0, 1, 2, 3, 4, 5, 6, 7, 8, 9, 10, 11, 14], 12, true)] [13, 15, 16] (by kernel_rfl) (by kernel_rfl) ?_
        intro wc hBc hh
        clear hh
        have c1 : wc.cell? ⟨wr.heap.size, 1, none⟩ = some (.int .i64 q2) := (hBc.cell (by simp)).trans (cnew rfl rfl)
        have cz : wr.heap.size < wc.heap.size := by have := hBc.size; simp at this; omega
        have hL := @Later.cell wc
        have HBc := Lib.hid hBc
        clear hBc gx gy
        simp only [flowP, flow, pickL, List.getElem?_cons_succ, List.getElem?_cons_zero]
        refine wpQuiet_nil ?_
        repeat (go_big_quiet_step (fail))
        refine wpQuiet_nil ?_
        go_wp2_with fail
        refine (HINV.out _).mono ?_
        rintro e w2 ⟨v, rfl, v0, v1, hv, rfl⟩
        go_wp2
        refine seg_grow ⟨⟨_, bz _⟩, rfl⟩ ?_
        obtain ⟨t5, t6⟩ := mul_bd (((q2 - F).tdiv c).tmod s) v 200 200 (by omega) (by omega) (by omega) (by omega)
        have w5 : IntKind.i64.wrap (((q2 - F).tdiv c).tmod s * v) = ((q2 - F).tdiv c).tmod s * v := IntWalk.i64_in _ (by omega)
        obtain ⟨t7, t8⟩ := tmod_bd (((q2 - F).tdiv c).tmod s * v) s s1
        have w6 : IntKind.i64.wrap ((((q2 - F).tdiv c).tmod s * v).tmod s) = (((q2 - F).tdiv c).tmod s * v).tmod s := IntWalk.i64_in _ (by omega)
        clear t5 t6
        have HNN := Lib.hid (HN.out v hv)
        obtain ⟨a1, a2⟩ := addN_bd F q2 c s v s1
        have HA1 := Lib.hid a1; have HA2 := Lib.hid a2
        clear a1 a2
        repeat (go_big_quiet_step (fail))
        refine wpQuiet_nil ?_
        refine only_done ?_
        clear w1 w2 w3 w4 w5 w6 HN hv
        have hN : addN F q2 c s v = ((((q2 - F).tdiv c).tmod s * v).tmod s + s) % s := by
          unfold addN; rw [Int.tmod_eq_emod_of_nonneg (by omega)]
        rw [Int.add_emod_right] at hN
        have HN := Lib.hid hN; clear hN
        generalize (((q2 - F).tdiv c).tmod s * v).tmod s = m at *
        have n0 : 0 ≤ m % s := by rw [← HN.out]; exact HA1.out
        have n1 : m % s < s := by rw [← HN.out]; exact HA2.out
        rw [HN.out] at HNN
        obtain ⟨t5, t6⟩ := mul_bd (m % s) P 200 320000000000 (by omega) (by omega) (by omega) (by omega)
        obtain ⟨t9, t10⟩ := mul_bd P s 320000000000 200 (by omega) (by omega) (by omega) (by omega)
        have w7 : IntKind.i64.wrap (m % s * P) = m % s * P := IntWalk.i64_in _ (by omega)
        have w8 : IntKind.i64.wrap (F + m % s * P) = F + m % s * P := IntWalk.i64_in _ (by omega)
        have w9 : IntKind.i64.wrap (P * s) = P * s := IntWalk.i64_in _ (by omega)
        clear HA1 HA2
        go_wp2
        go_roundw
        case rel =>
          refine ⟨k + 1, F + m % s * P, P * s, by omega, by go_num, rfl, rfl, ?_, ?_, btr HB.out (btr (bal (bz _) _) HBc.out)⟩
          · rw [take_pin V k hlt, hq]; exact HNN.out
          · have h1 : P * s ≤ P * 200 := Int.mul_le_mul_of_nonneg_left s4 (by omega)
            have h2 := HP.out
            rw [Int.pow_succ]; omega
        case measure => simp [intOf]; omega
      · have hkl : k = V.length := by omega
        rw [hkl, List.take_length] at hJ
        clear hkl
        obtain ⟨j1, j2, j3⟩ := j_of hV hJ
        have H1 := Lib.hid j1; have H2 := Lib.hid j2; have H3 := Lib.hid j3
        clear j1 j2 j3 hJ hP
        go_wp2_with fail
        go_ret3
        exact ⟨by rw [H1.out, H2.out, H3.out]; rfl, hB⟩
  · have hnf := not_free hcl hL
    have hn : 0 < L.length := List.length_pos_iff.2 hL
    obtain ⟨j1, j2, j3⟩ := j_none hV (fun h => hnf h.free)
    have H1 := Lib.hid j1; have H2 := Lib.hid j2; have H3 := Lib.hid j3
    clear hb hM hok hcl hx0 j1 j2 j3 hnf hL
    go_enter Try.func62, Try.ntmps62
    go_wp2_with fail
    go_ret3
    exact ⟨by rw [H1.out, H2.out, H3.out]; rfl, bz _⟩
end Go.Proofs.Ytooddicegkiiiaa
