/- The document's IsNeedless; Meet; valid rows. -/
import Derived.Test.YtdnaipiiponhpaaZ3
namespace Go.Proofs.Ytdnaipiiponhpaa
open Go.RowKit Go.Shelf

theorem RdP.take {w : World} {a : Option Addr} {n c : Nat} {V : List (Int × Int)} (h : RdP w (.slice a n c) V) (k : Nat) (hk : k ≤ V.length) : RdP w (.slice a k c) (V.take k) := by
  obtain ⟨a', cap, he, h1, h2, h3⟩ := h
  simp only [Value.slice.injEq] at he
  obtain ⟨rfl, rfl, rfl⟩ := he
  have hl : (V.take k).length = k := by rw [List.length_take]; omega
  refine ⟨a, c, by rw [hl], by rw [hl]; omega, h2, fun hne => ?_⟩
  have hpt : prs (V.take k) = (prs V).take (k * 2) := by
    have := prs_append (V.take k) (V.drop k)
    rw [List.take_append_drop] at this
    rw [this, List.take_append_of_le_length (by rw [prs_length, hl]; exact Nat.le_refl _)]
    exact (List.take_of_length_le (by rw [prs_length, hl]; exact Nat.le_refl _)).symm
  rw [hpt] at hne ⊢
  obtain ⟨b, off, e, hb, hc⟩ := h3 (by intro e; rw [e] at hne; simp at hne)
  exact ⟨b, off, e, hb, fun j u hj => hc j u (by rw [List.getElem?_take] at hj; split at hj; exact hj; cases hj)⟩
theorem okRow_at {p : Nat} {V : List (Int × Int)} (hV : OkRow p V) (k : Nat) (hk : k < V.length) : ∃ n1 n2 : Nat, V[k]?.getD (0, 0) = ((n1 : Int), (n2 : Int)) ∧ n1 < n2 ∧ n2 < p := by
  have hm : V[k] ∈ V := List.getElem_mem hk
  obtain ⟨h1, h2, h3⟩ := hV.ok _ hm
  refine ⟨V[k].1.toNat, V[k].2.toNat, ?_, by omega, by omega⟩
  rw [List.getElem?_eq_getElem hk, Option.getD_some]
  exact Prod.ext (by simp; omega) (by simp; omega)

def meetB (u v : Int × Int) : Bool := decide (u.1 = v.1 ∨ u.1 = v.2 ∨ u.2 = v.1 ∨ u.2 = v.2)
set_option maxRecDepth 100000 in
set_option maxHeartbeats 1000000 in
theorem meet_any (a b c d : Int) (w : World) : Calls Try.prog 53 #[.agg #[.int .i64 a, .int .i64 b], .agg #[.int .i64 c, .int .i64 d]] w fun e w' => e = .returned (.bool (meetB (a, b) (c, d))) ∧ Below w.heap.size w w' := by
  by_cases h1 : a = c
  · subst h1
    go_enter Try.func53, Try.ntmps53
    go_wp2
    go_ret
    exact ⟨ret_bool (by simp [meetB]), bal (bal (bz _) _) _⟩
  · have e1 : (a == c) = false := by simpa using h1
    by_cases h2 : a = d
    · subst h2
      go_enter Try.func53, Try.ntmps53
      go_wp2
      go_ret
      exact ⟨ret_bool (by simp [meetB]), bal (bal (bz _) _) _⟩
    · have e2 : (a == d) = false := by simpa using h2
      by_cases h3 : b = c
      · subst h3
        go_enter Try.func53, Try.ntmps53
        go_wp2
        go_ret
        exact ⟨ret_bool (by simp [meetB]), bal (bal (bz _) _) _⟩
      · have e3 : (b == c) = false := by simpa using h3
        go_enter Try.func53, Try.ntmps53
        go_wp2
        go_ret
        exact ⟨ret_bool (by simp [meetB, h1, h2, h3]; try rfl), bal (bal (bz _) _) _⟩

/-- A 1 and a 0 meet there. -/
def meetsB (p : Nat) (V : List (Int × Int)) (k t : Nat) : Bool := decide ((runV (V.take k) (bitsOf p t))[(V[k]?.getD (0, 0)).2.toNat]?.getD 0 < (runV (V.take k) (bitsOf p t))[(V[k]?.getD (0, 0)).1.toNat]?.getD 0)
def rneedB (p : Nat) (V : List (Int × Int)) (k : Nat) : Bool := (List.range (2 ^ p)).all fun t => !meetsB p V k t
theorem rneed_yes {p : Nat} {V : List (Int × Int)} {k m : Nat} (hm : m = 2 ^ p) (h : ∀ t, t < m → meetsB p V k t = false) : rneedB p V k = true := by
  unfold rneedB; rw [List.all_eq_true]; intro t ht; rw [h t (by rw [hm]; exact List.mem_range.1 ht)]; rfl
theorem rneed_no {p : Nat} {V : List (Int × Int)} {k m t : Nat} (hm : m = 2 ^ p) (ht : t < m) (h : meetsB p V k t = true) : rneedB p V k = false := by
  unfold rneedB; rw [List.all_eq_false]; exact ⟨t, by rw [List.mem_range, ← hm]; exact ht, by rw [h]; simp⟩

set_option maxRecDepth 100000 in
set_option maxHeartbeats 4000000 in
theorem isneedless_any (p k : Nat) (x : Value) (V : List (Int × Int)) (w : World) (hx0 : RdP w x V) (hV : OkRow p V) (hk : k < V.length) :
    Calls Try.prog 69 #[.agg #[.int .i64 p, x], .int .i64 k] w fun e w' => e = .returned (.bool (rneedB p V k)) ∧ Below w.heap.size w w' := by
  have hp1 := hV.p1; have hp8 := hV.p8; have h40 := hV.len
  obtain ⟨a, ca, rfl, hca, hca2, hxf⟩ := hx0.form
  obtain ⟨bx, ox, rfl, hbx, hcx⟩ := hxf (by omega)
  obtain ⟨n1, n2, hpr, h12, h2p⟩ := okRow_at hV k hk
  have gx := (hcx k hk).1
  have gy := (hcx k hk).2
  rw [hpr] at gx gy
  simp only at gx gy
  have HPR := Lib.hid hpr
  clear hxf hcx hpr hca2
  have h256 := pow_le_8 p (by omega)
  obtain ⟨m, hm⟩ : ∃ m, m = 2 ^ p := ⟨_, rfl⟩
  have hwp : wrap64 ((2 : Int) ^ p) = (m : Int) := by
    have e : (2 : Int) ^ p = ((2 ^ p : Nat) : Int) := by simp
    rw [e, ← hm]
    unfold wrap64
    omega
  rw [← hm] at h256
  have HM := Lib.hid hm; clear hm
  go_enter Try.func69, Try.ntmps69
  go_wp2
  go_loopw [5, 6, 7, 8, 9, 10, 11, 12, 13, 14, 15, 16, 17, 18, 19, 20, 21, 22, 23, 24, 25, 26, 27, 28, 29, 30, 31, 32, 33, 34, 35, 36, 37, 38, 39, 40, 41] (fun i _ _ _ _ _ _ _ _ _ _ _ _ _ _ _ _ _ _ _ _ _ _ _ _ _ _ _ _ _ _ _ _ _ _ _ _ wr => ∃ t : Nat, t ≤ m ∧ i = .int .i64 t ∧ Below w.heap.size w wr ∧ w.heap.size < wr.heap.size ∧ wr.cell? ⟨w.heap.size, 0, none⟩ = some (.int .i64 p) ∧ wr.cell? ⟨w.heap.size, 1, none⟩ = some (.slice (some ⟨bx, ox, none⟩) V.length ca) ∧ (∀ s, s < t → meetsB p V k s = false)) (fun i _ _ _ _ _ _ _ _ _ _ _ _ _ _ _ _ _ _ _ _ _ _ _ _ _ _ _ _ _ _ _ _ _ _ _ _ _ => m - (intOf i).toNat)
  case atStart => exact ⟨0, Nat.zero_le _, rfl, bal (bz _) _, by simp, cnew rfl rfl, cnew rfl rfl, fun s hs => by omega⟩
  case round =>
    obtain ⟨t, ht, rfl, hB, hz, c0, c1, hall⟩ := hrel
    have HA := Lib.hid hall; clear hall
    by_cases htp : t < m
    · have htp2 : (t : Int) < (m : Int) := by omega
      go_wp2
      refine wp_region_flow [] [([0, 1, 2, 3, 4, 5, 6], 7, true), ([], 8, true)] [9] (by kernel_rfl) (by kernel_rfl) ?_
      intro wc hBc hh
      clear hh
      have d0 := (hBc.cell (p := ⟨w.heap.size, 0, none⟩) hz).trans c0
      have d1 := (hBc.cell (p := ⟨w.heap.size, 1, none⟩) hz).trans c1
      have hzc : w.heap.size < wc.heap.size := Nat.lt_of_lt_of_le hz hBc.size
      have hL := @Later.cell wc
      have HB := Lib.hid (btr hB hBc)
      clear c0 c1 hBc hB
      simp only [flowP, flow, pickL, List.getElem?_cons_succ, List.getElem?_cons_zero]
      refine wpQuiet_nil ?_
      repeat (go_big_quiet_step (fail))
      refine wpQuiet_nil ?_
      go_wp2_with fail
      refine (patterned_any p t wc (by omega) (by omega)).mono ?_
      rintro e w2 ⟨v2, rfl, hown, hB2⟩
      have hbl : (bitsOf p t).length = p := by simp [bitsOf]
      have HRD := Lib.hid (RdI.of_owns (w := w2) (k := .i64) (xs := bitsOf p t) hown)
      have HB2 := Lib.hid hB2
      clear hown hB2
      go_wp2
      refine seg_grow ⟨⟨_, HB2.out⟩, rfl⟩ ?_
      refine wpQuiet_nil ?_
      go_wp2_with fail
      have hlk : (V.take k).length = k := by rw [List.length_take]; omega
      refine (runof_any _ _ (V.take k) (bitsOf p t) w2 ((hx0.mono (btr HB.out HB2.out)).take k (by omega)) HRD.out (by omega) (by omega) (by omega) (fun v hv => by obtain ⟨h1, h2, h3⟩ := hV.ok v (List.mem_of_mem_take hv); omega)).mono ?_
      rintro e w3 ⟨v3, rfl, hown3, hB3⟩
      have hlr : (runV (V.take k) (bitsOf p t)).length = p := by rw [runV_length]; exact hbl
      rw [hbl] at hown3
      have hB4 := btr HB2.out hB3
      have hrd3 : RdI w3 .i64 v3 (runV (V.take k) (bitsOf p t)) := RdI.of_owns hown3
      obtain ⟨a3, c3, hv3, hca3, hcb3, hx3⟩ := hrd3.form
      subst hv3
      obtain ⟨b3, o3, rfl, hb3, hcx3⟩ := hx3 (by omega)
      have k1 := hcx3 n1 (by omega)
      have k2 := hcx3 n2 (by omega)
      have HB4 := Lib.hid hB4
      have HME : Hid (meetsB p V k t = decide ((runV (V.take k) (bitsOf p t))[n2]?.getD 0 < (runV (V.take k) (bitsOf p t))[n1]?.getD 0)) := Lib.hid (by
        unfold meetsB; rw [HPR.out]; rfl)
      clear hown3 hB3 hrd3 hB4 hx3 hcx3 HRD
      rw [hlr] at hca3 ⊢
      clear hlr
      generalize (runV (V.take k) (bitsOf p t))[n1]?.getD 0 = y1 at *
      generalize (runV (V.take k) (bitsOf p t))[n2]?.getD 0 = y2 at *
      go_wp2
      refine seg_grow ⟨⟨_, HB4.out⟩, rfl⟩ ?_
      repeat (go_big_quiet_step (fail))
      refine wpQuiet_nil ?_
      refine only_done ?_
      have g0 := (HB4.out.cell (p := ⟨w.heap.size, 0, none⟩) hzc).trans d0
      have g1 := (HB4.out.cell (p := ⟨w.heap.size, 1, none⟩) hzc).trans d1
      have z3 : w.heap.size < w3.heap.size := Nat.lt_of_lt_of_le hzc HB4.out.size
      have HB5 := Lib.hid (btr HB.out HB4.out)
      have gx3 := (HB5.out.cell hbx).trans gx
      have gy3 := (HB5.out.cell hbx).trans gy
      have hbx3 : bx < w3.heap.size := Nat.lt_of_lt_of_le hbx HB5.out.size
      clear hL d0 d1 hzc HB2 HB4 HB
      by_cases hy : y2 < y1
      · have HN : Hid (rneedB p V k = false) := Lib.hid (rneed_no HM.out htp (by rw [HME.out, decide_eq_true hy]))
        go_wp2
        go_quiet (fail)
        go_wp2
        go_ret
        exact ⟨ret_bool HN.out.symm, Below.drewN' _ HB5.out⟩
      · have hy2 : decide (y2 < y1) = false := by simpa using hy
        go_wp2
        go_quiet (fail)
        go_wp2
        refine ⟨⟨t + 1, by omega, by go_num, Below.drewN' _ HB5.out, z3, g0, g1, fun s hs => ?_⟩, by simp [intOf]; omega⟩
        by_cases e : s = t
        · subst e; rw [HME.out]; exact hy2
        · exact HA.out s (by omega)
    · obtain rfl : t = m := by omega
      have HB := Lib.hid hB
      have HN : Hid (rneedB p V k = true) := Lib.hid (rneed_yes HM.out HA.out)
      clear hB
      go_wp2
      go_ret
      exact ⟨ret_bool HN.out.symm, HB.out⟩
end Go.Proofs.Ytdnaipiiponhpaa
