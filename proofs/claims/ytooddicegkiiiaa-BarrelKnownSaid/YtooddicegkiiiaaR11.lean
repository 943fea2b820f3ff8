/- The document's Quiet, With. -/
import Derived.Test.YtooddicegkiiiaaR10
import Derived.Test.YtooddicegkiiiaaW5
namespace Go.Proofs.Ytooddicegkiiiaa
open Go.RowKit Go.Shelf

def rquietN (V : List (Int × Int)) (t : Int) : Int := if openE V [t] = 0 then (match quietO V t 32 with | some n => t + (n : Int) | none => 0) else 0
def rquietE (V : List (Int × Int)) (t : Int) : Int := if openE V [t] = 0 then (match quietO V t 32 with | some _ => 0 | none => 21) else openE V [t]
theorem sndK_hush (V : List (Int × Int)) (T : Int) : ((sndK V T V.length).length = 0) ↔ hushB V T = true := by
  unfold sndK
  rw [natL_len, List.length_eq_zero_iff, hush_iff]
  unfold sndN
  rw [List.filter_eq_nil_iff]
  constructor
  · intro h i hi
    have := h i (List.mem_range.2 hi)
    simpa using this
  · intro h i hi
    have := h i (List.mem_range.1 hi)
    simp [this]
set_option maxRecDepth 100000 in
set_option maxHeartbeats 2000000 in
theorem rquiet_any (x : Value) (V : List (Int × Int)) (t : Int) (w : World) (hx0 : RdP w x V) (hl : V.length ≤ 1000) :
    Calls Try.prog 40 #[x, .int .i64 t] w fun e w' => e = .returned (.tuple #[.int .i64 (rquietN V t), .int .i64 (rquietE V t)]) ∧ Below w.heap.size w w' := by
  obtain ⟨a, ca, rfl, _, _, _⟩ := hx0.form
  have HK := Lib.hid (fun w' hx => rcheck_any (.slice a V.length ca) V w' hx hl)
  have HX0 := Lib.hid hx0; clear hx0
  by_cases hc : checkP V = 0
  · have hV := okPins_of hc
    have hop := openE_ok [t] hc
    simp only [List.any_cons, List.any_nil, Bool.or_false] at hop
    have HT0 := Lib.hid (istime_any t)
    rw [hc] at HK
    cases ho : outB 0 1000000000000 t
    · rw [ho] at hop HT0
      simp only [Bool.false_eq_true, if_false] at hop
      have hft : 0 ≤ t ∧ t ≤ 1000000000000 := by simp [outB] at ho; omega
      obtain ⟨f0, f1⟩ := hft
      have hR : ∀ o, quietO V t 32 = o → rquietN V t = (match o with | some n => t + (n : Int) | none => 0) ∧ rquietE V t = (match o with | some _ => 0 | none => 21) := by
        rintro o rfl
        unfold rquietN rquietE
        rw [if_pos hop, if_pos hop]
        exact ⟨rfl, rfl⟩
      have HR := Lib.hid hR
      have HA := Lib.hid (fun n w' (hn : n ≤ 1000) hx => rat_any (.slice a V.length ca) V (t + (n : Nat)) w' hx hV.v hV.l5 (by omega) (by omega))
      unfold AtOk at HA
      clear hc hop ho hV hR
      generalize rquietN V t = rN at *
      generalize rquietE V t = rE at *
      go_enter Try.func40, Try.ntmps40
      go_wp2_with fail
      refine (HK.out _ HX0.out).mono ?_
      rintro e w2 ⟨rfl, hB2⟩
      have HB2 := Lib.hid hB2; clear hB2
      go_wp2_with fail
      refine (HT0.out _).mono ?_
      rintro e w3 ⟨rfl, rfl⟩
      go_wp2_with fail
      go_loopw [6] (fun i wr => ∃ k : Nat, k ≤ 32 ∧ i = .int .i64 k ∧ (∀ n, n < k → hushB V (t + (n : Nat)) = false) ∧ Below w2.heap.size w2 wr) (fun i _ => 32 - (intOf i).toNat)
      case atStart => exact ⟨0, by omega, rfl, fun n h => absurd h (Nat.not_lt_zero _), bz _⟩
      case round =>
        obtain ⟨k, hk, rfl, hno, hB⟩ := hrel
        have HNO := Lib.hid hno; have HB := Lib.hid hB
        clear hno hB
        by_cases hlt : k < 32
        · have w1 : IntKind.i64.wrap (t + (k : Int)) = t + (k : Int) := IntWalk.i64_in _ (by omega)
          have HQ := Lib.hid (sndK_hush V (t + (k : Int)))
          have HK2 := Lib.hid (HA.out k wr (by omega) (HX0.out.mono (btr HB2.out HB.out)))
          generalize sndK V (t + (k : Int)) V.length = g at *
          have hq : ((g.length : Int) == 0) = hushB V (t + (k : Int)) := by
            rw [Bool.eq_iff_iff, ← HQ.out]; simp
          have HS : Hid (hushB V (t + (k : Int)) = true → quietO V t 32 = some k) := Lib.hid (fun h => quietO_some hlt HNO.out h)
          have HN : Hid (hushB V (t + (k : Int)) = false → ∀ n, n < k + 1 → hushB V (t + (n : Nat)) = false) := Lib.hid (fun h n hn => by
            by_cases e : n = k
            · subst e; exact h
            · exact HNO.out n (by omega))
          generalize hushB V (t + (k : Int)) = hb at *
          have HQQ := Lib.hid hq
          clear hq
          go_wp2_with fail
          refine HK2.out.mono ?_
          rintro e w3 ⟨v, rfl, hor, hB3⟩
          obtain ⟨av, cv, rfl⟩ := owns_form hor
          rw [← HQQ.out] at HS HN
          have HB3 := Lib.hid (btr HB.out hB3)
          clear hor hB3
          by_cases hz : g.length = 0
          · obtain ⟨r1, r2⟩ := HR.out _ (HS.out (by simp [hz]))
            have R1 := Lib.hid r1; have R2 := Lib.hid r2
            have hz2 : ((g.length : Int) == 0) = true := by simp [hz]
            clear r1 r2 hz
            go_wp2_with fail
            go_ret2
            exact ⟨by rw [R1.out, R2.out]; rfl, btr HB2.out HB3.out⟩
          · have hz2 : ((g.length : Int) == 0) = false := by rw [beq_eq_false_iff_ne]; omega
            have HNN := Lib.hid (HN.out hz2)
            clear hz
            go_wp2_with fail
            go_roundw
            case rel => exact ⟨k + 1, by omega, by go_num, HNN.out, HB3.out⟩
            case measure => simp [intOf]; omega
        · have hk32 : k = 32 := by omega
          subst hk32
          obtain ⟨r1, r2⟩ := HR.out _ (quietO_none HNO.out)
          have R1 := Lib.hid r1; have R2 := Lib.hid r2
          clear r1 r2
          go_wp2_with fail
          go_ret2
          exact ⟨by rw [R1.out, R2.out]; rfl, btr HB2.out HB.out⟩
    · rw [ho] at hop HT0
      simp only [if_true] at hop
      have e1 : rquietN V t = 0 := by unfold rquietN; rw [if_neg (by rw [hop]; decide)]
      have e2 : rquietE V t = 3 := by unfold rquietE; rw [if_neg (by rw [hop]; decide), hop]
      rw [e1, e2]; clear e1 e2 hop ho hc
      go_enter Try.func40, Try.ntmps40
      go_wp2_with fail
      refine (HK.out _ HX0.out).mono ?_
      rintro e w2 ⟨rfl, hB2⟩
      go_wp2_with fail
      refine (HT0.out _).mono ?_
      rintro e w2 ⟨rfl, rfl⟩
      go_wp2_with fail
      go_ret2
      exact ⟨rfl, hB2⟩
  · have hop := openE_no [t] hc
    have e1 : rquietN V t = 0 := by unfold rquietN; rw [if_neg (by rw [hop]; exact hc)]
    have e2 : rquietE V t = checkP V := by unfold rquietE; rw [if_neg (by rw [hop]; exact hc), hop]
    rw [e1, e2]; clear e1 e2 hop
    have hcb : (checkP V != 0) = true := by simpa using hc
    have hce : (checkP V == 0) = false := by simpa using hc
    clear hc
    generalize checkP V = q at *
    go_enter Try.func40, Try.ntmps40
    go_wp2_with fail
    refine (HK.out _ HX0.out).mono ?_
    rintro e w2 ⟨rfl, hB2⟩
    go_wp2_with fail
    refine (HK.out _ (HX0.out.mono hB2)).mono ?_
    rintro e w3 ⟨rfl, hB3⟩
    go_wp2_with fail
    go_ret2
    exact ⟨rfl, btr hB2 hB3⟩

/-- Pins of which one has another Offset. -/
def setO (V : List (Int × Int)) (i : Nat) (o : Int) : List (Int × Int) := V.set i ((pin V i).1, o)
theorem setO_len (V : List (Int × Int)) (i : Nat) (o : Int) : (setO V i o).length = V.length := by simp [setO]
theorem setO_pin (V : List (Int × Int)) (i : Nat) (o : Int) (j : Nat) (hj : j < V.length) : pin (setO V i o) j = if j = i then ((pin V i).1, o) else pin V j := by
  unfold setO pin
  rw [List.getElem?_set]
  by_cases h : i = j
  · subst h; simp [hj]
  · rw [if_neg h, if_neg (Ne.symm h)]
theorem RdP.of_pins {w : World} {b off cap : Nat} {V : List (Int × Int)} (hc : V.length ≤ cap) (hm : cap ≤ maxLen) (hb : b < w.heap.size)
    (h : ∀ j, j < V.length → w.cell? ⟨b, off + j * 2, none⟩ = some (.int .i64 (pin V j).1) ∧ w.cell? ⟨b, off + j * 2 + 1, none⟩ = some (.int .i64 (pin V j).2)) : RdP w (.slice (some ⟨b, off, none⟩) V.length cap) V := by
  refine ⟨_, _, rfl, hc, hm, fun _ => ⟨b, off, rfl, hb, fun j u hu => ?_⟩⟩
  have hj : j < V.length * 2 := by rw [← prs_length V]; exact (List.getElem?_eq_some_iff.1 hu).1
  obtain ⟨g1, g2⟩ := prs_get V (j / 2) (by omega)
  change _ = some (Value.int .i64 (pin V (j / 2)).1) at g1
  change _ = some (Value.int .i64 (pin V (j / 2)).2) at g2
  obtain ⟨h1, h2⟩ := h (j / 2) (by omega)
  rcases Nat.mod_two_eq_zero_or_one j with e | e
  · generalize hm2 : j / 2 = m at *
    obtain rfl : j = m * 2 := by omega
    rw [g1] at hu
    cases hu
    exact h1
  · generalize hm2 : j / 2 = m at *
    obtain rfl : j = m * 2 + 1 := by omega
    rw [g2] at hu
    cases hu
    rw [← Nat.add_assoc]; exact h2
theorem addr_add (b o j : Nat) : (⟨b, o, none⟩ : Addr).add j = ⟨b, o + j, none⟩ := by unfold Addr.add; split <;> simp_all
set_option maxRecDepth 100000 in
set_option maxHeartbeats 2000000 in
theorem with_any (x : Value) (V : List (Int × Int)) (i : Nat) (o : Int) (w : World) (hx0 : RdP w x V) (hi : i < V.length) (hl : V.length ≤ 1000) :
    Calls Try.prog 50 #[x, .int .i64 i, .int .i64 o] w fun e w' => ∃ v, e = .returned v ∧ RdP w' v (setO V i o) ∧ Below w.heap.size w w' := by
  obtain ⟨a, ca, rfl, hca, hca2, hx⟩ := hx0.form
  clear hca2
  obtain ⟨bx, ox, rfl, hbx, hcx⟩ := hx (by omega)
  obtain ⟨i0, hi0, hz0, hz1, hz2⟩ := info_parts info55
  have hcells : ∀ j u, (prs V)[j]? = some u → w.cell? ((⟨bx, ox, none⟩ : Addr).add j) = some u := by
    obtain ⟨_, _, e, h1, h2, h⟩ := hx0
    cases e
    obtain ⟨b, off, e, _, h⟩ := h (by intro e; have := prs_length V; rw [e] at this; simp at this; omega)
    cases e
    intro j u hu
    rw [addr_add]; exact h j u hu
  have hpl := prs_length V
  have HC := Lib.hid hcells; have HPL := Lib.hid hpl
  clear hx hx0 hcells hpl hcx
  have hown0 : (w.alloc (.cells #[] 55)).ownsRow w.heap.size 55 2 (.slice (some ⟨w.heap.size, 0, none⟩) 0 0) 0 [] := ⟨rfl, .inr ⟨_, 0, #[], rfl, Nat.le_refl _, heap_alloc_new _ _, Nat.le_refl _, by unfold maxLen; omega, rfl, rfl⟩⟩
  have HOWN0 := Lib.hid hown0; clear hown0
  go_enter Try.func50, Try.ntmps50
  have hcl : ∀ j u, (prs V)[j]? = some u → (w.alloc (.cells #[] 55)).cell? ((⟨bx, ox, none⟩ : Addr).add j) = some u := fun j u hu => by
    have h := HC.out j u hu
    rw [addr_add] at h ⊢
    exact ((bal (bz w) (.cells #[] 55)).cell (p := ⟨bx, ox + j, none⟩) hbx).trans h
  have HCL := Lib.hid hcl; clear hcl
  go_wp2_with (at_builtin; refine wpList_append_own _ rfl _ _ 22 rfl w.heap.size 55 i0 (.agg #[.int .i64 0, .int .i64 0]) 2 16 Try.underlying22 hi0 hz0 hz1 hz2 rfl (by decide) _ _ _ rfl HOWN0.out ⟨bx, ox, none⟩ V.length ca (prs V) rfl HPL.out HCL.out (prs_num V) (by simp only [maxLen]; omega) (by omega) (by simp) ?_)
  intro v' w' hown hgrow _
  have hB := bgr (bal (bz w) (.cells #[] 55)) hgrow (by rintro k e; cases e; exact Nat.le_refl _)
  have hrd := RdP.of_owns hown
  have hfr : ∃ g cap, v' = .slice (some ⟨g, 0, none⟩) V.length cap ∧ w.heap.size ≤ g ∧ ∀ j, w'.frozen? ⟨g, j, none⟩ = false := by
    rcases hown.2 with ⟨_, h⟩ | ⟨g, cap, cur, e, hg, hh, _⟩
    · omega
    · exact ⟨g, cap, e, hg, fun j => frozen_of_row w' g j _ _ hh⟩
  obtain ⟨g, cap, rfl, hg, hfz⟩ := hfr
  obtain ⟨_, _, e, hle, hmx, hrd⟩ := hrd.form
  cases e
  obtain ⟨_, _, e, hgz, hcell⟩ := hrd (by omega)
  cases e
  simp only [Nat.zero_add] at hcell
  have f1 := hfz (i * 2 + 1)
  have c1 := (hcell i hi).2
  have HCE := Lib.hid hcell; have HB := Lib.hid hB
  clear hfz hcell hB hown hgrow hrd HOWN0 HCL
  have HMX := Lib.hid hmx; clear hmx
  go_wp2_with fail
  go_ret
  refine ⟨_, rfl, ?_, bset HB.out hg _⟩
  have hln := setO_len V i o
  have h := RdP.of_pins (w := w'.setCell ⟨g, i * 2 + 1, none⟩ (.int .i64 o)) (b := g) (off := 0) (cap := cap) (V := setO V i o) (by rw [hln]; exact hle) HMX.out (by simp; exact hgz) (fun j hj => ?_)
  · rw [hln] at h; exact h
  · rw [hln] at hj
    rw [setO_pin V i o j hj, Nat.zero_add]
    obtain ⟨k1, k2⟩ := HCE.out j hj
    by_cases hji : j = i
    · subst hji
      rw [if_pos rfl]
      refine ⟨?_, ?_⟩
      · rw [World.cell?_setCell_other _ _ _ _ (by simp)]; exact k1
      · exact World.cell?_setCell_same' _ _ _ (by rw [k2]; rfl)
    · rw [if_neg hji]
      refine ⟨?_, ?_⟩
      · rw [World.cell?_setCell_other _ _ _ _ (by simp)]; exact k1
      · rw [World.cell?_setCell_other _ _ _ _ (by simp)]; exact k2
end Go.Proofs.Ytooddicegkiiiaa
