/- Merged texts: kind, Kind, depth, Depths. -/
import Derived.Test.YtjajdpggoggoiaaGF
import Derived.Test.YtjajdpggoggoiaaGD
import Derived.Test.YtjajdpggoggoiaaGE
namespace Go.Proofs.Ytjajdpggoggoiaa
open Go.RowKit Go.Shelf

def kindP (a b : Int) : Int := if a < b then 0 else if b < a then 2 else 1
/-- What kind returns. -/
def KindOk (R : Int) (W : List Int) (p : Nat) (w : World) (e : Ending) (w' : World) : Prop :=
  ∃ a0 a1, e = .returned (.int .i64 (kindP a0 a1)) ∧ Least (CostK R W p false W.length) a0 ∧ Least (CostK R W p true W.length) a1 ∧ Below w.heap.size w w'
/-- kind under way. -/
structure KS (R : Int) (W : List Int) (p : Nat) (w wr : World) (kb : Nat) (mv fv : Value) (L F : M9.Ents) (i : Nat) : Prop where
  B : Below w.heap.size w wr
  K : wr.heap[kb]? = some (.cells #[.int .i64 1000, .int .i64 1000] 75 (0, 0))
  cm : ∃ mb c, mv = .map (some mb) ∧ MapM wr mb L c
  fm : MapV wr fv F
  m : IsMin (CostK R W p false i) (valM L)
  f : IsMin (fun x m => p < i ∧ CostK R W p true i x m) (valM F)
  vL : ValOk L i
  vF : ValOk F i
  fs : 0 < i → ∃ fb c, fv = .map (some fb) ∧ MapM wr fb F c
theorem KS.MV {R : Int} {W : List Int} {p : Nat} {w wr : World} {kb : Nat} {mv fv : Value} {L F : M9.Ents} {i : Nat} (h : KS R W p w wr kb mv fv L F i) : MapV wr mv L := by
  obtain ⟨mb, c, rfl, hm⟩ := h.cm
  exact .inr ⟨mb, c, rfl, hm⟩
theorem MapV.min_step {w : World} {v : Value} {L : M9.Ents} (h : MapV w v L) {R q : Int} {C : List Int → Int → Prop} (hp : ∀ x m, C x m → 0 ≤ m) (hm : IsMin C (valM L)) {g : List Int → Option Int} (hg : IsMin (fun x m => ∃ e ∈ L, (x, m) ∈ emitS R q e.1 e.2.1) g) :
    IsMin (fun x m => ∃ s n, C s n ∧ (x, m) ∈ emitS R q s n) g := by
  rcases h with ⟨_, rfl⟩ | ⟨mb, c, _, hM⟩
  · exact IsMin.step (c := 0) ⟨by simp, by simp, by simp, by simp⟩ hp hm hg
  · exact IsMin.step hM.ok hp hm hg
/-- A step at another want than p. -/
theorem KS.next {R : Int} {W : List Int} {p : Nat} {w wr w' : World} {kb : Nat} {mv fv : Value} {L F L' F' : M9.Ents} {i nb fb c' cf : Nat} (h : KS R W p w wr kb mv fv L F i) (hd : OkD R W) (hi : i < W.length) (hip : i ≠ p) (hB : Below wr.heap.size wr w')
    (hL : MapM w' nb L' c') (hF : MapM w' fb F' cf) (mL : IsMin (fun x m => ∃ e ∈ L, (x, m) ∈ emitS R (want W i) e.1 e.2.1) (valM L')) (mF : IsMin (fun x m => ∃ e ∈ F, (x, m) ∈ emitS R (want W i) e.1 e.2.1) (valM F')) (vL : ValOk L' (i + 1)) (vF : ValOk F' (i + 1)) :
    KS R W p w w' kb (.map (some nb)) (.map (some fb)) L' F' (i + 1) := by
  refine ⟨btr h.B hB, (hB.block _ (Array.getElem?_eq_some_iff.1 h.K).1).trans h.K, ⟨nb, c', rfl, hL⟩, .inr ⟨fb, cf, rfl, hF⟩, ?_, ?_, by simpa using vL, by simpa using vF, fun _ => ⟨fb, cf, rfl, hF⟩⟩
  · refine (h.MV.min_step (fun x m hc => (costK_ok hd i (by omega) x m hc).2.1) h.m mL).congr fun x m => ?_
    constructor
    · rintro ⟨s, n, h1, h2⟩; exact ⟨s, n, ⟨h1, fun e => absurd e hip⟩, h2⟩
    · rintro ⟨s, n, ⟨h1, _⟩, h2⟩; exact ⟨s, n, h1, h2⟩
  · refine (h.fm.min_step (fun x m hc => (costK_ok hd i (by omega) x m hc.2).2.1) h.f mF).congr fun x m => ?_
    constructor
    · rintro ⟨s, n, ⟨h0, h1⟩, h2⟩; exact ⟨by omega, s, n, ⟨h1, fun e => absurd e hip⟩, h2⟩
    · rintro ⟨h0, s, n, ⟨h1, _⟩, h2⟩; exact ⟨s, n, ⟨by omega, h1⟩, h2⟩
/-- The step at the want p, from the benches that have it and those that have not. -/
theorem KS.at_p {R : Int} {W : List Int} {p : Nat} {w wr w' : World} {kb : Nat} {mv fv : Value} {L F Lh Lg L' F' : M9.Ents} {nb fb c' cf ch cg : Nat} (h : KS R W p w wr kb mv fv L F p) (hd : OkD R W) (hi : p < W.length) (hB : Below wr.heap.size wr w')
    (hh : M9.OkL Lh ch) (hg : M9.OkL Lg cg) (mh : IsMin (fun x m => CostK R W p false p x m ∧ hasB x (want W p) = true) (valM Lh)) (mg : IsMin (fun x m => CostK R W p false p x m ∧ hasB x (want W p) = false) (valM Lg))
    (hL : MapM w' nb L' c') (hF : MapM w' fb F' cf) (mL : IsMin (fun x m => ∃ e ∈ Lh, (x, m) ∈ emitS R (want W p) e.1 e.2.1) (valM L')) (mF : IsMin (fun x m => ∃ e ∈ Lg, (x, m) ∈ emitS R (want W p) e.1 e.2.1) (valM F')) (vL : ValOk L' (p + 1)) (vF : ValOk F' (p + 1)) :
    KS R W p w w' kb (.map (some nb)) (.map (some fb)) L' F' (p + 1) := by
  have same : ∀ i, i ≤ p → ∀ x m, CostK R W p false i x m ↔ CostK R W p true i x m := by
    intro i
    induction i with
    | zero => intro _ x m; exact Iff.rfl
    | succ i ih =>
      intro hip x m
      constructor
      · rintro ⟨s, n, ⟨h1, _⟩, h2⟩; exact ⟨s, n, ⟨(ih (by omega) s n).1 h1, fun e => by omega⟩, h2⟩
      · rintro ⟨s, n, ⟨h1, _⟩, h2⟩; exact ⟨s, n, ⟨(ih (by omega) s n).2 h1, fun e => by omega⟩, h2⟩
  refine ⟨btr h.B hB, (hB.block _ (Array.getElem?_eq_some_iff.1 h.K).1).trans h.K, ⟨nb, c', rfl, hL⟩, .inr ⟨fb, cf, rfl, hF⟩, ?_, ?_, by simpa using vL, by simpa using vF, fun _ => ⟨fb, cf, rfl, hF⟩⟩
  · refine (IsMin.step hh (fun x m hc => (costK_ok hd p (by omega) x m hc.1).2.1) mh mL).congr fun x m => ?_
    constructor
    · rintro ⟨s, n, ⟨h1, h3⟩, h2⟩; exact ⟨s, n, ⟨h1, fun _ => h3⟩, h2⟩
    · rintro ⟨s, n, ⟨h1, h3⟩, h2⟩; exact ⟨s, n, ⟨h1, h3 rfl⟩, h2⟩
  · refine (IsMin.step hg (fun x m hc => (costK_ok hd p (by omega) x m hc.1).2.1) mg mF).congr fun x m => ?_
    constructor
    · rintro ⟨s, n, ⟨h1, h3⟩, h2⟩; exact ⟨by omega, s, n, ⟨(same p (Nat.le_refl _) s n).1 h1, fun _ => h3⟩, h2⟩
    · rintro ⟨_, s, n, ⟨h1, h3⟩, h2⟩; exact ⟨s, n, ⟨(same p (Nat.le_refl _) s n).2 h1, h3 rfl⟩, h2⟩
set_option maxRecDepth 100000 in
set_option maxHeartbeats 8000000 in
theorem kind_any (b : Nat) (R : Int) (W : List Int) (p : Nat) (w : World) (hI : IsBench w b R W zeros) (hd : OkD R W) (hp : p < W.length) :
    Calls Try.prog 57 #[.pointer (some ⟨b, 0, none⟩), .int .i64 p] w (KindOk R W p w) := by
  have h16 := hd.l16
  have HI := Lib.hid hI
  obtain ⟨x, M, Lp, cp, hD, _, _, _, hx0⟩ := hI
  obtain ⟨a, ca, rfl, _, hcm, hx⟩ := hx0.form
  have c1 := hD.cells.2.1
  have hz := hD.lt
  have HD := Lib.hid hD
  have HX := Lib.hid hx
  have hmm := @run_makeMap Try.prog
  have hB1 : Below w.heap.size w ((w.alloc (.cells #[.int .i64 1000, .int .i64 1000] 75)).alloc (.map #[] 0)) := bal (bal (bz w) _) _
  have hM1 : MapM ((w.alloc (.cells #[.int .i64 1000, .int .i64 1000] 75)).alloc (.map #[] 0)) (w.heap.size + 1) [] 0 := ⟨by have := heap_alloc_new (w.alloc (.cells #[.int .i64 1000, .int .i64 1000] 75)) (.map #[] 0); rw [World.size_alloc] at this; exact this, ⟨by simp, by simp, by simp, by simp⟩⟩
  obtain ⟨L1, c1', hput, hok1, hk1⟩ := M9.run_putL hM1.at_ hM1.ok zeros rfl 0
  have hld := (HD.out.up hB1).load
  clear hD hx0 hx hcm
  go_enter Try.func57, Try.ntmps57
  go_upto_region 4 with (refine wpList_load_var rfl 60 _ rfl _ rfl _ hld ?_)
  have HK4 := Lib.hid (show KS R W p w ((((w.alloc (.cells #[.int .i64 1000, .int .i64 1000] 75)).alloc (.map #[] 0)).putObj (w.heap.size + 1) (.map (M9.entsOf L1) c1'))) w.heap.size (.map (some (w.heap.size + 1))) (.map none) L1 [] 0 from by
    refine ⟨below_put hB1 _ (by omega), ?_, ⟨_, c1', rfl, World.putObj_heap_same hM1.lt, hok1⟩, .inl ⟨rfl, rfl⟩, ?_, fun x m => by simp [valM], ?_, fun e he => by simp at he, fun h => by omega⟩
    · rw [World.putObj_heap_other (by omega), Below.heap_alloc _ _ _ (by simp)]
      exact heap_alloc_new _ _
    · intro x m
      rw [val_some hok1, hk1]
      constructor
      · rintro (⟨rfl, rfl⟩ | ⟨_, t, ht⟩)
        · exact ⟨⟨rfl, rfl⟩, fun m' hm' => by have := hm'.2; omega⟩
        · simp at ht
      · rintro ⟨⟨rfl, rfl⟩, _⟩
        exact .inl ⟨rfl, rfl⟩
    · rintro ⟨x, m, t⟩ he
      rcases (hk1 x m).1 ⟨t, he⟩ with ⟨rfl, rfl⟩ | ⟨_, t', ht⟩
      · exact ⟨zeros_ok, by simp, by simp⟩
      · simp at ht)
  obtain ⟨kb, hkb⟩ : ∃ kb, w.heap.size = kb := ⟨_, rfl⟩
  have HKB : Hid (w.heap.size ≤ kb) := Lib.hid (by omega)
  rw [hkb] at HK4
  rw [hkb]
  generalize (((w.alloc (.cells #[.int .i64 1000, .int .i64 1000] 75)).alloc (.map #[] 0)).putObj (kb + 1) (.map (M9.entsOf L1) c1')) = w4 at *
  have d1 := (HK4.out.B.cell (p := ⟨b, 1, none⟩) hz).trans c1
  have dz := Nat.lt_of_lt_of_le hz HK4.out.B.size
  clear hmm hB1 hM1 hput hok1 hk1 hld hkb
  go_wp2_with fail
  go_loopw [6, 7, 8, 9, 10, 11, 12, 30] (fun s6 s7 _ _ _ _ _ iv wr => ∃ (i : Nat) (mv fv : Value) (L F : M9.Ents), i ≤ W.length ∧ mv = s6 ∧ fv = s7 ∧ iv = .int .i64 i ∧ KS R W p w wr kb mv fv L F i) (fun _ _ _ _ _ _ _ iv _ => W.length - (intOf iv).toNat)
  case atStart => exact ⟨0, _, _, L1, [], Nat.zero_le _, rfl, rfl, rfl, HK4.out⟩
  case round =>
    clear HK4 d1 dz
    obtain ⟨i, mv, fv, L, F, hi, rfl, rfl, rfl, hks⟩ := hrel
    have HKS := Lib.hid hks
    clear hks
    by_cases hlt : i < W.length
    · by_cases hip : i = p
      · have HKP := Lib.hid (show KS R W p w wr kb mv fv L F p from by have h := HKS.out; rw [hip] at h; exact h)
        rw [hip]
        clear HKS hip hlt
        obtain ⟨mb, cc, hmv, hMb⟩ := HKP.out.cm
        subst hmv
        have HMB := Lib.hid hMb
        clear hMb
        obtain ⟨bx, ox, rfl, hbx, hcx⟩ := HX.out (by omega)
        obtain ⟨q1, q8⟩ := hd.at hp
        obtain ⟨qn, hqn⟩ := Int.eq_ofNat_of_zero_le (show 0 ≤ want W p by omega)
        have hgw0 := hcx p hp
        change w.cell? _ = some (.int .i64 (want W p)) at hgw0
        rw [hqn] at hgw0
        have HQ := Lib.hid hqn
        have hqn9 : qn < 9 := by omega
        have HGW := Lib.hid hgw0
        clear hcx hgw0 hqn
        have hmm := @run_makeMap Try.prog
        have hBv : Below wr.heap.size wr (((wr.alloc (.map #[] 0)).alloc (.map #[] 0)).alloc (.mapIter (some mb) cc #[] cc)) := bal (bal (bal (bz wr) _) _) _
        have hrg : (Instr.range 97 (.map (some mb))).run Try.prog ((wr.alloc (.map #[] 0)).alloc (.map #[] 0)) = .ok (.pointer (some ⟨wr.heap.size + 1 + 1, 0, none⟩)) (((wr.alloc (.map #[] 0)).alloc (.map #[] 0)).alloc (.mapIter (some mb) cc #[] cc)) := by
          have := HMB.out.up (bal (bal (bz wr) (.map #[] 0)) (.map #[] 0))
          simp [Instr.range, Sem.run_bind, run_underlying Try.underlying97, Result.andThen_ok, run_getMap this.at_]
        have hh1 : (((wr.alloc (.map #[] 0)).alloc (.map #[] 0)).alloc (.mapIter (some mb) cc #[] cc)).heap[wr.heap.size]? = some (.map (M9.entsOf []) 0) := by
          rw [Below.heap_alloc _ _ _ (by simp; omega), Below.heap_alloc _ _ _ (by simp)]
          exact heap_alloc_new _ _
        have hh2 : (((wr.alloc (.map #[] 0)).alloc (.map #[] 0)).alloc (.mapIter (some mb) cc #[] cc)).heap[wr.heap.size + 1]? = some (.map (M9.entsOf []) 0) := by
          rw [Below.heap_alloc _ _ _ (by simp)]
          have := heap_alloc_new (wr.alloc (.map #[] 0)) (.map #[] 0)
          rwa [World.size_alloc] at this
        have hh3 : (((wr.alloc (.map #[] 0)).alloc (.map #[] 0)).alloc (.mapIter (some mb) cc #[] cc)).heap[wr.heap.size + 1 + 1]? = some (.mapIter (some mb) cc #[] cc) := by
          have := heap_alloc_new ((wr.alloc (.map #[] 0)).alloc (.map #[] 0)) (.mapIter (some mb) cc #[] cc)
          rwa [World.size_alloc, World.size_alloc] at this
        go_wp2_with fail
        clear hrg hmm
        obtain ⟨wv, hwv⟩ : ∃ wv, (((wr.alloc (.map #[] 0)).alloc (.map #[] 0)).alloc (.mapIter (some mb) cc #[] cc)) = wv := ⟨_, rfl⟩
        obtain ⟨hb, hhb⟩ : ∃ hb, wr.heap.size = hb := ⟨_, rfl⟩
        obtain ⟨gb, hgb⟩ : ∃ gb, wr.heap.size + 1 = gb := ⟨_, rfl⟩
        obtain ⟨bi, hbi⟩ : ∃ bi, wr.heap.size + 1 + 1 = bi := ⟨_, rfl⟩
        rw [hwv] at hBv hh1 hh2 hh3
        rw [hhb] at hh1
        rw [hgb] at hh2
        rw [hbi] at hh3
        rw [hwv, hbi, hgb, hhb]
        have l1 : wr.heap.size ≤ hb := by omega
        have l2 : wr.heap.size ≤ gb := by omega
        have l3 : wr.heap.size ≤ bi := by omega
        have n1 : hb ≠ gb := by omega
        have n2 : hb ≠ bi := by omega
        have n3 : gb ≠ bi := by omega
        have HBv := Lib.hid hBv; have HH1 := Lib.hid hh1; have HH2 := Lib.hid hh2; have HH3 := Lib.hid hh3
        have hws := HKP.out.B.size
        clear hBv hh1 hh2 hh3 hwv hhb hgb hbi
        rename World => wv
        go_loopw [11, 12] (fun _ _ wz => ∃ (Lh Lg : M9.Ents) (ch cg : Nat) (seen : Array Nat), Below wr.heap.size wr wz ∧ MapM wz hb Lh ch ∧ MapM wz gb Lg cg ∧ wz.heap[bi]? = some (.mapIter (some mb) cc seen cc) ∧ PartM (want W p) true L seen Lh ∧ PartM (want W p) false L seen Lg) (fun _ _ wz => unmet (wz.heap[mb]?) (wz.heap[bi]?))
        case atStart => exact ⟨[], [], 0, 0, #[], HBv.out, ⟨HH1.out, by simp, by simp, by simp, by simp⟩, ⟨HH2.out, by simp, by simp, by simp, by simp⟩, HH3.out, fun x m => by simp [PartS], fun x m => by simp [PartS]⟩
        case round =>
          clear HBv HH1 HH2 HH3
          obtain ⟨Lh, Lg, ch, cg, seen, hB, hMh, hMg, hit, hPh, hPg⟩ := hrel
          rename World => wz
          have HMR := Lib.hid (HMB.out.up hB)
          have HB := Lib.hid hB; have HMH := Lib.hid hMh; have HMG := Lib.hid hMg; have HIT := Lib.hid hit; have HPH := Lib.hid hPh; have HPG := Lib.hid hPg
          clear hB hMh hMg hPh hPg
          rcases M9.run_nextL HMR.out.at_ HMR.out.ok hit with ⟨hall, hnx⟩ | ⟨e, he, hes, n, hnx⟩
          · have HA := Lib.hid hall
            clear hall hit
            have HQH := Lib.hid (HPH.out.done HMR.out.ok HMH.out.ok HA.out HKP.out.m)
            have HQG := Lib.hid (HPG.out.done HMR.out.ok HMG.out.ok HA.out HKP.out.m)
            have HVH := Lib.hid (val_ok (B := (p : Int)) HMH.out.ok HQH.out (fun x m h => costK_ok hd p (by omega) x m h.1))
            have HVG := Lib.hid (val_ok (B := (p : Int)) HMG.out.ok HQG.out (fun x m h => costK_ok hd p (by omega) x m h.1))
            have HS1 := Lib.hid (step_v b R W zeros Lh p (.map (some hb)) (p : Int) wz (HI.out.mono (btr HKP.out.B HB.out)) hd hp (.inr ⟨hb, ch, rfl, HMH.out⟩) HVH.out (by omega))
            go_wp2_with fail
            refine HS1.out.mono ?_
            rintro e w5 ⟨nb, L', c', rfl, hM5, hm5, hv5, hb5⟩
            have HM5 := Lib.hid hM5; have HMI5 := Lib.hid hm5; have HV5 := Lib.hid hv5; have HB5 := Lib.hid hb5
            clear hM5 hm5 hv5 hb5 HS1 hnx
            have HS2 := Lib.hid (step_v b R W zeros Lg p (.map (some gb)) (p : Int) w5 (HI.out.mono (btr (btr HKP.out.B HB.out) HB5.out)) hd hp (.inr ⟨gb, cg, rfl, HMG.out.up HB5.out⟩) HVG.out (by omega))
            go_wp2_with fail
            refine HS2.out.mono ?_
            rintro e w6 ⟨fb, F', cf, rfl, hM6, hm6, hv6, hb6⟩
            have HKN := Lib.hid (HKP.out.at_p hd hp (btr (btr HB.out HB5.out) hb6) HMH.out.ok HMG.out.ok HQH.out HQG.out (HM5.out.up hb6) hM6 HMI5.out hm6 HV5.out hv6)
            clear hM6 hm6 hv6 hb6 HS2 HM5 HMI5 HV5 HB5
            go_wp2_with fail
            go_roundw
            case rel => exact ⟨p + 1, _, _, L', F', by omega, rfl, rfl, by go_num, HKN.out⟩
            case measure => simp [intOf]; omega
          · have HSN := Lib.hid hes; have HE := Lib.hid he
            obtain ⟨s, nv, t⟩ := e
            simp only at hnx HSN
            have hbz := (Array.getElem?_eq_some_iff.1 hit).1
            have HBN := Lib.hid (below_put (Below.drewN' n HB.out) (.mapIter (some mb) cc (seen.push t) cc) l3)
            have HIN := Lib.hid (show ((wz.drewN n).putObj bi (.mapIter (some mb) cc (seen.push t) cc)).heap[bi]? = some (.mapIter (some mb) cc (seen.push t) cc) from World.putObj_heap_same hbz)
            have HHN := Lib.hid (show MapM ((wz.drewN n).putObj bi (.mapIter (some mb) cc (seen.push t) cc)) hb Lh ch from ⟨(World.putObj_heap_other n2).trans HMH.out.at_, HMH.out.ok⟩)
            have HGN := Lib.hid (show MapM ((wz.drewN n).putObj bi (.mapIter (some mb) cc (seen.push t) cc)) gb Lg cg from ⟨(World.putObj_heap_other n3).trans HMG.out.at_, HMG.out.ok⟩)
            have HMN := Lib.hid (HMB.out.up HBN.out)
            have hen := M9.run_entryL HMN.out.at_ HMN.out.ok HE.out HIN.out
            simp only at hen
            have HUN := Lib.hid (fun wy (h1 : Below wr.heap.size wr wy) (h2 : wy.heap[bi]? = some (.mapIter (some mb) cc (seen.push t) cc)) => (show unmet (wy.heap[mb]?) (wy.heap[bi]?) < unmet (wz.heap[mb]?) (wz.heap[bi]?) from by
              rw [(HMB.out.up h1).at_, h2, HMR.out.at_, HIT.out, unmet_eq9, unmet_eq9]
              exact unmet_lt9 ⟨_, HE.out, rfl⟩ HSN.out))
            clear hes he hit HMH HMG HB
            go_upto_region 12 with fail
            clear hnx
            generalize ((wz.drewN n).putObj bi (.mapIter (some mb) cc (seen.push t) cc)) = wn at *
            obtain ⟨hon, hv0, hvB⟩ := HKP.out.vL _ HE.out
            simp only at hon hv0 hvB
            have HS9 := Lib.hid hon.len
            have hi60 : (Try.prog.info? 60).map (·.size) = some 9 := by kernel_rfl
            have HI60 := Lib.hid hi60; clear hi60
            have hB5 := below_box wn #[Value.int IntKind.i64 0, Value.int IntKind.i64 0, Value.int IntKind.i64 0, Value.int IntKind.i64 0, Value.int IntKind.i64 0, Value.int IntKind.i64 0, Value.int IntKind.i64 0, Value.int IntKind.i64 0, Value.int IntKind.i64 0] (arrI s) 60
            have HB5 := Lib.hid (btr HBN.out hB5)
            have HG5 := Lib.hid (heap_box wn #[Value.int IntKind.i64 0, Value.int IntKind.i64 0, Value.int IntKind.i64 0, Value.int IntKind.i64 0, Value.int IntKind.i64 0, Value.int IntKind.i64 0, Value.int IntKind.i64 0, Value.int IntKind.i64 0, Value.int IntKind.i64 0] (arrI s) 60)
            have HI5 := Lib.hid ((hB5.block _ (Array.getElem?_eq_some_iff.1 HIN.out).1).trans HIN.out)
            have HH5 := Lib.hid (HHN.out.up hB5)
            have HGG5 := Lib.hid (HGN.out.up hB5)
            clear hB5 hon
            go_upto_region 13 with (refine wpList_store_row rfl 60 (.tmp 11) (.tmp 43) rfl wn.heap.size (arrI s) rfl rfl 60 _ (heap_alloc_new _ _) (by rw [arrI_size, HS9.out]; exact HI60.out) (by rw [arrI_size, HS9.out]; rfl) (one_arr _) ?_)
            obtain ⟨w5, hw5⟩ : ∃ w5, ((wn.alloc (.cells #[Value.int IntKind.i64 0, Value.int IntKind.i64 0, Value.int IntKind.i64 0, Value.int IntKind.i64 0, Value.int IntKind.i64 0, Value.int IntKind.i64 0, Value.int IntKind.i64 0, Value.int IntKind.i64 0, Value.int IntKind.i64 0] 60)).setRow wn.heap.size (arrI s)) = w5 := ⟨_, rfl⟩
            rw [hw5] at HB5 HG5 HI5 HH5 HGG5
            rw [hw5]
            obtain ⟨sb, hsb⟩ : ∃ sb, wn.heap.size = sb := ⟨_, rfl⟩
            rw [hsb] at HG5
            rw [hsb]
            clear hw5 hsb hen HBN HIN HHN HGN HMN
            have d1 := ((btr HKP.out.B HB5.out).cell (p := ⟨b, 1, none⟩) hz).trans c1
            have dz := Nat.lt_of_lt_of_le hz (btr HKP.out.B HB5.out).size
            have dx := Nat.lt_of_lt_of_le hbx (btr HKP.out.B HB5.out).size
            have gw := ((btr HKP.out.B HB5.out).cell (p := ⟨bx, ox + p, none⟩) hbx).trans HGW.out
            have gk : w5.cell? ⟨sb, qn, none⟩ = some (.int .i64 (s[qn]?.getD 0)) := by
              rw [cell_of_row _ _ _ _ _ _ HG5.out]; exact arrI_get s qn (by have := HS9.out; omega)
            have szz : sb < w5.heap.size := World.block_lt_of_cell? w5 _ gk
            have HSK := Lib.hid (show hasB s (want W p) = decide (0 < s[qn]?.getD 0) by rw [HQ.out]; unfold hasB bitV; rw [Int.toNat_natCast])
            have HLD := Lib.hid (run_loadVar_row w5 sb 60 60 (arrI s) (0, 0) _ HG5.out Try.underlying60 rfl (by rw [arrI_size, HS9.out]; exact HI60.out))
            generalize s[qn]?.getD 0 = sk at *
            by_cases hsk : 0 < sk
            · have dk : decide (0 < sk) = true := decide_eq_true hsk
              have HSB := Lib.hid (HSK.out.trans dk)
              clear hsk
              obtain ⟨L9, c9, hput, hok9, hk9⟩ := M9.run_putL HH5.out.at_ HH5.out.ok s HS9.out nv
              have HN9 := Lib.hid (show MapM (w5.putObj hb (.map (M9.entsOf L9) c9)) hb L9 c9 from ⟨World.putObj_heap_same HH5.out.lt, hok9⟩)
              have HK9 := Lib.hid hk9
              clear hok9 hk9
              have hld := HLD.out
              go_wp2_with (refine wpList_load_var rfl 60 _ rfl _ rfl _ hld ?_)
              clear hput hld
              go_roundw
              case rel => exact ⟨L9, Lg, c9, cg, seen.push t, below_put HB5.out _ l1, HN9.out, ⟨(World.putObj_heap_other (Ne.symm n1)).trans HGG5.out.at_, HGG5.out.ok⟩, (World.putObj_heap_other (Ne.symm n2)).trans HI5.out, HPH.out.put HMR.out.ok HE.out HSB.out HK9.out, HPG.out.skip HMR.out.ok HE.out (by rw [HSB.out]; simp)⟩
              case measure => exact HUN.out _ (below_put HB5.out _ l1) ((World.putObj_heap_other (Ne.symm n2)).trans HI5.out)
            · have dk : decide (0 < sk) = false := decide_eq_false hsk
              have HSB := Lib.hid (HSK.out.trans dk)
              clear hsk
              obtain ⟨L9, c9, hput, hok9, hk9⟩ := M9.run_putL HGG5.out.at_ HGG5.out.ok s HS9.out nv
              have HN9 := Lib.hid (show MapM (w5.putObj gb (.map (M9.entsOf L9) c9)) gb L9 c9 from ⟨World.putObj_heap_same HGG5.out.lt, hok9⟩)
              have HK9 := Lib.hid hk9
              clear hok9 hk9
              have hld := HLD.out
              go_wp2_with (refine wpList_load_var rfl 60 _ rfl _ rfl _ hld ?_)
              clear hput hld
              go_roundw
              case rel => exact ⟨Lh, L9, ch, c9, seen.push t, below_put HB5.out _ l2, ⟨(World.putObj_heap_other n1).trans HH5.out.at_, HH5.out.ok⟩, HN9.out, (World.putObj_heap_other (Ne.symm n3)).trans HI5.out, HPH.out.skip HMR.out.ok HE.out (by rw [HSB.out]; simp), HPG.out.put HMR.out.ok HE.out HSB.out HK9.out⟩
              case measure => exact HUN.out _ (below_put HB5.out _ l2) ((World.putObj_heap_other (Ne.symm n3)).trans HI5.out)
      · have t1 : ((i : Int) == (p : Int)) = false := by simp; omega
        have t2 : (i == p) = false := by simpa using hip
        have HIP := Lib.hid hip
        clear hip
        have HS1 := Lib.hid (step_v b R W zeros L i mv (i : Int) wr (HI.out.mono HKS.out.B) hd hlt HKS.out.MV HKS.out.vL (by omega))
        go_wp2_with fail
        refine HS1.out.mono ?_
        rintro e w5 ⟨nb, L', c', rfl, hM5, hm5, hv5, hb5⟩
        have HM5 := Lib.hid hM5; have HMI5 := Lib.hid hm5; have HV5 := Lib.hid hv5; have HB5 := Lib.hid hb5
        clear hM5 hm5 hv5 hb5 HS1
        have HS2 := Lib.hid (step_v b R W zeros F i fv (i : Int) w5 (HI.out.mono (btr HKS.out.B HB5.out)) hd hlt (HKS.out.fm.up HB5.out) HKS.out.vF (by omega))
        go_wp2_with fail
        refine HS2.out.mono ?_
        rintro e w6 ⟨fb, F', cf, rfl, hM6, hm6, hv6, hb6⟩
        have HKN := Lib.hid (HKS.out.next hd hlt HIP.out (btr HB5.out hb6) (HM5.out.up hb6) hM6 HMI5.out hm6 HV5.out hv6)
        clear hM6 hm6 hv6 hb6 HS2 HM5 HMI5 HV5 HB5
        go_wp2_with fail
        go_roundw
        case rel => exact ⟨i + 1, _, _, L', F', by omega, rfl, rfl, by go_num, HKN.out⟩
        case measure => simp [intOf]; omega
    · have hin : i = W.length := by omega
      subst hin
      obtain ⟨mb, cc, hmv, hMb⟩ := HKS.out.cm
      obtain ⟨fb, cf, hfv, hFb⟩ := HKS.out.fs (by omega)
      subst hmv; subst hfv
      have HMB := Lib.hid hMb; have HFB := Lib.hid hFb
      clear hMb hFb
      have hrg : (Instr.range 97 (.map (some mb))).run Try.prog wr = .ok (.pointer (some ⟨wr.heap.size, 0, none⟩)) (wr.alloc (.mapIter (some mb) cc #[] cc)) := by
        simp [Instr.range, Sem.run_bind, run_underlying Try.underlying97, Result.andThen_ok, run_getMap HMB.out.at_]
      have hkz := (Array.getElem?_eq_some_iff.1 HKS.out.K).1
      have hrz := HKS.out.B.size
      have hmz := HMB.out.lt
      have hfz := HFB.out.lt
      have hmk : mb ≠ kb := by
        intro e; subst e; have := HMB.out.at_; rw [HKS.out.K] at this; cases this
      have hfk : fb ≠ kb := by
        intro e; subst e; have := HFB.out.at_; rw [HKS.out.K] at this; cases this
      have hkw := HKB.out
      go_wp2_with fail
      clear hrg
      have HBV := Lib.hid (bal HKS.out.B (.mapIter (some mb) cc #[] cc))
      have HMV := Lib.hid (HMB.out.up (bal (bz wr) (.mapIter (some mb) cc #[] cc)))
      have HFV := Lib.hid (HFB.out.up (bal (bz wr) (.mapIter (some mb) cc #[] cc)))
      have HKV := Lib.hid ((Below.heap_alloc wr (.mapIter (some mb) cc #[] cc) kb hkz).trans HKS.out.K)
      have HIV := Lib.hid (heap_alloc_new wr (.mapIter (some mb) cc #[] cc))
      obtain ⟨bi, hbi⟩ : ∃ bi, wr.heap.size = bi := ⟨_, rfl⟩
      rw [hbi] at HIV hkz hrz hmz hfz
      rw [hbi]
      have hik : bi ≠ kb := by omega
      generalize (wr.alloc (.mapIter (some mb) cc #[] cc)) = wv at *
      clear hbi
      go_loopw [14] (fun _ wz => ∃ (v0 : Int) (seen : Array Nat), Below w.heap.size w wz ∧ MapM wz mb L cc ∧ MapM wz fb F cf ∧ wz.heap[kb]? = some (.cells #[.int .i64 v0, .int .i64 1000] 75 (0, 0)) ∧ wz.heap[bi]? = some (.mapIter (some mb) cc seen cc) ∧ MinE L seen v0) (fun _ wz => unmet (wz.heap[mb]?) (wz.heap[bi]?))
      case atStart => exact ⟨1000, #[], HBV.out, HMV.out, HFV.out, HKV.out, HIV.out, ⟨by omega, .inl rfl, by simp⟩⟩
      case round =>
        clear HBV HMV HFV HKV HIV
        obtain ⟨v0, seen, hB, hM, hF, hK, hit, hmin⟩ := hrel
        rename World => wz
        have HB := Lib.hid hB; have HM := Lib.hid hM; have HF := Lib.hid hF; have HK := Lib.hid hK; have HIT := Lib.hid hit; have HMN := Lib.hid hmin
        clear hB hM hF hK hmin
        rcases M9.run_nextL HM.out.at_ HM.out.ok hit with ⟨hall, hnx⟩ | ⟨e, he, hes, n, hnx⟩
        · have HA := Lib.hid hall
          clear hall hit
          have HLE := Lib.hid (HMN.out.done HM.out.ok HA.out (fun x m hc => (costK_ok hd W.length (Nat.le_refl _) x m hc).2.1) HKS.out.m)
          have hv01 := HMN.out.le
          have hrg : (Instr.range 97 (.map (some fb))).run Try.prog wz = .ok (.pointer (some ⟨wz.heap.size, 0, none⟩)) (wz.alloc (.mapIter (some fb) cf #[] cf)) := by
            simp [Instr.range, Sem.run_bind, run_underlying Try.underlying97, Result.andThen_ok, run_getMap HF.out.at_]
          have hkz3 := (Array.getElem?_eq_some_iff.1 HK.out).1
          have hrz3 := HB.out.size
          have hfz3 := HF.out.lt
          go_wp2_with fail
          clear hrg hnx
          have HBV := Lib.hid (bal HB.out (.mapIter (some fb) cf #[] cf))
          have HFV := Lib.hid (HF.out.up (bal (bz wz) (.mapIter (some fb) cf #[] cf)))
          have HKV := Lib.hid ((Below.heap_alloc wz (.mapIter (some fb) cf #[] cf) kb hkz3).trans HK.out)
          have HIV := Lib.hid (heap_alloc_new wz (.mapIter (some fb) cf #[] cf))
          obtain ⟨bj, hbj⟩ : ∃ bj, wz.heap.size = bj := ⟨_, rfl⟩
          rw [hbj] at HIV hkz3 hrz3 hfz3
          rw [hbj]
          have hjk : bj ≠ kb := by omega
          generalize (wz.alloc (.mapIter (some fb) cf #[] cf)) = wy at *
          clear hbj HM HF HK HB HMN HIT HA
          go_loopw [16] (fun _ wz => ∃ (v1 : Int) (seen : Array Nat), Below w.heap.size w wz ∧ MapM wz fb F cf ∧ wz.heap[kb]? = some (.cells #[.int .i64 v0, .int .i64 v1] 75 (0, 0)) ∧ wz.heap[bj]? = some (.mapIter (some fb) cf seen cf) ∧ MinE F seen v1) (fun _ wz => unmet (wz.heap[fb]?) (wz.heap[bj]?))
          case atStart => exact ⟨1000, #[], HBV.out, HFV.out, HKV.out, HIV.out, ⟨by omega, .inl rfl, by simp⟩⟩
          case round =>
            clear HBV HFV HKV HIV
            obtain ⟨v1, seen, hB, hF, hK, hit, hmin⟩ := hrel
            rename World => wz
            have HB := Lib.hid hB; have HF := Lib.hid hF; have HK := Lib.hid hK; have HIT := Lib.hid hit; have HMN := Lib.hid hmin
            clear hB hF hK hmin
            rcases M9.run_nextL HF.out.at_ HF.out.ok hit with ⟨hall, hnx⟩ | ⟨e, he, hes, n, hnx⟩
            · have HA := Lib.hid hall
              clear hall hit
              have HL1 := Lib.hid (show Least (CostK R W p true W.length) v1 from by
                have h := HMN.out.done HF.out.ok HA.out (fun x m hc => (costK_ok hd W.length (Nat.le_refl _) x m hc.2).2.1) HKS.out.f
                exact ⟨h.1, h.2.1.imp id (fun ⟨s, hs⟩ => ⟨s, hs.2⟩), fun s n hs => h.2.2 s n ⟨hp, hs⟩⟩)
              have k0 : wz.cell? ⟨kb, 0, none⟩ = some (.int .i64 v0) := by rw [cell_of_row _ _ _ _ _ _ HK.out]; rfl
              have k1 : wz.cell? ⟨kb, 1, none⟩ = some (.int .i64 v1) := by rw [cell_of_row _ _ _ _ _ _ HK.out]; rfl
              have kz := (Array.getElem?_eq_some_iff.1 HK.out).1
              by_cases c1 : v0 < v1
              · have d1 : decide (v0 < v1) = true := decide_eq_true c1
                have HP := Lib.hid (show kindP v0 v1 = 0 by unfold kindP; rw [if_pos c1])
                clear c1
                go_wp2_with fail
                go_ret
                exact ⟨v0, v1, ret_int HP.out.symm, HLE.out, HL1.out, HB.out⟩
              · have d1 : decide (v0 < v1) = false := decide_eq_false c1
                by_cases c2 : v1 < v0
                · have d2 : decide (v1 < v0) = true := decide_eq_true c2
                  have HP := Lib.hid (show kindP v0 v1 = 2 by unfold kindP; rw [if_neg c1, if_pos c2])
                  clear c1 c2
                  go_wp2_with fail
                  go_ret
                  exact ⟨v0, v1, ret_int HP.out.symm, HLE.out, HL1.out, HB.out⟩
                · have d2 : decide (v1 < v0) = false := decide_eq_false c2
                  have HP := Lib.hid (show kindP v0 v1 = 1 by unfold kindP; rw [if_neg c1, if_neg c2])
                  clear c1 c2
                  go_wp2_with fail
                  go_ret
                  exact ⟨v0, v1, ret_int HP.out.symm, HLE.out, HL1.out, HB.out⟩
            · have HSN := Lib.hid hes; have HE := Lib.hid he
              obtain ⟨s, nv, t⟩ := e
              simp only at hnx HSN
              obtain ⟨_, hv0, hvB⟩ := HKS.out.vF _ HE.out
              simp only at hv0 hvB
              have hbz := (Array.getElem?_eq_some_iff.1 hit).1
              have HBN := Lib.hid (below_put (Below.drewN' n HB.out) (.mapIter (some fb) cf (seen.push t) cf) hrz3)
              have HIN := Lib.hid (show ((wz.drewN n).putObj bj (.mapIter (some fb) cf (seen.push t) cf)).heap[bj]? = some (.mapIter (some fb) cf (seen.push t) cf) from World.putObj_heap_same hbz)
              have HFN := Lib.hid (show MapM ((wz.drewN n).putObj bj (.mapIter (some fb) cf (seen.push t) cf)) fb F cf from ⟨(World.putObj_heap_other (by omega)).trans HF.out.at_, HF.out.ok⟩)
              have HKN := Lib.hid (show ((wz.drewN n).putObj bj (.mapIter (some fb) cf (seen.push t) cf)).heap[kb]? = some (.cells #[.int .i64 v0, .int .i64 v1] 75 (0, 0)) from (World.putObj_heap_other (by omega)).trans HK.out)
              have hen := M9.run_entryL HFN.out.at_ HFN.out.ok HE.out HIN.out
              simp only at hen
              have hkc : ((wz.drewN n).putObj bj (.mapIter (some fb) cf (seen.push t) cf)).cell? ⟨kb, 1, none⟩ = some (.int .i64 v1) := by rw [cell_of_row _ _ _ _ _ _ HKN.out]; rfl
              have hkf : ((wz.drewN n).putObj bj (.mapIter (some fb) cf (seen.push t) cf)).frozen? ⟨kb, 1, none⟩ = false := frozen_of_row _ kb _ _ _ HKN.out
              have HUN := Lib.hid (fun wy (h1 : MapM wy fb F cf) (h2 : wy.heap[bj]? = some (.mapIter (some fb) cf (seen.push t) cf)) => (show unmet (wy.heap[fb]?) (wy.heap[bj]?) < unmet (wz.heap[fb]?) (wz.heap[bj]?) from by
                rw [h1.at_, h2, HF.out.at_, HIT.out, unmet_eq9, unmet_eq9]
                exact unmet_lt9 ⟨_, HE.out, rfl⟩ HSN.out))
              clear hes he hit HF HB HK
              go_upto_region 25 with fail
              clear hnx
              generalize ((wz.drewN n).putObj bj (.mapIter (some fb) cf (seen.push t) cf)) = wn at *
              have hkz2 : kb < wn.heap.size := World.block_lt_of_cell? wn _ hkc
              have HPU := Lib.hid (HMN.out.push HFN.out.ok HE.out (show nv ≤ 1000 by omega))
              simp only at HPU
              go_wp2_with fail
              go_roundw
              case rel => exact ⟨_, seen.push t, bset HBN.out hkw _, ⟨(Go.Deep.blk_setCell_other wn ⟨kb, 1, none⟩ _ fb hfk).trans HFN.out.at_, HFN.out.ok⟩, by rw [heap_setCell_same wn kb 1 _ _ _ HKN.out]; rfl, (Go.Deep.blk_setCell_other wn ⟨kb, 1, none⟩ _ bj hjk).trans HIN.out, HPU.out⟩
              case measure => exact HUN.out _ ⟨(Go.Deep.blk_setCell_other wn ⟨kb, 1, none⟩ _ fb hfk).trans HFN.out.at_, HFN.out.ok⟩ ((Go.Deep.blk_setCell_other wn ⟨kb, 1, none⟩ _ bj hjk).trans HIN.out)
        · have HSN := Lib.hid hes; have HE := Lib.hid he
          obtain ⟨s, nv, t⟩ := e
          simp only at hnx HSN
          obtain ⟨_, hv0, hvB⟩ := HKS.out.vL _ HE.out
          simp only at hv0 hvB
          have hbz := (Array.getElem?_eq_some_iff.1 hit).1
          have HBN := Lib.hid (below_put (Below.drewN' n HB.out) (.mapIter (some mb) cc (seen.push t) cc) hrz)
          have HIN := Lib.hid (show ((wz.drewN n).putObj bi (.mapIter (some mb) cc (seen.push t) cc)).heap[bi]? = some (.mapIter (some mb) cc (seen.push t) cc) from World.putObj_heap_same hbz)
          have HMN2 := Lib.hid (show MapM ((wz.drewN n).putObj bi (.mapIter (some mb) cc (seen.push t) cc)) mb L cc from ⟨(World.putObj_heap_other (by omega)).trans HM.out.at_, HM.out.ok⟩)
          have HFN := Lib.hid (show MapM ((wz.drewN n).putObj bi (.mapIter (some mb) cc (seen.push t) cc)) fb F cf from ⟨(World.putObj_heap_other (by omega)).trans HF.out.at_, HF.out.ok⟩)
          have HKN := Lib.hid (show ((wz.drewN n).putObj bi (.mapIter (some mb) cc (seen.push t) cc)).heap[kb]? = some (.cells #[.int .i64 v0, .int .i64 1000] 75 (0, 0)) from (World.putObj_heap_other (by omega)).trans HK.out)
          have hen := M9.run_entryL HMN2.out.at_ HMN2.out.ok HE.out HIN.out
          simp only at hen
          have hkc : ((wz.drewN n).putObj bi (.mapIter (some mb) cc (seen.push t) cc)).cell? ⟨kb, 0, none⟩ = some (.int .i64 v0) := by rw [cell_of_row _ _ _ _ _ _ HKN.out]; rfl
          have hkf : ((wz.drewN n).putObj bi (.mapIter (some mb) cc (seen.push t) cc)).frozen? ⟨kb, 0, none⟩ = false := frozen_of_row _ kb _ _ _ HKN.out
          have HUN := Lib.hid (fun wy (h1 : MapM wy mb L cc) (h2 : wy.heap[bi]? = some (.mapIter (some mb) cc (seen.push t) cc)) => (show unmet (wy.heap[mb]?) (wy.heap[bi]?) < unmet (wz.heap[mb]?) (wz.heap[bi]?) from by
            rw [h1.at_, h2, HM.out.at_, HIT.out, unmet_eq9, unmet_eq9]
            exact unmet_lt9 ⟨_, HE.out, rfl⟩ HSN.out))
          clear hes he hit HM HF HB HK
          go_upto_region 21 with fail
          clear hnx
          generalize ((wz.drewN n).putObj bi (.mapIter (some mb) cc (seen.push t) cc)) = wn at *
          have hkz2 : kb < wn.heap.size := World.block_lt_of_cell? wn _ hkc
          have HPU := Lib.hid (HMN.out.push HMN2.out.ok HE.out (show nv ≤ 1000 by omega))
          simp only at HPU
          go_wp2_with fail
          go_roundw
          case rel => exact ⟨_, seen.push t, bset HBN.out hkw _, ⟨(Go.Deep.blk_setCell_other wn ⟨kb, 0, none⟩ _ mb hmk).trans HMN2.out.at_, HMN2.out.ok⟩, ⟨(Go.Deep.blk_setCell_other wn ⟨kb, 0, none⟩ _ fb hfk).trans HFN.out.at_, HFN.out.ok⟩, by rw [heap_setCell_same wn kb 0 _ _ _ HKN.out]; rfl, (Go.Deep.blk_setCell_other wn ⟨kb, 0, none⟩ _ bi hik).trans HIN.out, HPU.out⟩
          case measure => exact HUN.out _ ⟨(Go.Deep.blk_setCell_other wn ⟨kb, 0, none⟩ _ mb hmk).trans HMN2.out.at_, HMN2.out.ok⟩ ((Go.Deep.blk_setCell_other wn ⟨kb, 0, none⟩ _ bi hik).trans HIN.out)
end Go.Proofs.Ytjajdpggoggoiaa

namespace Go.Proofs.Ytjajdpggoggoiaa

/-- There is a best way by which the want p is fetched (0), or is not (1). -/
def MayB (R : Int) (W : List Int) (p b : Nat) : Prop := ∃ T, Way R W T ∧ costS W T W.length = aheadD R W W.length 0 ∧ bitN (T p) (want W p).toNat = b
theorem way_ge {R : Int} {W : List Int} {T : Nat → Nat} (h : Way R W T) : aheadD R W W.length 0 ≤ costS W T W.length := by
  have := h.ahead_le W.length 0 (by omega)
  rw [h.zero] at this
  have e : costS W T 0 = 0 := rfl
  omega
theorem way_best {R : Int} {W : List Int} (hd : OkD R W) : ∃ T, Way R W T ∧ costS W T W.length = aheadD R W W.length 0 := by
  obtain ⟨_, T, t1, t2, t3⟩ := ahead_path hd W.length 0 0 (by omega) (set_zero hd.r1)
  have e : costS W T 0 = 0 := rfl
  exact ⟨T, ⟨t1, fun i hi => t2 i (by omega) hi⟩, by omega⟩
theorem few_16 {R : Int} {W : List Int} (hd : OkD R W) : aheadD R W W.length 0 ≤ W.length := (ahead_path hd W.length 0 0 (by omega) (set_zero hd.r1)).1
theorem may_some {R : Int} {W : List Int} (hd : OkD R W) (p : Nat) : MayB R W p 0 ∨ MayB R W p 1 := by
  obtain ⟨T, h1, h2⟩ := way_best hd
  have := bitN_le (T p) (want W p).toNat
  by_cases hb : bitN (T p) (want W p).toNat = 0
  · exact .inl ⟨T, h1, h2, hb⟩
  · exact .inr ⟨T, h1, h2, by omega⟩
/-- What may follow a bench, as 9 numbers. -/
theorem emitS_after {R : Int} {S q : Nat} (hS : SetR R S) (_q1 : 1 ≤ q) (q9 : q < 9) (n : Int) (x : List Int) (m : Int) : (x, m) ∈ emitS R (q : Int) (onOf S) n ↔ ∃ l ∈ afterN R S q, x = onOf l ∧ m = n + (1 - (bitN S q : Int)) := by
  have hO : OnOk (onOf S) := by
    refine ⟨onOf_len S, fun y hy => ?_, ?_⟩
    · unfold onOf at hy
      obtain ⟨i, _, rfl⟩ := List.mem_map.1 hy
      have := bitN_le S i
      omega
    · rw [onOf_at S 0 (by omega), hS.none]; rfl
  unfold emitS afterN
  rw [onOf_hasB S q q9]
  by_cases h1 : bitN S q = 1
  · rw [if_pos (by simp [h1]), if_pos h1]
    simp only [List.mem_singleton, Prod.mk.injEq, exists_eq_left]
    rw [h1]
    constructor
    · rintro ⟨rfl, rfl⟩; exact ⟨rfl, by omega⟩
    · rintro ⟨rfl, rfl⟩; exact ⟨rfl, by omega⟩
  · have h0 : bitN S q = 0 := by have := bitN_le S q; omega
    rw [if_neg (by simp [h1]), if_neg h1, h0]
    by_cases h2 : sumL (onOf S) < R
    · rw [if_pos h2, if_pos h2]
      obtain ⟨S2, e, _, e2⟩ := set_take hS.lt hO h0 q9
      simp only [List.mem_singleton, Prod.mk.injEq, exists_eq_left]
      rw [e, e2]
      constructor
      · rintro ⟨rfl, rfl⟩; exact ⟨rfl, by omega⟩
      · rintro ⟨rfl, rfl⟩; exact ⟨rfl, by omega⟩
    · rw [if_neg h2, if_neg h2]
      rw [mem_emitK]
      constructor
      · rintro ⟨a, a1, a2, a3, rfl, rfl⟩
        rw [onOf_hasB S a (by omega)] at a3
        have ha : bitN S a = 1 := by simpa using a3
        obtain ⟨_, S2, e, _, e2⟩ := set_swap hS.lt ha h0 (by omega) q9
        exact ⟨_, mem_swapK.2 ⟨a, a1, by omega, ha, e.symm⟩, e2.symm, by omega⟩
      · rintro ⟨l, hl, rfl, rfl⟩
        obtain ⟨a, a1, a2, ha, rfl⟩ := mem_swapK.1 hl
        obtain ⟨_, S2, e, _, e2⟩ := set_swap hS.lt ha h0 (by omega) q9
        exact ⟨a, a1, by omega, by rw [onOf_hasB S a (by omega)]; simp [ha], by rw [e, e2], by omega⟩
/-- Parts of ways. -/
structure WayTo (R : Int) (W : List Int) (i : Nat) (T : Nat → Nat) : Prop where
  zero : T 0 = 0
  next : ∀ k, k < i → T (k + 1) ∈ afterN R (T k) (want W k).toNat
theorem WayTo.set {R : Int} {W : List Int} {T : Nat → Nat} {i : Nat} (h : WayTo R W i T) (hd : OkD R W) (hi : i ≤ W.length) : ∀ k, k ≤ i → SetR R (T k)
  | 0, _ => by rw [h.zero]; exact set_zero hd.r1
  | k + 1, hk => by
    have hw := want_nat hd (show k < W.length by omega)
    exact ((h.set hd hi k (by omega)).after hw.1 hw.2 (h.next k (by omega))).1
theorem costK_way {R : Int} {W : List Int} (hd : OkD R W) {p : Nat} {fl : Bool} : ∀ i, i ≤ W.length → ∀ x m, CostK R W p fl i x m ↔ ∃ T, WayTo R W i T ∧ onOf (T i) = x ∧ costS W T i = m ∧ (p < i → (bitN (T p) (want W p).toNat == 1) = !fl)
  | 0, _, x, m => by
    constructor
    · rintro ⟨rfl, rfl⟩
      exact ⟨fun _ => 0, ⟨rfl, fun k hk => by omega⟩, by decide, rfl, fun h => by omega⟩
    · rintro ⟨T, h1, rfl, rfl, _⟩
      exact ⟨by rw [h1.zero]; decide, rfl⟩
  | i + 1, hi, x, m => by
    have ih := costK_way hd (p := p) (fl := fl) i (by omega)
    have hw := want_nat hd (show i < W.length by omega)
    have hwi : (((want W i).toNat : Nat) : Int) = want W i := by have := hd.at (show i < W.length by omega); omega
    constructor
    · rintro ⟨s, n, ⟨h1, h2⟩, h3⟩
      obtain ⟨T, t1, rfl, rfl, t4⟩ := (ih s n).1 h1
      have hS := t1.set hd (by omega) i (Nat.le_refl _)
      rw [← hwi, emitS_after hS hw.1 hw.2] at h3
      obtain ⟨l, hl, rfl, rfl⟩ := h3
      refine ⟨fun k => if k ≤ i then T k else l, ⟨by simp [t1.zero], fun k hk => ?_⟩, by simp only [show ¬ (i + 1 ≤ i) by omega, if_false], ?_, fun hp => ?_⟩
      · by_cases e : k = i
        · subst e; simp only [Nat.le_refl, if_true, show ¬ (k + 1 ≤ k) by omega, if_false]; exact hl
        · simp only [show k ≤ i by omega, show k + 1 ≤ i by omega, if_true]
          exact t1.next k (by omega)
      · have e : costS W (fun k => if k ≤ i then T k else l) (i + 1) = costS W (fun k => if k ≤ i then T k else l) i + (1 - (bitN (T i) (want W i).toNat : Int)) := by
          show _ + _ = _
          simp
        rw [e, costS_congr W i (S := fun k => if k ≤ i then T k else l) (T := T) fun j hj => by simp [show j ≤ i by omega]]
      · simp only [show p ≤ i by omega, if_true]
        by_cases e : p = i
        · subst e
          have := h2 rfl
          rw [← hwi, onOf_hasB _ _ hw.2] at this
          exact this
        · exact t4 (by omega)
    · rintro ⟨T, t1, rfl, rfl, t4⟩
      have t1' : WayTo R W i T := ⟨t1.zero, fun k hk => t1.next k (by omega)⟩
      have hS := t1'.set hd (by omega) i (Nat.le_refl _)
      refine ⟨onOf (T i), costS W T i, ⟨(ih _ _).2 ⟨T, t1', rfl, rfl, fun hp => t4 (by omega)⟩, fun e => ?_⟩, ?_⟩
      · subst e
        rw [← hwi, onOf_hasB _ _ hw.2]
        exact t4 (by omega)
      · rw [← hwi, emitS_after hS hw.1 hw.2]
        exact ⟨_, t1.next i (by omega), rfl, rfl⟩
theorem least_way {R : Int} {W : List Int} (hd : OkD R W) {p : Nat} (hp : p < W.length) {b : Nat} (hb : b = 0 ∨ b = 1) {a : Int} (h : Least (CostK R W p (b == 0) W.length) a) : aheadD R W W.length 0 ≤ a ∧ (a = aheadD R W W.length 0 ↔ MayB R W p b) := by
  have h16 := hd.l16
  have f16 := few_16 hd
  have conv : ∀ T : Nat → Nat, bitN (T p) (want W p).toNat = b ↔ (bitN (T p) (want W p).toNat == 1) = !(b == 0) := by
    intro T
    have := bitN_le (T p) (want W p).toNat
    rcases hb with rfl | rfl
    · simp; omega
    · simp
  have hge : aheadD R W W.length 0 ≤ a := by
    rcases h.2.1 with h1 | ⟨s, hs⟩
    · omega
    · obtain ⟨T, t1, _, t3, _⟩ := (costK_way hd W.length (Nat.le_refl _) s a).1 hs
      have := way_ge (R := R) (W := W) (T := T) ⟨t1.zero, t1.next⟩
      omega
  refine ⟨hge, ?_⟩
  constructor
  · intro e
    rcases h.2.1 with h1 | ⟨s, hs⟩
    · omega
    · obtain ⟨T, t1, _, t3, t4⟩ := (costK_way hd W.length (Nat.le_refl _) s a).1 hs
      exact ⟨T, ⟨t1.zero, t1.next⟩, by omega, (conv T).2 (t4 hp)⟩
  · rintro ⟨T, t1, t2, t3⟩
    have := h.2.2 _ _ ((costK_way hd W.length (Nat.le_refl _) (onOf (T W.length)) (costS W T W.length)).2 ⟨T, ⟨t1.zero, t1.next⟩, rfl, rfl, fun _ => (conv T).1 t3⟩)
    omega
/-- What kinds mean. -/
def KindIs (R : Int) (W : List Int) (p : Nat) (k : Int) : Prop := (k = 2 ∧ ¬ MayB R W p 1 ∧ MayB R W p 0) ∨ (k = 0 ∧ ¬ MayB R W p 0 ∧ MayB R W p 1) ∨ (k = 1 ∧ MayB R W p 0 ∧ MayB R W p 1)
theorem KindIs.one {R : Int} {W : List Int} {p : Nat} {k k' : Int} (h : KindIs R W p k) (h' : KindIs R W p k') : k = k' := by
  rcases h with ⟨rfl, h1, h2⟩ | ⟨rfl, h1, h2⟩ | ⟨rfl, h1, h2⟩ <;> rcases h' with ⟨rfl, h3, h4⟩ | ⟨rfl, h3, h4⟩ | ⟨rfl, h3, h4⟩ <;> first | rfl | (exact absurd ‹_› ‹¬ _›) | contradiction
theorem kindP_is {R : Int} {W : List Int} (hd : OkD R W) {p : Nat} (hp : p < W.length) {a0 a1 : Int} (h0 : Least (CostK R W p false W.length) a0) (h1 : Least (CostK R W p true W.length) a1) : KindIs R W p (kindP a0 a1) := by
  obtain ⟨g0, e0⟩ := least_way hd hp (b := 1) (.inr rfl) h0
  obtain ⟨g1, e1⟩ := least_way hd hp (b := 0) (.inl rfl) h1
  have hs := may_some hd p
  rw [← e0, ← e1] at hs
  unfold kindP KindIs
  rw [← e0, ← e1]
  by_cases c1 : a0 < a1
  · rw [if_pos c1]; right; left; refine ⟨rfl, ?_, ?_⟩ <;> omega
  · rw [if_neg c1]
    by_cases c2 : a1 < a0
    · rw [if_pos c2]; left; refine ⟨rfl, ?_, ?_⟩ <;> omega
    · rw [if_neg c2]; right; right; refine ⟨rfl, ?_, ?_⟩ <;> omega
/-- The benches of best ways. -/
theorem mem_pushK {R : Int} {W : List Int} {i S : Nat} {acc : List Nat} {l x : Nat} : x ∈ pushK R W i S acc l ↔ x ∈ acc ∨ (x = l ∧ aheadD R W (W.length - (i + 1)) l + 1 - (bitN S (want W i).toNat : Int) = aheadD R W (W.length - i) S) := by
  unfold pushK
  by_cases h : aheadD R W (W.length - (i + 1)) l + 1 - (bitN S (want W i).toNat : Int) = aheadD R W (W.length - i) S ∧ acc.contains l = false
  · rw [if_pos h, List.mem_append, List.mem_singleton]
    exact ⟨fun g => g.imp id fun e => ⟨e, h.1⟩, fun g => g.imp id fun e => e.1⟩
  · rw [if_neg h]
    constructor
    · exact .inl
    · rintro (g | ⟨rfl, g⟩)
      · exact g
      · have : acc.contains x = true := by
          cases hc : acc.contains x with
          | true => rfl
          | false => exact absurd ⟨g, hc⟩ h
        simpa using this
theorem mem_pushs {R : Int} {W : List Int} {i S x : Nat} : ∀ (ls acc : List Nat), x ∈ ls.foldl (pushK R W i S) acc ↔ x ∈ acc ∨ (x ∈ ls ∧ aheadD R W (W.length - (i + 1)) x + 1 - (bitN S (want W i).toNat : Int) = aheadD R W (W.length - i) S)
  | [], acc => by simp
  | l :: ls, acc => by
    rw [List.foldl_cons, mem_pushs ls, mem_pushK, List.mem_cons]
    constructor
    · rintro ((h | ⟨rfl, h⟩) | ⟨h1, h2⟩)
      · exact .inl h
      · exact .inr ⟨.inl rfl, h⟩
      · exact .inr ⟨.inr h1, h2⟩
    · rintro (h | ⟨rfl | h1, h2⟩)
      · exact .inl (.inl h)
      · exact .inl (.inr ⟨rfl, h2⟩)
      · exact .inr ⟨h1, h2⟩
theorem mem_overs {R : Int} {W : List Int} {i x : Nat} : ∀ (ls acc : List Nat), x ∈ ls.foldl (overK R W i) acc ↔ x ∈ acc ∨ ∃ S ∈ ls, x ∈ afterN R S (want W i).toNat ∧ aheadD R W (W.length - (i + 1)) x + 1 - (bitN S (want W i).toNat : Int) = aheadD R W (W.length - i) S
  | [], acc => by simp
  | l :: ls, acc => by
    rw [List.foldl_cons, mem_overs ls]
    unfold overK
    rw [mem_pushs]
    constructor
    · rintro ((h | h) | ⟨S, h1, h2⟩)
      · exact .inl h
      · exact .inr ⟨l, by simp, h⟩
      · exact .inr ⟨S, by simp [h1], h2⟩
    · rintro (h | ⟨S, h1, h2⟩)
      · exact .inl (.inl h)
      · rcases List.mem_cons.1 h1 with rfl | h1
        · exact .inl (.inr h2)
        · exact .inr ⟨S, h1, h2⟩
theorem mem_setsK {R : Int} {W : List Int} (i x : Nat) : x ∈ setsK R W (i + 1) ↔ ∃ S ∈ setsK R W i, x ∈ afterN R S (want W i).toNat ∧ aheadD R W (W.length - (i + 1)) x + 1 - (bitN S (want W i).toNat : Int) = aheadD R W (W.length - i) S := by
  show x ∈ (setsK R W i).foldl (overK R W i) [] ↔ _
  rw [mem_overs]; simp
theorem setsK_way {R : Int} {W : List Int} (hd : OkD R W) : ∀ i, i ≤ W.length → ∀ x, x ∈ setsK R W i → ∃ T, WayTo R W i T ∧ T i = x ∧ costS W T i + aheadD R W (W.length - i) x = aheadD R W W.length 0
  | 0, _, x, h => by
    have : x = 0 := by simpa [setsK] using h
    subst this
    exact ⟨fun _ => 0, ⟨rfl, fun k hk => by omega⟩, rfl, by show (0 : Int) + _ = _; simp⟩
  | i + 1, hi, x, h => by
    obtain ⟨S, h1, h2, h3⟩ := (mem_setsK i x).1 h
    obtain ⟨T, t1, rfl, t3⟩ := setsK_way hd i (by omega) S h1
    refine ⟨fun k => if k ≤ i then T k else x, ⟨by simp [t1.zero], fun k hk => ?_⟩, by simp only [show ¬ (i + 1 ≤ i) by omega, if_false], ?_⟩
    · by_cases e : k = i
      · subst e; simp only [Nat.le_refl, if_true, show ¬ (k + 1 ≤ k) by omega, if_false]; exact h2
      · simp only [show k ≤ i by omega, show k + 1 ≤ i by omega, if_true]
        exact t1.next k (by omega)
    · have e : costS W (fun k => if k ≤ i then T k else x) (i + 1) = costS W (fun k => if k ≤ i then T k else x) i + (1 - (bitN (T i) (want W i).toNat : Int)) := by
        show _ + _ = _
        simp
      rw [e, costS_congr W i (S := fun k => if k ≤ i then T k else x) (T := T) fun j hj => by simp [show j ≤ i by omega]]
      omega
theorem best_in {R : Int} {W : List Int} (hd : OkD R W) {T : Nat → Nat} (h : Way R W T) (hc : costS W T W.length = aheadD R W W.length 0) : ∀ i, i ≤ W.length → costS W T i + aheadD R W (W.length - i) (T i) = aheadD R W W.length 0 ∧ T i ∈ setsK R W i
  | 0, _ => by
    rw [h.zero]
    exact ⟨by show (0 : Int) + _ = _; simp, by simp [setsK]⟩
  | i + 1, hi => by
    obtain ⟨e1, e2⟩ := best_in hd h hc i (by omega)
    have h1 := h.ahead_le (W.length - (i + 1)) (i + 1) (by omega)
    have hs := h.set hd i (by omega)
    have h2 : aheadD R W (W.length - i) (T i) ≤ aheadD R W (W.length - (i + 1)) (T (i + 1)) + 1 - (bitN (T i) (want W i).toNat : Int) := by
      have hm := (minS_mem ((afterN R (T i) (want W i).toNat).map (aheadD R W (W.length - (i + 1)))) 1000).2.1 _ (List.mem_map_of_mem (h.next i (by omega)))
      have e := aheadD_succ R W (d := W.length - (i + 1)) (i := i) (by omega) (T i)
      rw [show W.length - (i + 1) + 1 = W.length - i by omega, if_neg (by have := hs.le; omega)] at e
      omega
    have e3 : costS W T (i + 1) = costS W T i + (1 - (bitN (T i) (want W i).toNat : Int)) := rfl
    have e4 : costS W T (i + 1) + aheadD R W (W.length - (i + 1)) (T (i + 1)) = aheadD R W W.length 0 := by omega
    exact ⟨e4, (mem_setsK i _).2 ⟨T i, e2, h.next i (by omega), by omega⟩⟩
theorem setsK_may {R : Int} {W : List Int} (hd : OkD R W) {p : Nat} (hp : p < W.length) {b : Nat} : (∃ x ∈ setsK R W p, bitN x (want W p).toNat = b) ↔ MayB R W p b := by
  constructor
  · rintro ⟨x, hx, hb⟩
    obtain ⟨T, t1, rfl, t3⟩ := setsK_way hd p (by omega) x hx
    have hS := t1.set hd (by omega) p (Nat.le_refl _)
    obtain ⟨_, U, u1, u2, u3⟩ := ahead_path hd (W.length - p) p (T p) (by omega) hS
    have hw : Way R W (fun k => if k ≤ p then T k else U k) := by
      refine ⟨by simp [t1.zero], fun k hk => ?_⟩
      by_cases e : k < p
      · simp only [show k ≤ p by omega, show k + 1 ≤ p by omega, if_true]
        exact t1.next k e
      · have := u2 k (by omega) hk
        by_cases e2 : k = p
        · subst e2
          simp only [Nat.le_refl, if_true, show ¬ (k + 1 ≤ k) by omega, if_false]
          rw [u1] at this; exact this
        · simp only [show ¬ (k ≤ p) by omega, show ¬ (k + 1 ≤ p) by omega, if_false]
          exact this
    refine ⟨_, hw, ?_, by simpa using hb⟩
    have c1 : costS W (fun k => if k ≤ p then T k else U k) p = costS W T p := costS_congr W p fun j hj => by simp [show j ≤ p by omega]
    have c2 : ∀ m, p ≤ m → m ≤ W.length → costS W (fun k => if k ≤ p then T k else U k) m - costS W (fun k => if k ≤ p then T k else U k) p = costS W U m - costS W U p := by
      intro m
      induction m with
      | zero => intro h1 _; have : p = 0 := by omega
                subst this; omega
      | succ m ih =>
        intro h1 h2
        by_cases e : p = m + 1
        · rw [← e]; omega
        · have := ih (by omega) (by omega)
          have e1 : costS W (fun k => if k ≤ p then T k else U k) (m + 1) = costS W (fun k => if k ≤ p then T k else U k) m + (1 - (bitN (U m) (want W m).toNat : Int)) := by
            show _ + _ = _
            by_cases e2 : m = p
            · subst e2; simp [u1]
            · simp [show ¬ (m ≤ p) by omega]
          have e2 : costS W U (m + 1) = costS W U m + (1 - (bitN (U m) (want W m).toNat : Int)) := rfl
          omega
    have := c2 W.length (by omega) (Nat.le_refl _)
    omega
  · rintro ⟨T, t1, t2, t3⟩
    exact ⟨T p, (best_in hd t1 t2 p (by omega)).2, t3⟩
theorem fetK_cnt (q : Nat) : ∀ l : List Nat, fetK q l = ((l.filter fun S => bitN S q == 0).length : Int) := by
  have key : ∀ (l : List Nat) (n : Int), l.foldl (fun n S => n + (1 - (bitN S q : Int))) n = n + ((l.filter fun S => bitN S q == 0).length : Int) := by
    intro l
    induction l with
    | nil => intro n; simp
    | cons x l ih =>
      intro n
      have := bitN_le x q
      rw [List.foldl_cons, ih]
      by_cases h : bitN x q = 0
      · simp [h]; omega
      · have : bitN x q = 1 := by omega
        simp [this]
  intro l
  have := key l 0
  unfold fetK; omega
theorem kindD_is {R : Int} {W : List Int} (hd : OkD R W) {p : Nat} (hp : p < W.length) : KindIs R W p (kindD R W p) := by
  have h0 := setsK_may hd hp (b := 0)
  have h1 := setsK_may hd hp (b := 1)
  have hs := may_some hd p
  unfold kindD
  rw [fetK_cnt]
  unfold KindIs
  rw [← h0, ← h1] at hs ⊢
  generalize setsK R W p = l at *
  generalize (want W p).toNat = q at *
  have hle := List.length_filter_le (fun S => bitN S q == 0) l
  by_cases c1 : (l.filter fun S => bitN S q == 0).length = l.length
  · rw [if_pos (by omega)]
    left
    have hall := List.length_filter_eq_length_iff.1 c1
    have hno : ¬ ∃ x ∈ l, bitN x q = 1 := by
      rintro ⟨x, hx, hb⟩
      have := hall x hx
      simp at this; omega
    exact ⟨rfl, hno, hs.resolve_right hno⟩
  · rw [if_neg (by omega)]
    have hex1 : ∃ x ∈ l, bitN x q = 1 := by
      refine Classical.byContradiction fun hn => c1 (List.length_filter_eq_length_iff.2 fun x hx => ?_)
      have := bitN_le x q
      have : bitN x q ≠ 1 := fun e => hn ⟨x, hx, e⟩
      simp; omega
    by_cases c2 : (l.filter fun S => bitN S q == 0).length = 0
    · right; left
      rw [c2]
      refine ⟨by simp, ?_, hex1⟩
      rintro ⟨x, hx, hb⟩
      have := List.length_eq_zero_iff.1 c2
      have hm : x ∈ l.filter fun S => bitN S q == 0 := List.mem_filter.2 ⟨hx, by simp [hb]⟩
      rw [this] at hm; simp at hm
    · right; right
      refine ⟨by split <;> omega, ?_, hex1⟩
      obtain ⟨x, hx⟩ := List.exists_mem_of_length_pos (show 0 < (l.filter fun S => bitN S q == 0).length by omega)
      obtain ⟨h2, h3⟩ := List.mem_filter.1 hx
      exact ⟨x, h2, by simpa using h3⟩
/-- The program's kind is the document's. -/
theorem kind_same {R : Int} {W : List Int} (hd : OkD R W) {p : Nat} (hp : p < W.length) {a0 a1 : Int} (h0 : Least (CostK R W p false W.length) a0) (h1 : Least (CostK R W p true W.length) a1) : kindP a0 a1 = kindD R W p :=
  (kindP_is hd hp h0 h1).one (kindD_is hd hp)
end Go.Proofs.Ytjajdpggoggoiaa

namespace Go.Proofs.Ytjajdpggoggoiaa
open Go.RowKit Go.Shelf

set_option maxRecDepth 100000 in
set_option maxHeartbeats 4000000 in
theorem pkind_any (R : Int) (x : Value) (W : List Int) (p : Int) (w : World) (hx0 : RdI w .i64 x W) (hl : W.length ≤ 1000) :
    Calls Try.prog 31 #[.agg #[.int .i64 R, x], .int .i64 p] w fun e w' => e = .returned (.tuple #[.int .i64 (kindR R W p).1, .int .i64 (kindR R W p).2]) ∧ Below w.heap.size w w' := by
  obtain ⟨a, c, rfl⟩ := hx0.ex _ rfl
  have HX := Lib.hid hx0
  unfold kindR
  by_cases hc : checkD R W = 0
  · have HO := Lib.hid (fun wz hx => open_ok R (.slice a W.length c) W wz hx hc)
    have hd := okD_of hc
    have h16 := hd.l16
    unfold OpenOk at HO
    rw [if_neg (by simp [hc])]
    have hr1 : (w.alloc (.cells #[.int .i64 R, .slice a W.length c] 24)).cell? ⟨w.heap.size, 1, none⟩ = some (.slice a W.length c) := cnew rfl rfl
    have hwr1 : IntKind.i64.wrap ((W.length : Int) - 1) = (W.length : Int) - 1 := IntWalk.i64_in _ (by omega)
    by_cases hp : p < 0 ∨ (W.length : Int) ≤ p
    · rw [if_pos hp]
      have HR : Hid ([p].any (outB 0 ((W.length : Int) - 1)) = true) := Lib.hid (by simp [outB]; omega)
      clear hc hx0 hd hp
      go_enter Try.func31, Try.ntmps31
      go_wp2_with fail
      refine (HO.out _ (HX.out.mono (bal (bz _) _))).mono ?_
      rintro e w2 ⟨b, rfl, hb, hD, hB2⟩
      have k1 := (hB2.cell (p := ⟨w.heap.size, 1, none⟩) (by simp)).trans hr1
      have hws : w.heap.size < w2.heap.size := by have := hB2.size; simp at this; omega
      have HB2 := Lib.hid (btr (bal (bz w) _) hB2)
      clear hB2 hD hr1 hb
      go_wp2_with fail
      refine (within_any _ [p] _ _ _ (one_slice (cnew rfl rfl) (by simp)) (by simp)).mono ?_
      rintro e w3 ⟨rfl, hB3⟩
      have HB3 := Lib.hid (btr (bal HB2.out _) hB3)
      rw [HR.out]
      clear hB3 k1
      go_wp2_with fail
      go_ret2
      exact ⟨rfl, HB3.out⟩
    · rw [if_neg hp]
      obtain ⟨pn, rfl⟩ := Int.eq_ofNat_of_zero_le (show 0 ≤ p by omega)
      rw [Int.toNat_natCast]
      have HR : Hid ([(pn : Int)].any (outB 0 ((W.length : Int) - 1)) = false) := Lib.hid (by simp [outB]; omega)
      have HK := Lib.hid (fun b wz (hI : IsBench wz b R W zeros) => (kind_any b R W pn wz hI hd (by omega)))
      unfold KindOk at HK
      have HS := Lib.hid (fun a0 a1 h0 h1 => kind_same (p := pn) hd (by omega) (a0 := a0) (a1 := a1) h0 h1)
      generalize kindD R W pn = kd at *
      clear hc hx0 hd hp
      go_enter Try.func31, Try.ntmps31
      go_wp2_with fail
      refine (HO.out _ (HX.out.mono (bal (bz _) _))).mono ?_
      rintro e w2 ⟨b, rfl, hb, hD, hB2⟩
      have k1 := (hB2.cell (p := ⟨w.heap.size, 1, none⟩) (by simp)).trans hr1
      have hws : w.heap.size < w2.heap.size := by have := hB2.size; simp at this; omega
      have HB2 := Lib.hid (btr (bal (bz w) _) hB2)
      have HD := Lib.hid hD
      clear hB2 hD hr1 hb
      go_wp2_with fail
      have HD1 := Lib.hid (HD.out.mono (bal (bz _) (.cells #[.int .i64 (pn : Int)] 3)))
      refine (within_any _ [(pn : Int)] _ _ _ (one_slice (cnew rfl rfl) (by simp)) (by simp)).mono ?_
      rintro e w3 ⟨rfl, hB3⟩
      have HB3 := Lib.hid (btr (bal HB2.out _) hB3)
      have HD3 := Lib.hid (HD1.out.mono hB3)
      rw [HR.out]
      clear hB3 k1
      go_wp2_with fail
      refine (HK.out b w3 HD3.out).mono ?_
      rintro e w4 ⟨a0, a1, rfl, h0, h1, hB4⟩
      have hk := HS.out a0 a1 h0 h1
      have HB4 := Lib.hid (btr HB3.out hB4)
      clear h0 h1 hB4
      rw [hk]
      clear hk
      go_wp2_with fail
      go_ret2
      exact ⟨rfl, HB4.out⟩
  · have HO := Lib.hid (fun wz hx => open_no R (.slice a W.length c) W wz hx hl hc)
    rw [if_pos hc]
    have t1 : (checkD R W != 0) = true := by simpa using hc
    generalize checkD R W = q at *
    clear hc hx0
    go_enter Try.func31, Try.ntmps31
    go_wp2_with fail
    refine (HO.out _ (HX.out.mono (bal (bz _) _))).mono ?_
    rintro e w2 ⟨rfl, hB2⟩
    have HB2 := Lib.hid (btr (bal (bz w) _) hB2)
    clear hB2
    go_wp2_with fail
    go_ret2
    exact ⟨rfl, HB2.out⟩
end Go.Proofs.Ytjajdpggoggoiaa

namespace Go.Proofs.Ytjajdpggoggoiaa
open Go.RowKit Go.Shelf
attribute [local go_sem] Oper.semAt_some

/-- Left by a pause that ends at p. -/
def DepX (W : List Int) (p n lb : Nat) (w : World) (c : Code) (X : World) : Prop := c = .ret ∧ X.cell? ⟨lb, 0, none⟩ = some (.int .i64 (depthD W p)) ∧ Below n w X
set_option maxRecDepth 100000 in
set_option maxHeartbeats 8000000 in
theorem depth_any (b : Nat) (R : Int) (W on : List Int) (p : Nat) (w : World) (hI : IsBench w b R W on) (hd : OkD R W) (hp : p < W.length) :
    Calls Try.prog 60 #[.pointer (some ⟨b, 0, none⟩), .int .i64 p] w fun e w' => e = .returned (.int .i64 (depthD W p)) ∧ Below w.heap.size w w' := by
  have h16 := hd.l16
  have HI := Lib.hid hI
  obtain ⟨x, M, L, cl, hD, _, _, _, hx0⟩ := hI
  obtain ⟨a, ca, rfl, _, _, hx⟩ := hx0.form
  have c1 := hD.cells.2.1
  have hz := hD.lt
  have HX := Lib.hid hx
  clear hD hx0 hx
  refine callsIn_wide (n := 10).1 ?_
  refine callsIn_of_wp_marks Try.func60 rfl trivial ?_ rfl
  simp only [Try.ntmps60, List.size_toArray, List.length_cons, List.length_nil, Nat.reduceAdd, Nat.reduceSub, Array.replicate_succ, Array.replicate_zero, List.push_toArray, List.append_toArray, List.nil_append, List.cons_append]
  gi_wp2_with fail
  refine ⟨trivial, callsIn_wide.2 ((lasting_any _ _).mono ?_)⟩
  rintro e w4 ⟨rfl, hw4⟩
  have hB0 : Below w.heap.size w w4 := by rw [← hw4]; exact bal (bal (bal (bal (bz w) _) _) _) _
  have hsz : w4.heap.size = w.heap.size + 4 := by rw [← hw4]; simp
  have c0 : w4.cell? ⟨w.heap.size, 0, none⟩ = some (.pointer (some ⟨b, 0, none⟩)) := by rw [← hw4]; exact cal _ (cal _ (cal _ (cnew rfl rfl)))
  have c2 : w4.cell? ⟨w.heap.size + 1, 0, none⟩ = some (.int .i64 p) := by rw [← hw4]; exact cal _ (cal _ (cnew (by simp) rfl))
  have c3 : w4.cell? ⟨w.heap.size + 1 + 1, 0, none⟩ = some (.int .i64 0) := by rw [← hw4]; exact cal _ (cnew (by simp) rfl)
  have f3 : w4.frozen? ⟨w.heap.size + 1 + 1, 0, none⟩ = false := by rw [← hw4]; exact fal _ (fnew (by simp)) (by simp)
  have c4 : w4.cell? ⟨w.heap.size + 1 + 1 + 1, 0, none⟩ = some (.pointer (some ⟨b, 0, none⟩)) := by rw [← hw4]; exact cnew (by simp) rfl
  simp only [World.size_alloc]
  clear hw4
  obtain ⟨bb, hbb⟩ : ∃ k, w.heap.size = k := ⟨_, rfl⟩
  obtain ⟨pb, hpb⟩ : ∃ k, w.heap.size + 1 = k := ⟨_, rfl⟩
  obtain ⟨lb, hlb⟩ : ∃ k, w.heap.size + 1 + 1 = k := ⟨_, rfl⟩
  obtain ⟨cb, hcb⟩ : ∃ k, w.heap.size + 1 + 1 + 1 = k := ⟨_, rfl⟩
  rw [hcb] at c4
  rw [hlb] at c3 f3
  rw [hpb] at c2
  rw [hbb] at c0
  have l0 : bb < w4.heap.size := by omega
  have l1 : pb < w4.heap.size := by omega
  have l2 : lb < w4.heap.size := by omega
  have l3 : cb < w4.heap.size := by omega
  have l4 : w.heap.size ≤ w4.heap.size := by omega
  have l5 : w.heap.size ≤ lb := by omega
  rw [hcb, hlb, hpb, hbb]
  have HN : Hid (w.heap.size ≤ w4.heap.size ∧ w.heap.size ≤ lb) := Lib.hid ⟨l4, l5⟩
  clear hcb hlb hpb hbb hsz
  have HB0 := Lib.hid hB0; have HC0 := Lib.hid c0; have HC2 := Lib.hid c2; have HC3 := Lib.hid c3; have HF3 := Lib.hid f3; have HC4 := Lib.hid c4
  clear hB0 c0 c2 c3 f3 c4
  gi_wp2
  refine range_law (gf := 83) (lb := #[.pointer (some ⟨cb, 0, none⟩)]) rfl (enters_of Try.func83 (by kernel_rfl) rfl) (lasting_yields _ cb b R W on (fun i hi => by have := (hd.at hi).1; omega) (by omega)) (fun _ => rfl)
    (fun pre X => Below w4.heap.size w4 X ∧ ∀ pr ∈ pre, pr.2 ≠ (p : Int))
    (fun c pre X => DepX W p w.heap.size lb w c X)
    (fun s => (abides_below (Nat.le_refl _) (Nat.le_refl _)).and abides_pure)
    (fun c s => abides_pure.and ((abides_cell (by show lb < w4.heap.size; omega)).and (abides_below l4 (Nat.le_refl _))))
    (fun s X h => ⟨(h.1.cell (p := ⟨cb, 0, none⟩) l3).trans HC4.out, (HI.out.mono HB0.out).mono h.1⟩)
    ⟨bz _, by simp⟩ ?round ?done ?stop
  case round =>
    rintro l pre ⟨p0, p1⟩ X ⟨hB, hpre⟩ hpx hszX
    have hmem : (p0, p1) ∈ lastL W W.length := by obtain ⟨ys, e⟩ := hpx; rw [← e]; simp
    obtain ⟨k0, k1, hk01, hk1n, hpz, hpeq⟩ := mem_lastL.1 hmem
    simp only [Prod.mk.injEq] at hpeq
    obtain ⟨rfl, rfl⟩ := hpeq
    have HB := Lib.hid hB; have HPRE := Lib.hid hpre; have HPZ := Lib.hid hpz
    clear hB hpx hmem hpre hpz
    unfold kv
    gi_wp2
    refine ⟨(KF.refl _ _).alloc _, fun W2 hg2 hs2 => ?_⟩
    have HB2 := Lib.hid (bgr (bal HB.out (Obj.cells #[Value.int .i64 (k0 : Int), Value.int .i64 (k1 : Int)] 96)) hg2 (fun k e => by have := Option.some.inj e; omega))
    have hpb2 : W2.heap[X.heap.size]? = some (.cells #[Value.int .i64 (k0 : Int), Value.int .i64 (k1 : Int)] 96 (0, 0)) := (hg2.block _ (by simp) (fun e => by have := Option.some.inj e; omega)).trans (heap_alloc_new _ _)
    have q0 : W2.cell? ⟨X.heap.size, 0, none⟩ = some (.int .i64 (k0 : Int)) := by rw [cell_of_row _ _ _ _ _ _ hpb2]; rfl
    have q1 : W2.cell? ⟨X.heap.size, 1, none⟩ = some (.int .i64 (k1 : Int)) := by rw [cell_of_row _ _ _ _ _ _ hpb2]; rfl
    have qz : X.heap.size < W2.heap.size := by rw [hs2]; simp
    have d2 := (HB2.out.cell (p := ⟨pb, 0, none⟩) l1).trans HC2.out
    have dz := Nat.lt_of_lt_of_le l1 HB2.out.size
    clear hg2 hpb2 hs2
    by_cases hkp : k1 = p
    · have t1 : ((k1 : Int) != (p : Int)) = false := by simp [hkp]
      have t2 : (k1 != p) = false := by simp [hkp]
      gi_wp2_with fail
      subst hkp
      have hlen := subW_len (W := W) (a := k0) (p := k1) (by omega) (by omega)
      have HDE := Lib.hid (depth_pause hd hp hk01 HPZ.out)
      obtain ⟨bx, ox, rfl, hbx, hcx⟩ := HX.out (by omega)
      have hIB := btr HB0.out HB2.out
      obtain ⟨ad, hs, had⟩ := run_cutMid bx ox W.length ca k0 k1 (by omega) (by omega)
      have had2 := had hk01
      obtain ⟨ln, hln⟩ : ∃ ln, k1 - k0 = ln := ⟨_, rfl⟩
      obtain ⟨o2, ho2⟩ : ∃ o2, ox + k0 = o2 := ⟨_, rfl⟩
      rw [ho2] at had2
      rw [hln] at hs hlen
      have HCX := Lib.hid (fun wz (hB : Below W2.heap.size W2 wz) j (hj : j < ln) => (show ∃ v : Nat, v < 9 ∧ (subW W k0 k1)[j]?.getD 0 = (v : Int) ∧ wz.cell? ⟨bx, o2 + j, none⟩ = some (.int .i64 (v : Int)) ∧ bx < wz.heap.size from by
        have hw := hd.at (show k0 + j < W.length by omega)
        refine ⟨(want W (k0 + j)).toNat, by omega, by rw [subW_at (by omega) (by omega)]; omega, ?_, Nat.lt_of_lt_of_le hbx (btr hIB hB).size⟩
        rw [show (((want W (k0 + j)).toNat : Nat) : Int) = want W (k0 + j) by omega, show o2 + j = ox + (k0 + j) by omega]
        exact ((btr hIB hB).cell (p := ⟨bx, ox + (k0 + j), none⟩) hbx).trans (hcx (k0 + j) (by omega))))
      have hln17 : ln ≤ 16 := by omega
      subst had2
      clear hln ho2 had
      have e0 := (HB2.out.cell (p := ⟨bb, 0, none⟩) l0).trans HC0.out
      have ez := Nat.lt_of_lt_of_le l0 HB2.out.size
      have e1 := (hIB.cell (p := ⟨b, 1, none⟩) hz).trans c1
      have ey := Nat.lt_of_lt_of_le hz hIB.size
      have r3 := (HB2.out.cell (p := ⟨lb, 0, none⟩) l2).trans HC3.out
      have rf := (HB2.out.frozen (p := ⟨lb, 0, none⟩) l2).trans HF3.out
      have rz := Nat.lt_of_lt_of_le l2 HB2.out.size
      have hxw := hszX
      clear hcx
      have HR3 := Lib.hid r3; have HRF := Lib.hid rf; have HRZ := Lib.hid rz
      clear r3 rf rz
      gi_wp2_with fail
      have HB3 := Lib.hid (bal (bz W2) (Obj.cells #[Value.int IntKind.i64 0, Value.int IntKind.i64 0, Value.int IntKind.i64 0, Value.int IntKind.i64 0, Value.int IntKind.i64 0, Value.int IntKind.i64 0, Value.int IntKind.i64 0, Value.int IntKind.i64 0, Value.int IntKind.i64 0] 60))
      have HG3 := Lib.hid (show (W2.alloc (Obj.cells #[Value.int IntKind.i64 0, Value.int IntKind.i64 0, Value.int IntKind.i64 0, Value.int IntKind.i64 0, Value.int IntKind.i64 0, Value.int IntKind.i64 0, Value.int IntKind.i64 0, Value.int IntKind.i64 0, Value.int IntKind.i64 0] 60)).heap[W2.heap.size]? = some (.cells (arrI (onL [])) 60 (0, 0)) from heap_alloc_new _ _)
      have e0' := (HB3.out.cell (p := ⟨bb, 0, none⟩) ez).trans e0
      have ez' := Nat.lt_of_lt_of_le ez HB3.out.size
      have e1' := (HB3.out.cell (p := ⟨b, 1, none⟩) ey).trans e1
      have ey' := Nat.lt_of_lt_of_le ey HB3.out.size
      have q0' := (HB3.out.cell (p := ⟨X.heap.size, 0, none⟩) qz).trans q0
      have q1' := (HB3.out.cell (p := ⟨X.heap.size, 1, none⟩) qz).trans q1
      have qz' := Nat.lt_of_lt_of_le qz HB3.out.size
      obtain ⟨xb, hxb⟩ : ∃ xb, X.heap.size = xb := ⟨_, rfl⟩
      rw [hxb] at q0' q1' qz'
      rw [hxb]
      obtain ⟨sb, hsb⟩ : ∃ sb, W2.heap.size = sb := ⟨_, rfl⟩
      have hsbw : W2.heap.size ≤ sb := by omega
      have hlsb : lb < sb := by have := HRZ.out; omega
      rw [hsb] at HG3
      rw [hsb]
      generalize W2.alloc (Obj.cells #[Value.int IntKind.i64 0, Value.int IntKind.i64 0, Value.int IntKind.i64 0, Value.int IntKind.i64 0, Value.int IntKind.i64 0, Value.int IntKind.i64 0, Value.int IntKind.i64 0, Value.int IntKind.i64 0, Value.int IntKind.i64 0] 60) = W3 at *
      clear hsb hxb q0 q1 qz e0 ez e1 ey d2 dz
      have hL := @Later.cell W3
      refine in_region_later (r := some l) (by kernel_rfl) (by kernel_rfl) (by rfl) ?_
      repeat (quiet_step (fail))
      refine wpQuiet_nil ?_
      intro w6 hw6
      have hL6 : Below W3.heap.size W3 w6 := by obtain ⟨⟨_, h⟩, rfl⟩ := hw6; exact h
      have HG6 := Lib.hid ((hL6.block sb (Array.getElem?_eq_some_iff.1 HG3.out).1).trans HG3.out)
      have HB6 := Lib.hid (btr HB3.out hL6)
      clear hL e0' ez' e1' ey' q0' q1' qz' hs hw6 hL6 HG3 HB3
      gi_wp2
      gi_loopw [8, 30] (fun _ iv wz => ∃ j : Nat, j ≤ ln ∧ iv = .int .i64 j ∧ Below W2.heap.size W2 wz ∧ wz.heap[sb]? = some (.cells (arrI (onL ((subW W k0 k1).take j))) 60 (0, 0))) (fun _ iv _ => ln - (intOf iv).toNat)
      case atStart => exact ⟨0, Nat.zero_le _, rfl, HB6.out, HG6.out⟩
      case round =>
        clear HB6 HG6
        obtain ⟨j, hj, rfl, hBz, hGz⟩ := hrel
        rename World => wz
        have HBZ := Lib.hid hBz; have HGZ := Lib.hid hGz
        clear hBz hGz
        by_cases hlt : j < ln
        · obtain ⟨v, v9, hv1, hv2, hv3⟩ := HCX.out wz HBZ.out j hlt
          have HTK := Lib.hid (show onL ((subW W k0 k1).take (j + 1)) = (onL ((subW W k0 k1).take j)).set v 1 by
            rw [onL_snoc v9, List.take_succ_eq_append_getElem (by omega)]
            congr 2
            rw [← hv1]; simp [show j < (subW W k0 k1).length by omega])
          have gk : wz.cell? ⟨sb, v, none⟩ = some (.int .i64 ((onL ((subW W k0 k1).take j))[v]?.getD 0)) := by
            rw [cell_of_row _ _ _ _ _ _ HGZ.out]; exact arrI_get _ v (by rw [onL_len]; exact v9)
          have gf : wz.frozen? ⟨sb, v, none⟩ = false := frozen_of_row wz sb _ _ _ HGZ.out
          have gz := World.block_lt_of_cell? wz _ gk
          generalize (onL ((subW W k0 k1).take j))[v]?.getD 0 = ov at *
          clear hv1
          gi_wp2
          refine ⟨⟨j + 1, by omega, by go_num, bset HBZ.out (by show W2.heap.size ≤ sb; omega) _, ?_⟩, by simp [intOf]; omega⟩
          rw [heap_setCell_same wz sb v _ _ _ HGZ.out, arrI_set, HTK.out]
        · have hje : j = ln := by omega
          have HTA := Lib.hid (show (subW W k0 k1).take j = subW W k0 k1 from List.take_of_length_le (by omega))
          rw [HTA.out] at HGZ
          have HLD := Lib.hid (run_loadVar_row wz sb 60 60 (arrI (onL (subW W k0 k1))) (0, 0) _ HGZ.out Try.underlying60 rfl (by rw [arrI_size, onL_len]; kernel_rfl))
          have hi60 : (Try.prog.info? 60).map (·.size) = some 9 := by kernel_rfl
          have HI60 := Lib.hid hi60
          clear hi60 hje
          gi_wp2_with (refine inLoadRow (fun _ => trivial) rfl 60 (.tmp 6) rfl sb rfl 60 (arrI (onL (subW W k0 k1))) (0, 0) _ HGZ.out Try.underlying60 rfl (by rw [arrI_size, onL_len]; exact HI60.out) ?_)
          have hl9 := onL_len (subW W k0 k1)
          have HBT := Lib.hid (onL_bit (subW W k0 k1))
          have HL9 := Lib.hid hl9
          have HKX := Lib.hid (show KF w4.heap.size W2 wz from KF.of_below HBZ.out)
          have HBW := Lib.hid (btr hIB HBZ.out)
          have r3 := (HBZ.out.cell (p := ⟨lb, 0, none⟩) HRZ.out).trans HR3.out
          have rf := (HBZ.out.frozen (p := ⟨lb, 0, none⟩) HRZ.out).trans HRF.out
          have rz := Nat.lt_of_lt_of_le HRZ.out HBZ.out.size
          clear hl9 hlt HLD
          generalize onL (subW W k0 k1) = on' at *
          clear HGZ
          gi_loopw [9, 11, 38] (fun s9 _ iv wy => ∃ k : Nat, k ≤ 9 ∧ iv = .int .i64 k ∧ s9 = .int .i64 (sumL (on'.take k)) ∧ wz = wy) (fun _ _ iv _ => 9 - (intOf iv).toNat)
          case atStart => exact ⟨0, Nat.zero_le _, rfl, rfl, rfl⟩
          case round =>
            obtain ⟨k, hk, rfl, rfl, rfl⟩ := hrel
            by_cases hk9 : k < 9
            · have hix := run_index_on on' HL9.out hk9 wz
              have HT : Hid (sumL (on'.take (k + 1)) = sumL (on'.take k) + on'[k]?.getD 0) := Lib.hid (by
                have := HL9.out
                rw [List.take_succ_eq_append_getElem (by omega), sumL_snoc]; simp [show k < on'.length by omega])
              have hb := HBT.out (on'[k]?.getD 0) (by have := HL9.out; simp [show k < on'.length by omega])
              have hs := sumL_bd on' HBT.out k (by have := HL9.out; omega)
              generalize on'[k]?.getD 0 = v at *
              generalize sumL (on'.take k) = s at *
              obtain ⟨b0, b1⟩ := hb
              gi_wp2
              exact ⟨⟨k + 1, by omega, by go_num, by rw [HT.out], trivial⟩, by simp [intOf]; omega⟩
            · have he : on'.take k = on' := by have := HL9.out; rw [List.take_of_length_le (by omega)]
              rw [he]
              clear he
              have HDD := HDE
              generalize sumL on' = sv at *
              gi_wp2
              exact ⟨HKX.out.set l2 _, rfl, (World.cell?_setCell_same' wz ⟨lb, 0, none⟩ (.int .i64 sv) (by rw [r3]; rfl)).trans (by rw [HDD.out]), bset HBW.out l5 _⟩
    · have t1 : ((k1 : Int) != (p : Int)) = true := by simp; omega
      have t2 : (k1 != p) = true := by simp [hkp]
      have HKP := Lib.hid hkp
      clear hkp
      gi_wp2
      exact ⟨KF.refl _ _, HB2.out, fun pr hpr => by
        rcases List.mem_append.1 hpr with h | h
        · exact HPRE.out pr h
        · simp at h; subst h; have := HKP.out; simp only; omega⟩
  case done =>
    rintro X ⟨hB, hpre⟩ hD
    have HD := Lib.hid hD
    have n3 := (hB.cell (p := ⟨lb, 0, none⟩) l2).trans HC3.out
    have HDN := Lib.hid (depth_none hp (fun a ha => by
      rw [← Bool.not_eq_true]
      intro h
      exact hpre _ (mem_lastL.2 ⟨a, p, ha, hp, h, rfl⟩) rfl))
    have HBX := Lib.hid (btr HB0.out hB)
    have nf := (hB.frozen (p := ⟨lb, 0, none⟩) l2).trans HF3.out
    have nz := Nat.lt_of_lt_of_le l2 hB.size
    clear hD hB hpre
    gi_wp2
    have hD2 : (X.setCell ⟨lb, 0, none⟩ (.int .i64 0)).heap[w4.heap.size]? = some (.deferred (some [])) := (Go.Deep.blk_setCell_other X ⟨lb, 0, none⟩ _ w4.heap.size (by show w4.heap.size ≠ lb; omega)).trans HD.out
    refine ⟨by simp, .inl ⟨_, _, rfl, run_takeDeferred hD2, ?_⟩⟩
    have cX : ((X.setCell ⟨lb, 0, none⟩ (.int .i64 0)).putObj w4.heap.size (.deferred none)).cell? ⟨lb, 0, none⟩ = some (.int .i64 0) :=
      cell_put _ _ (World.cell?_setCell_same' _ _ _ (by rw [n3]; rfl)) (by show lb ≠ w4.heap.size; omega)
    have bX : Below w.heap.size w ((X.setCell ⟨lb, 0, none⟩ (.int .i64 0)).putObj w4.heap.size (.deferred none)) :=
      below_put (bset HBX.out l5 _) _ l4
    generalize (X.setCell ⟨lb, 0, none⟩ (.int .i64 0)).putObj w4.heap.size (.deferred none) = Y at *
    exact ⟨.int .i64 0, results_cell rfl rfl (by go_simp), by rw [HDN.out], bX⟩
  case stop =>
    rintro c pre X _ ⟨rfl, hc, hB⟩ hD
    have HD := Lib.hid hD
    have HB := Lib.hid hB
    have zc := World.block_lt_of_cell? X _ hc
    clear hD hB
    gi_wp2
    refine ⟨by simp, .inl ⟨_, _, rfl, run_takeDeferred HD.out, ?_⟩⟩
    have cX : (X.putObj w4.heap.size (.deferred none)).cell? ⟨lb, 0, none⟩ = some (.int .i64 (depthD W p)) := cell_put _ _ hc (by show lb ≠ w4.heap.size; omega)
    have bX : Below w.heap.size w (X.putObj w4.heap.size (.deferred none)) := below_put HB.out _ l4
    generalize X.putObj w4.heap.size (.deferred none) = Y at *
    exact ⟨.int .i64 (depthD W p), results_cell rfl rfl (by go_simp), rfl, bX⟩
end Go.Proofs.Ytjajdpggoggoiaa

namespace Go.Proofs.Ytjajdpggoggoiaa
open Go.RowKit Go.Shelf

set_option maxRecDepth 100000 in
set_option maxHeartbeats 8000000 in
theorem depths_any (R : Int) (x : Value) (W : List Int) (w : World) (hx0 : RdI w .i64 x W) (hl : W.length ≤ 1000) :
    Calls Try.prog 33 #[.agg #[.int .i64 R, x]] w fun e w' => ∃ u, e = .returned (.tuple #[u, .int .i64 (checkD R W)]) ∧ RdI w' .i64 u (dpsL R W) ∧ Below w.heap.size w w' := by
  obtain ⟨a, c, rfl⟩ := hx0.ex _ rfl
  have HX := Lib.hid hx0
  unfold dpsL
  by_cases hc : checkD R W = 0
  · have HO := Lib.hid (fun wz hx => open_ok R (.slice a W.length c) W wz hx hc)
    have hd := okD_of hc
    have h16 := hd.l16
    unfold OpenOk at HO
    rw [if_pos hc]
    have hr1 : (w.alloc (.cells #[.int .i64 R, .slice a W.length c] 24)).cell? ⟨w.heap.size, 1, none⟩ = some (.slice a W.length c) := cnew rfl rfl
    rw [hc]
    clear hc hx0
    go_enter Try.func33, Try.ntmps33
    go_wp2_with fail
    refine (HO.out _ (HX.out.mono (bal (bz _) _))).mono ?_
    rintro e w2 ⟨b, rfl, hb, hD, hB2⟩
    have k1 := (hB2.cell (p := ⟨w.heap.size, 1, none⟩) (by simp)).trans hr1
    have hws : w.heap.size < w2.heap.size := by have := hB2.size; simp at this; omega
    have HB2 := Lib.hid (btr (bal (bz w) _) hB2); have HD := Lib.hid hD
    clear hB2 hD hr1 hb
    go_wp2_with fail
    go_loopw [6, 7, 19] (fun o _ iv wr => ∃ k : Nat, k ≤ W.length ∧ iv = .int .i64 k ∧ Below w2.heap.size w2 wr ∧ wr.ownsRow w2.heap.size 3 1 o k ((depL W k).map (Value.int .i64))) (fun _ _ iv _ => W.length - (intOf iv).toNat)
    case atStart => exact ⟨0, Nat.zero_le _, rfl, bz _, World.ownsRow_nil _ _ _ _⟩
    case round =>
      obtain ⟨k, hk, rfl, hB, hor⟩ := hrel
      have HB := Lib.hid hB; have HOR := Lib.hid hor
      clear hB
      by_cases hkt : k < W.length
      · obtain ⟨ao, cap, rfl, hcap, hao⟩ := owns_clip hor
        have HAO := Lib.hid hao
        clear hor hao
        have HST := Lib.hid (depL_succ W k)
        have HDP := Lib.hid (fun wz (hI : IsBench wz b R W zeros) => depth_any b R W zeros k wz hI hd hkt)
        generalize depthD W k = dv at *
        generalize depL W k = dl at *
        have hsl := run_clip ao k cap hcap HAO.out
        go_wp2_with fail
        refine wp_region_flow [] [([0, 1, 2, 3, 4, 5, 6, 7], 8, true), ([], 9, true), ([], 10, false), ([], 11, false)] [] (by kernel_rfl) (by kernel_rfl) ?_
        intro wc hBc hh
        clear hh
        have HBC := Lib.hid (btr HB.out hBc)
        have HORC := Lib.hid (owns_kept HOR.out hBc)
        have hL := @Later.cell wc
        clear hBc HOR HB
        simp only [flowP, flow, pickL, List.getElem?_cons_succ, List.getElem?_cons_zero]
        refine wpQuiet_nil ?_
        repeat (go_big_quiet_step (fail))
        refine wpQuiet_nil ?_
        go_wp2_with fail
        refine (HDP.out wc (HD.out.mono HBC.out)).mono ?_
        rintro e w3 ⟨rfl, hB3⟩
        have HB3 := Lib.hid (btr HBC.out hB3); have HB3c := Lib.hid hB3
        have HOR3 := Lib.hid (owns_kept HORC.out hB3)
        go_wp2
        refine seg_grow ⟨⟨_, hB3⟩, rfl⟩ ?_
        clear hB3 hsl
        refine wpQuiet_nil ?_
        go_wp2
        refine seg_grow ⟨⟨_, bal HB3c.out _⟩, rfl⟩ ?_
        refine wpQuiet_nil ?_
        have hap := append_clip (w3.alloc (.cells #[.int .i64 dv] 3)) ao k cap dl (RdI.mono (RdC.of_owns HOR3.out |> fun h => (show RdI w3 .i64 (.slice ao k cap) dl from by have := HOR3.out.1; simp at this; subst this; exact h)) (bal (bz _) _)) HAO.out (by omega) ⟨w3.heap.size, 0, none⟩ dv (cnew rfl rfl)
        obtain ⟨v', hap⟩ := Classical.skolem.1 hap
        obtain ⟨w', hap⟩ := Classical.skolem.1 hap
        have hap1 := Lib.hid fun ty => (hap ty).1
        have hap2 := Lib.hid fun ty => (hap ty).2
        clear hap
        go_wp2_with (at_builtin; refine wpList_append_eq _ rfl _ _ 22 rfl _ _ rfl rfl (hap1.out _) ?_)
        obtain ⟨h1, h2⟩ := hap2.out 22
        have HB6 := Lib.hid (bgr (bal HB3.out (Obj.cells #[Value.int .i64 dv] 3)) h2 (fun k h => by cases h))
        have HO6 := Lib.hid (show (w' 22).ownsRow w2.heap.size 3 1 (v' 22) (k + 1) ((depL W (k + 1)).map (Value.int .i64)) from by
          have hb := HB3.out.size
          rw [HST.out]; exact owns_base h1 (by simp; omega))
        clear h1 h2
        refine seg_write ?_
        refine wpQuiet_nil ?_
        go_wp2
        refine seg_write ?_
        refine wpQuiet_nil ?_
        refine only_done ?_
        go_wp2_with fail
        go_roundw
        case rel => exact ⟨k + 1, by omega, by go_num, HB6.out, HO6.out⟩
        case measure => simp [intOf]; omega
      · have hke : k = W.length := by omega
        subst hke
        clear hor
        go_wp2_with fail
        go_ret2
        exact ⟨_, rfl, RdI.of_owns HOR.out, btr HB2.out HB.out⟩
  · have HO := Lib.hid (fun wz hx => open_no R (.slice a W.length c) W wz hx hl hc)
    rw [if_neg hc]
    have t1 : (checkD R W != 0) = true := by simpa using hc
    generalize checkD R W = q at *
    clear hc hx0
    go_enter Try.func33, Try.ntmps33
    go_wp2_with fail
    refine (HO.out _ (HX.out.mono (bal (bz _) _))).mono ?_
    rintro e w2 ⟨rfl, hB2⟩
    have HB2 := Lib.hid (btr (bal (bz w) _) hB2)
    clear hB2
    go_wp2_with fail
    go_ret2
    exact ⟨_, rfl, rdI_nil _ _, HB2.out⟩
end Go.Proofs.Ytjajdpggoggoiaa
