/- PlanKind, in terms of Works: kinds, and longest chains in a truth; no condition. -/
import Derived.Test.YteknehlkdgamjaaGreatMGV
import Derived.Test.YteknehlkdgamjaaGreatMHxz
import Derived.Test.YteknehlkdgamjaaGreatMLfz
import Derived.Test.YteknehlkdgamjaaGreatMGU
import Derived.Test.YteknehlkdgamjaaGreatMS8
import Derived.Test.YteknehlkdgamjaaGreatMGS
import Derived.Test.YteknehlkdgamjaaGreatMGG
namespace Go.Proofs.YteknehlkdgamjaaGreat
open Go.RowKit Go.Shelf

theorem ex_full {J : List Job} {D : Nat → Int} {l : List Nat} (h : Full (exJ J D) l) : Full J l := by
  have hs := ex_same J D
  obtain ⟨⟨s, h1, h2⟩, h3, h4⟩ := h
  refine ⟨⟨s, h1, by rw [hs.fwd.len]; exact h2.1, fun k => ?_⟩, ?_, fun k hk => ?_⟩
  · have := h2.2 k; rwa [ex_edg] at this
  · have key : ∀ {l : List Nat}, IsCh (exJ J D) l → IsCh J l := by
      intro l
      induction l with
      | nil => intro _; trivial
      | cons a l ih =>
        intro h
        cases l with
        | nil => show a < J.length; rw [hs.fwd.len]; exact h
        | cons b l => exact ⟨hs.of'.sub _ _ h.1, ih h.2⟩
    exact key h3
  · have := h4 k hk
    rw [List.eq_nil_iff_forall_not_mem]
    intro b hb
    have h5 := nxt_mem.2 (hs.fwd.sub _ _ (nxt_mem.1 hb))
    rw [this] at h5; cases h5
theorem ex_outF {J : List Job} (h0 : errC J = 0) {D : Nat → Int} (hD : ∀ i, i < J.length → 0 ≤ D i ∧ D i ≤ 1000) {w w' : World} {e : Ending} (h : ChainOut (exJ J D) true w e w') :
    ∃ u l, e = .returned (.tuple #[u, .int .i64 0]) ∧ RdI w' .i64 u (ints l) ∧ (l.length ≤ J.length ∧ Full J l ∧ sumN D l = takes J D) ∧ Below w.heap.size w w' := by
  have he := ex_err h0 hD
  obtain ⟨h | h, hB⟩ := h
  · exact absurd he h.1
  · obtain ⟨_, v, l, rfl, hf, hs, hr⟩ := h
    have hJ := fine_err he
    have hl : ∀ x ∈ l, x < J.length := fun x hx => by have := hf.2.1.lt hJ.1 x hx; rwa [ex_len] at this
    have h2 : sumN (hiD (exJ J D)) l = sumN D l := by
      unfold sumN; congr 1; exact List.map_congr_left fun x hx => (ex_lo D (hl x hx)).2.symm
    have h3 := ex_takes h0 hD
    simp only [if_true] at hs
    rw [h2, h3.2] at hs
    have hf' := ex_full hf
    exact ⟨v, l, rfl, hr, ⟨hf'.2.1.length (fine_err h0).1 (fine_err h0).2, hf', hs⟩, hB⟩
theorem tru_is {J : List Job} (hJ : FineJ J) (B : List Int) : Tru J (truD J B) := fun _ hi => truD_bd hJ B hi
def kN (J : List Job) (c : Int) (k : Nat) : Nat := (List.range k).countP fun i => kindR J i == c
theorem kN_succ (J : List Job) (c : Int) (k : Nat) : kN J c (k + 1) = kN J c k + if kindR J k = c then 1 else 0 := by
  unfold kN
  rw [List.range_succ, List.countP_append, List.countP_singleton]
  by_cases h : kindR J k = c <;> simp [h]
theorem kN_le (J : List Job) (c : Int) : ∀ k, kN J c k ≤ k
  | 0 => by simp [kN]
  | k + 1 => by have := kN_le J c k; rw [kN_succ]; split <;> omega
theorem kN_pos {J : List Job} {c : Int} {k i : Nat} (hi : i < k) (h : kindR J i = c) : 0 < kN J c k :=
  List.countP_pos_iff.2 ⟨i, List.mem_range.2 hi, by simp [h]⟩
theorem kN_two {J : List Job} {c : Int} : ∀ {k i j : Nat}, i < k → j < k → i ≠ j → kindR J i = c → kindR J j = c → 1 < kN J c k
  | 0, _, _, h, _, _, _, _ => by omega
  | k + 1, i, j, hi, hj, hne, h1, h2 => by
    rw [kN_succ]
    by_cases hik : i = k
    · subst hik
      have := kN_pos (J := J) (c := c) (k := i) (i := j) (by omega) h2
      rw [if_pos h1]; omega
    · by_cases hjk : j = k
      · subst hjk
        have := kN_pos (J := J) (c := c) (k := j) (i := i) (by omega) h1
        rw [if_pos h2]; omega
      · have := kN_two (k := k) (by omega) (by omega) hne h1 h2
        omega
theorem kN_end {J : List Job} (hJ : FineJ J) (hc : cir J = false) : 0 < kN J 2 J.length ∨ 1 < kN J 1 J.length := by
  rcases kind_some hJ hc with ⟨i, hi, h⟩ | ⟨i, j, hi, hj, hne, h1, h2⟩
  · exact .inl (kN_pos hi h)
  · exact .inr (kN_two hi hj hne h1 h2)
theorem kind_round {J : List Job} (h0 : errC J = 0) (B : List Int) {l : List Nat} (hl : Full J l ∧ sumN (truD J B) l = takes J (truD J B)) {k : Nat} (hk : k < J.length) :
    (kindR J k = 0 ∧ onD J (truD J B) k = false ∧ (ints l).contains (k : Int) = false ∧ kN J 2 (k + 1) = kN J 2 k ∧ kN J 1 (k + 1) = kN J 1 k) ∨ (kindR J k = 1 ∧ kN J 2 (k + 1) = kN J 2 k ∧ kN J 1 (k + 1) = kN J 1 k + 1) ∨
    (kindR J k = 2 ∧ onD J (truD J B) k = true ∧ kN J 2 (k + 1) = kN J 2 k + 1 ∧ kN J 1 (k + 1) = kN J 1 k) := by
  obtain ⟨hJ, hc⟩ := fine_err h0
  have hT := tru_is hJ B
  rw [kN_succ, kN_succ]
  have hon : onD J (truD J B) k = true ↔ ∃ c, Full J c ∧ k ∈ c ∧ sumN (truD J B) c = takes J (truD J B) := by
    unfold onD
    rw [beq_iff_eq]
    exact on_iff hJ hc (hT.nn hJ) hk
  rcases kind_012 J k with h | h | h
  · refine .inl ⟨h, ?_, ?_, by simp [h], by simp [h]⟩
    · cases ho : onD J (truD J B) k with
      | false => rfl
      | true =>
        obtain ⟨c, c1, c2, c3⟩ := hon.1 ho
        exact absurd c2 (never_out hJ hc hT hk h c1 c3)
    · have := never_out hJ hc hT hk h hl.1 hl.2
      cases hcc : (ints l).contains (k : Int) with
      | false => rfl
      | true => rw [List.contains_iff_mem] at hcc; exact absurd (ints_mem.1 hcc) this
  · exact .inr (.inl ⟨h, by simp [h], by simp [h]⟩)
  · exact .inr (.inr ⟨h, hon.2 (always_on hJ hc hT hk h), by simp [h], by simp [h]⟩)
theorem kind_val {J : List Job} (h0 : errC J = 0) {k : Nat} (hk : k < J.length) : kindV J (k : Int) = kindR J k ∧ kindC J (k : Int) = 0 := by
  have h1 : kindC J (k : Int) = 0 := by
    unfold kindC
    rw [if_pos h0]
    have : outB 0 ((J.length : Int) - 1) (k : Int) = false := by unfold outB; simp; omega
    rw [this]; rfl
  refine ⟨?_, h1⟩
  unfold kindV
  rw [if_pos h1, Int.toNat_natCast]
set_option maxRecDepth 100000 in
set_option maxHeartbeats 25600000 in
theorem plankind_core (hwk : WorksSaid) (v y : Value) (J : List Job) (B : List Int) (w : World) (hx0 : RdJ w v J) (hy0 : RdI w .u16 y B) (hw : ∀ x ∈ B, (Lit.int .u16 x).wf = true) :
    Calls Tryz.prog 9 #[.agg #[v], y] w fun e w' => e = .returned (.bool true) ∧ Below w.heap.size w w' := by
  have HWK := Lib.hid hwk
  unfold WorksSaid at HWK
  have HHV := Lib.hid (fun wz (h : Below w.heap.size w wz) => heavy_any v J wz (hx0.mono h))
  have HFI := Lib.hid (fun wz (h : Below w.heap.size w wz) => fine_any v J wz (hx0.mono h))
  have HFT := Lib.hid (fun h => fineJ_true (J := J) h)
  have HTR := Lib.hid (fun wz (h : Below w.heap.size w wz) (h0 : errC J = 0) (hl : B.length ≤ 30) => truth_any v y J B wz (hx0.mono h) (fine_err h0).1 (hy0.mono h) hw hl)
  have HTD := Lib.hid (fun (h0 : errC J = 0) => (fun i hi => truD_01 (fine_err h0).1 B hi : ∀ i, i < J.length → 0 ≤ truD J B i ∧ truD J B i ≤ 1000))
  have HEX := Lib.hid (fun y wz (h : Below w.heap.size w wz) (h0 : errC J = 0) (hy : RdI wz .i64 y (fnL (truD J B) J.length)) => exact_any v y J (truD J B) wz (hx0.mono h) (by have := (fine_err h0).1.n12; omega) (fine_err h0).1.n1 hy)
  have HKC := Lib.hid (fun u wz (hs : SmJ J) (h : RdJ wz u (exJ J (truD J B))) => pchain_any u _ true wz h (ex_sm hs _))
  have HKO0 := Lib.hid (fun (h0 : errC J = 0) wz w' e (h : ChainOut (exJ J (truD J B)) true wz e w') => ex_outF h0 (HTD.out h0) h)
  have HKD := Lib.hid (fun i wz (h : Below w.heap.size w wz) (hs : SmJ J) => pkind_any v J i wz (hx0.mono h) hs)
  have HON := Lib.hid (fun i y wz (h : Below w.heap.size w wz) (h0 : errC J = 0) (hy : RdI wz .i64 y (fnL (truD J B) J.length)) (hi : i < J.length) => ron_any v y J (truD J B) i J.length rfl wz (hx0.mono h) (fine_err h0).1 (fine_err h0).2 hy (HTD.out h0) hi)
  have HRN0 := Lib.hid (fun (h0 : errC J = 0) l hl k hk => kind_round (l := l) (k := k) h0 B hl hk)
  have HKV := Lib.hid (fun (h0 : errC J = 0) k hk => kind_val (k := k) h0 hk)
  have HKE := Lib.hid (fun (h0 : errC J = 0) => kN_end (fine_err h0).1 (fine_err h0).2)
  have HL2 := Lib.hid (kN_le J 2); have HL1 := Lib.hid (kN_le J 1)
  have HZ2 := Lib.hid (show kN J 2 0 = 0 from rfl); have HZ1 := Lib.hid (show kN J 1 0 = 0 from rfl)
  have HKN := Lib.hid (ex_len J (truD J B))
  obtain ⟨a, c, rfl⟩ := hx0.sl
  obtain ⟨ay, cy, hyy⟩ : ∃ ay cy, y = .slice ay B.length cy := by obtain ⟨ay, cy, h, _⟩ := hy0.form; exact ⟨ay, cy, h⟩
  subst hyy
  clear hx0 hwk hy0 hw HTD
  obtain ⟨n, hn⟩ : ∃ n, n = J.length := ⟨_, rfl⟩
  have HN1' : Hid (errC J = 0 → 0 < n ∧ n ≤ 12) := Lib.hid (fun h0 => by have := (fine_err h0).1.n1; have := (fine_err h0).1.n12; omega)
  rw [← hn] at HHV HFI HTR HEX HKD HON HRN0 HKV HKE HKN HKO0 ⊢
  clear hn
  obtain ⟨bl, hbl⟩ : ∃ bl, bl = B.length := ⟨_, rfl⟩
  rw [← hbl] at HTR ⊢
  clear hbl
  unfold RetN at HKD
  have HB0 := Lib.hid (bal (bz w) (.cells #[.slice a n c] 24))
  have gq : (w.alloc (.cells #[.slice a n c] 24)).cell? ⟨w.heap.size, 0, none⟩ = some (.slice a n c) := cnew rfl rfl
  have zq : w.heap.size < (w.alloc (.cells #[.slice a n c] 24)).heap.size := by simp
  generalize hgr : fineJ J = gr at *
  clear hgr
  generalize heavyJ J = hv at *
  go_enter Tryz.func9, Tryz.ntmps9
  go_wp2_with fail
  generalize w.alloc (.cells #[.slice a n c] 24) = w1 at *
  have HGQ := Lib.hid (fun (wz : World) (h : Below w1.heap.size w1 wz) => (⟨(h.cell (p := ⟨w.heap.size, 0, none⟩) zq).trans gq, Nat.lt_of_lt_of_le zq h.size⟩ : wz.cell? ⟨w.heap.size, 0, none⟩ = some (.slice a n c) ∧ w.heap.size < wz.heap.size))
  refine (HHV.out _ HB0.out).mono ?_
  rintro e wh ⟨rfl, hB⟩
  have HBwh := Lib.hid hB
  clear hB gq zq
  cases hv with
  | true =>
    go_wp2_with fail
    refine (HWK.out _).mono ?_
    rintro e w3 ⟨rfl, hB⟩
    have HB3 := Lib.hid (btr HB0.out (btr HBwh.out hB))
    clear hB
    go_wp2_with fail
    go_ret
    exact ⟨rfl, HB3.out⟩
  | false =>
    obtain ⟨g, z⟩ := HGQ.out _ HBwh.out
    go_wp2_with fail
    refine (HFI.out _ (btr HB0.out HBwh.out)).mono ?_
    rintro e w2 ⟨rfl, hB⟩
    clear g z
    have HBw2 := Lib.hid (btr HBwh.out hB)
    clear HBwh
    clear hB
    cases gr with
    | false =>
      go_wp2_with fail
      refine (HWK.out _).mono ?_
      rintro e w3 ⟨rfl, hB⟩
      have HB3 := Lib.hid (btr HB0.out (btr HBw2.out hB))
      clear hB
      go_wp2_with fail
      go_ret
      exact ⟨rfl, HB3.out⟩
    | true =>
      by_cases hb3 : 30 < bl
      · have t1 : decide ((30 : Int) < (bl : Int)) = true := decide_eq_true (by omega)
        clear hb3
        go_wp2_with fail
        refine (HWK.out _).mono ?_
        rintro e w3 ⟨rfl, hB⟩
        have HB3 := Lib.hid (btr HB0.out (btr HBw2.out hB))
        clear hB
        go_wp2_with fail
        go_ret
        exact ⟨rfl, HB3.out⟩
      · have t1 : decide ((30 : Int) < (bl : Int)) = false := decide_eq_false (by omega)
        have HBL := Lib.hid (show bl ≤ 30 by omega)
        clear hb3
        obtain ⟨hsm, h0⟩ := HFT.out (by first | trivial | rfl)
        have HSM := Lib.hid hsm
        have HTR2 := Lib.hid (fun wz h => HTR.out wz h h0 HBL.out)
        have HEX2 := Lib.hid (fun y wz h hy => HEX.out y wz h h0 hy)
        have HKC2 := Lib.hid (fun u wz h => HKC.out u wz hsm h)
        have HKO := Lib.hid (HKO0.out h0)
        have HKD2 := Lib.hid (fun i wz h => HKD.out i wz h hsm)
        have HON2 := Lib.hid (fun i y wz h hy hi => HON.out i y wz h h0 hy hi)
        have HRN := Lib.hid (HRN0.out h0)
        have HKV2 := Lib.hid (HKV.out h0)
        have HKE2 := Lib.hid (HKE.out h0)
        obtain ⟨hn1, hn2⟩ := HN1'.out h0
        have HN1 := Lib.hid hn1
        clear hn1
        clear hsm h0 HTR HEX HKC HKO0 HKD HON HRN0 HKV HKE HN1' HFT HFI HHV
        generalize truD J B = TD at *
        generalize exJ J TD = K at *
        obtain ⟨g, z⟩ := HGQ.out _ HBw2.out
        go_wp2_with fail
        refine (HTR2.out _ (btr HB0.out HBw2.out)).mono ?_
        rintro e w3 ⟨ut, rfl, hr, hB⟩
        clear g z
        obtain ⟨at', ct, hu⟩ := exI hr.rd n (fnL_len TD n)
        subst hu
        have HTw3 := Lib.hid hr.rd
        clear hr
        have HBw3 := Lib.hid (btr HBw2.out hB)
        clear HBw2
        clear hB
        obtain ⟨g, z⟩ := HGQ.out _ HBw3.out
        go_wp2_with fail
        refine (HEX2.out _ _ (btr HB0.out HBw3.out) HTw3.out).mono ?_
        rintro e w7 ⟨ux, rfl, hr, hB⟩
        clear g z
        have HKw7 := Lib.hid hr
        clear hr
        have HBw7 := Lib.hid (btr HBw3.out hB)
        have HTw7 := Lib.hid (HTw3.out.mono hB)
        clear HBw3 HTw3
        clear hB
        go_wp2_with fail
        refine (HKC2.out _ _ HKw7.out).mono ?_
        intro e w8 hO
        obtain ⟨ul, m, rfl, hm, hml, hB⟩ := HKO.out _ _ _ hO
        obtain ⟨ml, hmll⟩ : ∃ ml, ml = m.length := ⟨_, rfl⟩
        obtain ⟨al, cl, hu⟩ := exI hm ml (by rw [ints_len, hmll])
        subst hu
        have HAw8 := Lib.hid hm
        have HMF := Lib.hid hml.2
        have hmn := hml.1
        clear hO hm hml HKw7
        have HBw8 := Lib.hid (btr HBw7.out hB)
        have HTw8 := Lib.hid (HTw7.out.mono hB)
        clear HBw7 HTw7
        clear hB
        have HML := Lib.hid (show (ints m).length ≤ 1000 by rw [ints_len]; omega)
        rw [← hmll] at hmn
        clear hmll
        have HRD := Lib.hid (fun k hk => HRN.out m HMF.out k hk)
        have d0 : decide ((n : Int) < (ml : Int)) = false := decide_eq_false (by omega)
        have d0' : decide (n < ml) = false := decide_eq_false (by omega)
        have d0n : ¬ n < ml := by omega
        clear HMF HRN HKO HKC2 HEX2 HTR2
        generalize kN J 2 = n2 at *
        generalize kN J 1 = n1 at *
        generalize ints m = mi at *
        obtain ⟨g, z⟩ := HGQ.out _ HBw8.out
        go_wp2_with fail
        clear g z d0 d0' d0n hmn
        go_loopw [8, 9, 10] (fun s8 s9 s10 wr => ∃ k : Nat, k ≤ n ∧ s8 = .int .i64 (n2 k) ∧ s9 = .int .i64 (n1 k) ∧ s10 = .int .i64 k ∧ Below w8.heap.size w8 wr) (fun _ _ s10 _ => n - (intOf s10).toNat)
        case atStart => exact ⟨0, Nat.zero_le _, by rw [HZ2.out]; rfl, by rw [HZ1.out]; rfl, rfl, bz w8⟩
        case round =>
          obtain ⟨k, hk, rfl, rfl, rfl, hB⟩ := hrel
          have HBR := Lib.hid hB
          have HBQ := Lib.hid (btr HBw8.out hB)
          have HTR := Lib.hid (HTw8.out.mono hB)
          have HAR := Lib.hid (HAw8.out.mono hB)
          rename World => wO
          clear hB
          obtain ⟨g, z⟩ := HGQ.out _ HBQ.out
          have b2 : n2 k ≤ 12 := by have := HL2.out k; omega
          have b1 : n1 k ≤ 12 := by have := HL1.out k; omega
          by_cases hlt : k < n
          · have hv := HKV2.out k hlt
            have hR := HRD.out k hlt
            go_wp2_with fail
            refine (HKD2.out _ _ (btr HB0.out HBQ.out)).mono ?_
            rw [hv.1, hv.2]
            rintro e w9 ⟨rfl, hB⟩
            have HBR9 := Lib.hid (btr HBR.out hB)
            have HBQ9 := Lib.hid (btr HBQ.out hB)
            have HT9 := Lib.hid (HTR.out.mono hB)
            have HA9 := Lib.hid (HAR.out.mono hB)
            clear hB g z hv HBR HBQ HTR HAR
            obtain ⟨g, z⟩ := HGQ.out _ HBQ9.out
            go_wp2_with fail
            refine (HON2.out k _ _ (btr HB0.out HBQ9.out) HT9.out hlt).mono ?_
            rintro e w10 ⟨rfl, hB⟩
            have HBR10 := Lib.hid (btr HBR9.out hB)
            have HBQ10 := Lib.hid (btr HBQ9.out hB)
            have HA10 := Lib.hid (HA9.out.mono hB)
            clear hB g z HBR9 HBQ9 HT9 HA9
            generalize kindR J k = kk at *
            generalize onD J TD k = oo at *
            rcases hR with ⟨rfl, rfl, hc, q2, q1⟩ | ⟨rfl, q2, q1⟩ | ⟨rfl, rfl, q2, q1⟩
            · obtain ⟨g, z⟩ := HGQ.out _ HBQ10.out
              go_wp2_with fail
              refine (has_any _ _ (k : Int) _ HA10.out HML.out).mono ?_
              rw [hc]
              rintro e w11 ⟨rfl, rfl⟩
              clear hc
              go_wp2_with fail
              go_roundw
              case rel => exact ⟨k + 1, by omega, by rw [q2], by rw [q1], by go_num, HBR10.out⟩
              case measure => simp [intOf]; omega
            · go_wp2_with fail
              go_roundw
              case rel => exact ⟨k + 1, by omega, by rw [q2], by rw [q1]; go_num, by go_num, HBR10.out⟩
              case measure => simp [intOf]; omega
            · go_wp2_with fail
              go_roundw
              case rel => exact ⟨k + 1, by omega, by rw [q2]; go_num, by rw [q1], by go_num, HBR10.out⟩
              case measure => simp [intOf]; omega
          · have hkn : k = n := by omega
            subst hkn
            have HE := HKE2.out
            clear hlt
            by_cases h2 : 0 < n2 k
            · have t2 : decide ((0 : Int) < (n2 k : Int)) = true := decide_eq_true (by omega)
              have t2' : decide (0 < n2 k) = true := decide_eq_true (by omega)
              go_wp2_with fail
              refine (HWK.out _).mono ?_
              rintro e w12 ⟨rfl, hB⟩
              have HB12 := Lib.hid (btr HB0.out (btr HBQ.out hB))
              clear hB
              go_wp2_with fail
              go_ret
              exact ⟨rfl, HB12.out⟩
            · have t2 : decide ((0 : Int) < (n2 k : Int)) = false := decide_eq_false (by omega)
              have t3 : decide ((1 : Int) < (n1 k : Int)) = true := decide_eq_true (by omega)
              have t3' : decide (1 < n1 k) = true := decide_eq_true (by omega)
              have t2' : decide (0 < n2 k) = false := decide_eq_false (by omega)
              have t3n : 1 < n1 k := by omega
              go_wp2_with fail
              refine (HWK.out _).mono ?_
              rintro e w12 ⟨rfl, hB⟩
              have HB12 := Lib.hid (btr HB0.out (btr HBQ.out hB))
              clear hB
              go_wp2_with fail
              go_ret
              exact ⟨rfl, HB12.out⟩
end Go.Proofs.YteknehlkdgamjaaGreat
