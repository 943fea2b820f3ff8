/- Merged texts: PutOf, TakeOf, BuildOf, ReadOf of the document. -/
import Derived.Test.YtnnfahdhmodejaaMGA
import Derived.Test.YtnnfahdhmodejaaMGB
import Derived.OwnWalk
namespace Go.Proofs.Ytnnfahdhmodejaa

/-- What becomes of rows if a taper is put in from the row i on. -/
def putAt (C : List (List Int)) (i : Nat) (t : Int) : List (List Int) × Nat := (C.take i ++ (putR (C.drop i) t).1, i + (putR (C.drop i) t).2)
theorem putR_app {l : List Int} {R : List (List Int)} {t : Int} (h : ins l t = l.length) : putR (l :: R) t = ((l ++ [t]) :: R, 0) := by
  rw [putR, if_pos h]
theorem putR_bump {l : List Int} {R : List (List Int)} {t : Int} (h : ins l t ≠ l.length) : putR (l :: R) t = (l.set (ins l t) t :: (putR R (elt l (ins l t))).1, (putR R (elt l (ins l t))).2 + 1) := by
  rw [putR, if_neg h]
theorem putAt_zero (R : List (List Int)) (t : Int) : putAt R 0 t = putR R t := by simp [putAt]
theorem putAt_end (C : List (List Int)) (t : Int) : putAt C C.length t = (C ++ [[t]], C.length) := by simp [putAt, putR]
theorem rows_take' {C : List (List Int)} {k : Nat} (h : k < C.length) : C.take (k + 1) = C.take k ++ [row C k] := by
  rw [List.take_succ_eq_append_getElem h, row_lt h]
theorem drop_row {C : List (List Int)} {i : Nat} (h : i < C.length) : C.drop i = row C i :: C.drop (i + 1) := by
  rw [List.drop_eq_getElem_cons h, row_lt h]
theorem set_split {C : List (List Int)} {i : Nat} {x : List Int} (h : i < C.length) : C.set i x = C.take i ++ x :: C.drop (i + 1) := List.set_eq_take_append_cons_drop.trans (by rw [if_pos h])
theorem putAt_app {C : List (List Int)} {i : Nat} {t : Int} (h : i < C.length) (hk : ins (row C i) t = (row C i).length) : putAt C i t = (C.set i (row C i ++ [t]), i) := by
  unfold putAt
  rw [drop_row h]
  rw [putR_app hk, set_split h]; rfl
theorem putAt_bump {C : List (List Int)} {i : Nat} {t : Int} (h : i < C.length) (hk : ins (row C i) t ≠ (row C i).length) :
    putAt C i t = putAt (C.set i ((row C i).set (ins (row C i) t) t)) (i + 1) (elt (row C i) (ins (row C i) t)) := by
  unfold putAt
  rw [drop_row h]
  have e1 : (C.set i ((row C i).set (ins (row C i) t) t)).drop (i + 1) = C.drop (i + 1) := by
    rw [List.drop_set_of_lt (by omega)]
  have e2 : (C.set i ((row C i).set (ins (row C i) t) t)).take (i + 1) = C.take i ++ [(row C i).set (ins (row C i) t) t] := by
    rw [rows_take' (by simpa using h), row_set h, if_pos rfl, List.take_set_of_le (Nat.le_refl _)]
  rw [e1, e2]
  rw [putR_bump hk]
  simp only [List.append_assoc, List.cons_append, List.nil_append, Prod.mk.injEq]
  exact ⟨trivial, by omega⟩
end Go.Proofs.Ytnnfahdhmodejaa

namespace Go.Proofs.Ytnnfahdhmodejaa
open Go.RowKit Go.Shelf

theorem sml_set {C : List (List Int)} {i : Nat} {x : List Int} (h : Sml C) (hi : i < C.length) (hx : x.length ≤ 20) : Sml (C.set i x) := by
  refine ⟨by rw [List.length_set]; exact h.1, fun j => ?_⟩
  rw [row_set hi]
  split
  · exact hx
  · exact h.2 j
set_option maxRecDepth 100000 in
set_option maxHeartbeats 4000000 in
theorem putof_any (v : Value) (R : List (List Int)) (t : Int) (w : World) (hx0 : RdLL w v R) (hs : Sml R) :
    Calls Try.prog 71 #[v, .int .i64 t] w fun e w' => ∃ u vs, e = .returned (.tuple #[u, .int .i64 ((putR R t).2 : Nat)]) ∧ LL w' (fun k => w.heap.size ≤ k) u (putR R t).1 vs ∧ Below w.heap.size w w' := by
  have HC := Lib.hid (copy_any v R w hx0 hs)
  obtain ⟨a, ca, rfl⟩ := hx0.sl
  have HRES := Lib.hid (putAt_zero R t)
  clear hx0
  have HSM := Lib.hid hs
  have hR20 := hs.1
  clear hs
  generalize putR R t = res at *
  go_enter Try.func71, Try.ntmps71
  go_wp2_with fail
  refine HC.out.mono ?_
  rintro e w2 ⟨u, vs, rfl, hO, hB⟩
  have HO := Lib.hid hO; have HB := Lib.hid hB
  clear hO hB HC
  obtain ⟨au, cu, rfl⟩ := HO.out.form
  go_wp2_with fail
  go_loopw [1, 7, 8] (fun s1 s7 _ wr => ∃ (i : Nat) (t' : Int) (C : List (List Int)) (vs : List Value), i ≤ R.length ∧ s7 = .int .i64 i ∧ s1 = .int .i64 t' ∧ C.length = R.length ∧ LL wr (fun k => w.heap.size ≤ k) (.slice au R.length cu) C vs ∧ Below w.heap.size w wr ∧ putAt C i t' = res ∧ Sml C) (fun _ s7 _ _ => R.length - (intOf s7).toNat)
  case atStart => exact ⟨0, t, R, vs, Nat.zero_le _, rfl, rfl, rfl, HO.out, HB.out, HRES.out, HSM.out⟩
  case round =>
    clear HO HB HRES HSM
    obtain ⟨i, t', C, vs, hi, rfl, rfl, hcl, hO, hB, hres, hsm⟩ := hrel
    have HO := Lib.hid hO; have HB := Lib.hid hB; have HCL := Lib.hid hcl; have HRES := Lib.hid hres; have HSM := Lib.hid hsm
    have hz := HB.out.size
    clear hO hB hcl hres hsm
    by_cases hlt : i < R.length
    · have hlC : i < C.length := by rw [HCL.out]; exact hlt
      obtain ⟨g, c, e, he, hwg, hg, hve, hce, hfe, hrow⟩ := HO.out.get i hlC
      rw [HCL.out] at he
      cases he
      obtain ⟨ae, de, rfl⟩ := owns_form hrow
      have HVE := Lib.hid hve
      have h20 := HSM.out.2 i
      have HAPP := Lib.hid (fun h => putAt_app (C := C) (t := t') hlC h)
      have HBUMP := Lib.hid (fun h => putAt_bump (C := C) (t := t') hlC h)
      have hinl := ins_le (row C i) t'
      have HIN := Lib.hid (fun k h1 h2 h3 => ins_eq (l := row C i) (t := t') (k := k) h1 h2 h3)
      have HSS := Lib.hid (fun x hx => sml_set (x := x) HSM.out hlC hx)
      have HSET := Lib.hid (fun wz (hz : Below wr.heap.size wr wz) k (x : Int) (g2 c2 : Nat) (h1 : vs[i]? = some (.slice (some ⟨g2, 0, none⟩) (row C i).length c2)) h2 => (HO.out.later hz).setIn (k := k) (x := x) h1 h2)
      have HGET := Lib.hid (fun k (h : k < (row C i).length) => hrow.get k h)
      have hGR := Lib.hid (fun (ops : Array Oper) (rest : List Oper) (o : Oper) (ac : Act) (Q : Exit → Act → World → Prop) => LL.grow (ops := ops) (rest := rest) (o := o) (a := ac) (Q := Q) HO.out HVE.out)
      clear hrow hve
      generalize row C i = l at *
      go_wp2_with fail
      go_loop [8] (fun s8 => ∃ k : Nat, k ≤ l.length ∧ s8 = .int .i64 k ∧ (∀ j, j < k → elt l j ≤ t')) (fun s8 => l.length - (intOf s8).toNat)
      case atStart => exact ⟨0, Nat.zero_le _, rfl, fun j h => by omega⟩
      case round =>
        obtain ⟨k, hk, rfl, hlo⟩ := hrel
        have HLO := Lib.hid hlo; clear hlo
        by_cases hkl : k < l.length
        · obtain ⟨h, c2, e2, hwh, gk, fk⟩ := HGET.out k hkl
          cases e2
          have d1 : decide (k < l.length) = true := by rw [decide_eq_true_eq]; exact hkl
          by_cases hle : elt l k ≤ t'
          · have HST : Hid (∀ j, j < k + 1 → elt l j ≤ t') := Lib.hid (fun j hj => by
              by_cases e : j = k
              · subst e; exact hle
              · exact HLO.out j (by omega))
            have d2 : decide (elt l k ≤ t') = true := by rw [decide_eq_true_eq]; exact hle
            clear fk HLO
            generalize elt l k = q at *
            go_wp2_with fail
            go_round
            case rel => exact ⟨k + 1, by omega, by go_num, HST.out⟩
            case measure => simp [intOf]; omega
          · have d2 : decide (elt l k ≤ t') = false := by rw [decide_eq_false_iff_not]; exact hle
            have hin := HIN.out k hk HLO.out (fun _ => by omega)
            have hne : ins l t' ≠ l.length := by omega
            have hbump := HBUMP.out hne
            rw [hin] at hbump
            have HNX := Lib.hid (hbump.symm.trans HRES.out)
            have HO2 := Lib.hid (fun wz hz => HSET.out wz hz k t' h _ HVE.out hkl)
            have HS2 := Lib.hid (HSS.out (l.set k t') (by rw [List.length_set]; exact h20))
            have d3 : ((k : Int) == (l.length : Int)) = false := by rw [beq_eq_false_iff_ne]; omega
            clear hbump hin hne HAPP HBUMP HIN HSS HSET HGET hGR HRES HLO hinl
            generalize elt l k = q at *
            go_upto_region 11 with fail
            refine wp_region_flow [] [([0, 1, 2, 3, 4, 5, 6, 7, 8, 9, 10, 11, 12, 13], 14, false), ([], 15, false)] [] (by kernel_rfl) (by kernel_rfl) ?_
            intro wc hBc hh
            clear hh
            have c1 := (hBc.cell (p := ⟨g, i, none⟩) hwg).trans hce
            have c3 := (hBc.cell (p := ⟨h, k, none⟩) hwh).trans gk
            have f3 := (hBc.frozen (p := ⟨h, k, none⟩) hwh).trans fk
            have z1 := Nat.lt_of_lt_of_le hwg hBc.size
            have z2 := Nat.lt_of_lt_of_le hwh hBc.size
            have HL2 := Lib.hid (HO2.out wc hBc)
            have HB2 := Lib.hid (bset (btr HB.out hBc) (p := ⟨h, k, none⟩) (by have := HO.out.elB i _ HVE.out h rfl; exact this) (.int .i64 t'))
            have hL := @Later.cell wc
            clear hBc HO2 hce gk fk hwg hwh hfe
            simp only [flowP, flow, pickL, List.getElem?_cons_succ, List.getElem?_cons_zero]
            refine wpQuiet_nil ?_
            repeat (go_big_quiet_step (fail))
            refine wpQuiet_nil ?_
            go_wp2
            refine seg_write ?_
            refine wpQuiet_nil ?_
            go_wp2
            refine seg_write ?_
            refine wpQuiet_nil ?_
            refine only_done ?_
            clear hL c1 c3 f3 z1 z2
            go_wp2_with fail
            go_roundw
            case rel => exact ⟨i + 1, q, _, vs, by omega, by go_num, rfl, by rw [List.length_set]; exact HCL.out, HL2.out, HB2.out, HNX.out, HS2.out⟩
            case measure => simp [intOf]; omega
        · have hkk : k = l.length := by omega
          subst hkk
          have hin := HIN.out l.length (Nat.le_refl _) HLO.out (fun h => absurd h (by omega))
          have happ := HAPP.out hin
          have HEND := Lib.hid (HRES.out.symm.trans happ)
          have d1 : decide (l.length < l.length) = false := by rw [decide_eq_false_iff_not]; omega
          have d3 : ((l.length : Int) == (l.length : Int)) = true := by simp
          clear happ hin HAPP HBUMP HIN HSS HSET HGET HRES HLO hinl
          go_wp2_with (at_builtin; refine hGR.out _ _ _ _ _ rfl _ _ rfl t' rfl rfl rfl (by omega) (fun k hk => Nat.le_trans hz hk) ?_)
          intro e' w' hp hF
          obtain ⟨ae', ce', rfl⟩ := owns_form hp.own
          rw [show (l ++ [t']).length = l.length + 1 by simp] at hp
          obtain ⟨hc2, hf2, hz2⟩ := hp.outer i hlC
          rw [HVE.out] at hc2
          have HP := Lib.hid (hp.store hlC)
          have HB2 := Lib.hid (bset (hF.below HB.out (fun _ h => h)) (p := ⟨g, i, none⟩) hg (.slice ae' (l.length + 1) ce'))
          clear hp hF
          go_wp2_with fail
          go_ret2
          have hE := HEND.out
          subst hE
          exact ⟨_, _, rfl, HP.out, HB2.out⟩
    · have hie : i = R.length := by omega
      have HEND : Hid (res = (C ++ [[t']], R.length)) := Lib.hid (by rw [← HRES.out, hie, ← HCL.out, putAt_end])
      have h20 := HSM.out.1
      rw [HCL.out] at h20
      clear HRES
      have HO1 := Lib.hid (HO.out.later (bal (bz wr) (.cells #[.int .i64 t'] 3)))
      have HOW := Lib.hid (own_one wr t' (base := wr.heap.size) (nb := wr.heap.size) rfl (Nat.le_refl _))
      have HAP := Lib.hid (fun j f hf => apart_fresh HO.out HOW.out j f hf)
      have hC20' : C.length ≤ 1000 := Nat.le_trans HSM.out.1 (by decide)
      have HBK : Hid (∀ k, (wr.alloc (.cells #[.int .i64 t'] 3)).heap.size ≤ k → w.heap.size ≤ k) := Lib.hid (fun k hk => by simp at hk; omega)
      go_wp2_with (at_builtin; refine LL.push HO1.out (HOW.out.base (Nat.zero_le _)) (fun k ek => Nat.le_trans hz (HOW.out.lt ek).1) HAP.out rfl _ _ rfl rfl rfl (by simp) hC20' HBK.out ?_)
      intro u2 w3 hO3 hF3
      obtain ⟨au3, cu3, rfl⟩ := owns_form hO3.out
      have HO3 := Lib.hid hO3
      have HB3 := Lib.hid (hF3.below (bal HB.out _) (fun _ h => h))
      clear hO3 hF3
      go_wp2_with fail
      go_ret2
      have hE := HEND.out
      subst hE
      exact ⟨_, _, rfl, HO3.out, HB3.out⟩
end Go.Proofs.Ytnnfahdhmodejaa

namespace Go.Proofs.Ytnnfahdhmodejaa

/-- What becomes of rows if a taper goes up into the rows before i. -/
def upAt : Nat → List (List Int) → Int → List (List Int) × Int
  | 0, C, u => (C, u)
  | i + 1, C, u => upAt i (C.set i ((row C i).set (insL (row C i) u - 1) u)) (elt (row C i) (insL (row C i) u - 1))
/-- Each row has a place for what goes up. -/
def UpOk : Nat → List (List Int) → Int → Prop
  | 0, _, _ => True
  | i + 1, C, u => i < C.length ∧ 0 < insL (row C i) u ∧ Up (row C i) ∧ UpOk i (C.set i ((row C i).set (insL (row C i) u - 1) u)) (elt (row C i) (insL (row C i) u - 1))
theorem upAt_cons (l : List Int) : ∀ (i : Nat) (C : List (List Int)) (u : Int),
    upAt (i + 1) (l :: C) u = (l.set (insL l (upAt i C u).2 - 1) (upAt i C u).2 :: (upAt i C u).1, elt l (insL l (upAt i C u).2 - 1))
  | 0, C, u => by simp [upAt, row]
  | i + 1, C, u => by
    rw [upAt]
    rw [row_cons_succ]
    rw [show (l :: C).set (i + 1) ((row C i).set (insL (row C i) u - 1) u) = l :: C.set i ((row C i).set (insL (row C i) u - 1) u) from rfl]
    rw [upAt_cons l i]
    rfl
theorem upOk_cons (l : List Int) : ∀ (i : Nat) (C : List (List Int)) (u : Int), UpOk i C u → 0 < insL l (upAt i C u).2 → Up l → UpOk (i + 1) (l :: C) u
  | 0, C, u, _, h2, h3 => ⟨by simp, h2, h3, trivial⟩
  | i + 1, C, u, h1, h2, h3 => by
    obtain ⟨a, b, c, d⟩ := h1
    refine ⟨by simpa using a, ?_, ?_, ?_⟩
    · rw [row_cons_succ]; exact b
    · rw [row_cons_succ]; exact c
    · rw [row_cons_succ]
      exact upOk_cons l i _ _ d h2 h3
theorem dropO_cons (l : List Int) (R : List (List Int)) (r : Nat) : dropO (l :: R) (r + 1) = l :: dropO R r := by
  unfold dropO
  rw [row_cons_succ]
  split <;> rfl
theorem takeR_up : ∀ (R : List (List Int)) (r : Nat), Tab R → Can R r →
    takeR R r = upAt r (dropO R r) (elt (row R r) ((row R r).length - 1)) ∧ UpOk r (dropO R r) (elt (row R r) ((row R r).length - 1))
  | [], r, _, h => by simp [Can] at h
  | l :: R, 0, ht, hc => by
    refine ⟨?_, trivial⟩
    unfold takeR upAt dropO
    rw [row_cons_zero]
    by_cases h : l.length = 1
    · rw [if_pos h, if_pos h]; rfl
    · rw [if_neg h, if_neg h]; rfl
  | l :: R, r + 1, ⟨h1, h2, h3, h4⟩, hc => by
    obtain ⟨ih1, ih2⟩ := takeR_up R r h4 (can_succ hc)
    obtain ⟨jj, g1, g2, _⟩ := take_head R r h4 (can_succ hc)
    have hp := insL_pos h2 h3 g1 g2
    rw [row_cons_succ, dropO_cons]
    refine ⟨?_, upOk_cons l r _ _ ih2 (by rw [← ih1]; omega) h2⟩
    rw [upAt_cons, ← ih1]
    rfl
theorem upAt_lens : ∀ (i : Nat) (C : List (List Int)) (u : Int), (upAt i C u).1.length = C.length ∧ ∀ j, (row (upAt i C u).1 j).length = (row C j).length
  | 0, C, u => ⟨rfl, fun j => rfl⟩
  | i + 1, C, u => by
    obtain ⟨a, b⟩ := upAt_lens i (C.set i ((row C i).set (insL (row C i) u - 1) u)) (elt (row C i) (insL (row C i) u - 1))
    rw [upAt]
    refine ⟨by rw [a, List.length_set], fun j => ?_⟩
    rw [b]
    rcases Nat.lt_or_ge i C.length with h | h
    · rw [row_set h]
      split
      · rename_i e; rw [e, List.length_set]
      · rfl
    · rw [List.set_eq_of_length_le h]
/-- The last one that is less, counted from the end. -/
theorem insL_from {l : List Int} {u : Int} {k : Nat} (hu : Up l) (h0 : 0 < insL l u) (hk : k < l.length) (h1 : ∀ j, k < j → j < l.length → u ≤ elt l j) (h2 : elt l k < u) : insL l u - 1 = k := by
  have : insL l u = k + 1 := by
    refine insL_eq hk (fun i hi => ?_) (fun h => h1 (k + 1) (by omega) h)
    have := hu i k (by omega) hk
    omega
  omega
end Go.Proofs.Ytnnfahdhmodejaa

namespace Go.Proofs.Ytnnfahdhmodejaa

theorem tab_of_code {R : List (List Int)} {b : Int} (hb : 0 ≤ b) (h1 : ShTo R R.length) (h2 : Inc R b) : Tab R := by
  refine tab_of fun i => ?_
  have hup : Up (row R i) := by
    rcases Nat.lt_or_ge i R.length with hi | hi
    · have step : ∀ d a, a + d < (row R i).length → elt (row R i) a ≤ elt (row R i) (a + d) := by
        intro d
        induction d with
        | zero => intro a _; exact Int.le_refl _
        | succ d ih =>
          intro a h
          have := ih a (by omega)
          have h3 := (h2 i hi (a + (d + 1)) h).1 (by omega)
          unfold num at h3
          rw [show a + (d + 1) - 1 = a + d by omega] at h3
          omega
      intro a c hac hc
      have := step (c - a) a (by omega)
      rwa [show a + (c - a) = c by omega] at this
    · rw [row_ge hi]; intro a c _ h; simp at h
  refine ⟨hup, ?_, fun hi e => ?_⟩
  · rcases Nat.lt_or_ge (i + 1) R.length with hi | hi
    · have h3 := (h1 (i + 1) hi).2 (by omega)
      rw [Nat.add_sub_cancel] at h3
      refine ⟨h3, fun j hj => ?_⟩
      have h4 := (h2 (i + 1) hi j hj).2 (by omega)
      rwa [Nat.add_sub_cancel] at h4
    · rw [row_ge hi]; exact under_nil _
  · exact (h1 i hi).1 (by rw [e]; rfl)
theorem rackC_zero {R : List (List Int)} (h : rackC R = 0) : R.flatten.length ≤ 12 ∧ R.flatten.any (outB 1 99) = false ∧ Tab R := by
  unfold rackC at h
  split at h
  · omega
  · split at h
    · omega
    · split at h
      · rename_i a b c
        rw [Bool.and_eq_true] at c
        exact ⟨by omega, by simpa using b, tab_of_code (b := 0) (by omega) ((shapedB_iff R).1 c.1) ((incB_iff R 0).1 c.2)⟩
      · omega
theorem nodup_sub {l : List Int} : ∀ {m : List Int}, l.Nodup → (∀ x ∈ l, x ∈ m) → l.length ≤ m.length := by
  induction l with
  | nil => intro m _ _; simp
  | cons a l ih =>
    intro m hn hs
    obtain ⟨h1, h2⟩ := List.nodup_cons.1 hn
    have ha := hs a (by simp)
    have := ih (m := m.erase a) h2 fun x hx => by
      have hne : x ≠ a := fun e => h1 (e ▸ hx)
      exact (List.mem_erase_of_ne hne).2 (hs x (by simp [hx]))
    rw [List.length_erase_of_mem ha] at this
    have := List.length_pos_of_mem ha
    simp only [List.length_cons]
    omega
theorem nodup_all {l : List Int} (hn : l.Nodup) (hb : ∀ x ∈ l, 1 ≤ x ∧ x ≤ (l.length : Int)) : ∀ x : Int, 1 ≤ x → x ≤ (l.length : Int) → x ∈ l := by
  intro x h1 h2
  refine Classical.byContradiction fun hx => ?_
  have hsub : ∀ y ∈ x :: l, y ∈ (List.range l.length).map (fun (k : Nat) => (k : Int) + 1) := by
    intro y hy
    have hy2 : 1 ≤ y ∧ y ≤ (l.length : Int) := by
      rcases List.mem_cons.1 hy with rfl | hy
      · exact ⟨h1, h2⟩
      · exact hb y hy
    exact List.mem_map.2 ⟨(y - 1).toNat, List.mem_range.2 (by omega), by omega⟩
  have hn2 : (x :: l).Nodup := List.nodup_cons.2 ⟨hx, hn⟩
  have := nodup_sub hn2 hsub
  simp at this
  omega
theorem orderC_zero {R : List (List Int)} (h : orderC R = 0) : R.flatten.length ≤ 12 ∧ R.flatten.any (outB 1 R.flatten.length) = false ∧ Std R R.flatten.length := by
  unfold orderC at h
  split at h
  · omega
  · split at h
    · omega
    · split at h
      · omega
      · split at h
        · rename_i a b d c
          rw [Bool.and_eq_true] at c
          have hany : R.flatten.any (outB 1 R.flatten.length) = false := by simpa using b
          have hnd : R.flatten.Nodup := by simpa using d
          have hbd : ∀ x ∈ R.flatten, 1 ≤ x ∧ x ≤ (R.flatten.length : Int) := fun x hx => outB_bd (by have := List.any_eq_false.1 hany x hx; simpa using this)
          have hinc := (incB_iff R 1).1 c.2
          refine ⟨by omega, hany, tab_of_code (b := 1) (by omega) ((shapedB_iff R).1 c.1) hinc, fun i p q hpq hq => ?_, fun i x hx => hbd x (flat_mem hx), fun i j x hi hj => ?_, fun x h1 h2 => ?_⟩
          · have hi : i < R.length := by
              rcases Nat.lt_or_ge i R.length with h1 | h1
              · exact h1
              · rw [row_ge h1] at hq; simp at hq
            have step : ∀ d a, a + d + 1 < (row R i).length → elt (row R i) a < elt (row R i) (a + d + 1) := by
              intro d
              induction d with
              | zero =>
                intro a h
                have h3 := (hinc i hi (a + 1) h).1 (by omega)
                unfold num at h3
                rw [Nat.add_sub_cancel] at h3
                simp only [Nat.add_zero]
                omega
              | succ d ih =>
                intro a h
                have := ih a (by omega)
                have h3 := (hinc i hi (a + (d + 1) + 1) h).1 (by omega)
                unfold num at h3
                rw [Nat.add_sub_cancel] at h3
                rw [show a + (d + 1) = a + d + 1 by omega] at h3 ⊢
                omega
            have := step (q - p - 1) p (by omega)
            rwa [show p + (q - p - 1) + 1 = q by omega] at this
          · have h1 := row_mem_lt hi
            have h2 := row_mem_lt hj
            rw [row_lt h1] at hi
            rw [row_lt h2] at hj
            refine Classical.byContradiction fun hne => ?_
            rw [List.nodup_iff_pairwise_ne, List.pairwise_flatten] at hnd
            have hp := hnd.2
            rw [List.pairwise_iff_getElem] at hp
            rcases Nat.lt_or_gt_of_ne hne with hlt | hlt
            · exact hp i j h1 h2 hlt x hi x hj rfl
            · exact hp j i h2 h1 hlt x hj x hi rfl
          · obtain ⟨l, hl, hxl⟩ := List.mem_flatten.1 (nodup_all hnd hbd x h1 h2)
            obtain ⟨i, hi, rfl⟩ := List.getElem_of_mem hl
            exact ⟨i, by rw [row_lt hi]; exact hxl⟩
        · omega
end Go.Proofs.Ytnnfahdhmodejaa

namespace Go.Proofs.Ytnnfahdhmodejaa
open Go.RowKit Go.Shelf

/-- A taper can be taken at the row r; what goes up finds a place in each row. -/
structure TakeOk (R : List (List Int)) (r : Nat) (res : List (List Int) × Int) : Prop where
  lt : r < R.length
  ne : 0 < (row R r).length
  eq : upAt r (dropO R r) (elt (row R r) ((row R r).length - 1)) = res
  ok : UpOk r (dropO R r) (elt (row R r) ((row R r).length - 1))
theorem takeOk {R : List (List Int)} {r : Nat} (ht : Tab R) (hc : Can R r) : TakeOk R r (takeR R r) := by
  obtain ⟨h1, h2⟩ := takeR_up R r ht hc
  refine ⟨hc.1, ?_, h1.symm, h2⟩
  have := (tab_row ht r).2.2 hc.1
  exact List.length_pos_iff.2 this
theorem dropO_one {R : List (List Int)} {r : Nat} {x : List Int} (h : (row R r).length = 1) : (R.set r x).take r = dropO R r := by
  unfold dropO
  rw [if_pos h, List.take_set_of_le (Nat.le_refl _)]
theorem dropO_more {R : List (List Int)} {r m : Nat} (h : (row R r).length = m + 1) (hm : 0 < m) : R.set r ((row R r).take m) = dropO R r := by
  unfold dropO
  rw [if_neg (by omega), List.dropLast_eq_take, h, Nat.add_sub_cancel]
theorem sml_dropO {R : List (List Int)} {r : Nat} (h : Sml R) : Sml (dropO R r) := by
  unfold dropO
  split
  · refine ⟨by rw [List.length_take]; have := h.1; omega, fun i => ?_⟩
    unfold row
    rw [List.getElem?_take]
    split
    · exact h.2 i
    · simp
  · rcases Nat.lt_or_ge r R.length with hr | hr
    · refine sml_set h hr ?_
      rw [List.length_dropLast]
      have := h.2 r
      omega
    · rw [List.set_eq_of_length_le hr]; exact h
set_option maxRecDepth 100000 in
set_option maxHeartbeats 8000000 in
theorem takeof_any (v : Value) (R : List (List Int)) (r : Nat) (res : List (List Int) × Int) (w : World) (hx0 : RdLL w v R) (hs : Sml R) (ht : TakeOk R r res) :
    Calls Try.prog 73 #[v, .int .i64 r] w fun e w' => ∃ u vs, e = .returned (.tuple #[u, .int .i64 res.2]) ∧ LL w' (fun k => w.heap.size ≤ k) u res.1 vs ∧ Below w.heap.size w w' := by
  have HC := Lib.hid (copy_any v R w hx0 hs)
  obtain ⟨a, ca, rfl⟩ := hx0.sl
  clear hx0
  obtain ⟨hlt, hne, hres, hok⟩ := ht
  obtain ⟨m, hm⟩ : ∃ m, (row R r).length = m + 1 := ⟨(row R r).length - 1, by omega⟩
  have HSM := Lib.hid (sml_dropO (r := r) hs)
  have h20 := hs.1
  have hrn : r ≤ 20 := by omega
  have hm20 := hs.2 r
  rw [hm] at hm20
  have HRES := Lib.hid hres; have HOK := Lib.hid hok
  have HONE := Lib.hid (fun h => dropO_one (R := R) (r := r) (x := (row R r).take m) h)
  have HMORE := Lib.hid (fun h => dropO_more (R := R) (r := r) hm h)
  clear hs hres hok hne
  go_enter Try.func73, Try.ntmps73
  go_wp2_with fail
  refine HC.out.mono ?_
  rintro e w2 ⟨u, vs, rfl, hO, hB⟩
  obtain ⟨g, c, e, he, hwg, hg, hve, hce, hfe, hrow⟩ := hO.get r hlt
  obtain ⟨h, d, e2, hwh, gm, _⟩ := hrow.get m (by omega)
  subst he; subst e2
  have HO := Lib.hid hO; have HB := Lib.hid hB
  have HP := Lib.hid (hO.cutRow hve (show m ≤ (row R r).length by omega))
  have HCM : Hid (r ≤ c) := by
    obtain ⟨_, _, e, h1, _⟩ := (LL.rd hO).form
    cases e; exact Lib.hid (by omega)
  have hd : m ≤ d := by
    obtain ⟨_, _, e, h1, _⟩ := (RdI.of_owns hrow).form
    cases e; omega
  have hs31 := run_cutToI h 0 (row R r).length d m hd
  have HM := Lib.hid hm
  rw [hm] at hce hs31 HRES HOK
  simp only [Nat.add_sub_cancel] at HRES HOK
  clear hO hB HC hve hrow hm HO
  generalize elt (row R r) m = q at *
  have HST := Lib.hid (HP.out.store hlt)
  have HB2 := Lib.hid (bset HB.out (p := ⟨g, r, none⟩) hg (.slice (some ⟨h, 0, none⟩) m d))
  have hcm : r ≤ c := by
    exact HCM.out
  have hs22 := run_cutToL g 0 R.length c r hcm
  have KEY : Hid (∃ (n : Nat) (vs' : List Value), (if m = 0 then r else R.length) = n ∧ LL (w2.setCell ⟨g, r, none⟩ (.slice (some ⟨h, 0, none⟩) m d)) (fun k => w.heap.size ≤ k) (.slice (some ⟨g, 0, none⟩) n c) (dropO R r) vs') := by
    refine Lib.hid ?_
    by_cases h0 : m = 0
    · refine ⟨r, (vs.set r (.slice (some ⟨h, 0, none⟩) m d)).take r, by rw [if_pos h0], ?_⟩
      rw [← HONE.out (by rw [HM.out, h0])]
      exact HST.out.cut (by omega)
    · refine ⟨R.length, vs.set r (.slice (some ⟨h, 0, none⟩) m d), by rw [if_neg h0], ?_⟩
      rw [← HMORE.out (by omega)]
      exact HST.out
  obtain ⟨n, vs', hn, hO⟩ := KEY.out
  have HN := Lib.hid hn
  have HO := Lib.hid hO
  have hnl := (dropO R r).length
  have HNL : Hid (n = (dropO R r).length) := by
    obtain ⟨_, _, e⟩ := hO.form
    cases e; exact Lib.hid rfl
  clear hn hO KEY HONE HMORE HST hnl HP HM
  generalize dropO R r = D at *
  go_upto_region 5 with fail
  clear hs31 gm
  generalize w2.setCell ⟨g, r, none⟩ (.slice (some ⟨h, 0, none⟩) m d) = wX at *
  rcases Nat.eq_zero_or_pos m with h0 | h0
  · subst h0
    have hn2 : r = n := by have := HN.out; rw [if_pos rfl] at this; exact this
    subst hn2
    go_upto_region 7 with fail
    clear hs22 hlt h20
    have hn20 := HSM.out.1
    rw [← HNL.out] at hn20
    go_wp2_with fail
    go_loopw [8, 9, 10] (fun s8 s9 _ wr => ∃ (i : Nat) (u : Int) (C : List (List Int)) (vs : List Value), i ≤ r ∧ s9 = .int .i64 ((i : Int) - 1) ∧ s8 = .int .i64 u ∧ LL wr (fun k => w.heap.size ≤ k) (.slice (some ⟨g, 0, none⟩) r c) C vs ∧ Below w.heap.size w wr ∧ upAt i C u = res ∧ UpOk i C u ∧ Sml C ∧ r = C.length) (fun _ s9 _ _ => (intOf s9 + 1).toNat)
    case atStart => exact ⟨r, q, D, vs', Nat.le_refl _, rfl, rfl, HO.out, HB2.out, HRES.out, HOK.out, HSM.out, HNL.out⟩
    case round =>
      clear HO HB2 HRES HOK HSM HNL HN
      obtain ⟨i, u, C, vs, hi, h9, rfl, hO, hB, hres, hok, hsm, hnl⟩ := hrel
      have HO := Lib.hid hO; have HB := Lib.hid hB; have HRES := Lib.hid hres; have HOK := Lib.hid hok; have HSM := Lib.hid hsm; have HNL := Lib.hid hnl
      clear hO hB hres hok hsm hnl
      rcases i with _ | i
      · rw [show ((0 : Nat) : Int) - 1 = -1 by rfl] at h9
        subst h9
        unfold upAt at HRES
        have hE := HRES.out
        subst hE
        go_wp2_with fail
        go_ret2
        exact ⟨_, rfl, ⟨vs, HO.out⟩, HB.out⟩
      · rw [show ((i + 1 : Nat) : Int) - 1 = (i : Int) by omega] at h9
        subst h9
        obtain ⟨o1, o2, o3, o4⟩ := HOK.out
        have HOK2 := Lib.hid o4
        have HUP := Lib.hid o3
        have HRES2 := Lib.hid HRES.out
        have HC1 := Lib.hid o1
        unfold upAt at HRES2
        obtain ⟨g', c', e, he, hwg, hg', hve, hce, hfe, hrow⟩ := HO.out.get i o1
        simp only [Value.slice.injEq, Option.some.injEq, Addr.mk.injEq, and_true] at he
        obtain ⟨rfl, hnn, rfl⟩ := he
        obtain ⟨ae, de, rfl⟩ := owns_form hrow
        have HVE := Lib.hid hve
        have h20 := HSM.out.2 i
        have hil := insL_le (row C i) u
        have HGET := Lib.hid (fun k (h : k < (row C i).length) => hrow.get k h)
        have HSET := Lib.hid (fun wz (hz : Below wr.heap.size wr wz) k (x : Int) (g2 c2 : Nat) (h1 : vs[i]? = some (.slice (some ⟨g2, 0, none⟩) (row C i).length c2)) h2 => (HO.out.later hz).setIn (k := k) (x := x) h1 h2)
        have HSS := Lib.hid (fun x hx => sml_set (x := x) HSM.out o1 hx)
        have HLO := Lib.hid (fun j (h : j < insL (row C i) u) => insL_lo h)
        have HFROM := Lib.hid (fun k h1 h2 h3 => insL_from (k := k) HUP.out o2 h1 h2 h3)
        clear o1 o3 o4 hnn hrow hve HOK HRES HUP
        obtain ⟨n', hn'⟩ : ∃ n', (row C i).length = n' + 1 := ⟨(row C i).length - 1, by omega⟩
        rw [hn'] at h20 hil HGET hce
        have HN' := Lib.hid hn'
        clear hn'
        generalize hl : row C i = l at *
        have HL := Lib.hid hl
        clear hl
        go_wp2_with fail
        go_loop [10] (fun s10 => ∃ k : Nat, k < n' + 1 ∧ s10 = .int .i64 k ∧ (∀ j, k < j → j < n' + 1 → u ≤ elt l j)) (fun s10 => (intOf s10).toNat)
        case atStart => exact ⟨n', by omega, by go_num, fun j h1 h2 => by omega⟩
        case round =>
          obtain ⟨k, hk, rfl, hlo⟩ := hrel
          have HHI := Lib.hid hlo; clear hlo
          obtain ⟨h, c2, e2, hwh, gk, fk⟩ := HGET.out k hk
          cases e2
          by_cases hle : u ≤ elt l k
          · have hk0 : 0 < k := by
              rcases Nat.lt_or_ge k (insL l u) with h1 | h1
              · have := HLO.out k h1; omega
              · omega
            obtain ⟨k', rfl⟩ : ∃ k', k = k' + 1 := ⟨k - 1, by omega⟩
            have HST : Hid (∀ j, k' < j → j < n' + 1 → u ≤ elt l j) := Lib.hid (fun j h1 h2 => by
              by_cases e : j = k' + 1
              · subst e; exact hle
              · exact HHI.out j (by omega) h2)
            clear fk HHI hk0
            generalize elt l (k' + 1) = p at *
            go_wp2_with fail
            go_round
            case rel => exact ⟨k', by omega, by go_num, HST.out⟩
            case measure => simp [intOf]
          · have hin := HFROM.out k (by rw [HN'.out]; omega) (fun j h1 h2 => HHI.out j h1 (by rw [← HN'.out]; exact h2)) (by omega)
            rw [hin] at HRES2 HOK2
            have HO2 := Lib.hid (fun wz hz => HSET.out wz hz k u h _ (by rw [HVE.out, HN'.out]) (by rw [HN'.out]; exact hk))
            have HS2 := Lib.hid (HSS.out (l.set k u) (by rw [List.length_set, HN'.out]; exact h20))
            have hgh : w.heap.size ≤ h := HO.out.elB i _ HVE.out h rfl
            clear hin HSS HSET HGET HLO HFROM HHI hil o2
            generalize elt l k = p at *
            go_upto_region 13 with fail
            refine wp_region_flow [] [([0, 1, 2, 3, 4, 5, 6, 7, 8, 9, 10, 11, 12, 13], 14, false), ([], 15, false)] [] (by kernel_rfl) (by kernel_rfl) ?_
            intro wc hBc hh
            clear hh
            have c1 := (hBc.cell (p := ⟨g, i, none⟩) hwg).trans hce
            have c3 := (hBc.cell (p := ⟨h, k, none⟩) hwh).trans gk
            have f3 := (hBc.frozen (p := ⟨h, k, none⟩) hwh).trans fk
            have z1 := Nat.lt_of_lt_of_le hwg hBc.size
            have z2 := Nat.lt_of_lt_of_le hwh hBc.size
            have HL2 := Lib.hid (HO2.out wc hBc)
            have HB2 := Lib.hid (bset (btr HB.out hBc) (p := ⟨h, k, none⟩) hgh (.int .i64 u))
            have hL := @Later.cell wc
            clear hBc HO2 hce gk fk hwg hwh hfe
            simp only [flowP, flow, pickL, List.getElem?_cons_succ, List.getElem?_cons_zero]
            refine wpQuiet_nil ?_
            repeat (go_big_quiet_step (fail))
            refine wpQuiet_nil ?_
            go_wp2
            refine seg_write ?_
            refine wpQuiet_nil ?_
            go_wp2
            refine seg_write ?_
            refine wpQuiet_nil ?_
            refine only_done ?_
            clear hL c1 c3 f3 z1 z2
            go_wp2_with fail
            go_roundw
            case rel => exact ⟨i, p, _, vs, by omega, rfl, rfl, HL2.out, HB2.out, HRES2.out, HOK2.out, HS2.out, by rw [List.length_set]; exact HNL.out⟩
            case measure => simp [intOf]
  · have hn2 : R.length = n := by have := HN.out; rw [if_neg (by omega)] at this; exact this
    have t1 : ((m : Int) == 0) = false := by rw [beq_eq_false_iff_ne]; omega
    go_upto_region 7 with fail
    rw [hn2] at *
    clear hs22 h20 t1
    have hn20 := HSM.out.1
    rw [← HNL.out] at hn20
    go_wp2_with fail
    go_loopw [8, 9, 10] (fun s8 s9 _ wr => ∃ (i : Nat) (u : Int) (C : List (List Int)) (vs : List Value), i ≤ r ∧ s9 = .int .i64 ((i : Int) - 1) ∧ s8 = .int .i64 u ∧ LL wr (fun k => w.heap.size ≤ k) (.slice (some ⟨g, 0, none⟩) n c) C vs ∧ Below w.heap.size w wr ∧ upAt i C u = res ∧ UpOk i C u ∧ Sml C ∧ n = C.length) (fun _ s9 _ _ => (intOf s9 + 1).toNat)
    case atStart => exact ⟨r, q, D, vs', Nat.le_refl _, rfl, rfl, HO.out, HB2.out, HRES.out, HOK.out, HSM.out, HNL.out⟩
    case round =>
      clear HO HB2 HRES HOK HSM HNL HN
      obtain ⟨i, u, C, vs, hi, h9, rfl, hO, hB, hres, hok, hsm, hnl⟩ := hrel
      have HO := Lib.hid hO; have HB := Lib.hid hB; have HRES := Lib.hid hres; have HOK := Lib.hid hok; have HSM := Lib.hid hsm; have HNL := Lib.hid hnl
      clear hO hB hres hok hsm hnl
      rcases i with _ | i
      · rw [show ((0 : Nat) : Int) - 1 = -1 by rfl] at h9
        subst h9
        unfold upAt at HRES
        have hE := HRES.out
        subst hE
        go_wp2_with fail
        go_ret2
        exact ⟨_, rfl, ⟨vs, HO.out⟩, HB.out⟩
      · rw [show ((i + 1 : Nat) : Int) - 1 = (i : Int) by omega] at h9
        subst h9
        obtain ⟨o1, o2, o3, o4⟩ := HOK.out
        have HOK2 := Lib.hid o4
        have HUP := Lib.hid o3
        have HRES2 := Lib.hid HRES.out
        have HC1 := Lib.hid o1
        unfold upAt at HRES2
        obtain ⟨g', c', e, he, hwg, hg', hve, hce, hfe, hrow⟩ := HO.out.get i o1
        simp only [Value.slice.injEq, Option.some.injEq, Addr.mk.injEq, and_true] at he
        obtain ⟨rfl, hnn, rfl⟩ := he
        obtain ⟨ae, de, rfl⟩ := owns_form hrow
        have HVE := Lib.hid hve
        have h20 := HSM.out.2 i
        have hil := insL_le (row C i) u
        have HGET := Lib.hid (fun k (h : k < (row C i).length) => hrow.get k h)
        have HSET := Lib.hid (fun wz (hz : Below wr.heap.size wr wz) k (x : Int) (g2 c2 : Nat) (h1 : vs[i]? = some (.slice (some ⟨g2, 0, none⟩) (row C i).length c2)) h2 => (HO.out.later hz).setIn (k := k) (x := x) h1 h2)
        have HSS := Lib.hid (fun x hx => sml_set (x := x) HSM.out o1 hx)
        have HLO := Lib.hid (fun j (h : j < insL (row C i) u) => insL_lo h)
        have HFROM := Lib.hid (fun k h1 h2 h3 => insL_from (k := k) HUP.out o2 h1 h2 h3)
        clear o1 o3 o4 hnn hrow hve HOK HRES HUP
        obtain ⟨n', hn'⟩ : ∃ n', (row C i).length = n' + 1 := ⟨(row C i).length - 1, by omega⟩
        rw [hn'] at h20 hil HGET hce
        have HN' := Lib.hid hn'
        clear hn'
        generalize hl : row C i = l at *
        have HL := Lib.hid hl
        clear hl
        have hin0 : i < n := by have := HNL.out; have := HC1.out; omega
        go_wp2_with fail
        go_loop [10] (fun s10 => ∃ k : Nat, k < n' + 1 ∧ s10 = .int .i64 k ∧ (∀ j, k < j → j < n' + 1 → u ≤ elt l j)) (fun s10 => (intOf s10).toNat)
        case atStart => exact ⟨n', by omega, by go_num, fun j h1 h2 => by omega⟩
        case round =>
          obtain ⟨k, hk, rfl, hlo⟩ := hrel
          have HHI := Lib.hid hlo; clear hlo
          obtain ⟨h, c2, e2, hwh, gk, fk⟩ := HGET.out k hk
          cases e2
          by_cases hle : u ≤ elt l k
          · have hk0 : 0 < k := by
              rcases Nat.lt_or_ge k (insL l u) with h1 | h1
              · have := HLO.out k h1; omega
              · omega
            obtain ⟨k', rfl⟩ : ∃ k', k = k' + 1 := ⟨k - 1, by omega⟩
            have HST : Hid (∀ j, k' < j → j < n' + 1 → u ≤ elt l j) := Lib.hid (fun j h1 h2 => by
              by_cases e : j = k' + 1
              · subst e; exact hle
              · exact HHI.out j (by omega) h2)
            clear fk HHI hk0
            generalize elt l (k' + 1) = p at *
            go_wp2_with fail
            go_round
            case rel => exact ⟨k', by omega, by go_num, HST.out⟩
            case measure => simp [intOf]
          · have hin := HFROM.out k (by rw [HN'.out]; omega) (fun j h1 h2 => HHI.out j h1 (by rw [← HN'.out]; exact h2)) (by omega)
            rw [hin] at HRES2 HOK2
            have HO2 := Lib.hid (fun wz hz => HSET.out wz hz k u h _ (by rw [HVE.out, HN'.out]) (by rw [HN'.out]; exact hk))
            have HS2 := Lib.hid (HSS.out (l.set k u) (by rw [List.length_set, HN'.out]; exact h20))
            have hgh : w.heap.size ≤ h := HO.out.elB i _ HVE.out h rfl
            clear hin HSS HSET HGET HLO HFROM HHI hil o2
            generalize elt l k = p at *
            go_upto_region 13 with fail
            refine wp_region_flow [] [([0, 1, 2, 3, 4, 5, 6, 7, 8, 9, 10, 11, 12, 13], 14, false), ([], 15, false)] [] (by kernel_rfl) (by kernel_rfl) ?_
            intro wc hBc hh
            clear hh
            have c1 := (hBc.cell (p := ⟨g, i, none⟩) hwg).trans hce
            have c3 := (hBc.cell (p := ⟨h, k, none⟩) hwh).trans gk
            have f3 := (hBc.frozen (p := ⟨h, k, none⟩) hwh).trans fk
            have z1 := Nat.lt_of_lt_of_le hwg hBc.size
            have z2 := Nat.lt_of_lt_of_le hwh hBc.size
            have HL2 := Lib.hid (HO2.out wc hBc)
            have HB2 := Lib.hid (bset (btr HB.out hBc) (p := ⟨h, k, none⟩) hgh (.int .i64 u))
            have hL := @Later.cell wc
            clear hBc HO2 hce gk fk hwg hwh hfe
            simp only [flowP, flow, pickL, List.getElem?_cons_succ, List.getElem?_cons_zero]
            refine wpQuiet_nil ?_
            repeat (go_big_quiet_step (fail))
            refine wpQuiet_nil ?_
            go_wp2
            refine seg_write ?_
            refine wpQuiet_nil ?_
            go_wp2
            refine seg_write ?_
            refine wpQuiet_nil ?_
            refine only_done ?_
            clear hL c1 c3 f3 z1 z2
            go_wp2_with fail
            go_roundw
            case rel => exact ⟨i, p, _, vs, by omega, rfl, rfl, HL2.out, HB2.out, HRES2.out, HOK2.out, HS2.out, by rw [List.length_set]; exact HNL.out⟩
            case measure => simp [intOf]
end Go.Proofs.Ytnnfahdhmodejaa

namespace Go.Proofs.Ytnnfahdhmodejaa
open Go.RowKit Go.Shelf

def canB (R : List (List Int)) (r : Nat) : Bool := decide (r + 1 = R.length) || decide ((row R (r + 1)).length < (row R r).length)
theorem canB_iff {R : List (List Int)} {r : Nat} (ht : Tab R) (hr : r < R.length) : canB R r = true ↔ Can R r := by
  unfold canB Can
  rw [Bool.or_eq_true, decide_eq_true_eq, decide_eq_true_eq]
  constructor
  · rintro (h | h)
    · refine ⟨hr, ?_⟩
      have h1 := (tab_row ht r).2.2 hr
      have h2 : (row R r).length ≠ 0 := fun e => h1 (List.eq_nil_of_length_eq_zero e)
      have h3 : (row R (r + 1)).length = 0 := by rw [row_ge (by omega)]; rfl
      show (row R (r + 1)).length < (row R r).length
      omega
    · exact ⟨hr, h⟩
  · rintro ⟨_, h⟩
    exact .inr h
set_option maxRecDepth 100000 in
set_option maxHeartbeats 800000 in
theorem cantake_any (v : Value) (R : List (List Int)) (r : Nat) (w : World) (hx0 : RdLL w v R) (hs : Sml R) (hr : r < R.length) :
    Calls Try.prog 42 #[v, .int .i64 r] w fun e w' => e = .returned (.bool (canB R r)) ∧ Below w.heap.size w w' := by
  obtain ⟨a, ca, rfl⟩ := hx0.sl
  obtain ⟨b, off, a1, c1, rfl, hb, hc1, _⟩ := hx0.get r hr
  have h20 := hs.1
  have n1 := hs.2 r
  have hr2 : (r : Int) < (R.length : Int) := by omega
  by_cases h1 : r + 1 = R.length
  · have t1 : ((r : Int) + 1 == (R.length : Int)) = true := by rw [beq_iff_eq]; omega
    have HR : Hid (canB R r = true) := Lib.hid (by unfold canB; rw [decide_eq_true h1]; rfl)
    have HH := Lib.hid h1
    clear hx0 hs h1
    generalize canB R r = g at *
    generalize (row R r).length = n at *
    go_enter Try.func42, Try.ntmps42
    go_upto_region 1 with fail
    go_quiet (fail)
    go_wp2_with fail
    go_ret
    exact ⟨ret_bool HR.out.symm, Below.drewN' _ (bz w)⟩
  · have t1 : ((r : Int) + 1 == (R.length : Int)) = false := by rw [beq_eq_false_iff_ne]; omega
    obtain ⟨b2, off2, a2, c2, e2, _, hc2, _⟩ := hx0.get (r + 1) (by omega)
    cases e2
    have n2 := hs.2 (r + 1)
    have tst : (0:Int) ≤ (r:Int) + 1 ∧ (r:Int) + 1 < (R.length : Int) := by omega
    by_cases h2 : (row R (r + 1)).length < (row R r).length
    · have HR : Hid (canB R r = true) := Lib.hid (by unfold canB; rw [decide_eq_true h2, Bool.or_true])
      have t2 : decide ((row R (r + 1)).length < (row R r).length) = true := by rw [decide_eq_true_eq]; exact h2
      clear hx0 hs h1
      generalize canB R r = g at *
      generalize (row R r).length = n at *
      generalize (row R (r + 1)).length = m at *
      go_enter Try.func42, Try.ntmps42
      go_upto_region 1 with fail
      go_quiet (fail)
      go_wp2_with fail
      go_ret
      exact ⟨ret_bool HR.out.symm, Below.drewN' _ (bz w)⟩
    · have HR : Hid (canB R r = false) := Lib.hid (by unfold canB; rw [decide_eq_false h2, decide_eq_false h1]; rfl)
      have t2 : decide ((row R (r + 1)).length < (row R r).length) = false := by rw [decide_eq_false_iff_not]; exact h2
      clear hx0 hs h1
      generalize canB R r = g at *
      generalize (row R r).length = n at *
      generalize (row R (r + 1)).length = m at *
      go_enter Try.func42, Try.ntmps42
      go_upto_region 1 with fail
      go_quiet (fail)
      go_wp2_with fail
      go_ret
      exact ⟨ret_bool HR.out.symm, Below.drewN' _ (bz w)⟩

/-- What Put returns: the rack, the row, the error. -/
noncomputable def putE (R : List (List Int)) (t : Int) : List (List Int) × Int × Int :=
  if rackC R ≠ 0 then ([], 0, rackC R) else if outB 1 99 t then ([], 0, 3) else if R.flatten.length = 12 then ([], 0, 10) else ((putR R t).1, (putR R t).2, 0)
/-- What Take returns: the rack, the taper, the error. -/
noncomputable def takeE (R : List (List Int)) (r : Int) : List (List Int) × Int × Int :=
  if rackC R ≠ 0 then ([], 0, rackC R) else if outB 0 ((R.length : Int) - 1) r then ([], 0, 2) else if canB R r.toNat then ((takeR R r.toNat).1, (takeR R r.toNat).2, 0) else ([], 0, 22)
def Post3 (w : World) (L : List (List Int) × Int × Int) (e : Ending) (w' : World) : Prop := ∃ u, e = .returned (.tuple #[u, .int .i64 L.2.1, .int .i64 L.2.2]) ∧ RdLL w' u L.1 ∧ Below w.heap.size w w'
theorem rdLL_nil (w : World) : RdLL w (.slice none 0 0) [] := (LL.nil w (fun _ => True)).rd
theorem post3_no {w w' : World} {L : List (List Int) × Int × Int} {a b : Int} (h : L = ([], a, b)) (hb : Below w.heap.size w w') : Post3 w L (.returned (.tuple #[.slice none 0 0, .int .i64 a, .int .i64 b])) w' := by
  subst h; exact ⟨_, rfl, rdLL_nil w', hb⟩
theorem post3_yes {w w' : World} {L : List (List Int) × Int × Int} {u : Value} {R : List (List Int)} {a b : Int} (h : L = (R, a, b)) (hu : RdLL w' u R) (hb : Below w.heap.size w w') : Post3 w L (.returned (.tuple #[u, .int .i64 a, .int .i64 b])) w' := by
  subst h; exact ⟨_, rfl, hu, hb⟩
set_option maxRecDepth 100000 in
set_option maxHeartbeats 800000 in
theorem rput_any (v : Value) (R : List (List Int)) (t : Int) (w : World) (hx0 : RdLL w v R) (hs : Sml R) :
    Calls Try.prog 23 #[v, .int .i64 t] w (Post3 w (putE R t)) := by
  have HX := Lib.hid hx0; have HS := Lib.hid hs
  obtain ⟨a, ca, rfl⟩ := hx0.sl
  have HC := Lib.hid (fun wz h => rrack_any (.slice a R.length ca) R wz h hs)
  have HA := Lib.hid (fun wz h => all_any (.slice a R.length ca) R wz h hs)
  have HP := Lib.hid (fun wz h => putof_any (.slice a R.length ca) R t wz h hs)
  have hfl := sml_flat hs
  clear hx0 hs
  by_cases hc : rackC R = 0
  · have t1 : (rackC R != 0) = false := by simp [hc]
    have HH : Hid (putE R t = if outB 1 99 t then ([], 0, 3) else if R.flatten.length = 12 then ([], 0, 10) else ((putR R t).1, ((putR R t).2 : Int), 0)) := Lib.hid (by unfold putE; rw [if_neg (by simp [hc])])
    have HCC := Lib.hid hc
    clear hc
    generalize rackC R = q at *
    generalize putE R t = L at *
    by_cases h1 : t < 1
    · have d1 : decide (t < 1) = true := by simp [h1]
      rw [outB_lo h1, if_pos rfl] at HH
      go_enter Try.func23, Try.ntmps23
      go_wp2_with fail
      refine (HC.out _ HX.out).mono ?_
      rintro e w2 ⟨rfl, hB⟩
      have HB := Lib.hid hB; clear hB
      go_wp2_with fail
      go_ret3
      exact post3_no HH.out HB.out
    · have d1 : decide (t < 1) = false := by simp; omega
      by_cases h2 : 99 < t
      · have d2 : decide (99 < t) = true := by simp [h2]
        rw [outB_hi h2, if_pos rfl] at HH
        go_enter Try.func23, Try.ntmps23
        go_wp2_with fail
        refine (HC.out _ HX.out).mono ?_
        rintro e w2 ⟨rfl, hB⟩
        have HB := Lib.hid hB; clear hB
        go_wp2_with fail
        go_ret3
        exact post3_no HH.out HB.out
      · have d2 : decide (99 < t) = false := by simp; omega
        rw [outB_in (show (1:Int) ≤ t by omega) (show t ≤ 99 by omega), if_neg (by simp)] at HH
        generalize R.flatten = xs at *
        generalize putR R t = res at *
        by_cases h12 : xs.length = 12
        · have t2 : ((xs.length : Int) == 12) = true := by rw [beq_iff_eq]; omega
          rw [if_pos h12] at HH
          clear h12
          go_enter Try.func23, Try.ntmps23
          go_wp2_with fail
          refine (HC.out _ HX.out).mono ?_
          rintro e w2 ⟨rfl, hB⟩
          have HB := Lib.hid hB; clear hB
          go_wp2_with fail
          refine (HA.out _ (HX.out.mono HB.out)).mono ?_
          rintro e w3 ⟨u, rfl, hu, hB⟩
          obtain ⟨au, cu, rfl⟩ := owns_form hu
          have HB3 := Lib.hid (btr HB.out hB)
          clear hB hu
          go_wp2_with fail
          go_ret3
          exact post3_no HH.out HB3.out
        · have t2 : ((xs.length : Int) == 12) = false := by rw [beq_eq_false_iff_ne]; omega
          rw [if_neg h12] at HH
          clear h12
          go_enter Try.func23, Try.ntmps23
          go_wp2_with fail
          refine (HC.out _ HX.out).mono ?_
          rintro e w2 ⟨rfl, hB⟩
          have HB := Lib.hid hB; clear hB
          go_wp2_with fail
          refine (HA.out _ (HX.out.mono HB.out)).mono ?_
          rintro e w3 ⟨u, rfl, hu, hB⟩
          obtain ⟨au, cu, rfl⟩ := owns_form hu
          have HB3 := Lib.hid (btr HB.out hB)
          clear hB hu
          go_wp2_with fail
          refine (HP.out _ (HX.out.mono HB3.out)).mono ?_
          rintro e w4 ⟨u4, vs4, rfl, hO, hB⟩
          obtain ⟨au4, cu4, rfl⟩ := owns_form hO.out
          have HB4 := Lib.hid (btr HB3.out hB)
          have HO := Lib.hid hO.rd
          clear hB hO
          go_wp2_with fail
          go_ret3
          exact post3_yes HH.out HO.out HB4.out
  · have t1 : (rackC R != 0) = true := by simp [hc]
    have HH : Hid (putE R t = ([], 0, rackC R)) := Lib.hid (by unfold putE; rw [if_pos hc])
    clear hc
    generalize rackC R = q at *
    generalize putE R t = L at *
    go_enter Try.func23, Try.ntmps23
    go_wp2_with fail
    refine (HC.out _ HX.out).mono ?_
    rintro e w2 ⟨rfl, hB⟩
    have HB := Lib.hid hB; clear hB
    go_wp2_with fail
    refine (HC.out _ (HX.out.mono HB.out)).mono ?_
    rintro e w3 ⟨rfl, hB⟩
    have HB3 := Lib.hid (btr HB.out hB); clear hB
    go_wp2_with fail
    go_ret3
    exact post3_no HH.out HB3.out

set_option maxRecDepth 100000 in
set_option maxHeartbeats 800000 in
theorem rtake_any (v : Value) (R : List (List Int)) (r : Int) (w : World) (hx0 : RdLL w v R) (hs : Sml R) :
    Calls Try.prog 25 #[v, .int .i64 r] w (Post3 w (takeE R r)) := by
  have HX := Lib.hid hx0; have HS := Lib.hid hs
  obtain ⟨a, ca, rfl⟩ := hx0.sl
  have HC := Lib.hid (fun wz h => rrack_any (.slice a R.length ca) R wz h hs)
  have h20 := hs.1
  clear hx0 hs
  by_cases hc : rackC R = 0
  · have t1 : (rackC R != 0) = false := by simp [hc]
    have HH : Hid (takeE R r = if outB 0 ((R.length : Int) - 1) r then ([], 0, 2) else if canB R r.toNat then ((takeR R r.toNat).1, (takeR R r.toNat).2, 0) else ([], 0, 22)) := Lib.hid (by unfold takeE; rw [if_neg (by simp [hc])])
    have HT := Lib.hid (rackC_zero hc).2.2
    clear hc
    generalize rackC R = q at *
    generalize takeE R r = L at *
    by_cases h1 : r < 0
    · have d1 : decide (r < 0) = true := by simp [h1]
      rw [outB_lo h1, if_pos rfl] at HH
      go_enter Try.func25, Try.ntmps25
      go_wp2_with fail
      refine (HC.out _ HX.out).mono ?_
      rintro e w2 ⟨rfl, hB⟩
      have HB := Lib.hid hB; clear hB
      go_wp2_with fail
      go_ret3
      exact post3_no HH.out HB.out
    · have d1 : decide (r < 0) = false := by simp; omega
      by_cases h2 : (R.length : Int) ≤ r
      · have d2 : decide ((R.length : Int) ≤ r) = true := by simp [h2]
        rw [outB_hi (show (R.length : Int) - 1 < r by omega), if_pos rfl] at HH
        go_enter Try.func25, Try.ntmps25
        go_wp2_with fail
        refine (HC.out _ HX.out).mono ?_
        rintro e w2 ⟨rfl, hB⟩
        have HB := Lib.hid hB; clear hB
        go_wp2_with fail
        go_ret3
        exact post3_no HH.out HB.out
      · obtain ⟨k, rfl⟩ := Int.eq_ofNat_of_zero_le (show 0 ≤ r by omega)
        have hk : k < R.length := by omega
        have d2 : decide ((R.length : Int) ≤ (k : Int)) = false := by simp; omega
        have d3 : decide (R.length ≤ k) = false := by simp; omega
        rw [outB_in (show (0:Int) ≤ (k : Int) by omega) (show (k : Int) ≤ (R.length : Int) - 1 by omega), if_neg (by simp), show ((k : Int)).toNat = k by simp] at HH
        have HCT := Lib.hid (fun wz h => cantake_any (.slice a R.length ca) R k wz h HS.out hk)
        have HTK := Lib.hid (fun (hcan : canB R k = true) wz h => takeof_any (.slice a R.length ca) R k (takeR R k) wz h HS.out (takeOk HT.out ((canB_iff HT.out hk).1 hcan)))
        generalize takeR R k = res at *
        cases hcb : canB R k with
        | false =>
          rw [hcb] at HH HCT
          rw [if_neg (by simp)] at HH
          clear hcb HTK
          go_enter Try.func25, Try.ntmps25
          go_wp2_with fail
          refine (HC.out _ HX.out).mono ?_
          rintro e w2 ⟨rfl, hB⟩
          have HB := Lib.hid hB; clear hB
          go_wp2_with fail
          refine (HCT.out _ (HX.out.mono HB.out)).mono ?_
          rintro e w3 ⟨rfl, hB⟩
          have HB3 := Lib.hid (btr HB.out hB); clear hB
          go_wp2_with fail
          go_ret3
          exact post3_no HH.out HB3.out
        | true =>
          have HTK2 := Lib.hid (HTK.out hcb)
          rw [hcb] at HH HCT
          rw [if_pos rfl] at HH
          clear hcb HTK
          go_enter Try.func25, Try.ntmps25
          go_wp2_with fail
          refine (HC.out _ HX.out).mono ?_
          rintro e w2 ⟨rfl, hB⟩
          have HB := Lib.hid hB; clear hB
          go_wp2_with fail
          refine (HCT.out _ (HX.out.mono HB.out)).mono ?_
          rintro e w3 ⟨rfl, hB⟩
          have HB3 := Lib.hid (btr HB.out hB); clear hB
          go_wp2_with fail
          refine (HTK2.out _ (HX.out.mono HB3.out)).mono ?_
          rintro e w4 ⟨u4, vs4, rfl, hO, hB⟩
          obtain ⟨au4, cu4, rfl⟩ := owns_form hO.out
          have HB4 := Lib.hid (btr HB3.out hB)
          have HO := Lib.hid hO.rd
          clear hB hO
          go_wp2_with fail
          go_ret3
          exact post3_yes HH.out HO.out HB4.out
  · have t1 : (rackC R != 0) = true := by simp [hc]
    have HH : Hid (takeE R r = ([], 0, rackC R)) := Lib.hid (by unfold takeE; rw [if_pos hc])
    clear hc
    generalize rackC R = q at *
    generalize takeE R r = L at *
    go_enter Try.func25, Try.ntmps25
    go_wp2_with fail
    refine (HC.out _ HX.out).mono ?_
    rintro e w2 ⟨rfl, hB⟩
    have HB := Lib.hid hB; clear hB
    go_wp2_with fail
    refine (HC.out _ (HX.out.mono HB.out)).mono ?_
    rintro e w3 ⟨rfl, hB⟩
    have HB3 := Lib.hid (btr HB.out hB); clear hB
    go_wp2_with fail
    go_ret3
    exact post3_no HH.out HB3.out
end Go.Proofs.Ytnnfahdhmodejaa

namespace Go.Proofs.Ytnnfahdhmodejaa
theorem bld_size (s : List Int) : ∀ k, (bldR s k).1.length ≤ k ∧ (∀ i, (row (bldR s k).1 i).length ≤ k)
  | 0 => ⟨Nat.le_refl _, fun i => by simp [bldR, row]⟩
  | k + 1 => by
    obtain ⟨h1, h2⟩ := bld_size s k
    obtain ⟨p1, p2, p3⟩ := put_row (bldR s k).1 (elt s k)
    unfold bldR
    simp only
    refine ⟨?_, fun i => ?_⟩
    · rw [p2]; split <;> omega
    · rw [p3]
      have := h2 i
      split <;> omega
theorem bld_size2 (s : List Int) (k : Nat) : (bldR s k).2.length ≤ k ∧ (∀ i, (row (bldR s k).2 i).length ≤ k) := by
  have hP := bld_pair s k
  obtain ⟨h1, h2⟩ := bld_size s k
  exact ⟨by rw [hP.len]; exact h1, fun i => by rw [hP.rows]; exact h2 i⟩
theorem addO_push {O : List (List Int)} {n : Int} : (O ++ [[]]).set O.length (row (O ++ [[]]) O.length ++ [n]) = addO O O.length n := by
  unfold addO
  rw [if_pos rfl, row_snoc, if_pos rfl]
  simp
theorem addO_set {O : List (List Int)} {r : Nat} {n : Int} (h : r ≠ O.length) : O.set r (row O r ++ [n]) = addO O r n := by
  unfold addO
  rw [if_neg h]
end Go.Proofs.Ytnnfahdhmodejaa

namespace Go.Proofs.Ytnnfahdhmodejaa
open Go.RowKit Go.Shelf

def Post2L (w : World) (A O : List (List Int)) (e : Ending) (w' : World) : Prop := ∃ u v, e = .returned (.tuple #[u, v]) ∧ RdLL w' u A ∧ RdLL w' v O ∧ Below w.heap.size w w'
/-- A rack and an order of the call's own that have no block in common. -/
def Two (w : World) (base : Nat) (u : Value) (R : List (List Int)) (v : Value) (O : List (List Int)) : Prop :=
  ∃ (B D : Nat → Prop) (us vs : List Value), LL w B u R us ∧ LL w D v O vs ∧ (∀ k, B k → ¬ D k) ∧ (∀ k, D k → base ≤ k)
theorem Two.nil (w : World) (base : Nat) : Two w base (.slice none 0 0) [] (.slice none 0 0) [] := ⟨fun _ => False, fun _ => False, [], [], LL.nil _ _, LL.nil _ _, fun _ h => h.elim, fun _ h => h.elim⟩
/-- The rack is replaced by one that was made later. -/
theorem Two.next {w w' : World} {base : Nat} {u u' v : Value} {R R' O : List (List Int)} {us' : List Value} (h : Two w base u R v O) (hb : Below w.heap.size w w') (hu : LL w' (fun k => w.heap.size ≤ k) u' R' us') : Two w' base u' R' v O := by
  obtain ⟨B, D, us, vs, h1, h2, h3, h4⟩ := h
  exact ⟨_, _, us', vs, hu, h2.bound.later hb, fun k hk hd => absurd hd.2 (by omega), fun k hk => h4 k hk.1⟩
/-- Ready for a change of the order: new blocks are the order's. -/
theorem Two.ready {w : World} {base : Nat} {u v : Value} {R O : List (List Int)} (h : Two w base u R v O) (hb : base ≤ w.heap.size) :
    ∃ (B D : Nat → Prop) (us vs : List Value), LL w B u R us ∧ LL w D v O vs ∧ (∀ k, B k → ¬ D k) ∧ (∀ k, D k → base ≤ k) ∧ ∀ k, w.heap.size ≤ k → D k := by
  obtain ⟨B, D, us, vs, h1, h2, h3, h4⟩ := h
  exact ⟨_, fun k => D k ∨ w.heap.size ≤ k, us, vs, h1.bound, h2.mono fun _ _ h => .inl h, fun k hk hd => hd.elim (fun hd => h3 k hk.1 hd) (fun hd => absurd hk.2 (by omega)), fun k hk => hk.elim (h4 k) (fun h => Nat.le_trans hb h), fun k hk => .inr hk⟩
set_option maxRecDepth 100000 in
set_option maxHeartbeats 4000000 in
theorem buildof_any (x : Value) (s : List Int) (w : World) (hx0 : RdI w .i64 x s) (hl : s.length ≤ 20) :
    Calls Try.prog 50 #[x] w (Post2L w (bldR s s.length).1 (bldR s s.length).2) := by
  obtain ⟨a, ca, rfl, _, hcm, hx⟩ := hx0.form
  clear hx0 hcm
  go_enter Try.func50, Try.ntmps50
  go_wp2_with fail
  go_loopw [4, 5, 6, 7, 8] (fun s4 s5 s6 _ _ wr => ∃ (i : Nat) (u v : Value), i ≤ s.length ∧ u = s4 ∧ v = s5 ∧ s6 = .int .i64 i ∧ Two wr w.heap.size u (bldR s i).1 v (bldR s i).2 ∧ Below w.heap.size w wr) (fun _ _ s6 _ _ _ => s.length - (intOf s6).toNat)
  case atStart => exact ⟨0, _, _, Nat.zero_le _, rfl, rfl, rfl, Two.nil _ _, bz w⟩
  case round =>
    obtain ⟨i, u, v, hi, rfl, rfl, rfl, hT, hB⟩ := hrel
    have HT := Lib.hid hT; have HB := Lib.hid hB
    have hz := HB.out.size
    clear hT hB
    by_cases hlt : i < s.length
    · obtain ⟨bx, ox, rfl, hbx, hcx⟩ := hx (by omega)
      have gx := (HB.out.cell (p := ⟨bx, ox + i, none⟩) hbx).trans (hcx i hlt)
      have zx := Nat.lt_of_lt_of_le hbx HB.out.size
      have HE : Hid (elt s i = s[i]?.getD 0) := Lib.hid rfl
      have hsz := bld_size s i
      have hsz2 := bld_size2 s i
      have hpl := bld_pair s i
      have HPR := Lib.hid (put_row (bldR s i).1 (elt s i))
      have HST : Hid (bldR s (i + 1) = ((putR (bldR s i).1 (elt s i)).1, addO (bldR s i).2 (putR (bldR s i).1 (elt s i)).2 ((i : Int) + 1))) := Lib.hid rfl
      rw [HE.out] at HPR HST
      have HSM : Hid (Sml (bldR s i).1) := Lib.hid ⟨by omega, fun j => by have := hsz.2 j; omega⟩
      have hol := hpl.len
      have HOL := Lib.hid hol
      have HO20 : Hid (∀ j, (row (bldR s i).2 j).length ≤ 20) := Lib.hid (fun j => by have := hsz2.2 j; omega)
      have ho20 : (bldR s i).2.length ≤ 20 := by omega
      clear hsz hsz2 hpl hol hcx HE
      have HPUT := Lib.hid (fun wz us h => putof_any us (bldR s i).1 (s[i]?.getD 0) wz h HSM.out)
      generalize s[i]?.getD 0 = q at *
      generalize (bldR s i).1 = R at *
      generalize (bldR s i).2 = O at *
      generalize hp : putR R q = p at *
      obtain ⟨R', r⟩ := p
      have hrl := HPR.out.1
      simp only at hrl HST HPUT
      have HRL := Lib.hid hrl
      clear hp HPR hrl
      go_wp2_with fail
      refine (HPUT.out _ _ (by obtain ⟨_, _, _, _, h1, _⟩ := HT.out; exact h1.rd)).mono ?_
      rintro e w2 ⟨u2, us2, rfl, hO, hB⟩
      obtain ⟨au2, cu2, rfl⟩ := owns_form hO.out
      obtain ⟨B, D, us, vs, h1, h2, h3, h4, h5⟩ := (HT.out.next hB hO).ready (btr HB.out hB).size
      have HB2 := Lib.hid (btr HB.out hB)
      have H1 := Lib.hid h1; have H2 := Lib.hid h2; have H3 := Lib.hid h3; have H4 := Lib.hid h4; have H5 := Lib.hid h5
      obtain ⟨av, cv, rfl⟩ := h2.form
      clear hO hB h1 h2 h3 h4 h5 HT HPUT gx zx HB
      go_upto_region 7 with fail
      have KEY : Hid (∀ (O1 : List (List Int)) (w3 : World) (vs3 : List Value) (g c : Nat) (h1 : Below w.heap.size w w3) (h2 : LL w3 B (.slice au2 us2.length cu2) R' us) (h3 : LL w3 D (.slice (some ⟨g, 0, none⟩) O1.length c) O1 vs3) (h4 : O1.set r (row O1 r ++ [(i : Int) + 1]) = addO O r ((i : Int) + 1)) (e' : Value) (w4 : World) (hp : LLp w4 D (.slice (some ⟨g, 0, none⟩) O1.length c) O1 vs3 r e' (row O1 r ++ [(i : Int) + 1])) (hF : Fr w3 w4 D) (hr : r < O1.length), Two (w4.setCell ⟨g, r, none⟩ e') w.heap.size (.slice au2 us2.length cu2) (bldR s (i + 1)).1 (.slice (some ⟨g, 0, none⟩) O1.length c) (bldR s (i + 1)).2 ∧ Below w.heap.size w (w4.setCell ⟨g, r, none⟩ e')) := by
        refine Lib.hid ?_
        intro O1 w3 vs3 g c h1 h2 h3 h4 e' w4 hp hF hr
        have hst := hp.store hr
        have hDg : D g := hp.outB g rfl
        rw [h4] at hst
        rw [HST.out]
        have hF2 : Fr w3 (w4.setCell ⟨g, r, none⟩ e') D := hF.trans (Fr.set (p := ⟨g, r, none⟩) hDg e')
        exact ⟨⟨B, D, us, _, h2.fr hF2 (fun k _ hb => H3.out k hb), hst, H3.out, H4.out⟩, hF2.below h1 H4.out⟩
      by_cases hrO : r = O.length
      · have t1 : ((r : Int) == (O.length : Int)) = true := by rw [beq_iff_eq]; omega
        have hO1000 : O.length ≤ 1000 := by omega
        have HNIL : Hid (rowI w2 0 (.slice none 0 0) []) := Lib.hid (World.ownsRow_nil _ _ _ _)
        have HRO := Lib.hid hrO
        clear hrO
        go_wp2_with (at_builtin; refine LL.push H2.out HNIL.out (fun k ek => by simp [Value.ownBlock] at ek) (fun j f _ => apartV.symm (.inl rfl)) rfl _ _ rfl rfl rfl rfl hO1000 H5.out ?_)
        intro v3 w3 hO3 hF3
        obtain ⟨av3, cv3, rfl⟩ := hO3.form
        have H6 := Lib.hid hO3
        have H7 := Lib.hid (H1.out.fr hF3 (fun k _ hb => H3.out k hb))
        have HB3 := Lib.hid (hF3.below HB2.out H4.out)
        have H5B := Lib.hid (fun k (hk : w3.heap.size ≤ k) => H5.out k (Nat.le_trans hF3.size hk))
        have HADD := Lib.hid (addO_push (O := O) (n := (i : Int) + 1))
        rw [← HRO.out] at HADD
        have hr : r < (O ++ [[]]).length := by rw [List.length_append, HRO.out]; simp
        have HO1 : Hid (∀ j, (row (O ++ [[]]) j).length ≤ 20) := Lib.hid (fun j => by rw [row_snoc]; split; · simp
                                                                                      · exact HO20.out j)
        have hOl1 : (O ++ [[]]).length ≤ 21 := by rw [List.length_append]; simp; omega
        clear hO3 hF3 H2 H5 HNIL t1 hO1000
        generalize O ++ [[]] = O1 at *
        generalize vs ++ [Value.slice none 0 0] = vs3 at *
        obtain ⟨g, c', e, he, hwg, hg, hve, hce, hfe, hrow⟩ := H6.out.get r hr
        cases he
        obtain ⟨ae, de, rfl⟩ := owns_form hrow
        have HVE := Lib.hid hve
        have h20r : (row O1 r).length ≤ 20 := HO1.out r
        clear hrow hve
        have hGR := Lib.hid (fun (ops : Array Oper) (rest : List Oper) (o : Oper) (ac : Act) (Q : Exit → Act → World → Prop) => LL.grow (ops := ops) (rest := rest) (o := o) (a := ac) (Q := Q) H6.out HVE.out)
        have HK2 := Lib.hid (KEY.out O1 w3 vs3 g _ HB3.out H7.out H6.out HADD.out)
        generalize row O1 r = l at *
        go_wp2_with (at_builtin; refine hGR.out _ _ _ _ _ rfl _ _ rfl ((i : Int) + 1) rfl rfl rfl (by omega) H5B.out ?_)
        intro e' w' hp hF
        obtain ⟨ae', ce', rfl⟩ := owns_form hp.own
        rw [show (l ++ [(i : Int) + 1]).length = l.length + 1 by simp] at hp
        obtain ⟨hc2, hf2, hz2⟩ := hp.outer r hr
        rw [HVE.out] at hc2
        obtain ⟨hTw, hBw⟩ := HK2.out _ _ hp hF hr
        have HTW := Lib.hid hTw; have HBW := Lib.hid hBw
        clear hp hF hTw hBw
        go_wp2_with fail
        go_roundw
        case rel => exact ⟨i + 1, _, _, by omega, rfl, rfl, by go_num, HTW.out, HBW.out⟩
        case measure => simp [intOf]; omega
      · have t1 : ((r : Int) == (O.length : Int)) = false := by rw [beq_eq_false_iff_ne]; omega
        obtain ⟨O1, hO1e⟩ : ∃ O1, O = O1 := ⟨O, rfl⟩
        obtain ⟨vs3, hvs3⟩ : ∃ x, vs = x := ⟨vs, rfl⟩
        obtain ⟨w3, hw3⟩ : ∃ x, w2 = x := ⟨w2, rfl⟩
        have H6 := H2
        have H7 := H1
        have HB3 := HB2
        have H5B := H5
        have HADD := Lib.hid (addO_set (O := O) (n := (i : Int) + 1) hrO)
        have hr : r < O.length := by have := HRL.out; have := HOL.out; omega
        have HO1 := HO20
        clear hrO H2 H5
        subst hO1e; subst hvs3; subst hw3
        obtain ⟨g, c', e, he, hwg, hg, hve, hce, hfe, hrow⟩ := H6.out.get r hr
        cases he
        obtain ⟨ae, de, rfl⟩ := owns_form hrow
        have HVE := Lib.hid hve
        have h20r : (row O r).length ≤ 20 := HO1.out r
        clear hrow hve
        have hGR := Lib.hid (fun (ops : Array Oper) (rest : List Oper) (o : Oper) (ac : Act) (Q : Exit → Act → World → Prop) => LL.grow (ops := ops) (rest := rest) (o := o) (a := ac) (Q := Q) H6.out HVE.out)
        have HK2 := Lib.hid (KEY.out O w2 vs g _ HB3.out H7.out H6.out HADD.out)
        generalize row O r = l at *
        go_wp2_with (at_builtin; refine hGR.out _ _ _ _ _ rfl _ _ rfl ((i : Int) + 1) rfl rfl rfl (by omega) H5B.out ?_)
        intro e' w' hp hF
        obtain ⟨ae', ce', rfl⟩ := owns_form hp.own
        rw [show (l ++ [(i : Int) + 1]).length = l.length + 1 by simp] at hp
        obtain ⟨hc2, hf2, hz2⟩ := hp.outer r hr
        rw [HVE.out] at hc2
        obtain ⟨hTw, hBw⟩ := HK2.out _ _ hp hF hr
        have HTW := Lib.hid hTw; have HBW := Lib.hid hBw
        clear hp hF hTw hBw
        go_wp2_with fail
        go_roundw
        case rel => exact ⟨i + 1, _, _, by omega, rfl, rfl, by go_num, HTW.out, HBW.out⟩
        case measure => simp [intOf]; omega
    · have hie : i = s.length := by omega
      subst hie
      obtain ⟨B, D, us, vs, h1, h2, _, _⟩ := HT.out
      obtain ⟨au, cu, rfl⟩ := h1.form
      obtain ⟨av, cv, rfl⟩ := h2.form
      have H1 := Lib.hid h1.rd; have H2 := Lib.hid h2.rd
      clear h1 h2
      go_wp2_with fail
      go_ret2
      exact ⟨_, _, rfl, H1.out, H2.out, HB.out⟩
end Go.Proofs.Ytnnfahdhmodejaa

namespace Go.Proofs.Ytnnfahdhmodejaa
open Go.RowKit Go.Shelf

def zeros (n : Nat) : List Int := List.replicate n 0
theorem zeros_len (n : Nat) : (zeros n).length = n := by simp [zeros]
theorem zeros_set (n : Nat) (x : Int) (acc : List Int) : (zeros (n + 1) ++ acc).set n x = zeros n ++ x :: acc := by
  unfold zeros
  rw [List.replicate_succ', List.append_assoc, List.set_append_right _ _ (by simp)]
  simp
theorem made_zeros (n : Nat) : (madeCells #[Value.int .i64 0] n).toList = (zeros n).map (Value.int .i64) := by
  apply List.ext_getElem
  · simp [madeCells, zeros]
  · intro i h1 h2
    simp [madeCells, zeros, Nat.mod_one]
theorem wpList_make_ints {w : World} {ops : Array Oper} {rest : List Oper} {o : Oper} {a : Act} {Q : Exit → Act → World → Prop} (hg : o.guard = none) (l c : Operand) (hop : o.op = Op.makeSlice 31 l c) (n : Nat) (hl : a.eval l = .int .i64 (n : Int)) (hc : a.eval c = .int .i64 (n : Int)) (hn : n ≤ 1000)
    (hK : ∀ w', rowI w' w.heap.size (.slice (some ⟨w.heap.size, 0, none⟩) n n) (zeros n) → w.grownBy w' none → wpList Try.prog ops Q rest (a.put o.dst (.slice (some ⟨w.heap.size, 0, none⟩) n n)) w') : wpList Try.prog ops Q (o :: rest) a w := by
  obtain ⟨i0, hi, hz0, hz1, hz2⟩ := info_parts num3
  refine wpList_make_full _ hg l c 31 hop w.heap.size 3 i0 (.int .i64 0) 1 Try.underlying31 hi hz0 hz1 .i64 .i64 _ _ n hl hc rfl rfl (by rw [hz2]; omega) (by simp only [maxLen]; omega) (Nat.le_refl _) ?_
  intro w' h1 h2
  refine hK w' ?_ h2
  unfold rowI
  rw [zeros_len]
  rw [Nat.mul_one] at h1
  have : (Value.int IntKind.i64 0).cells = #[Value.int .i64 0] := rfl
  rw [this, made_zeros] at h1
  exact h1
theorem rowI.stored {w : World} {base g n c : Nat} {xs : List Int} (h : rowI w base (.slice (some ⟨g, 0, none⟩) n c) xs) (k : Nat) (x : Int) : rowI (w.setCell ⟨g, k, none⟩ (.int .i64 x)) base (.slice (some ⟨g, 0, none⟩) n c) (xs.set k x) := by
  obtain ⟨a, c', e⟩ := owns_form h
  have hn : n = xs.length := by simp at e; exact e.2.1
  subst hn
  have := (World.ownsRow.stored h k (.int .i64 x)).1
  unfold rowI
  rw [List.length_set, List.map_set]
  exact this
theorem rowI.len {w : World} {base n c : Nat} {a : Option Addr} {xs : List Int} (h : rowI w base (.slice a n c) xs) : n = xs.length := by
  obtain ⟨a', c', e⟩ := owns_form h
  cases e; rfl
end Go.Proofs.Ytnnfahdhmodejaa

namespace Go.Proofs.Ytnnfahdhmodejaa
/-- Tapers can be taken, one after another, as the order says. -/
def ReadOk (O : List (List Int)) : Nat → List (List Int) → Prop
  | 0, _ => True
  | n + 1, R => rowOf O ((n : Int) + 1) < O.length ∧ Tab R ∧ Can R (rowOf O ((n : Int) + 1)) ∧ ReadOk O n (takeR R (rowOf O ((n : Int) + 1))).1
theorem readOk_congr {O O' : List (List Int)} (hl : O'.length ≤ O.length) : ∀ (n : Nat) R, (∀ k : Nat, k < n → rowOf O ((k : Int) + 1) = rowOf O' ((k : Int) + 1)) → ReadOk O' n R → ReadOk O n R
  | 0, R, _, _ => trivial
  | n + 1, R, h, ⟨h1, h2, h3, h4⟩ => by
    unfold ReadOk
    rw [h n (by omega)]
    exact ⟨by omega, h2, h3, readOk_congr hl n _ (fun k hk => h k (by omega)) h4⟩
theorem readOk_std : ∀ (n : Nat) (R O : List (List Int)), Tab R → Std O n → O.length = R.length → (∀ i, (row O i).length = (row R i).length) → ReadOk O n R
  | 0, R, O, _, _, _, _ => trivial
  | n + 1, R, O, hR, hO, hl, hs => by
    obtain ⟨r, hr, hc, hlt, he⟩ := hO.corner
    obtain ⟨h1, h2, h3⟩ := dropO_spec hO hr
    have hstd := dropO_std hO hr
    have hcR : Can R r := by
      refine ⟨by omega, ?_⟩
      have h4 : (row O (r + 1)).length < (row O r).length := hc.2
      rw [hs, hs] at h4
      exact h4
    have hpt := put_take R r hR hcR
    have htt := tab_take R r hR hcR
    unfold ReadOk
    rw [hr]
    refine ⟨hlt, hR, hcR, ?_⟩
    obtain ⟨p1, p2, p3⟩ := put_row (takeR R r).1 (takeR R r).2
    rw [hpt] at p1 p2 p3
    simp only at p1 p2 p3
    have q3 : (dropO O r).length = if (row O r).length = 1 then r else O.length := by
      unfold dropO
      split
      · rw [List.length_take]; omega
      · rw [List.length_set]
    have hlen' : (dropO O r).length = (takeR R r).1.length := by
      have q1 := p3 r
      rw [if_pos rfl] at q1
      have q2 := hs r
      by_cases e : r = (takeR R r).1.length
      · rw [if_pos e] at p2
        rw [row_ge (R := (takeR R r).1) (by omega)] at q1
        simp only [List.length_nil] at q1
        rw [q3, if_pos (by omega)]; exact e
      · rw [if_neg e] at p2
        have q4 := (tab_row htt r).2.2 (by omega)
        have q5 : (row (takeR R r).1 r).length ≠ 0 := fun e => q4 (List.eq_nil_of_length_eq_zero e)
        rw [q3, if_neg (by omega)]; omega
    have hrows' : ∀ i, (row (dropO O r) i).length = (row (takeR R r).1 i).length := fun i => by
      have q := p3 i
      have q2 := hs i
      rw [h3]
      by_cases e : i = r
      · subst e
        rw [if_pos rfl, List.length_dropLast]
        rw [if_pos rfl] at q
        omega
      · rw [if_neg e]
        rw [if_neg e] at q
        omega
    have hcong : ∀ k : Nat, k < n → rowOf O ((k : Int) + 1) = rowOf (dropO O r) ((k : Int) + 1) := fun k hk => by
      obtain ⟨a1, a2⟩ := hstd.atRow (x := (k : Int) + 1) (by omega) (by omega)
      obtain ⟨b1, b2⟩ := hO.atRow (x := (k : Int) + 1) (by omega) (by push_cast; omega)
      refine hO.uniq _ _ _ b1 ?_
      rw [h3] at a1
      split at a1
      · rename_i e; rw [e]; exact mem_dropLast a1
      · exact a1
    refine readOk_congr ?_ n _ hcong (readOk_std n _ _ htt hstd hlen' hrows')
    rw [q3]; split <;> omega
/-- A taper less: no row is longer. -/
theorem take_size {R : List (List Int)} {r : Nat} (hR : Tab R) (hc : Can R r) : (takeR R r).1.length ≤ R.length ∧ ∀ i, (row (takeR R r).1 i).length ≤ (row R i).length := by
  have hpt := put_take R r hR hc
  obtain ⟨p1, p2, p3⟩ := put_row (takeR R r).1 (takeR R r).2
  rw [hpt] at p1 p2 p3
  simp only at p1 p2 p3
  refine ⟨by split at p2 <;> omega, fun i => by have := p3 i; omega⟩
theorem rowOf_lo {O : List (List Int)} {n : Int} {j : Nat} (h : j < rowOf O n) : n ∉ row O j := by
  have hl : j < O.length := Nat.lt_of_lt_of_le h List.findIdx_le_length
  have := List.not_of_lt_findIdx h
  rw [row_lt hl]
  simpa using this
theorem rowOf_at {O : List (List Int)} {n : Int} (h : rowOf O n < O.length) : n ∈ row O (rowOf O n) := by
  have := List.findIdx_getElem (w := h)
  rw [row_lt h]
  exact List.contains_iff_mem.1 this
end Go.Proofs.Ytnnfahdhmodejaa

namespace Go.Proofs.Ytnnfahdhmodejaa
open Go.RowKit Go.Shelf

/-- What Build returns: the rack, the order, the error. -/
def buildE (s : List Int) : List (List Int) × List (List Int) × Int := if seqC s ≠ 0 then ([], [], seqC s) else ((bldR s s.length).1, (bldR s s.length).2, 0)
def Post3L (w : World) (L : List (List Int) × List (List Int) × Int) (e : Ending) (w' : World) : Prop := ∃ u v, e = .returned (.tuple #[u, v, .int .i64 L.2.2]) ∧ RdLL w' u L.1 ∧ RdLL w' v L.2.1 ∧ Below w.heap.size w w'
theorem post3L_mk {w w' : World} {L : List (List Int) × List (List Int) × Int} {u v : Value} {A O : List (List Int)} {c : Int} (h : L = (A, O, c)) (hu : RdLL w' u A) (hv : RdLL w' v O) (hb : Below w.heap.size w w') : Post3L w L (.returned (.tuple #[u, v, .int .i64 c])) w' := by
  subst h; exact ⟨_, _, rfl, hu, hv, hb⟩
theorem seqC_len {s : List Int} (h : seqC s = 0) : s.length ≤ 12 := by
  unfold seqC at h
  split at h
  · omega
  · omega
set_option maxRecDepth 100000 in
set_option maxHeartbeats 800000 in
theorem rbuild_any (x : Value) (s : List Int) (w : World) (hx0 : RdI w .i64 x s) (hl : s.length ≤ 1000) : Calls Try.prog 28 #[x] w (Post3L w (buildE s)) := by
  have HX := Lib.hid hx0
  have HC := Lib.hid (fun wz h => rseq_any x s wz h hl)
  have HB := Lib.hid (fun (h0 : seqC s = 0) wz h => buildof_any x s wz h (by have := seqC_len h0; omega))
  clear hx0
  by_cases hc : seqC s = 0
  · have t1 : (seqC s != 0) = false := by simp [hc]
    have HH : Hid (buildE s = ((bldR s s.length).1, (bldR s s.length).2, 0)) := Lib.hid (by unfold buildE; rw [if_neg (by simp [hc])])
    have HB2 := Lib.hid (HB.out hc)
    clear hc HB
    generalize seqC s = q at *
    generalize buildE s = L at *
    generalize bldR s s.length = res at *
    go_enter Try.func28, Try.ntmps28
    go_wp2_with fail
    refine (HC.out _ HX.out).mono ?_
    rintro e w2 ⟨rfl, rfl⟩
    go_wp2_with fail
    refine (HB2.out _ HX.out).mono ?_
    rintro e w3 ⟨u, v, rfl, hu, hv, hB⟩
    obtain ⟨au, cu, rfl⟩ := hu.sl
    obtain ⟨av, cv, rfl⟩ := hv.sl
    have HU := Lib.hid hu; have HV := Lib.hid hv; have HBB := Lib.hid hB
    clear hu hv hB
    go_wp2_with fail
    go_ret3
    exact post3L_mk HH.out HU.out HV.out HBB.out
  · have t1 : (seqC s != 0) = true := by simp [hc]
    have HH : Hid (buildE s = ([], [], seqC s)) := Lib.hid (by unfold buildE; rw [if_pos hc])
    clear hc HB
    generalize seqC s = q at *
    generalize buildE s = L at *
    go_enter Try.func28, Try.ntmps28
    go_wp2_with fail
    refine (HC.out _ HX.out).mono ?_
    rintro e w2 ⟨rfl, rfl⟩
    go_wp2_with fail
    refine (HC.out _ HX.out).mono ?_
    rintro e w2 ⟨rfl, rfl⟩
    go_wp2_with fail
    go_ret3
    exact post3L_mk HH.out (rdLL_nil _) (rdLL_nil _) (bz _)

set_option maxRecDepth 100000 in
set_option maxHeartbeats 4000000 in
theorem readof_any (x y : Value) (R O : List (List Int)) (w : World) (hx0 : RdLL w x R) (hy0 : RdLL w y O) (hR : Sml R) (hO : Sml O) (hok : ReadOk O R.flatten.length R) :
    Calls Try.prog 79 #[x, y] w fun e w' => ∃ u, e = .returned u ∧ rowI w' w.heap.size u (readR O R.flatten.length R []) ∧ Below w.heap.size w w' := by
  have HX := Lib.hid hx0; have HY := Lib.hid hy0
  obtain ⟨a, ca, rfl⟩ := hx0.sl
  obtain ⟨b, cb, rfl⟩ := hy0.sl
  have HALL := Lib.hid (all_any (.slice a R.length ca) R w hx0 hR)
  have HCP := Lib.hid (fun wz h => copy_any (.slice a R.length ca) R wz h hR)
  have hfl := sml_flat hR
  have HOK := Lib.hid hok; have HSR := Lib.hid hR; have HSO := Lib.hid hO
  have ho20 := hO.1
  clear hx0 hy0 hok hR hO
  have HFIN : Hid (readR O R.flatten.length R [] = readR O R.flatten.length R []) := Lib.hid rfl
  generalize hF : readR O R.flatten.length R [] = FIN at HFIN ⊢
  have HF := Lib.hid hF
  clear hF HFIN
  generalize R.flatten = xs at *
  go_enter Try.func79, Try.ntmps79
  go_wp2_with fail
  refine HALL.out.mono ?_
  rintro e w2 ⟨u, rfl, hu, hB⟩
  obtain ⟨au, cu, rfl⟩ := owns_form hu
  have HB2 := Lib.hid hB
  clear hu hB HALL
  go_wp2_with (at_make; refine wpList_make_ints rfl _ _ rfl xs.length rfl rfl (by omega) ?_)
  intro w3 hO3 hg3
  have HO3 := Lib.hid hO3
  have HB3 := Lib.hid (bgr HB2.out hg3 (fun k h => by cases h))
  have hz3 := HB2.out.size
  clear hO3 hg3
  go_wp2_with fail
  refine (HCP.out _ (HX.out.mono HB3.out)).mono ?_
  rintro e w4 ⟨u4, us4, rfl, hL4, hB4⟩
  obtain ⟨a4, c4, rfl⟩ := owns_form hL4.out
  have HL4 := Lib.hid hL4
  have HB4 := Lib.hid (btr HB3.out hB4)
  have HO4 := Lib.hid (show rowI w4 w.heap.size (.slice (some ⟨w2.heap.size, 0, none⟩) xs.length xs.length) (zeros xs.length) from owns_kept (HO3.out.base hz3) hB4)
  have hg4 : w2.heap.size < w3.heap.size := (HO3.out.lt (k := w2.heap.size) rfl).2
  clear hL4 hB4 HO3
  generalize w2.heap.size = g at *
  go_wp2_with fail
  go_loopw [6, 7, 8, 9, 10] (fun s6 s7 _ _ _ wr => ∃ (n : Nat) (u : Value) (R' : List (List Int)) (acc : List Int) (B : Nat → Prop) (us : List Value), s7 = .int .i64 n ∧ u = s6 ∧ n + acc.length = xs.length ∧ LL wr B u R' us ∧ rowI wr w.heap.size (.slice (some ⟨g, 0, none⟩) xs.length xs.length) (zeros n ++ acc) ∧ ¬ B g ∧ Below w.heap.size w wr ∧ readR O n R' acc = FIN ∧ ReadOk O n R' ∧ Sml R') (fun _ s7 _ _ _ _ => (intOf s7).toNat)
  case atStart => exact ⟨xs.length, _, R, [], _, us4, rfl, rfl, by simp, HL4.out, by rw [List.append_nil]; exact HO4.out, by omega, HB4.out, HF.out, HOK.out, HSR.out⟩
  case round =>
    clear HL4 HB4 HO4 HF HOK HSR
    obtain ⟨n, u, R', acc, B, us, h7, rfl, hn, hL, hO, hng, hB, hf, hok, hsm⟩ := hrel
    have HL := Lib.hid hL; have HO := Lib.hid hO; have HNG := Lib.hid hng; have HB := Lib.hid hB; have HF := Lib.hid hf; have HOK := Lib.hid hok; have HSM := Lib.hid hsm; have HN := Lib.hid hn
    have hz := HB.out.size
    have hnx : n ≤ xs.length := by omega
    clear hL hO hng hB hf hok hsm hn
    rcases n with _ | n
    · rw [show ((0 : Nat) : Int) = 0 by rfl] at h7
      subst h7
      have hE := HF.out
      unfold readR at hE
      have HO2 : Hid (rowI wr w.heap.size (.slice (some ⟨g, 0, none⟩) xs.length xs.length) FIN) := Lib.hid (by have h := HO.out; rw [← hE]; simpa [zeros] using h)
      clear hE HF HO
      go_wp2_with fail
      go_ret
      exact ⟨_, rfl, HO2.out, HB.out⟩
    · rw [show ((n + 1 : Nat) : Int) = (n : Int) + 1 by omega] at h7
      subst h7
      obtain ⟨o1, o2, o3, o4⟩ := HOK.out
      have HOK2 := Lib.hid o4
      have HF2 : Hid (readR O n (takeR R' (rowOf O ((n : Int) + 1))).1 ((takeR R' (rowOf O ((n : Int) + 1))).2 :: acc) = FIN) := Lib.hid HF.out
      have HTK := Lib.hid (fun u wz h => takeof_any u R' (rowOf O ((n : Int) + 1)) (takeR R' (rowOf O ((n : Int) + 1))) wz h HSM.out (takeOk o2 o3))
      have HSM2 : Hid (Sml (takeR R' (rowOf O ((n : Int) + 1))).1) := Lib.hid (by
        obtain ⟨h1, h2⟩ := take_size o2 o3
        exact ⟨Nat.le_trans h1 HSM.out.1, fun i => Nat.le_trans (h2 i) (HSM.out.2 i)⟩)
      have HLO := Lib.hid (fun j (h : j < rowOf O ((n : Int) + 1)) => rowOf_lo h)
      have HAT := Lib.hid (rowOf_at o1)
      have hrr : rowOf O ((n : Int) + 1) < O.length := o1
      clear o1 o2 o3 o4 HOK HF
      generalize takeR R' (rowOf O ((n : Int) + 1)) = res at *
      generalize rowOf O ((n : Int) + 1) = r at *
      have hge : (1:Int) ≤ (n : Int) + 1 := by omega
      go_wp2_with fail
      go_loop [8] (fun s8 => ∃ j : Nat, j ≤ r ∧ s8 = .int .i64 j) (fun s8 => r - (intOf s8).toNat)
      case atStart => exact ⟨0, Nat.zero_le _, rfl⟩
      case round =>
        obtain ⟨j, hj, rfl⟩ := hrel
        have hjO : j < O.length := by omega
        obtain ⟨bb, off, a1, c1, eb, hb, hc1, hr1⟩ := HY.out.get j hjO
        subst eb
        have gx := (HB.out.cell (p := ⟨bb, off + j, none⟩) hb).trans hc1
        have zx := Nat.lt_of_lt_of_le hb HB.out.size
        have HHAS := Lib.hid (has_any (.slice a1 (row O j).length c1) (row O j) ((n : Int) + 1) wr (hr1.mono HB.out) (Nat.le_trans (HSO.out.2 j) (by decide)))
        have HLJ := Lib.hid (fun h => HLO.out j h)
        have HAJ : Hid (j = r → (n : Int) + 1 ∈ row O j) := Lib.hid (fun e => by rw [e]; exact HAT.out)
        clear hc1 hr1
        by_cases hjr : j < r
        · have hno := HLJ.out hjr
          have hno2 : (row O j).contains ((n : Int) + 1) = false := by simpa using hno
          rw [hno2] at HHAS
          clear hno hno2 HLJ HAJ
          go_wp2_with fail
          refine HHAS.out.mono ?_
          rintro e w5 ⟨rfl, rfl⟩
          go_wp2_with fail
          go_round
          case rel => exact ⟨j + 1, by omega, by go_num⟩
          case measure => simp [intOf]; omega
        · have hjr2 : j = r := by omega
          have hyes := HAJ.out hjr2
          have hyes2 : (row O j).contains ((n : Int) + 1) = true := by simpa using hyes
          rw [hyes2] at HHAS
          clear hyes hyes2 HLJ HAJ
          subst hjr2
          go_wp2_with fail
          refine HHAS.out.mono ?_
          rintro e w5 ⟨rfl, rfl⟩
          go_wp2_with fail
          refine (HTK.out _ _ HL.out.rd).mono ?_
          rintro e w6 ⟨u6, us6, rfl, hL6, hB6⟩
          obtain ⟨a6, c6, rfl⟩ := owns_form hL6.out
          have HL6 := Lib.hid hL6
          have HB6 := Lib.hid (btr HB.out hB6)
          have hO6 : rowI w6 w.heap.size (.slice (some ⟨g, 0, none⟩) xs.length xs.length) (zeros (n + 1) ++ acc) := owns_kept HO.out hB6
          have hgw : g < wr.heap.size := (HO.out.lt (k := g) rfl).2
          have hgw0 : w.heap.size ≤ g := (HO.out.lt (k := g) rfl).1
          obtain ⟨g2, c2, e2, gz, gc, gf⟩ := hO6.get n (by rw [List.length_append, zeros_len]; omega)
          simp only [Value.slice.injEq, Option.some.injEq, Addr.mk.injEq, and_true] at e2
          obtain ⟨rfl, e2, e3⟩ := e2
          have HS := Lib.hid (hO6.stored n res.2)
          rw [zeros_set] at HS
          generalize elt (zeros (n + 1) ++ acc) n = old at *
          have HL7 := Lib.hid (HL6.out.fr (C := fun k => k = g) (Fr.set (B := fun k => k = g) (p := ⟨g, n, none⟩) rfl (.int .i64 res.2)) (fun k _ hk e => by subst e; omega))
          have HB7 := Lib.hid (bset HB6.out (p := ⟨g, n, none⟩) hgw0 (.int .i64 res.2))
          clear hL6 hB6 hO6 e2 e3 HL6
          go_wp2_with fail
          go_roundw
          case rel => exact ⟨n, _, res.1, res.2 :: acc, _, us6, by go_num, rfl, by have := HN.out; simp; omega, HL7.out, HS.out, by omega, HB7.out, HF2.out, HOK2.out, HSM2.out⟩
          case measure => simp [intOf]
/-- What Read returns: the sequence, the error. -/
noncomputable def readE (R O : List (List Int)) : List Int × Int := if rackC R ≠ 0 then ([], rackC R) else if orderC O ≠ 0 then ([], orderC O) else if shpI R = shpI O then (readR O R.flatten.length R [], 0) else ([], 15)
def Post2I (w : World) (L : List Int × Int) (e : Ending) (w' : World) : Prop := ∃ u, e = .returned (.tuple #[u, .int .i64 L.2]) ∧ RdI w' .i64 u L.1 ∧ Below w.heap.size w w'
theorem post2I_mk {w w' : World} {L : List Int × Int} {u : Value} {A : List Int} {c : Int} (h : L = (A, c)) (hu : RdI w' .i64 u A) (hb : Below w.heap.size w w') : Post2I w L (.returned (.tuple #[u, .int .i64 c])) w' := by
  subst h; exact ⟨_, rfl, hu, hb⟩
theorem shpI_row {R : List (List Int)} {i : Nat} (h : i < R.length) : (shpI R)[i]? = some ((row R i).length : Int) := by
  unfold shpI
  rw [List.getElem?_map, List.getElem?_eq_getElem h, row_lt h]; rfl
theorem shpI_eq {R O : List (List Int)} (h : shpI R = shpI O) : O.length = R.length ∧ ∀ i, (row O i).length = (row R i).length := by
  have hl : O.length = R.length := by have := congrArg List.length h; rw [shpI_len, shpI_len] at this; exact this.symm
  refine ⟨hl, fun i => ?_⟩
  rcases Nat.lt_or_ge i R.length with hi | hi
  · have h1 := shpI_row hi
    rw [h, shpI_row (by omega)] at h1
    simp only [Option.some.injEq] at h1
    omega
  · rw [row_ge hi, row_ge (by omega)]
theorem flat_shp (R : List (List Int)) : R.flatten.length = (R.map List.length).sum := by rw [List.length_flatten]
theorem flat_eq {R O : List (List Int)} (h : shpI R = shpI O) : R.flatten.length = O.flatten.length := by
  obtain ⟨h1, h2⟩ := shpI_eq h
  rw [flat_shp, flat_shp]
  congr 1
  apply List.ext_getElem (by simp [h1])
  intro i a b
  have := h2 i
  simp only [List.length_map] at a b
  rw [row_lt a, row_lt b] at this
  simp [this]
theorem readOk_codes {R O : List (List Int)} (h1 : rackC R = 0) (h2 : orderC O = 0) (h3 : shpI R = shpI O) : ReadOk O R.flatten.length R := by
  obtain ⟨a, b⟩ := shpI_eq h3
  have := (orderC_zero h2).2.2
  rw [flat_eq h3]
  exact readOk_std _ R O (rackC_zero h1).2.2 this a b
set_option maxRecDepth 100000 in
set_option maxHeartbeats 4000000 in
theorem rread_any (x y : Value) (R O : List (List Int)) (w : World) (hx0 : RdLL w x R) (hy0 : RdLL w y O) (hR : Sml R) (hO : Sml O) : Calls Try.prog 30 #[x, y] w (Post2I w (readE R O)) := by
  have HX := Lib.hid hx0; have HY := Lib.hid hy0
  obtain ⟨a, ca, rfl⟩ := hx0.sl
  obtain ⟨b, cb, rfl⟩ := hy0.sl
  have HC := Lib.hid (fun wz h => rrack_any (.slice a R.length ca) R wz h hR)
  have HD := Lib.hid (fun wz h => rorder_any (.slice b O.length cb) O wz h hO)
  have HS1 := Lib.hid (fun wz h => shape_any (.slice a R.length ca) R wz h hR)
  have HS2 := Lib.hid (fun wz h => shape_any (.slice b O.length cb) O wz h hO)
  have HR := Lib.hid (fun hok wz h1 h2 => readof_any (.slice a R.length ca) (.slice b O.length cb) R O wz h1 h2 hR hO hok)
  have hl1 : (shpI R).length ≤ 1000 := by rw [shpI_len]; have := hR.1; omega
  have hl2 : (shpI O).length ≤ 1000 := by rw [shpI_len]; have := hO.1; omega
  clear hx0 hy0 hR hO
  by_cases hc : rackC R = 0
  · have t1 : (rackC R != 0) = false := by simp [hc]
    have HH : Hid (readE R O = if orderC O ≠ 0 then ([], orderC O) else if shpI R = shpI O then (readR O R.flatten.length R [], 0) else ([], 15)) := Lib.hid (by unfold readE; rw [if_neg (by simp [hc])])
    have HOKC := Lib.hid (fun h2 h3 => readOk_codes (O := O) hc h2 h3)
    clear hc
    generalize rackC R = q at *
    generalize readE R O = L at *
    by_cases hd : orderC O = 0
    · have t2 : (orderC O != 0) = false := by simp [hd]
      have HOK2 := Lib.hid (HOKC.out hd)
      rw [if_neg (by simp [hd])] at HH
      clear hd HOKC
      generalize orderC O = p at *
      have HSM := Lib.hid (fun u v wz h1 h2 => ints_any u v (shpI R) (shpI O) wz h1 h2 hl1 hl2)
      by_cases he : shpI R = shpI O
      · rw [if_pos he] at HH
        rw [decide_eq_true he] at HSM
        have HR2 := Lib.hid (HR.out (HOK2.out he))
        clear he HOK2 HR
        generalize readR O R.flatten.length R [] = xs at *
        go_enter Try.func30, Try.ntmps30
        go_wp2_with fail
        refine (HC.out _ HX.out).mono ?_
        rintro e w2 ⟨rfl, hB⟩
        have HB2 := Lib.hid hB; clear hB
        go_wp2_with fail
        refine (HD.out _ (HY.out.mono HB2.out)).mono ?_
        rintro e w3 ⟨rfl, hB⟩
        have HB3 := Lib.hid (btr HB2.out hB); clear hB
        go_wp2_with fail
        refine (HS1.out _ (HX.out.mono HB3.out)).mono ?_
        rintro e w4 ⟨u4, rfl, hu4, hB⟩
        obtain ⟨a4, c4, rfl⟩ := owns_form hu4
        have HU4 := Lib.hid (RdI.of_owns hu4)
        have HB4 := Lib.hid (btr HB3.out hB); clear hB hu4
        go_wp2_with fail
        refine (HS2.out _ (HY.out.mono HB4.out)).mono ?_
        rintro e w5 ⟨u5, rfl, hu5, hB⟩
        obtain ⟨a5, c5, rfl⟩ := owns_form hu5
        have HU5 := Lib.hid (RdI.of_owns hu5)
        have HU45 := Lib.hid (HU4.out.mono hB)
        have HB5 := Lib.hid (btr HB4.out hB); clear hB hu5
        go_wp2_with fail
        refine (HSM.out _ _ _ HU45.out HU5.out).mono ?_
        rintro e w6 ⟨rfl, hB⟩
        have HB6 := Lib.hid (btr HB5.out hB); clear hB
        go_wp2_with fail
        refine (HR2.out _ (HX.out.mono HB6.out) (HY.out.mono HB6.out)).mono ?_
        rintro e w7 ⟨u7, rfl, hu7, hB⟩
        obtain ⟨a7, c7, rfl⟩ := owns_form hu7
        have HU7 := Lib.hid (RdI.of_owns hu7)
        have HB7 := Lib.hid (btr HB6.out hB); clear hB hu7
        go_wp2_with fail
        go_ret2
        exact post2I_mk HH.out HU7.out HB7.out
      · rw [if_neg he] at HH
        rw [decide_eq_false he] at HSM
        clear he HOK2 HR
        go_enter Try.func30, Try.ntmps30
        go_wp2_with fail
        refine (HC.out _ HX.out).mono ?_
        rintro e w2 ⟨rfl, hB⟩
        have HB2 := Lib.hid hB; clear hB
        go_wp2_with fail
        refine (HD.out _ (HY.out.mono HB2.out)).mono ?_
        rintro e w3 ⟨rfl, hB⟩
        have HB3 := Lib.hid (btr HB2.out hB); clear hB
        go_wp2_with fail
        refine (HS1.out _ (HX.out.mono HB3.out)).mono ?_
        rintro e w4 ⟨u4, rfl, hu4, hB⟩
        obtain ⟨a4, c4, rfl⟩ := owns_form hu4
        have HU4 := Lib.hid (RdI.of_owns hu4)
        have HB4 := Lib.hid (btr HB3.out hB); clear hB hu4
        go_wp2_with fail
        refine (HS2.out _ (HY.out.mono HB4.out)).mono ?_
        rintro e w5 ⟨u5, rfl, hu5, hB⟩
        obtain ⟨a5, c5, rfl⟩ := owns_form hu5
        have HU5 := Lib.hid (RdI.of_owns hu5)
        have HU45 := Lib.hid (HU4.out.mono hB)
        have HB5 := Lib.hid (btr HB4.out hB); clear hB hu5
        go_wp2_with fail
        refine (HSM.out _ _ _ HU45.out HU5.out).mono ?_
        rintro e w6 ⟨rfl, hB⟩
        have HB6 := Lib.hid (btr HB5.out hB); clear hB
        go_wp2_with fail
        go_ret2
        exact post2I_mk HH.out (rdI_nil _ _) HB6.out
    · have t2 : (orderC O != 0) = true := by simp [hd]
      rw [if_pos hd] at HH
      clear hd HOKC HR
      generalize orderC O = p at *
      go_enter Try.func30, Try.ntmps30
      go_wp2_with fail
      refine (HC.out _ HX.out).mono ?_
      rintro e w2 ⟨rfl, hB⟩
      have HB2 := Lib.hid hB; clear hB
      go_wp2_with fail
      refine (HD.out _ (HY.out.mono HB2.out)).mono ?_
      rintro e w3 ⟨rfl, hB⟩
      have HB3 := Lib.hid (btr HB2.out hB); clear hB
      go_wp2_with fail
      refine (HD.out _ (HY.out.mono HB3.out)).mono ?_
      rintro e w4 ⟨rfl, hB⟩
      have HB4 := Lib.hid (btr HB3.out hB); clear hB
      go_wp2_with fail
      go_ret2
      exact post2I_mk HH.out (rdI_nil _ _) HB4.out
  · have t1 : (rackC R != 0) = true := by simp [hc]
    have HH : Hid (readE R O = ([], rackC R)) := Lib.hid (by unfold readE; rw [if_pos hc])
    clear hc HR
    generalize rackC R = q at *
    generalize readE R O = L at *
    go_enter Try.func30, Try.ntmps30
    go_wp2_with fail
    refine (HC.out _ HX.out).mono ?_
    rintro e w2 ⟨rfl, hB⟩
    have HB2 := Lib.hid hB; clear hB
    go_wp2_with fail
    refine (HC.out _ (HX.out.mono HB2.out)).mono ?_
    rintro e w3 ⟨rfl, hB⟩
    have HB3 := Lib.hid (btr HB2.out hB); clear hB
    go_wp2_with fail
    go_ret2
    exact post2I_mk HH.out (rdI_nil _ _) HB3.out
end Go.Proofs.Ytnnfahdhmodejaa
