/- Given: an order with a shape, by numbers; a valid shape. -/
import Derived.Test.YtnnfahdhmodejaaMQl
import Derived.Test.YtnnfahdhmodejaaMLf
import Derived.Test.YtnnfahdhmodejaaMGB
import Derived.Test.YtnnfahdhmodejaaMGI
namespace Go.Proofs.Ytnnfahdhmodejaa
open Go.RowKit Go.Shelf

theorem LL.pend {w : World} {B : Nat → Prop} {v : Value} {R : List (List Int)} {vs : List Value} {i : Nat} {e : Value} {xs : List Int} {base : Nat} (h : LL w B v R vs) (he : rowI w base e xs) (heB : ∀ k, e.ownBlock = some k → B k) (hap : ∀ (j : Nat) (f : Value), vs[j]? = some f → apartV f e) : LLp w B v R vs i e xs :=
  ⟨h.len, h.out, h.outB, fun j f _ => h.el j f, fun j f _ => h.elB j f, fun j k f g _ _ hjk => h.ap j k f g hjk, he.base (Nat.zero_le _), heB, fun j f _ => hap j f⟩
theorem made_nils (n : Nat) : (madeCells #[Value.slice none 0 0] n).toList = List.replicate n (.slice none 0 0) := by
  apply List.ext_getElem
  · simp [madeCells]
  · intro i h1 h2
    simp [madeCells, Nat.mod_one]
theorem wpList_make_nils {w : World} {ops : Array Oper} {rest : List Oper} {o : Oper} {a : Act} {Q : Exit → Act → World → Prop} (hg : o.guard = none) (l c : Operand) (hop : o.op = Op.makeSlice 22 l c) (n : Nat) (hl : a.eval l = .int .i64 (n : Int)) (hc : a.eval c = .int .i64 (n : Int)) (hn : n ≤ 1000)
    (hK : ∀ w', LL w' (fun k => k = w.heap.size) (.slice (some ⟨w.heap.size, 0, none⟩) n n) (List.replicate n []) (List.replicate n (.slice none 0 0)) → w.grownBy w' none → wpList Try.prog ops Q rest (a.put o.dst (.slice (some ⟨w.heap.size, 0, none⟩) n n)) w') : wpList Try.prog ops Q (o :: rest) a w := by
  obtain ⟨i0, hi, hz0, hz1, hz2⟩ := info_parts info31
  refine wpList_make_full _ hg l c 22 hop w.heap.size 31 i0 (.slice none 0 0) 1 Try.underlying22 hi hz0 hz1 .i64 .i64 _ _ n hl hc rfl rfl (by rw [hz2]; omega) (by simp only [maxLen]; omega) (Nat.le_refl _) ?_
  intro w' h1 h2
  rw [Nat.mul_one] at h1
  have e1 : (Value.slice none 0 0).cells = #[Value.slice none 0 0] := rfl
  rw [e1, made_nils] at h1
  have hget : ∀ (i : Nat) (e : Value), (List.replicate n (Value.slice none 0 0))[i]? = some e → e = .slice none 0 0 := fun i e he => by
    obtain ⟨h3, h4⟩ := List.getElem?_eq_some_iff.1 he
    simp at h4; exact h4.symm
  refine hK w' ⟨by simp, ?_, fun k hk => ?_, fun i e he => ?_, fun i e he k hk => ?_, fun i j e f _ he _ => ?_⟩ h2
  · rw [List.length_replicate]; exact owns_base h1 (Nat.zero_le _)
  · simp [Value.ownBlock] at hk; omega
  · rw [hget i e he, row_nils]; exact World.ownsRow_nil _ _ _ _
  · rw [hget i e he] at hk; simp [Value.ownBlock] at hk
  · rw [hget i e he]; exact .inl rfl
/-- Rows, and what is left of a shape, without a block in common. -/
structure GW (w : World) (base : Nat) (u : Value) (O : List (List Int)) (v : Value) (L : List Int) : Prop where
  ex : ∃ (B : Nat → Prop) (vs : List Value), LL w B u O vs ∧ (∀ k, B k → base ≤ k ∧ k < w.heap.size) ∧ ∀ k, v.ownBlock = some k → ¬ B k
  left : rowI w base v L
theorem GW.later {w w' : World} {base : Nat} {u v : Value} {O : List (List Int)} {L : List Int} (h : GW w base u O v L) (hb : Below w.heap.size w w') : GW w' base u O v L := by
  obtain ⟨⟨B, vs, h1, h2, h3⟩, h4⟩ := h
  exact ⟨⟨B, vs, h1.later hb, fun k hk => ⟨(h2 k hk).1, Nat.lt_of_lt_of_le (h2 k hk).2 hb.size⟩, h3⟩, owns_kept h4 hb⟩
/-- The number of what is left is stored. -/
theorem GW.setL {w : World} {base g n c : Nat} {u : Value} {O : List (List Int)} {L : List Int} (h : GW w base u O (.slice (some ⟨g, 0, none⟩) n c) L) (k : Nat) (x : Int) : GW (w.setCell ⟨g, k, none⟩ (.int .i64 x)) base u O (.slice (some ⟨g, 0, none⟩) n c) (L.set k x) := by
  obtain ⟨⟨B, vs, h1, h2, h3⟩, h4⟩ := h
  have hz : (w.setCell ⟨g, k, none⟩ (.int .i64 x)).heap.size = w.heap.size := by simp
  refine ⟨⟨B, vs, h1.fr (C := fun j => j = g) (Fr.set (p := ⟨g, k, none⟩) (B := fun j => j = g) rfl (.int .i64 x)) (fun j _ hB e => h3 g rfl (e ▸ hB)), fun j hj => by rw [hz]; exact h2 j hj, h3⟩, h4.stored k x⟩
/-- A row that was made later is stored. -/
theorem GW.setO {w w' : World} {base g n c : Nat} {v e : Value} {O : List (List Int)} {L xs : List Int} (h : GW w base (.slice (some ⟨g, 0, none⟩) n c) O v L) (hb : Below w.heap.size w w') (hbase : base ≤ w.heap.size) (he : rowI w' w.heap.size e xs) {i : Nat} (hi : i < O.length) :
    GW (w'.setCell ⟨g, i, none⟩ e) base (.slice (some ⟨g, 0, none⟩) n c) (O.set i xs) v L := by
  obtain ⟨⟨B, vs, h1, h2, h3⟩, h4⟩ := h
  have hz : (w'.setCell ⟨g, i, none⟩ e).heap.size = w'.heap.size := by simp
  have hs := hb.size
  have hg := h1.outB g rfl
  have hL : LL w' (fun k => B k ∨ (w.heap.size ≤ k ∧ k < w'.heap.size)) (.slice (some ⟨g, 0, none⟩) n c) O vs := (h1.later hb).mono (fun j _ hj => .inl hj)
  have hP := LL.pend (i := i) hL he (fun k ek => .inr (he.lt ek)) (fun j f hf => apart_fresh h1 he j f hf)
  refine ⟨⟨_, _, hP.store hi, fun k hk => ?_, fun k ek hk => ?_⟩, ?_⟩
  · rw [hz]
    rcases hk with hk | hk
    · have := h2 k hk; omega
    · omega
  · rcases hk with hk | hk
    · exact h3 k ek hk
    · have := (h4.lt ek).2; omega
  · refine World.ownsRow.kept (owns_kept h4 hb) (grownBy_set w' ⟨g, i, none⟩ e) ?_
    cases hv : v.ownBlock with
    | none => exact .inl rfl
    | some k =>
      refine .inr ?_
      intro e'
      have : k = g := by simpa using e'
      subst this
      exact h3 k hv hg
theorem GW.outer {w : World} {base g n c : Nat} {v : Value} {O : List (List Int)} {L : List Int} (h : GW w base (.slice (some ⟨g, 0, none⟩) n c) O v L) {i : Nat} (hi : i < O.length) :
    ∃ a' c', w.cell? ⟨g, i, none⟩ = some (.slice a' (row O i).length c') ∧ w.frozen? ⟨g, i, none⟩ = false ∧ g < w.heap.size ∧ base ≤ g ∧ RdI w .i64 (.slice a' (row O i).length c') (row O i) := by
  obtain ⟨⟨B, vs, h1, h2, h3⟩, h4⟩ := h
  obtain ⟨g', c', e, eu, hg, hB, hv, hc, hf, hr⟩ := h1.get i hi
  cases eu
  obtain ⟨a2, c2, ee⟩ := owns_form hr
  subst ee
  exact ⟨a2, c2, hc, hf, hg, (h2 _ hB).1, RdI.of_owns hr⟩
set_option maxRecDepth 100000 in
set_option maxHeartbeats 8000000 in
theorem given_any (x y : Value) (sh bs : List Int) (N : Nat) (w : World) (hx0 : RdI w .i64 x sh) (hy0 : RdI w .u8 y bs) (hsh : Shp sh) (hN : sumZ sh = (N : Int)) (hbs : ∀ i, i < bs.length → 0 ≤ elt bs i ∧ elt bs i ≤ 255) :
    Calls Try.prog 40 #[x, y] w fun e w' => ∃ u, e = .returned u ∧ RdLL w' u (GV bs N (List.replicate sh.length []) sh) ∧ Below w.heap.size w w' := by
  have HX := Lib.hid hx0
  have HY := Lib.hid hy0
  have HB3 := Lib.hid hbs
  have hl12 := hsh.len
  have hN12 : N ≤ 12 := by have := hsh.sum; omega
  have HGI := Lib.hid (GI.init hsh hN)
  have HSU := Lib.hid (show sumL sh = (N : Int) from hN)
  have HSB := Lib.hid (fun i (hi : i < sh.length) => (show 0 ≤ elt sh i ∧ elt sh i ≤ 1000 by have := hsh.lo _ (elt_mem hi); have := hsh.hi _ (elt_mem hi); omega))
  have HSE := Lib.hid (fun i (hi : i < sh.length) => (show elt sh i ≤ 12 from hsh.hi _ (elt_mem hi)))
  obtain ⟨FIN, hFIN⟩ : ∃ F, F = GV bs N (List.replicate sh.length []) sh := ⟨_, rfl⟩
  rw [← hFIN]
  have HF0 := Lib.hid hFIN.symm
  obtain ⟨al, ca, rfl, _, _, _⟩ := hx0.form
  obtain ⟨bl, cb, rfl, _, _, _⟩ := hy0.form
  clear hx0 hy0 hbs hsh hN hFIN
  go_enter Try.func40, Try.ntmps40
  go_wp2_with (refine wpList_make_nils rfl (.tmp 12) (.tmp 12) rfl sh.length rfl rfl (by omega) ?_)
  intro w1 hL1 hg1
  have hB1 := bgr (bz w) hg1 (fun k e => by cases e)
  have HL1 := Lib.hid hL1.bound
  have HB1 := Lib.hid hB1
  have HOW := Lib.hid (own_newI w1 (nb := w1.heap.size) rfl (Nat.le_refl _))
  clear hL1 hg1 hB1
  go_wp2_with (at_builtin; refine wpList_append_any rfl _ _ rfl HOW.out (by simp) rfl rfl ((HX.out.mono HB1.out).mono (bal (bz w1) _)) (by simp) (by omega) ?_)
  intro v' w2 hO' hg'
  have hB2 : Below w1.heap.size w1 w2 := append_below (bal (bz w1) _) HOW.out hg' (Nat.le_refl _)
  obtain ⟨av, cv, rfl⟩ := owns_form hO'
  have hO'' : rowI w2 w1.heap.size (.slice av sh.length cv) sh := hO'
  have hws : w.heap.size ≤ w1.heap.size := HB1.out.size
  have HG2 : Hid (GW w2 w.heap.size (.slice (some ⟨w.heap.size, 0, none⟩) sh.length sh.length) (List.replicate sh.length []) (.slice av sh.length cv) sh) := Lib.hid
    ⟨⟨_, _, HL1.out.later hB2, fun k hk => by have := hB2.size; omega, fun k ek hk => by have := (hO''.lt ek).1; omega⟩, hO''.base hws⟩
  have HR2 := Lib.hid (RdI.of_owns hO'')
  have HB2 := Lib.hid (btr HB1.out hB2)
  clear hO' hO'' hg' hB2 HOW HL1 hws
  go_wp2_with fail
  refine (rsum_any _ sh w2 (HX.out.mono HB2.out) (by omega) HSB.out).mono ?_
  rintro e w' ⟨rfl, rfl⟩
  rw [HSU.out]
  clear HR2
  go_wp2_with fail
  go_loopw [7, 8, 9, 10] (fun s7 _ _ _ wr => ∃ (n : Nat) (O : List (List Int)) (L : List Int), n ≤ N ∧ GV bs n O L = FIN ∧ GI sh N n O L ∧ s7 = .int .i64 n ∧ GW wr w.heap.size (.slice (some ⟨w.heap.size, 0, none⟩) sh.length sh.length) O (.slice av sh.length cv) L ∧ Below w.heap.size w wr) (fun s7 _ _ _ _ => (intOf s7).toNat)
  case atStart => exact ⟨N, _, _, Nat.le_refl _, HF0.out, HGI.out, rfl, HG2.out, HB2.out⟩
  case round =>
    clear HG2 HB2
    obtain ⟨n, O, L, hnN, hGV, hGI, rfl, hG, hB⟩ := hrel
    cases n with
    | zero =>
      have HFI : Hid (O = FIN) := Lib.hid hGV
      obtain ⟨⟨B, vs, hLL, _, _⟩, _⟩ := hG
      have HRD := Lib.hid hLL.rd
      rw [HFI.out] at HRD
      have HB9 := Lib.hid hB
      clear hGV hGI hLL hB
      go_wp2_with fail
      go_ret
      exact ⟨_, rfl, HRD.out, HB9.out⟩
    | succ n =>
      rw [show ((n + 1 : Nat) : Int) = (n : Int) + 1 by push_cast; rfl]
      have HGI2 := Lib.hid hGI
      have hcor := hGI.corner
      obtain ⟨hrr, hrl, hrc⟩ := hGI.rG bs
      have hkl := kG_lt bs (n + 1) hcor
      have HGN := Lib.hid (hGI.step hnN hrl hrc)
      have HNX : Hid (GV bs n (O.set (rG bs (n + 1) L) (((n : Int) + 1) :: row O (rG bs (n + 1) L))) (L.set (rG bs (n + 1) L) (elt L (rG bs (n + 1) L) - 1)) = FIN) := Lib.hid hGV
      have HLN := Lib.hid hGI.lenL
      have HRL := Lib.hid (show (row O (rG bs (n + 1) L)).length ≤ 12 by have h1 := hGI.rl _ hrl; have h2 := hGI.lo _ hrl; have h3 := HSE.out _ hrl; omega)
      obtain ⟨gl, cl, el, _, _, _⟩ := hG.left.get (rG bs (n + 1) L) (by rw [hGI.lenL]; exact hrl)
      simp only [Value.slice.injEq] at el
      obtain ⟨el1, el2, el3⟩ := el
      subst el1
      clear el2 el3
      have HGW := Lib.hid hG
      have HBO := Lib.hid hB
      have HKG : Hid (kG bs (n + 1) (crnN L L.length).length = if bs.length = 0 then 0 else (elt bs ((n + 1) % bs.length)).toNat % (crnN L L.length).length) := Lib.hid rfl
      have HCM := Lib.hid (crnN_le L L.length)
      generalize rG bs (n + 1) L = rr at *
      clear hGV hGI hrc hG hB
      go_wp2_with fail
      rename World => wO
      have HOZ : Hid (w.heap.size < wO.heap.size) := Lib.hid (by obtain ⟨_, _, _, _, z, _, _⟩ := HGW.out.outer (i := rr) (by rw [HGI2.out.lenO]; exact hrl); exact z)
      go_loopw [8, 9] (fun s8 s9 wz => ∃ (k : Nat) (u : Value), k ≤ L.length ∧ u = s8 ∧ s9 = .int .i64 k ∧ Own3 wz wO.heap.size u (.slice none 0 0) (.slice none 0 0) (crnN L k) [] [] ∧ Below wO.heap.size wO wz) (fun _ s9 _ => L.length - (intOf s9).toNat)
      case atStart => exact ⟨0, _, Nat.zero_le _, rfl, rfl, Own3.nil _ _, bz _⟩
      case round =>
        obtain ⟨k, u, hk, rfl, rfl, hO, hBz⟩ := hrel
        obtain ⟨gu, cu, eu⟩ := owns_form hO.a
        subst eu
        have HO := Lib.hid hO
        have HB := Lib.hid hBz
        have hcl := crnN_le L k
        have hll := HLN.out
        by_cases hlt : k < L.length
        · have hleft : rowI wr w.heap.size (.slice (some ⟨gl, 0, none⟩) sh.length cv) L := owns_kept HGW.out.left hBz
          obtain ⟨gl2, cl2, el, zk, gk, _⟩ := hleft.get k hlt
          simp only [Value.slice.injEq, Option.some.injEq, Addr.mk.injEq, and_true] at el
          obtain ⟨el1, el2, el3⟩ := el
          subst el1
          clear el2 el3
          have hlt2 : k < sh.length := by omega
          have HS := Lib.hid (crnN_succ L k)
          have HCR : Hid (crB L k = (decide (0 < elt L k) && (decide (k + 1 = L.length) || decide (elt L (k + 1) < elt L k)))) := Lib.hid rfl
          by_cases hq : 0 < elt L k
          · by_cases he : k + 1 = L.length
            · have hcr : crB L k = true := by rw [HCR.out, decide_eq_true hq, decide_eq_true he]; rfl
              have d1 : ((k : Int) + 1 == (sh.length : Int)) = true := by rw [beq_iff_eq]; omega
              clear he hll hO hBz hleft HCR
              generalize elt L k = q at *
              have HN : Hid (crnN L (k + 1) = crnN L k ++ [(k : Int)]) := Lib.hid (by rw [HS.out, hcr, if_pos rfl])
              clear hcr HS
              go_upto_region 10 with fail
              go_quiet (fail)
              have hO6 := HO.out.later (Below.drewN' nq (bz wr))
              have hB6 : Below wO.heap.size wO (wr.drewN nq) := btr HB.out (Below.drewN' nq (bz wr))
              clear gk zk
              generalize wr.drewN nq = w6 at *
              have HO6 := Lib.hid hO6; have HB6 := Lib.hid hB6
              clear hO6 hB6
              have hzb := HB6.out.size
              go_wp2_with (at_builtin; refine Own3.push rfl _ _ rfl HO6.out (k : Int) rfl rfl (by omega) hzb ?_)
              intro u7 w7 hO7 hk7
              have hB7 : Below wO.heap.size wO w7 := hk7 wO HB6.out (Nat.le_refl _)
              obtain ⟨g7, c7, e7⟩ := owns_form hO7.a
              subst e7
              have HO7 := Lib.hid hO7; have HB7 := Lib.hid hB7
              clear hO7 hB7 hk7 hzb
              go_wp2_with fail
              go_roundw
              case rel => exact ⟨k + 1, _, by omega, rfl, by go_num, by rw [HN.out]; exact HO7.out, HB7.out⟩
              case measure => simp [intOf]; omega
            · have d1 : ((k : Int) + 1 == (sh.length : Int)) = false := by rw [beq_eq_false_iff_ne]; omega
              obtain ⟨gl3, cl3, el, _, gk1, _⟩ := hleft.get (k + 1) (by omega)
              simp only [Value.slice.injEq, Option.some.injEq, Addr.mk.injEq, and_true] at el
              obtain ⟨el1, el2, el3⟩ := el
              subst el1
              clear el2 el3
              have tst : (0:Int) ≤ (k:Int) + 1 ∧ (k:Int) + 1 < (sh.length : Int) := by omega
              by_cases h2 : elt L (k + 1) < elt L k
              · have hcr : crB L k = true := by rw [HCR.out, decide_eq_true hq, decide_eq_true h2, Bool.or_true]; rfl
                clear he hll hO hBz hleft HCR
                generalize elt L k = q at *
                generalize elt L (k + 1) = q' at *
                have HN : Hid (crnN L (k + 1) = crnN L k ++ [(k : Int)]) := Lib.hid (by rw [HS.out, hcr, if_pos rfl])
                clear hcr HS
                go_upto_region 10 with fail
                go_quiet (fail)
                have hO6 := HO.out.later (Below.drewN' nq (bz wr))
                have hB6 : Below wO.heap.size wO (wr.drewN nq) := btr HB.out (Below.drewN' nq (bz wr))
                clear gk zk gk1
                generalize wr.drewN nq = w6 at *
                have HO6 := Lib.hid hO6; have HB6 := Lib.hid hB6
                clear hO6 hB6
                have hzb := HB6.out.size
                go_wp2_with (at_builtin; refine Own3.push rfl _ _ rfl HO6.out (k : Int) rfl rfl (by omega) hzb ?_)
                intro u7 w7 hO7 hk7
                have hB7 : Below wO.heap.size wO w7 := hk7 wO HB6.out (Nat.le_refl _)
                obtain ⟨g7, c7, e7⟩ := owns_form hO7.a
                subst e7
                have HO7 := Lib.hid hO7; have HB7 := Lib.hid hB7
                clear hO7 hB7 hk7 hzb
                go_wp2_with fail
                go_roundw
                case rel => exact ⟨k + 1, _, by omega, rfl, by go_num, by rw [HN.out]; exact HO7.out, HB7.out⟩
                case measure => simp [intOf]; omega
              · have hcr : crB L k = false := by rw [HCR.out, decide_eq_true hq, decide_eq_false h2, decide_eq_false he]; rfl
                clear he hll hO hBz hleft HCR
                generalize elt L k = q at *
                generalize elt L (k + 1) = q' at *
                have HN : Hid (crnN L (k + 1) = crnN L k) := Lib.hid (by rw [HS.out, hcr, if_neg (by simp)])
                clear hcr HS
                go_upto_region 10 with fail
                go_quiet (fail)
                have hO6 := HO.out.later (Below.drewN' nq (bz wr))
                have hB6 : Below wO.heap.size wO (wr.drewN nq) := btr HB.out (Below.drewN' nq (bz wr))
                clear gk zk gk1
                generalize wr.drewN nq = w6 at *
                have HO6 := Lib.hid hO6; have HB6 := Lib.hid hB6
                clear hO6 hB6
                go_wp2_with fail
                go_roundw
                case rel => exact ⟨k + 1, _, by omega, rfl, by go_num, by rw [HN.out]; exact HO6.out, HB6.out⟩
                case measure => simp [intOf]; omega
          · have hcr : crB L k = false := by rw [HCR.out, decide_eq_false hq]; rfl
            clear hll hO hBz hleft HCR
            generalize elt L k = q at *
            have HN : Hid (crnN L (k + 1) = crnN L k) := Lib.hid (by rw [HS.out, hcr, if_neg (by simp)])
            clear hcr HS
            go_upto_region 10 with fail
            go_quiet (fail)
            have hO6 := HO.out.later (Below.drewN' nq (bz wr))
            have hB6 : Below wO.heap.size wO (wr.drewN nq) := btr HB.out (Below.drewN' nq (bz wr))
            clear gk zk
            generalize wr.drewN nq = w6 at *
            have HO6 := Lib.hid hO6; have HB6 := Lib.hid hB6
            clear hO6 hB6
            go_wp2_with fail
            go_roundw
            case rel => exact ⟨k + 1, _, by omega, rfl, by go_num, by rw [HN.out]; exact HO6.out, HB6.out⟩
            case measure => simp [intOf]; omega
        · have hke : k = L.length := by omega
          subst hke
          have hlt3 : ¬ L.length < sh.length := by omega
          obtain ⟨g8, c8, e8, z8, ck8, f8⟩ := hO.a.get (kG bs (n + 1) (crnN L L.length).length) hkl
          simp only [Value.slice.injEq, true_and] at e8
          obtain ⟨e81, e82⟩ := e8
          subst e81 e82
          rw [hrr] at ck8
          have HGz := Lib.hid (HGW.out.later hBz)
          have HBz := Lib.hid hBz
          obtain ⟨aO, cO, hcO, hfO, hzO, hloO, hrdO⟩ := HGz.out.outer (i := rr) (by rw [HGI2.out.lenO]; exact hrl)
          have hm12 := HCM.out
          have hr12 := HRL.out
          clear hO hBz hfO
          by_cases hb0 : bs.length = 0
          · have hkk : kG bs (n + 1) (crnN L L.length).length = 0 := by rw [HKG.out, if_pos hb0]
            have t5 : ¬ (0 : Int) < (bs.length : Int) := by omega
            have hk0 : ((kG bs (n + 1) (crnN L L.length).length : Nat) : Int) = 0 := by rw [hkk]; rfl
            rw [hkk] at ck8 hkl hrr
            clear hb0 hkk hk0 hll HB
            go_upto_region 15 with fail
            refine wp_region_flow [0, 1, 2, 5, 7, 8, 9] [([3, 4, 10, 11, 12, 13], 6, true), ([], 14, true), ([], 15, false), ([], 16, false)] [] (by kernel_rfl) (by kernel_rfl) ?_
            intro wc hBc hh
            clear hh
            have d8 := (hBc.cell (p := ⟨g8, 0, none⟩) z8).trans ck8
            have z8c := Nat.lt_of_lt_of_le z8 hBc.size
            have dO := (hBc.cell (p := ⟨w.heap.size, rr, none⟩) hzO).trans hcO
            have zOc := Nat.lt_of_lt_of_le hzO hBc.size
            have HRDc := Lib.hid (hrdO.mono hBc)
            have HGc := Lib.hid (HGz.out.later hBc)
            have HOc := Lib.hid (HO.out.later hBc)
            have HBc := Lib.hid (btr HBz.out hBc)
            have HWN := Lib.hid (own_one wc (nb := wc.heap.size) (base := wc.heap.size) ((n : Int) + 1) rfl (Nat.le_refl _))
            have hL := @Later.cell wc
            clear hBc ck8 hcO hrdO HGz HO HBz
            simp only [flowP, flow, pickL, List.getElem?_cons_succ, List.getElem?_cons_zero]
            repeat (go_big_quiet_step (fail))
            refine wpQuiet_nil ?_
            repeat (go_big_quiet_step (fail))
            refine wpQuiet_nil ?_
            go_wp2
            refine seg_grow ⟨⟨_, bal (bz wc) _⟩, rfl⟩ ?_
            refine wpQuiet_nil ?_
            refine wpList_append_any rfl _ _ rfl HWN.out (by simp) rfl rfl (HRDc.out.mono (bal (bz wc) _)) (by simp) (by omega) ?_
            intro v14 w14 hO14 hg14
            have hB14 : Below wc.heap.size wc w14 := append_below (bal (bz wc) _) HWN.out hg14 (Nat.le_refl _)
            obtain ⟨a14, c14, e14⟩ := owns_form hO14
            rw [show ([(n : Int) + 1] ++ row O rr).length = (row O rr).length + 1 from List.length_cons] at e14
            subst e14
            have HE14 := Lib.hid hO14
            have HB14 := Lib.hid hB14
            have dO14 := (hB14.cell (p := ⟨w.heap.size, rr, none⟩) zOc).trans dO
            obtain ⟨_, _, _, fO14, zO14, _, _⟩ := (HGc.out.later hB14).outer (i := rr) (by rw [HGI2.out.lenO]; exact hrl)
            clear hO14 hg14 hB14 HWN
            go_wp2
            refine seg_grow ⟨⟨_, HB14.out⟩, rfl⟩ ?_
            refine wpQuiet_nil ?_
            go_wp2
            refine seg_write ?_
            refine wpQuiet_nil ?_
            go_wp2
            refine seg_write ?_
            refine wpQuiet_nil ?_
            refine only_done ?_
            have hG15 := HGc.out.setO HB14.out (btr HBO.out HBc.out).size HE14.out (i := rr) (by rw [HGI2.out.lenO]; exact hrl)
            have hB15 : Below w.heap.size w (w14.setCell ⟨w.heap.size, rr, none⟩ (.slice a14 ((row O rr).length + 1) c14)) := bset (btr (btr HBO.out HBc.out) HB14.out) (p := ⟨w.heap.size, rr, none⟩) (Nat.le_refl _) _
            have hR15 := World.ownsRow.kept (owns_kept HOc.out.a HB14.out) (grownBy_set w14 ⟨w.heap.size, rr, none⟩ (.slice a14 ((row O rr).length + 1) c14)) (.inr (by
              intro e'
              have h9 := (HOc.out.a.lt (k := g8) rfl).1
              have h8 : g8 = w.heap.size := by simpa [Value.ownBlock] using e'
              have := HOZ.out
              omega))
            clear hL d8 dO dO14 fO14 zO14 zOc z8c
            generalize w14.setCell ⟨w.heap.size, rr, none⟩ (.slice a14 ((row O rr).length + 1) c14) = w15 at *
            have hR15' : rowI w15 wO.heap.size (.slice (some ⟨g8, 0, none⟩) (crnN L L.length).length cu) (crnN L L.length) := hR15
            obtain ⟨g9, c9, e9, z9, ck9, f9⟩ := hR15'.get 0 hkl
            simp only [Value.slice.injEq, Option.some.injEq, Addr.mk.injEq, and_true, true_and] at e9
            obtain ⟨e91, e92⟩ := e9
            subst e91 e92
            rw [hrr] at ck9
            obtain ⟨gq, cq, eq', zq, ckq, fq⟩ := hG15.left.get rr (by rw [HGI2.out.lenL]; exact hrl)
            simp only [Value.slice.injEq, Option.some.injEq, Addr.mk.injEq, and_true] at eq'
            obtain ⟨eq1, eq2, eq3⟩ := eq'
            subst eq1
            clear eq2 eq3
            have hql := (hG15.left.lt (k := gl) rfl).1
            have hqb := HGI2.out.lo rr hrl
            have hqs := HSE.out rr hrl
            have HG16 := Lib.hid (hG15.setL rr (elt L rr - 1))
            have HB16 := Lib.hid (bset hB15 (p := ⟨gl, rr, none⟩) hql (.int .i64 (elt L rr - 1)))
            clear hG15 hB15 hR15 hR15' HGc HOc HBc HE14 HB14
            generalize elt L rr = qr at *
            go_wp2_with fail
            go_roundw
            case rel => exact ⟨n, _, _, by omega, HNX.out, HGN.out, by go_num, HG16.out, HB16.out⟩
            case measure => simp [intOf]
          · have hmod : ((n : Int) + 1) % (bs.length : Int) = (((n + 1) % bs.length : Nat) : Int) := by rw [show (n : Int) + 1 = ((n + 1 : Nat) : Int) by push_cast; rfl, Int.natCast_emod]
            have hml : (n + 1) % bs.length < bs.length := Nat.mod_lt _ (by omega)
            have hbv := HB3.out _ hml
            have hkm : elt bs ((n + 1) % bs.length) % ((crnN L L.length).length : Int) = (kG bs (n + 1) (crnN L L.length).length : Int) := by
              rw [HKG.out, if_neg hb0]
              have h1 : elt bs ((n + 1) % bs.length) = ((elt bs ((n + 1) % bs.length)).toNat : Int) := by omega
              conv => lhs; rw [h1]
              rw [Int.natCast_emod]
            obtain ⟨_, _, eb, _, _, hyf⟩ := HY.out.form
            cases eb
            obtain ⟨bb, ob, rfl, hbb, hcb⟩ := hyf (by omega)
            have gby : wr.cell? ⟨bb, ob + (n + 1) % bs.length, none⟩ = some (.int .u8 (elt bs ((n + 1) % bs.length))) := ((btr HBO.out HBz.out).cell (p := ⟨bb, ob + (n + 1) % bs.length, none⟩) hbb).trans (hcb _ hml)
            have zbb := Nat.lt_of_lt_of_le hbb (btr HBO.out HBz.out).size
            have t5 : (0 : Int) < (bs.length : Int) := by omega
            have t6 : (bs.length : Int) ≠ 0 := by omega
            have t7 : ((crnN L L.length).length : Int) ≠ 0 := by omega
            have t8 : (0 : Int) < ((crnN L L.length).length : Int) := by omega
            generalize kG bs (n + 1) (crnN L L.length).length = kk at *
            clear hcb hyf hb0 hll HB
            generalize (n + 1) % bs.length = im at *
            generalize elt bs im = by' at *
            go_upto_region 15 with fail
            rw [hkm]
            clear gby zbb
            refine wp_region_flow [0, 1, 2, 5, 7, 8, 9] [([3, 4, 10, 11, 12, 13], 6, true), ([], 14, true), ([], 15, false), ([], 16, false)] [] (by kernel_rfl) (by kernel_rfl) ?_
            intro wc hBc hh
            clear hh
            have d8 := (hBc.cell (p := ⟨g8, kk, none⟩) z8).trans ck8
            have z8c := Nat.lt_of_lt_of_le z8 hBc.size
            have dO := (hBc.cell (p := ⟨w.heap.size, rr, none⟩) hzO).trans hcO
            have zOc := Nat.lt_of_lt_of_le hzO hBc.size
            have HRDc := Lib.hid (hrdO.mono hBc)
            have HGc := Lib.hid (HGz.out.later hBc)
            have HOc := Lib.hid (HO.out.later hBc)
            have HBc := Lib.hid (btr HBz.out hBc)
            have HWN := Lib.hid (own_one wc (nb := wc.heap.size) (base := wc.heap.size) ((n : Int) + 1) rfl (Nat.le_refl _))
            have hL := @Later.cell wc
            clear hBc ck8 hcO hrdO HGz HO HBz
            simp only [flowP, flow, pickL, List.getElem?_cons_succ, List.getElem?_cons_zero]
            repeat (go_big_quiet_step (fail))
            refine wpQuiet_nil ?_
            repeat (go_big_quiet_step (fail))
            refine wpQuiet_nil ?_
            go_wp2
            refine seg_grow ⟨⟨_, bal (bz wc) _⟩, rfl⟩ ?_
            refine wpQuiet_nil ?_
            refine wpList_append_any rfl _ _ rfl HWN.out (by simp) rfl rfl (HRDc.out.mono (bal (bz wc) _)) (by simp) (by omega) ?_
            intro v14 w14 hO14 hg14
            have hB14 : Below wc.heap.size wc w14 := append_below (bal (bz wc) _) HWN.out hg14 (Nat.le_refl _)
            obtain ⟨a14, c14, e14⟩ := owns_form hO14
            rw [show ([(n : Int) + 1] ++ row O rr).length = (row O rr).length + 1 from List.length_cons] at e14
            subst e14
            have HE14 := Lib.hid hO14
            have HB14 := Lib.hid hB14
            have dO14 := (hB14.cell (p := ⟨w.heap.size, rr, none⟩) zOc).trans dO
            obtain ⟨_, _, _, fO14, zO14, _, _⟩ := (HGc.out.later hB14).outer (i := rr) (by rw [HGI2.out.lenO]; exact hrl)
            clear hO14 hg14 hB14 HWN
            go_wp2
            refine seg_grow ⟨⟨_, HB14.out⟩, rfl⟩ ?_
            refine wpQuiet_nil ?_
            go_wp2
            refine seg_write ?_
            refine wpQuiet_nil ?_
            go_wp2
            refine seg_write ?_
            refine wpQuiet_nil ?_
            refine only_done ?_
            have hG15 := HGc.out.setO HB14.out (btr HBO.out HBc.out).size HE14.out (i := rr) (by rw [HGI2.out.lenO]; exact hrl)
            have hB15 : Below w.heap.size w (w14.setCell ⟨w.heap.size, rr, none⟩ (.slice a14 ((row O rr).length + 1) c14)) := bset (btr (btr HBO.out HBc.out) HB14.out) (p := ⟨w.heap.size, rr, none⟩) (Nat.le_refl _) _
            have hR15 := World.ownsRow.kept (owns_kept HOc.out.a HB14.out) (grownBy_set w14 ⟨w.heap.size, rr, none⟩ (.slice a14 ((row O rr).length + 1) c14)) (.inr (by
              intro e'
              have h9 := (HOc.out.a.lt (k := g8) rfl).1
              have h8 : g8 = w.heap.size := by simpa [Value.ownBlock] using e'
              have := HOZ.out
              omega))
            clear hL d8 dO dO14 fO14 zO14 zOc z8c
            generalize w14.setCell ⟨w.heap.size, rr, none⟩ (.slice a14 ((row O rr).length + 1) c14) = w15 at *
            have hR15' : rowI w15 wO.heap.size (.slice (some ⟨g8, 0, none⟩) (crnN L L.length).length cu) (crnN L L.length) := hR15
            obtain ⟨g9, c9, e9, z9, ck9, f9⟩ := hR15'.get kk hkl
            simp only [Value.slice.injEq, Option.some.injEq, Addr.mk.injEq, and_true, true_and] at e9
            obtain ⟨e91, e92⟩ := e9
            subst e91 e92
            rw [hrr] at ck9
            obtain ⟨gq, cq, eq', zq, ckq, fq⟩ := hG15.left.get rr (by rw [HGI2.out.lenL]; exact hrl)
            simp only [Value.slice.injEq, Option.some.injEq, Addr.mk.injEq, and_true] at eq'
            obtain ⟨eq1, eq2, eq3⟩ := eq'
            subst eq1
            clear eq2 eq3
            have hql := (hG15.left.lt (k := gl) rfl).1
            have hqb := HGI2.out.lo rr hrl
            have hqs := HSE.out rr hrl
            have HG16 := Lib.hid (hG15.setL rr (elt L rr - 1))
            have HB16 := Lib.hid (bset hB15 (p := ⟨gl, rr, none⟩) hql (.int .i64 (elt L rr - 1)))
            clear hG15 hB15 hR15 hR15' HGc HOc HBc HE14 HB14
            generalize elt L rr = qr at *
            go_wp2_with fail
            go_roundw
            case rel => exact ⟨n, _, _, by omega, HNX.out, HGN.out, by go_num, HG16.out, HB16.out⟩
            case measure => simp [intOf]
end Go.Proofs.Ytnnfahdhmodejaa
