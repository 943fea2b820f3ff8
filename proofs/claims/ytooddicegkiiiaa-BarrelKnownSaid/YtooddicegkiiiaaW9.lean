/- The greatest group as the program finds it; at most 5 pins. -/
import Derived.Test.YtooddicegkiiiaaW8
namespace Go.Proofs.Ytooddicegkiiiaa
open Go.RowKit Go.Shelf

/-- The first longest. -/
def bestG (Os : List (List Nat)) : List Nat := Os[bestJ (Os.map List.length) (Os.length - 1)]?.getD []
/-- The first one of the greatest groups that begin with g, and have others from one on. -/
def gre (V : List (Int × Int)) : Nat → List Nat → Nat → List Nat
  | 0, g, _ => g
  | f + 1, g, m => bestG (g :: ((List.range' m (V.length - m)).filter fun i => decide (Grp V (g ++ [i]))).map fun i => gre V f (g ++ [i]) (i + 1))
/-- What lies in 'all' when the loop stands at m + j. -/
def cand (V : List (Int × Int)) (f : Nat) (g : List Nat) (m j : Nat) : List (List Nat) := g :: ((List.range' m j).filter fun i => decide (Grp V (g ++ [i]))).map fun i => gre V (f - 1) (g ++ [i]) (i + 1)
theorem cand_succ (V : List (Int × Int)) (f : Nat) (g : List Nat) (m j : Nat) : cand V f g m (j + 1) = if Grp V (g ++ [m + j]) then cand V f g m j ++ [gre V (f - 1) (g ++ [m + j]) (m + j + 1)] else cand V f g m j := by
  unfold cand
  rw [List.range'_concat, List.filter_append]
  by_cases h : Grp V (g ++ [m + j]) <;> simp [h]
theorem cand_len (V : List (Int × Int)) (f : Nat) (g : List Nat) (m j : Nat) : 1 ≤ (cand V f g m j).length ∧ (cand V f g m j).length ≤ j + 1 := by
  unfold cand
  have := List.length_filter_le (fun i => decide (Grp V (g ++ [i]))) (List.range' m j)
  simp only [List.length_cons, List.length_map, List.length_range'] at this ⊢
  omega
theorem gre_eq (V : List (Int × Int)) (f : Nat) (g : List Nat) (m : Nat) (h : V.length - m ≤ f) : gre V f g m = bestG (cand V f g m (V.length - m)) := by
  cases f with
  | zero =>
    have : V.length - m = 0 := by omega
    rw [this]; rfl
  | succ f => rfl
theorem bestG_mem (Os : List (List Nat)) (h : 1 ≤ Os.length) : bestG Os ∈ Os := by
  have := bestJ_le (Os.map List.length) (Os.length - 1)
  have hl : bestJ (Os.map List.length) (Os.length - 1) < Os.length := by omega
  unfold bestG
  rw [List.getElem?_eq_getElem hl]
  exact List.getElem_mem hl
/-- What it returns begins with g, and is a strictly increasing group. -/
theorem gre_inc (V : List (Int × Int)) : ∀ (f : Nat) (g : List Nat) (m : Nat), Inc V g → (∀ i ∈ g, i < m) → Inc V (gre V f g m)
  | 0, g, m, h, _ => h
  | f + 1, g, m, h, hm => by
    have hb := bestG_mem (g :: ((List.range' m (V.length - m)).filter fun i => decide (Grp V (g ++ [i]))).map fun i => gre V f (g ++ [i]) (i + 1)) (by simp)
    rw [gre]
    rcases List.mem_cons.1 hb with e | e
    · rw [e]; exact h
    · obtain ⟨i, hi, e⟩ := List.mem_map.1 e
      rw [← e]
      have hi2 := List.mem_range'_1.1 (List.mem_filter.1 hi).1
      refine gre_inc V f _ _ ⟨?_, ?_⟩ ?_
      · rw [List.pairwise_append]
        exact ⟨h.1, by simp, fun a ha b hb => by simp at hb; subst hb; have := hm a ha; omega⟩
      · intro a ha
        rw [List.mem_append, List.mem_singleton] at ha
        rcases ha with ha | rfl
        · exact h.2 a ha
        · omega
      · intro a ha
        rw [List.mem_append, List.mem_singleton] at ha
        rcases ha with ha | rfl
        · have := hm a ha; omega
        · omega
theorem Inc.len {V : List (Int × Int)} {g : List Nat} (h : Inc V g) : g.length ≤ V.length := by
  have := nodup_le g (List.range V.length) (h.1.imp fun hab => Nat.ne_of_lt hab) (fun x hx => List.mem_range.2 (h.2 x hx))
  simpa using this

/-- A list of numbers that lies whole in a block, wherever. -/
def ownN (w : World) (v : Value) (g : List Nat) : Prop := w.ownsRow 0 3 1 v (natL g).length ((natL g).map (Value.int .i64))
theorem ownN.later {w w' : World} {v : Value} {g : List Nat} (h : ownN w v g) (hb : Below w.heap.size w w') : ownN w' v g := owns_kept h hb
theorem ownN.rd {w : World} {v : Value} {g : List Nat} (h : ownN w v g) : RdI w .i64 v (natL g) := RdI.of_owns h
/-- v is a slice of the slices vs, which the call owns; each holds the numbers of Os. -/
structure LL (w : World) (base : Nat) (v : Value) (Os : List (List Nat)) (vs : List Value) : Prop where
  own : w.ownsRow base 25 1 v Os.length vs
  el : ∀ (i : Nat) (e : Value), vs[i]? = some e → ownN w e (Os[i]?.getD [])
theorem LL.later {w w' : World} {base : Nat} {v : Value} {Os : List (List Nat)} {vs : List Value} (h : LL w base v Os vs) (hb : Below w.heap.size w w') : LL w' base v Os vs :=
  ⟨owns_kept h.own hb, fun i e he => (h.el i e he).later hb⟩
theorem LL.len {w : World} {base : Nat} {v : Value} {Os : List (List Nat)} {vs : List Value} (h : LL w base v Os vs) : vs.length = Os.length := by have := h.own.1; simpa using this
theorem LL.one {w : World} {v : Value} {g : List Nat} (h : ownN w v g) (base : Nat) (hb : base ≤ w.heap.size) : LL (w.alloc (.cells #[v] 25)) base (.slice (some ⟨w.heap.size, 0, none⟩) 1 1) [g] [v] := by
  refine ⟨⟨rfl, .inr ⟨w.heap.size, 1, #[v], rfl, hb, heap_alloc_new _ _, Nat.le_refl _, by unfold maxLen; omega, rfl, rfl⟩⟩, fun i e he => ?_⟩
  match i, he with
  | 0, he => simp at he; subst he; exact h.later (bal (bz _) _)
theorem LL.push {w w' : World} {base : Nat} {v v' e : Value} {Os : List (List Nat)} {vs : List Value} {x : List Nat} {o : Obj} (h : LL w base v Os vs) (he : ownN w e x) (hown' : w'.ownsRow base 25 1 v' (Os.length + 1) (vs ++ [e]))
    (hgrow : (w.alloc o).grownBy w' v.ownBlock) : LL w' base v' (Os ++ [x]) (vs ++ [e]) := by
  have hl := h.len
  have hk : ∀ (e : Value) (x : List Nat), ownN w e x → ownN w' e x := fun e x he =>
    World.ownsRow.kept (he.alloc o) hgrow (own_ne he h.own (by decide))
  refine ⟨by simpa using hown', fun i u hu => ?_⟩
  rcases Nat.lt_or_ge i vs.length with hi | hi
  · rw [List.getElem?_append_left hi] at hu
    rw [List.getElem?_append_left (by omega)]
    exact hk _ _ (h.el i u hu)
  · have hi2 : i = vs.length := by have := (List.getElem?_eq_some_iff.1 hu).1; simp at this; omega
    subst hi2
    simp at hu
    subst hu
    rw [hl]
    simpa using hk _ _ he
theorem wpList_append_list {w : World} {base : Nat} {v : Value} {Os : List (List Nat)} {vs : List Value} {ops : Array Oper} {rest : List Oper} {o : Oper} {a : Act} {Q : Exit → Act → World → Prop} (hgd : o.guard = none) (s x : Operand)
    (ho : o.op = .call { callee := .builtin .append, args := #[s, x], argTypes := #[109, 109] }) (h : LL w base v Os vs) (e : Value) (he1 : e.oneCell' = true) (hs : a.eval s = v) {nb : Nat} (hx : a.eval x = .slice (some ⟨nb, 0, none⟩) 1 1) (hnb : nb = w.heap.size) (hl : Os.length ≤ 1000) (hb : base ≤ w.heap.size)
    (H : ∀ v' w', w'.ownsRow base 25 1 v' (Os.length + 1) (vs ++ [e]) → (w.alloc (.cells #[e] 25)).grownBy w' v.ownBlock → wpList Try.prog ops Q rest (a.put o.dst v') w') :
    wpList Try.prog ops Q (o :: rest) a (w.alloc (.cells #[e] 25)) := by
  subst hnb
  obtain ⟨i0, hi, hz0, hz1, hz2⟩ := info_parts info25
  refine wpList_append_own _ hgd s x 109 ho base 25 i0 (.slice none 0 0) 1 24 (show Try.prog.underlying 109 = some (.slice 25) by kernel_rfl) hi hz0 hz1 hz2 rfl (by decide) _ _ _ hs (h.own.alloc _) ⟨w.heap.size, 0, none⟩ 1 1 [e] hx rfl (fun j u hj => ?_) (fun u hu => by simp at hu; subst hu; exact he1)
    (by simp only [maxLen]; omega) (by omega) (by simp; omega) ?_
  · match j, hj with
    | 0, hj => simp at hj; subst hj; rw [Go.WideShapes.add_plain]; simp
  · exact fun v' w' h1 h2 _ => H v' w' h1 h2

theorem gre_aux {n m j i f : Nat} (h : m + j = i) (hlt : i < n) (hf : n - m ≤ f) : n - (i + 1) ≤ f - 1 ∧ f - 1 < f ∧ i + 1 ≤ n ∧ j + 1 ≤ n - m := by omega
def GreOk (V : List (Int × Int)) (f : Nat) (g : List Nat) (m : Nat) (w : World) (e : Ending) (w' : World) : Prop := ∃ v, e = .returned v ∧ ownN w' v (gre V f g m) ∧ Below w.heap.size w w'

set_option maxRecDepth 100000 in
set_option maxHeartbeats 2000000 in
theorem greatest_n (V : List (Int × Int)) (b : Nat) (hl5 : V.length ≤ 5) : ∀ (f : Nat) (g : List Nat) (m : Nat) (y : Value) (w : World), IsDrum w b V → ownN w y g → Inc V g → (∀ i ∈ g, i < m) → m ≤ V.length → V.length - m ≤ f →
    Calls Try.prog 68 #[.pointer (some ⟨b, 0, none⟩), y, .int .i64 m] w (GreOk V f g m w) := by
  intro f
  induction f using Nat.strongRecOn with
  | ind f ih =>
  intro g m y w hD hy hg hgm hm hf
  have hgl := hg.len
  obtain ⟨x, M, L, c, hb, _, _, _, hx0⟩ := id hD
  obtain ⟨ax, cx, rfl, _, _, _⟩ := hx0.form
  have d0 : w.cell? ⟨b, 0, none⟩ = some (.slice ax V.length cx) := by rw [cell_of_row w _ 0 _ _ _ hb]; rfl
  have dz := (Array.getElem?_eq_some_iff.1 hb).1
  obtain ⟨ay, cy, e, hcy, hay⟩ := owns_clip hy
  rw [natL_len] at e hcy
  subst e
  have HD := Lib.hid hD; have HY := Lib.hid hy; have IH := Lib.hid ih
  clear hb hx0 hD hy ih
  go_enter Try.func68, Try.ntmps68
  go_wp2_with fail
  refine wp_scope_straight ?_
  go_wp2_with fail
  refine wp_label ?_
  go_wp2_with fail
  have HL1 := Lib.hid (LL.one HY.out w.heap.size (Nat.le_refl _))
  go_loopw [7, 8, 9] (fun s7 s8 _ wr => ∃ (v : Value) (vs : List Value) (j : Nat), v = s7 ∧ s8 = .int .i64 ((m + j : Nat) : Int) ∧ j ≤ V.length - m ∧ Below w.heap.size w wr ∧ LL wr w.heap.size v (cand V f g m j) vs) (fun _ s8 _ _ => V.length - (intOf s8).toNat)
  case atStart => exact ⟨_, _, 0, rfl, rfl, Nat.zero_le _, bal (bz _) _, HL1.out⟩
  case round =>
    obtain ⟨v, vs, j, rfl, rfl, hj, hB, hL⟩ := hrel
    obtain ⟨k1, k2⟩ := cand_len V f g m j
    obtain ⟨av, cv, rfl⟩ := owns_form hL.own
    have e0 := (hB.cell (p := ⟨b, 0, none⟩) dz).trans d0
    have ez : b < wr.heap.size := Nat.lt_of_lt_of_le dz hB.size
    have HB := Lib.hid hB; have HL := Lib.hid hL; clear hB hL
    by_cases hlt : m + j < V.length
    · have hst := cand_succ V f g m j
      have hap := append_clip (wr.alloc (.cells #[.int .i64 ((m + j : Nat) : Int)] 3)) ay g.length cy (natL g) ((HY.out.later HB.out).rd.mono (bal (bz _) _)) hay (by omega) ⟨wr.heap.size, 0, none⟩ ((m + j : Nat) : Int) (cnew rfl rfl)
      obtain ⟨v', hap⟩ := Classical.skolem.1 hap
      obtain ⟨w', hap⟩ := Classical.skolem.1 hap
      have hsl := run_clip ay g.length cy hcy hay
      have hap1 := Lib.hid fun ty => (hap ty).1
      have hap2 := Lib.hid fun ty => (hap ty).2
      have HST := Lib.hid hst
      clear hap hst
      generalize hmj : m + j = i at *
      have HMJ := Lib.hid hmj; clear hmj
      go_wp2_with (at_builtin; refine wpList_append_eq _ rfl _ _ 25 rfl _ _ rfl rfl (hap1.out _) ?_)
      obtain ⟨h1, h2⟩ := hap2.out 25
      have hB6 : Below wr.heap.size wr (w' 25) := bgr (bal (bz _) _) h2 (fun k h => by cases h)
      have hown : ownN (w' 25) (v' 25) (g ++ [i]) := by
        unfold ownN
        have e : natL (g ++ [i]) = natL g ++ [(i : Int)] := by simp [natL]
        rw [e, List.length_append, natL_len]
        exact owns_base h1 (Nat.zero_le _)
      have hinc : Inc V (g ++ [i]) := by
        refine ⟨?_, fun a ha => ?_⟩
        · rw [List.pairwise_append]
          exact ⟨hg.1, by simp, fun a ha b hb => by simp at hb; subst hb; have := hgm a ha; have := HMJ.out; omega⟩
        · rw [List.mem_append, List.mem_singleton] at ha
          rcases ha with ha | rfl
          · exact hg.2 a ha
          · exact hlt
      have hgm' : ∀ a ∈ g ++ [i], a < i + 1 := by
        intro a ha
        rw [List.mem_append, List.mem_singleton] at ha
        rcases ha with ha | rfl
        · have := hgm a ha; have := HMJ.out; omega
        · omega
      obtain ⟨x1, x2, x3, x4⟩ := gre_aux HMJ.out hlt hf
      have HIG := Lib.hid (isgroup_any b V _ (g ++ [i]) (w' 25) (HD.out.mono (btr HB.out hB6)) hown.rd hinc (by simp; omega))
      have HREC := Lib.hid (IH.out (f - 1) x2 (g ++ [i]) (i + 1) (v' 25) (w' 25) (HD.out.mono (btr HB.out hB6)) hown hinc hgm' x3 x1)
      have HB6 := Lib.hid hB6
      have hiw : ((i + 1 : Nat) : Int) = (i : Int) + 1 := by omega
      rw [hiw] at HREC
      clear hB6 hown hinc hgm' h1 h2 hap1 hap2 hsl hiw
      generalize w' 25 = w5 at *
      generalize v' 25 = v5 at *
      by_cases hgr : Grp V (g ++ [i])
      · rw [if_pos hgr] at HST
        rw [show decide (Grp V (g ++ [i])) = true by simpa using hgr] at HIG
        clear hgr
        refine HIG.out.mono ?_
        rintro e w3 ⟨rfl, rfl⟩
        go_wp2_with fail
        refine HREC.out.mono ?_
        rintro e w6 ⟨v6, rfl, hown6, hB7⟩
        obtain ⟨a6, c6, rfl⟩ := owns_form hown6
        have HO6 := Lib.hid hown6; have HB7 := Lib.hid hB7
        have HL6 := Lib.hid (HL.out.later (btr HB6.out hB7))
        have hbz := HB.out.size; have hbz6 := HB6.out.size; have hbz7 := hB7.size
        have hbase : w.heap.size ≤ w6.heap.size := by omega
        clear hown6 hB7 hbz hbz6 hbz7
        go_wp2_with (at_builtin; refine wpList_append_list rfl _ _ rfl HL6.out _ rfl rfl rfl rfl (by omega) hbase ?_)
        intro v7 w7 hown7 hgrow7
        have HP := Lib.hid (HL6.out.push HO6.out hown7 hgrow7)
        have HBa := Lib.hid (append_below (bal (btr HB.out (btr HB6.out HB7.out)) _) (HL6.out.own.alloc _) hgrow7 (Nat.le_refl _))
        clear hown7 hgrow7
        go_wp2_with fail
        go_roundw
        case rel =>
          refine ⟨v7, _, j + 1, rfl, ?_, x4, HBa.out, by rw [HST.out]; exact HP.out⟩
          have := HMJ.out
          simp; omega
        case measure => simp [intOf]; omega
      · rw [if_neg hgr] at HST
        rw [show decide (Grp V (g ++ [i])) = false by simpa using hgr] at HIG
        clear hgr
        refine HIG.out.mono ?_
        rintro e w3 ⟨rfl, rfl⟩
        go_wp2_with fail
        go_roundw
        case rel =>
          refine ⟨_, vs, j + 1, rfl, ?_, x4, btr HB.out HB6.out, ?_⟩
          · have := HMJ.out
            simp; omega
          · rw [HST.out]; exact HL.out.later HB6.out
        case measure => simp [intOf]; omega
    · have hjm : j = V.length - m := by omega
      have hall := gre_eq V f g m hf
      rw [← hjm] at hall
      have hls : ∀ i : Nat, ((cand V f g m j).map List.length)[i]?.getD 0 ≤ 1000 := by
        intro i
        cases hi : (cand V f g m j)[i]? with
        | none => simp [hi]
        | some o =>
          have ho : o ∈ cand V f g m j := List.mem_of_getElem? hi
          have : o.length ≤ 5 := by
            unfold cand at ho
            rcases List.mem_cons.1 ho with rfl | ho
            · omega
            · obtain ⟨i', hi', rfl⟩ := List.mem_map.1 ho
              have hi2 := List.mem_range'_1.1 (List.mem_filter.1 hi').1
              have := (gre_inc V (f - 1) (g ++ [i']) (i' + 1) ⟨by
                rw [List.pairwise_append]
                exact ⟨hg.1, by simp, fun a ha b hb => by simp at hb; subst hb; have := hgm a ha; omega⟩, by
                intro a ha
                rw [List.mem_append, List.mem_singleton] at ha
                rcases ha with ha | rfl
                · exact hg.2 a ha
                · omega⟩ (by
                intro a ha
                rw [List.mem_append, List.mem_singleton] at ha
                rcases ha with ha | rfl
                · have := hgm a ha; omega
                · omega)).len
              omega
          simp [hi]; omega
      have hvl := HL.out.len
      have hel : ∀ i, i < ((cand V f g m j).map List.length).length → ∃ a c, vs[i]? = some (.slice a (((cand V f g m j).map List.length)[i]?.getD 0) c) := by
        intro i hi
        rw [List.length_map] at hi
        have he : vs[i]? = some (vs[i]'(by omega)) := List.getElem?_eq_getElem (by omega)
        obtain ⟨a, c, h⟩ := owns_form (HL.out.el i _ he)
        rw [natL_len] at h
        refine ⟨a, c, ?_⟩
        rw [he, h]
        simp [hi]
      have HBL := Lib.hid (bestl_any (.slice av (cand V f g m j).length cv) ((cand V f g m j).map List.length) vs wr (by rw [List.length_map]; exact RdC.of_owns HL.out.own) (by rw [List.length_map]; exact hvl) hel hls (by rw [List.length_map]; omega) (by rw [List.length_map]; omega))
      have hfin : ownN wr (vs[bestJ ((cand V f g m j).map List.length) (((cand V f g m j).map List.length).length - 1)]?.getD (.slice none 0 0)) (gre V f g m) := by
        have hle := bestJ_le ((cand V f g m j).map List.length) (((cand V f g m j).map List.length).length - 1)
        rw [List.length_map] at hle
        have hlt' : bestJ ((cand V f g m j).map List.length) ((cand V f g m j).length - 1) < vs.length := by omega
        rw [List.length_map]
        rw [List.getElem?_eq_getElem hlt', Option.getD_some, hall]
        exact HL.out.el _ _ (List.getElem?_eq_getElem hlt')
      have HF := Lib.hid hfin
      clear hall hls hvl hel hfin hjm
      generalize vs[bestJ ((cand V f g m j).map List.length) (((cand V f g m j).map List.length).length - 1)]?.getD (.slice none 0 0) = vf at *
      go_wp2_with fail
      refine HBL.out.mono ?_
      rintro e w3 ⟨rfl, rfl⟩
      go_wp2_with fail
      rw [Exit.noGoto_ret]
      go_ret
      exact ⟨vf, rfl, HF.out, HB.out⟩
end Go.Proofs.Ytooddicegkiiiaa
