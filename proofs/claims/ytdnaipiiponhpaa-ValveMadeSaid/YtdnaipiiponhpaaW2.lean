/- bench.Images: how many patterns come out of a row that is valid, and the refusal. -/
import Derived.Test.YtdnaipiiponhpaaMap
import Derived.Test.YtdnaipiiponhpaaOnce
namespace Go.Proofs.Ytdnaipiiponhpaa
open Go.RowKit Go.Shelf
attribute [local go_sem] Oper.semAt_some

/-- What comes out of all patterns. -/
def imgs (p : Nat) (V : List (Int × Int)) : List (List Int) := (lanes p).map (runV V)
def imagesN (p : Nat) (V : List (Int × Int)) : Nat := (once ((imgs p V).filter fun l => !sortedB (l.take p))).length + p + 1

set_option maxRecDepth 100000 in
set_option maxHeartbeats 400000 in
theorem images_no (p : Int) (x : Value) (V : List (Int × Int)) (w : World) (hx0 : RdP w x V) (hl : V.length ≤ 1000) (h : checkR p V ≠ 0) :
    Calls Try.prog 25 #[.agg #[.int .i64 p, x]] w fun e w' => e = .returned (.tuple #[.int .i64 0, .int .i64 (checkR p V)]) ∧ Below w.heap.size w w' := by
  obtain ⟨a, ca, rfl, _, _, _⟩ := hx0.form
  have H0 := Lib.hid (open_no p (.slice a V.length ca) V (w.alloc (.cells #[.int .i64 p, .slice a V.length ca] 24)) (hx0.mono (bal (bz _) _)) hl h)
  generalize hc : checkR p V = c at *
  have HC := Lib.hid hc; clear hc
  have hcb : (c != 0) = true := by simpa using h
  have hce : (c == 0) = false := by simpa using h
  clear h
  go_enter Try.func25, Try.ntmps25
  go_wp2_with fail
  refine H0.out.mono ?_
  rintro e w2 ⟨rfl, hB2⟩
  go_wp2
  go_ret2
  exact ⟨rfl, bal (btr (bal (bz _) _) hB2) _⟩

theorem built89 (l : List Int) (hl : l.length = 8) : Try.prog.built 89 [(0, .agg (arrI l))] = some (arrI l) := by
  match l, hl with
  | [a0, a1, a2, a3, a4, a5, a6, a7], _ => show Try.prog.built 89 [(0, .agg (arrI [a0, a1, a2, a3, a4, a5, a6, a7]))] = some (arrI [a0, a1, a2, a3, a4, a5, a6, a7]); kernel_rfl
theorem abides_heap {lo hi j : Nat} {o : Obj} (h1 : j < lo) : Abides1 lo hi (fun W => W.heap[j]? = some o) :=
  fun _ _ _ h hg hr => (hg.block j (Array.getElem?_eq_some_iff.1 h).1 (fun e => by have := hr _ e.symm; omega)).trans h
theorem abides_ex {lo hi : Nat} {α : Type} {I : α → World → Prop} (h : ∀ x, Abides1 lo hi (I x)) : Abides1 lo hi (fun W => ∃ x, I x W) :=
  fun W W' row ⟨x, hx⟩ hg hr => ⟨x, h x W W' row hx hg hr⟩
theorem lane_len {p : Nat} {pre : List (List Int)} {lx : List Int} (hpx : pre ++ [lx] <+: lanes p) : lx.length = 8 := by
  obtain ⟨ys, e⟩ := hpx
  have : lx ∈ lanes p := by rw [← e]; simp
  simp only [lanes, List.mem_map] at this
  obtain ⟨t, _, rfl⟩ := this
  exact laneOf_length _ _
theorem one_arr (l : List Int) : (arrI l).all (·.oneCell') = true := by simp [arrI, Value.oneCell']
theorem arr8 (l : List Int) (h : l.length = 8) : (Try.prog.info? 75).map (·.size) = some (arrI l).size := by rw [arrI_size, h]; kernel_rfl

/-- How many entries a range has not met yet. -/
def unmet : Option Obj → Option Obj → Nat
  | some (.map es _), some (.mapIter _ _ seen _) => (es.filter fun e => !seen.contains e.born).size
  | _, _ => 0
theorem unmet_eq (L : List (List Int × Int × Nat)) (c : Nat) (seen : Array Nat) (m : Option Nat) (s l : Nat) : unmet (some (.map (entsOf L) c)) (some (.mapIter m s seen l)) = (L.filter fun e => !seen.contains e.2.2).length := by
  simp [unmet, entsOf, List.filter_map, Function.comp_def]
/-- The keys of L are what comes out of pre. -/
def KeysAre (V : List (Int × Int)) (L : List (List Int × Int × Nat)) (pre : List (List Int)) : Prop := ∀ l, l ∈ L.map (·.1) ↔ ∃ q ∈ pre, l = runV V q

theorem born_inj {L : List (List Int × Int × Nat)} {c : Nat} (hL : OkL L c) {e e' : List Int × Int × Nat} (h1 : e ∈ L) (h2 : e' ∈ L) (h : e.2.2 = e'.2.2) : e = e' := by
  obtain ⟨i, hi, rfl⟩ := List.getElem_of_mem h1
  obtain ⟨j, hj, rfl⟩ := List.getElem_of_mem h2
  have hb := hL.born
  rw [List.nodup_iff_pairwise_ne, List.pairwise_iff_getElem] at hb
  rcases Nat.lt_trichotomy i j with h' | rfl | h'
  · exact absurd (by rw [List.getElem_map, List.getElem_map]; exact h) (hb i j (by simpa) (by simpa) h')
  · rfl
  · exact absurd (by rw [List.getElem_map, List.getElem_map]; exact h.symm) (hb j i (by simpa) (by simpa) h')
theorem nodup_ents {L : List (List Int × Int × Nat)} {c : Nat} (hL : OkL L c) : L.Nodup := by
  have hb := hL.born
  unfold List.Nodup at hb ⊢
  rw [List.pairwise_map] at hb
  exact hb.imp fun h e => h (by rw [e])
theorem unmet_lt {L L2 : List (List Int × Int × Nat)} {c : Nat} {seen : Array Nat} {e : List Int × Int × Nat} (h2 : OkL L2 c) (hs : ∀ x ∈ L2, x ∈ L) (he : e ∈ L) (hes : e.2.2 ∉ seen) :
    (L2.filter fun x => !(seen.push e.2.2).contains x.2.2).length < (L.filter fun x => !seen.contains x.2.2).length := by
  have hm : e ∈ L.filter fun x => !seen.contains x.2.2 := by
    rw [List.mem_filter]; exact ⟨he, by simpa using hes⟩
  have h := nodup_le (L2.filter fun x => !(seen.push e.2.2).contains x.2.2) ((L.filter fun x => !seen.contains x.2.2).erase e) ((nodup_ents h2).filter _) (fun x hx => by
    rw [List.mem_filter] at hx
    obtain ⟨hx1, hx2⟩ := hx
    simp only [Array.contains_push, Bool.not_or, Bool.and_eq_true] at hx2
    have hne : x ≠ e := by rintro rfl; simp at hx2
    rw [List.mem_erase_of_ne hne, List.mem_filter]
    exact ⟨hs x hx1, by simp at hx2 ⊢; exact hx2.1⟩)
  rw [List.length_erase_of_mem hm] at h
  have := List.length_pos_of_mem hm
  omega

theorem imagesN_eq (p : Nat) (V : List (Int × Int)) (L L' : List (List Int × Int × Nat)) (c : Nat) (seen : Array Nat) (hL' : OkL L' c) (hk : KeysAre V L (lanes p))
    (hs1 : ∀ e ∈ L', e ∈ L) (hs2 : ∀ e ∈ L, sortedB (e.1.take p) = false → e ∈ L') (hs3 : ∀ e ∈ L', e.2.2 ∈ seen → sortedB (e.1.take p) = false) (hall : ∀ e ∈ L', e.2.2 ∈ seen) :
    imagesN p V = (entsOf L').size + p + 1 ∧ (entsOf L').size ≤ 2 ^ p := by
  have h : (L'.map (·.1)).length = (once ((imgs p V).filter fun l => !sortedB (l.take p))).length := by
    refine nodup_len _ _ hL'.keys (nodup_once _) fun l => ?_
    rw [mem_once, List.mem_filter]
    constructor
    · intro hl
      rw [List.mem_map] at hl
      obtain ⟨e, he, rfl⟩ := hl
      have h1 := (hk e.1).1 (List.mem_map_of_mem (hs1 e he))
      obtain ⟨q, hq, e1⟩ := h1
      exact ⟨by rw [e1]; exact List.mem_map_of_mem hq, by rw [hs3 e he (hall e he)]; rfl⟩
    · rintro ⟨hl, hs⟩
      unfold imgs at hl
      rw [List.mem_map] at hl
      obtain ⟨q, hq, e1⟩ := hl
      have h1 := (hk l).2 ⟨q, hq, e1.symm⟩
      rw [List.mem_map] at h1
      obtain ⟨e, he, rfl⟩ := h1
      exact List.mem_map_of_mem (hs2 e he (by simpa using hs))
  have h2 : (entsOf L').size = (L'.map (·.1)).length := by simp [entsOf]
  have h3 := once_le ((imgs p V).filter fun l => !sortedB (l.take p))
  have h4 := List.length_filter_le (fun l => !sortedB (List.take p l)) (imgs p V)
  have h5 : (imgs p V).length = 2 ^ p := by simp [imgs, lanes]
  unfold imagesN
  omega

set_option maxRecDepth 100000 in
set_option maxHeartbeats 2000000 in
theorem images_ok (p : Nat) (x : Value) (V : List (Int × Int)) (w : World) (hx0 : RdP w x V) (hV : OkRow p V) :
    Calls Try.prog 25 #[.agg #[.int .i64 p, x]] w fun e w' => e = .returned (.tuple #[.int .i64 (imagesN p V), .int .i64 0]) ∧ Below w.heap.size w w' := by
  have hp1 := hV.p1; have hp8 := hV.p8; have h40 := hV.len
  obtain ⟨a, ca, rfl, hca, hca2, _⟩ := hx0.form
  have hmm := @run_makeMap Try.prog
  refine callsIn_wide (n := 10).1 ?_
  refine callsIn_of_wp_marks Try.func25 rfl trivial ?_ rfl
  simp only [Try.ntmps25, List.size_toArray, List.length_cons, List.length_nil, Nat.reduceAdd, Nat.reduceSub, Array.replicate_succ, Array.replicate_zero, List.push_toArray, List.append_toArray, List.nil_append, List.cons_append]
  gi_wp2_with fail
  refine ⟨trivial, callsIn_wide.2 ((open_ok p _ V _ (hx0.mono (bal (bz _) _)) hV).mono ?_)⟩
  rintro e w2 ⟨b, rfl, hb0, hb, hB2⟩
  have hz2 := hB2.size
  rw [World.size_alloc] at hz2 hb0
  gi_wp2_with fail
  refine ⟨trivial, callsIn_wide.2 ((patterns_any _ _).mono ?_)⟩
  rintro e w4 ⟨rfl, hw4⟩
  have hb2 : Below w2.heap.size w2 w4 := by rw [← hw4]; exact bal (bal (bal (bal (bz _) _) _) _) _
  have hsz : w2.heap.size + 4 ≤ w4.heap.size := by rw [← hw4]; simp
  have c0 : w4.cell? ⟨w2.heap.size, 0, none⟩ = some (.pointer (some ⟨b, 0, none⟩)) := by rw [← hw4]; exact cal _ (cal _ (cal _ (cnew rfl rfl)))
  have c1 : w4.heap[w2.heap.size + 1]? = some (.map (entsOf []) 0) := by
    rw [← hw4]
    refine (Below.heap_alloc _ _ _ (by simp)).trans ((Below.heap_alloc _ _ _ (by simp)).trans ?_)
    have := heap_alloc_new (w2.alloc (.cells #[.pointer (some ⟨b, 0, none⟩)] 69)) (.map #[] 0)
    rw [World.size_alloc] at this
    exact this
  have c2 : w4.cell? ⟨w2.heap.size + 1 + 1, 0, none⟩ = some (.map (some (w2.heap.size + 1))) := by rw [← hw4]; exact cal _ (cnew (by simp) rfl)
  have c3 : w4.cell? ⟨w2.heap.size + 3, 0, none⟩ = some (.pointer (some ⟨b, 0, none⟩)) := by rw [← hw4]; exact cnew (by simp) rfl
  simp only [World.size_alloc]
  clear hw4 hmm
  have hx2 := hx0.mono (btr (bal (bz w) _) hB2)
  gi_wp2
  refine range_law (gf := 80) (lb := #[.pointer (some ⟨w2.heap.size + 3, 0, none⟩)]) rfl (enters_of Try.func80 (by kernel_rfl) rfl) (patterns_yields _ (w2.heap.size + 3) b p _ (by omega) (by omega)) (fun _ => rfl)
    (fun pre W => Below w2.heap.size w2 W ∧ W.cell? ⟨w2.heap.size, 0, none⟩ = some (.pointer (some ⟨b, 0, none⟩)) ∧ W.cell? ⟨w2.heap.size + 1 + 1, 0, none⟩ = some (.map (some (w2.heap.size + 1))) ∧ W.cell? ⟨w2.heap.size + 3, 0, none⟩ = some (.pointer (some ⟨b, 0, none⟩)) ∧
      ∃ L c, W.heap[w2.heap.size + 1]? = some (.map (entsOf L) c) ∧ OkL L c ∧ KeysAre V L pre)
    (fun _ _ _ => False)
    (fun s => (abides_below (by omega) (Nat.le_refl _)).and ((abides_cell (by simp; omega)).and ((abides_cell (by simp; omega)).and ((abides_cell (by simp; omega)).and (abides_ex fun L => abides_ex fun c => (abides_heap (by omega)).and (abides_pure.and abides_pure))))))
    (fun c s => abides_pure)
    (fun s W1 h => ⟨h.2.2.2.1, hb.mono h.1⟩)
    ⟨hb2, c0, c2, c3, [], 0, c1, ⟨by simp, by simp, by simp, by simp⟩, by intro l; simp⟩ ?round ?done ?stop
  case round =>
    rintro l pre lx W ⟨hB, d0, d2, d3, L, c, hm, hL, hkeys⟩ hpx hszW
    have HLL := Lib.hid (lane_len hpx)
    gi_wp2_with (refine inStoreRow (fun _ => trivial) rfl 75 (.tmp 7) (.tmp 20) rfl W.heap.size (arrI lx) rfl rfl 75 _ (heap_alloc_new _ _) (arr8 _ HLL.out) (by rw [arrI_size, HLL.out]; rfl) (one_arr _) ?_)
    refine ⟨kf_box _ _ _ _ _, fun W2 hg2 hs2 => ?_⟩
    obtain ⟨hl2, hz2', hB2', _⟩ := round_start (by omega) hg2 hs2
    have hz3 : W.heap.size + 1 ≤ W2.heap.size := by omega
    clear hz2'
    have hm2 : W2.heap[w2.heap.size + 1]? = some (.map (entsOf L) c) := (hB2'.block _ (by omega)).trans hm
    have hB3 : Below w2.heap.size w2 W2 := hB.trans (hB2'.mono (by omega))
    clear hg2 hs2
    have e0 := (hB2'.cell (p := ⟨w2.heap.size, 0, none⟩) (by simp; omega)).trans d0
    have e2 := (hB2'.cell (p := ⟨w2.heap.size + 1 + 1, 0, none⟩) (by simp; omega)).trans d2
    have e3 := (hB2'.cell (p := ⟨w2.heap.size + 3, 0, none⟩) (by simp; omega)).trans d3
    have hbb := hb.mono hB3
    obtain ⟨q0, q1, q2⟩ := hbb
    have hC : ∀ l' : Later W2, Calls Try.prog 58 #[.pointer (some ⟨b, 0, none⟩), .agg (arrI lx), .int .i64 (V.length : Int)] l'.val fun e w'' => e = .returned (.agg (arrI (runV V lx))) ∧ ∃ x : Later W2, w'' = x.val := by
      intro l'
      have := run_any b p _ V lx V.length l'.val ((hb.mono hB3).mono l'.le) ((hx2.mono hB3).mono l'.le) (Nat.le_refl _) hV HLL.out
      rw [List.take_length] at this
      exact Calls.later this
    have HC := Lib.hid hC; clear hC
    have HR : (runV V lx).length = 8 := by rw [runV_length]; exact HLL.out
    have hlk : ∀ l' : Later W2, (Instr.lookup 87 (.map (some (w2.heap.size + 1))) (.agg (arrI (runV V lx))) false).run Try.prog l'.val = .ok (((findL (runV V lx) L 0).map (·.2)).getD (.int .i64 0)) l'.val :=
      fun l' => run_lookupL ((l'.le.block _ (Array.getElem?_eq_some_iff.1 hm2).1).trans hm2) hL _ HR
    obtain ⟨vv, hvv⟩ := findL_int (runV V lx) L
    rw [hvv] at hlk
    have hLc := @Later.cell W2
    have l0 := World.block_lt_of_cell? W2 _ e0
    have l2 := World.block_lt_of_cell? W2 _ e2
    simp only at l0 l2
    have HRR := Lib.hid HR; have HL2 := Lib.hid hl2; have HM2 := Lib.hid hm2; have HV := Lib.hid hvv
    clear HR hl2 hm2 hvv
    gi_wp2_with fail
    simp only [Act.put]
    refine in_region_head (r := some l) 11 (by kernel_rfl) (by kernel_rfl) (by rfl) (by intro h; obtain ⟨_, _, h⟩ := h; exact h) ?_
    simp only [List.take_succ_cons, List.take_zero]
    repeat (first
      | (refine wpQuiet_load_row rfl 75 (.tmp 7) rfl W.heap.size rfl 75 (arrI lx) (0, 0) _ HL2.out Try.underlying75 rfl (arr8 _ HLL.out) ?_)
      | (refine wpQuiet_build rfl 89 (.tmp 30) rfl (.agg (arrI (runV V lx))) rfl (arrI (runV V lx)) (built89 _ HRR.out) ?_)
      | (quiet_step ((go_at_call 58; exact HC.out _))))
    refine wpQuiet_nil ?_
    intro w6 hw6
    have hL6 : Below W2.heap.size W2 w6 := by obtain ⟨⟨_, h⟩, rfl⟩ := hw6; exact h
    clear hw6 hlk hLc q1 q2 d0 d2 d3
    have hm6 : w6.heap[w2.heap.size + 1]? = some (.map (entsOf L) c) := (hL6.block _ (Array.getElem?_eq_some_iff.1 HM2.out).1).trans HM2.out
    obtain ⟨v1, st, L1, c1, hme, hL1, hk1, e1, he1, hst⟩ := run_mapEntry hm6 hL (runV V lx) HRR.out
    have hlt6 := (Array.getElem?_eq_some_iff.1 hm6).1
    have hm7 : (w6.putObj (w2.heap.size + 1) (.map (entsOf L1) c1)).heap[w2.heap.size + 1]? = some (.map (entsOf L1) c1) := World.putObj_heap_same hlt6
    have hl6 := run_lookupL hm6 hL (runV V lx) HRR.out
    have hl7 := run_lookupL hm7 hL1 (runV V lx) HRR.out
    obtain ⟨n6, hn6⟩ := findL_int (runV V lx) L
    obtain ⟨n7, hn7⟩ := findL_int (runV V lx) L1
    rw [hn6] at hl6; rw [hn7] at hl7
    have hes := fun val : Int => run_entryStore hm7 hL1 he1 val
    obtain ⟨f, hf⟩ := Classical.skolem.1 hes
    rw [hst] at hf
    have hes2 : ∀ val : Int, (Instr.entryStore 87 (.map (some (w2.heap.size + 1))) (.int .i64 st) (.int .i64 val)).run Try.prog (w6.putObj (w2.heap.size + 1) (.map (entsOf L1) c1)) = .ok () ((w6.putObj (w2.heap.size + 1) (.map (entsOf L1) c1)).putObj (w2.heap.size + 1) (.map (entsOf (f val)) c1)) := fun val => (hf val).1
    change (Instr.mapEntry 87 (.map (some (w2.heap.size + 1))) (.agg (arrI (runV V lx)))).run Try.prog w6 = .ok (.tuple #[v1, .int .i64 st]) (w6.putObj (w2.heap.size + 1) (.map (entsOf L1) c1)) at hme
    have g0 := (hL6.cell (p := ⟨w2.heap.size, 0, none⟩) (by simp; omega)).trans e0
    have g2 := (hL6.cell (p := ⟨w2.heap.size + 1 + 1, 0, none⟩) (by simp; omega)).trans e2
    have g3 := (hL6.cell (p := ⟨w2.heap.size + 3, 0, none⟩) (World.block_lt_of_cell? W2 _ e3)).trans e3
    have G0 := Lib.hid g0; have G2 := Lib.hid g2; have G3 := Lib.hid g3; have HF := Lib.hid hf; have HK1 := Lib.hid hk1; have HM7 := Lib.hid hm7; have HM6 := Lib.hid hm6; have HKEYS := Lib.hid hkeys; have HPX := Lib.hid hpx
    clear g0 g2 g3 hf hk1 hm7 hm6 e0 e2 e3 hes hkeys hpx hn6 hn7 hm
    generalize hw7 : w6.putObj (w2.heap.size + 1) (.map (entsOf L1) c1) = w7 at *
    have HW7 := Lib.hid hw7; clear hw7
    have hz7 : w7.heap.size = w6.heap.size := by rw [← HW7.out]; simp
    have hB7 : Below w2.heap.size w2 w7 := by
      rw [← HW7.out]; exact below_put (hB3.trans (hL6.mono (by omega))) _ (by omega)
    have fin : ∀ X : Int, KF w4.heap.size W2 (w7.putObj (w2.heap.size + 1) (.map (entsOf (f X)) c1)) ∧ Below w2.heap.size w2 (w7.putObj (w2.heap.size + 1) (.map (entsOf (f X)) c1)) ∧
        (w7.putObj (w2.heap.size + 1) (.map (entsOf (f X)) c1)).cell? ⟨w2.heap.size, 0, none⟩ = some (.pointer (some ⟨b, 0, none⟩)) ∧ (w7.putObj (w2.heap.size + 1) (.map (entsOf (f X)) c1)).cell? ⟨w2.heap.size + 1 + 1, 0, none⟩ = some (.map (some (w2.heap.size + 1))) ∧
        (w7.putObj (w2.heap.size + 1) (.map (entsOf (f X)) c1)).cell? ⟨w2.heap.size + 3, 0, none⟩ = some (.pointer (some ⟨b, 0, none⟩)) ∧
        ∃ L c, (w7.putObj (w2.heap.size + 1) (.map (entsOf (f X)) c1)).heap[w2.heap.size + 1]? = some (.map (entsOf L) c) ∧ OkL L c ∧ KeysAre V L (pre ++ [lx]) := by
      intro X
      obtain ⟨_, hLX, hkX⟩ := HF.out X
      refine ⟨⟨by simp [hz7]; exact hL6.size, fun r h1 h2 => ?_⟩, below_put hB7 _ (by omega), ?_, ?_, ?_, f X, c1, World.putObj_heap_same (by omega), hLX, fun l => ?_⟩
      · rw [World.putObj_heap_other (by omega), ← HW7.out, World.putObj_heap_other (by omega)]
        exact hL6.block r h2
      · exact cell_put _ _ (by rw [← HW7.out]; exact cell_put _ _ G0.out (by simp)) (by simp)
      · exact cell_put _ _ (by rw [← HW7.out]; exact cell_put _ _ G2.out (by simp)) (by simp)
      · exact cell_put _ _ (by rw [← HW7.out]; exact cell_put _ _ G3.out (by simp)) (by simp)
      · rw [hkX, HK1.out l, HKEYS.out l]
        constructor
        · rintro (rfl | ⟨q, hq, rfl⟩)
          · exact ⟨lx, by simp, rfl⟩
          · exact ⟨q, by simp [hq], rfl⟩
        · rintro ⟨q, hq, rfl⟩
          rw [List.mem_append, List.mem_singleton] at hq
          rcases hq with hq | rfl
          · exact .inr ⟨q, hq, rfl⟩
          · exact .inl rfl
    have FIN := Lib.hid fin; clear fin hz7 hB7
    simp only [Act.put]
    iterate 5
      all_goals first
        | (refine wpAny_ready (rs := [11, 13]) (by decide +kernel) (by simp) (AllReady.cons rfl (fun K hK => ?_) (AllReady.cons rfl (fun K hK => ?_) AllReady.nil)))
        | (refine wpAny_ready (rs := [12, 13]) (by decide +kernel) (by simp) (AllReady.cons rfl (fun K hK => ?_) (AllReady.cons rfl (fun K hK => ?_) AllReady.nil)))
        | (refine wpAny_ready (rs := [12, 14]) (by decide +kernel) (by simp) (AllReady.cons rfl (fun K hK => ?_) (AllReady.cons rfl (fun K hK => ?_) AllReady.nil)))
        | (refine wpAny_ready (rs := [11, 14]) (by decide +kernel) (by simp) (AllReady.cons rfl (fun K hK => ?_) (AllReady.cons rfl (fun K hK => ?_) AllReady.nil)))
        | (refine wpAny_ready (rs := [11]) (by decide +kernel) (by simp) (AllReady.cons rfl (fun K hK => ?_) AllReady.nil))
        | (refine wpAny_ready (rs := [12]) (by decide +kernel) (by simp) (AllReady.cons rfl (fun K hK => ?_) AllReady.nil))
        | (refine wpAny_ready (rs := [13]) (by decide +kernel) (by simp) (AllReady.cons rfl (fun K hK => ?_) AllReady.nil))
        | (refine wpAny_ready (rs := [14]) (by decide +kernel) (by simp) (AllReady.cons rfl (fun K hK => ?_) AllReady.nil))
        | (refine wpAny_ready (rs := [15]) (by decide +kernel) (by simp) (AllReady.cons rfl (fun K hK => ?_) AllReady.nil))
      all_goals go_simp
      all_goals (refine hK _ _ ?_; clear hK K)
    all_goals (refine wpAny_done (by decide +kernel) ?_ _)
    all_goals exact FIN.out _
  case done =>
    rintro W ⟨hB, d0, d2, d3, L, c, hm, hL, hkeys⟩ hD
    have HD := Lib.hid hD; have HK := Lib.hid hkeys; have HM := Lib.hid hm
    have hMB := (Array.getElem?_eq_some_iff.1 hm).1
    have hrg : (Instr.range 87 (.map (some (w2.heap.size + 1)))).run Try.prog W = .ok (.pointer (some ⟨W.heap.size, 0, none⟩)) (W.alloc (.mapIter (some (w2.heap.size + 1)) c #[] c)) := by
      simp [Instr.range, Sem.run_bind, run_underlying Try.underlying87, Result.andThen_ok, run_getMap hm]
    clear hD hkeys hm
    have hbW := hb.mono hB
    obtain ⟨q0, q1, q2⟩ := hbW
    have hDW : w4.heap.size < W.heap.size := (Array.getElem?_eq_some_iff.1 HD.out).1
    gi_wp2
    gi_loopw [8, 38, 39, 40, 41, 42, 43, 44, 45, 46, 47] (fun _ _ _ _ _ _ _ _ _ _ _ wr => ∃ L' seen, wr.heap[w2.heap.size + 1]? = some (.map (entsOf L') c) ∧ OkL L' c ∧ wr.heap[W.heap.size]? = some (.mapIter (some (w2.heap.size + 1)) c seen c) ∧
        (∀ e ∈ L', e ∈ L) ∧ (∀ e ∈ L, sortedB (e.1.take p) = false → e ∈ L') ∧ (∀ e ∈ L', e.2.2 ∈ seen → sortedB (e.1.take p) = false) ∧ wr.heap[w4.heap.size]? = some (.deferred (some [])) ∧
        Below w2.heap.size w2 wr ∧ wr.cell? ⟨w2.heap.size, 0, none⟩ = some (.pointer (some ⟨b, 0, none⟩)) ∧ wr.cell? ⟨w2.heap.size + 1 + 1, 0, none⟩ = some (.map (some (w2.heap.size + 1))))
      (fun _ _ _ _ _ _ _ _ _ _ _ wr => unmet (wr.heap[w2.heap.size + 1]?) (wr.heap[W.heap.size]?))
    case atStart =>
      refine ⟨L, #[], (Below.heap_alloc _ _ _ hMB).trans HM.out, hL, heap_alloc_new _ _, fun e h => h, fun e h _ => h, by simp, (Below.heap_alloc _ _ _ hDW).trans HD.out, bal hB _, cal _ d0, cal _ d2⟩
    case round =>
      obtain ⟨L', seen, hm', hL', hit, hs1, hs2, hs3, hdf, hBr, g0, g2⟩ := hrel
      have hzr := hBr.size
      have hbr := hb.mono hBr
      have hrM := (Array.getElem?_eq_some_iff.1 hm').1
      have hrI := (Array.getElem?_eq_some_iff.1 hit).1
      rcases run_nextL hm' hL' hit with ⟨hall, hnx⟩ | ⟨e, he, hes, n, hnx⟩
      · have HA := Lib.hid hall; have HM' := Lib.hid hm'; have HI := Lib.hid hit; have HDF := Lib.hid hdf
        obtain ⟨q0, q1, q2⟩ := hbr
        clear hall hm' hit hdf
        gi_wp2
        have hlc := @Later.cell wr
        have l0 := World.block_lt_of_cell? wr _ g0
        have l2 := World.block_lt_of_cell? wr _ g2
        have hln : ∀ l : Later wr, ∀ t, (Builtin.len_ #[87] t #[.map (some (w2.heap.size + 1))]).run Try.prog l.val = .ok (goInt (entsOf L').size) l.val := by
          intro l t; simp [Builtin.len_, Sem.run_bind, run_underlying Try.underlying87, Result.andThen_ok, run_getMap ((l.le.block _ hrM).trans HM'.out)]
        refine in_region_later (r := none) (by kernel_rfl) (by kernel_rfl) (by rfl) ?_
        repeat (quiet_step (exact hln _))
        refine wpQuiet_nil ?_
        intro w6 hw6
        have hL6 : Below wr.heap.size wr w6 := by obtain ⟨⟨_, h⟩, rfl⟩ := hw6; exact h
        clear hw6 hln hlc
        obtain ⟨hN, hle⟩ := imagesN_eq p V L L' c seen hL' HK.out hs1 hs2 hs3 HA.out
        have h256 := pow_le_8 p (by omega)
        have w1 : IntKind.i64.wrap (((entsOf L').size : Int) + (p : Int)) = ((entsOf L').size : Int) + (p : Int) := IntWalk.i64_in _ (by omega)
        have w2' : IntKind.i64.wrap (((entsOf L').size : Int) + (p : Int) + 1) = ((imagesN p V : Nat) : Int) := by rw [IntWalk.i64_in _ (by omega), hN]; omega
        rw [w1, w2']
        gi_wp2
        have hrD := (Array.getElem?_eq_some_iff.1 HDF.out).1
        refine ⟨by simp, .inl ⟨_, _, rfl, run_takeDeferred ((hL6.block _ hrD).trans HDF.out), ?_⟩⟩
        have bX : Below w.heap.size w (w6.putObj w4.heap.size (.deferred none)) := below_put ((btr (btr (bal (bz w) _) hB2) (hBr.trans (hL6.mono (by omega)))).mono (Nat.le_refl _)) _ (by omega)
        generalize w6.putObj w4.heap.size (.deferred none) = X at *
        refine ⟨_, results_tmp2 rfl _ _ _, ?_, bX⟩
        rfl
      · have HSN := Lib.hid hes; have HE := Lib.hid he; have HM' := Lib.hid hm'; have HI := Lib.hid hit; have HDF := Lib.hid hdf; have HS1 := Lib.hid hs1; have HS2 := Lib.hid hs2; have HS3 := Lib.hid hs3
        clear hes he hm' hit hdf hs1 hs2 hs3
        gi_wp2
        have hBn : Below w2.heap.size w2 ((wr.drewN n).putObj W.heap.size (Obj.mapIter (some (w2.heap.size + 1)) c (seen.push e.2.2) c)) := below_put (Below.drewN' n hBr) _ (hB.size)
        have hzn : ((wr.drewN n).putObj W.heap.size (Obj.mapIter (some (w2.heap.size + 1)) c (seen.push e.2.2) c)).heap.size = wr.heap.size := by simp [World.drewN]
        have hnI : ((wr.drewN n).putObj W.heap.size (Obj.mapIter (some (w2.heap.size + 1)) c (seen.push e.2.2) c)).heap[W.heap.size]? = some (Obj.mapIter (some (w2.heap.size + 1)) c (seen.push e.2.2) c) := World.putObj_heap_same hrI
        have hno : ∀ k, k ≠ W.heap.size → ((wr.drewN n).putObj W.heap.size (Obj.mapIter (some (w2.heap.size + 1)) c (seen.push e.2.2) c)).heap[k]? = wr.heap[k]? := fun k hk => World.putObj_heap_other hk
        generalize (wr.drewN n).putObj W.heap.size (Obj.mapIter (some (w2.heap.size + 1)) c (seen.push e.2.2) c) = wn at *
        have hnM := (hno _ (by omega)).trans HM'.out
        have hnD := (hno _ (by omega)).trans HDF.out
        have n0 : wn.cell? ⟨w2.heap.size, 0, none⟩ = some (.pointer (some ⟨b, 0, none⟩)) := (World.cell?_of_block (hno _ (by simp; omega))).trans g0
        have n2 : wn.cell? ⟨w2.heap.size + 1 + 1, 0, none⟩ = some (.map (some (w2.heap.size + 1))) := (World.cell?_of_block (hno _ (by simp; omega))).trans g2
        have hen := run_entryL hnM hL' HE.out hnI
        have HNI := Lib.hid hnI; have HNM := Lib.hid hnM; have HND := Lib.hid hnD
        have hzn' : wr.heap.size ≤ wn.heap.size := by omega
        have HZ := Lib.hid hzn
        clear hno hnI hnM hnD hzn hnx g0 g2 hBr hbr
        have HLE := Lib.hid (hL'.len e HE.out)
        unfold Oper.uponIn
        simp only [hen, Result.andThen_ok]
        clear hen
        gi_wp2_with (first
          | (refine inStoreRow (fun _ => trivial) rfl 89 (.tmp 8) (.tmp 41) rfl wn.heap.size (arrI e.1) rfl rfl 89 _ (heap_alloc_new _ _) (by rw [arrI_size, HLE.out]; kernel_rfl) (by rw [arrI_size, HLE.out]; rfl) (one_arr _) ?_
             generalize hw5 : World.setRow _ _ _ = w5
             have g0 : Below wn.heap.size wn w5 := by rw [← hw5]; exact below_box _ _ _ _
             have g1 : w5.heap[wn.heap.size]? = some (.cells (arrI e.1) 89 (0, 0)) := by rw [← hw5]; exact heap_box _ _ _ _
             clear hw5
             have m0 := (g0.cell (p := ⟨w2.heap.size, 0, none⟩) (World.block_lt_of_cell? wn _ n0)).trans n0
             have m2 := (g0.cell (p := ⟨w2.heap.size + 1 + 1, 0, none⟩) (World.block_lt_of_cell? wn _ n2)).trans n2
             have hb5 := hb.mono (hBn.trans (g0.mono (by omega)))
             have hB5 : Below w2.heap.size w2 w5 := hBn.trans (g0.mono (by omega))
             have G1 := Lib.hid g1; clear g1)
          | (refine inLoadRow (fun _ => trivial) rfl 75 (.tmp 43) rfl wn.heap.size rfl 89 (arrI e.1) (0, 0) _ G1.out Try.underlying75 rfl (arr8 _ HLE.out) ?_))
        refine ⟨trivial, callsIn_wide.2 ((bsorted_any b p _ e.1 w5 hb5 (by omega) (by omega) HLE.out).mono ?_)⟩
        rintro ee w6 ⟨rfl, hB6⟩
        have hB56 : Below wn.heap.size wn w6 := btr g0 hB6
        have r0 := (hB6.cell (p := ⟨w2.heap.size, 0, none⟩) (World.block_lt_of_cell? w5 _ m0)).trans m0
        have r2 := (hB6.cell (p := ⟨w2.heap.size + 1 + 1, 0, none⟩) (World.block_lt_of_cell? w5 _ m2)).trans m2
        have r1 := (hB6.block wn.heap.size (Array.getElem?_eq_some_iff.1 G1.out).1).trans G1.out
        have hz6 := hB56.size
        have rM := (hB56.block (w2.heap.size + 1) (by omega)).trans HNM.out
        have rI := (hB56.block W.heap.size (by omega)).trans HNI.out
        have rD := (hB56.block w4.heap.size (by omega)).trans HND.out
        have hB7 : Below w2.heap.size w2 w6 := hBn.trans (hB56.mono (by omega))
        obtain ⟨L2, hdel, hL2, hk2⟩ := run_deleteL rM hL' e.1 HLE.out
        have hM8 : (w6.putObj (w2.heap.size + 1) (.map (entsOf L2) c)).heap[w2.heap.size + 1]? = some (.map (entsOf L2) c) := World.putObj_heap_same (by omega)
        have hI8 : (w6.putObj (w2.heap.size + 1) (.map (entsOf L2) c)).heap[W.heap.size]? = _ := (World.putObj_heap_other (by omega)).trans rI
        have hD8 : (w6.putObj (w2.heap.size + 1) (.map (entsOf L2) c)).heap[w4.heap.size]? = _ := (World.putObj_heap_other (by omega)).trans rD
        have hB8 : Below w2.heap.size w2 (w6.putObj (w2.heap.size + 1) (.map (entsOf L2) c)) := below_put hB7 _ (by omega)
        have s0 : (w6.putObj (w2.heap.size + 1) (.map (entsOf L2) c)).cell? ⟨w2.heap.size, 0, none⟩ = _ := cell_put _ _ r0 (by simp)
        have s2 : (w6.putObj (w2.heap.size + 1) (.map (entsOf L2) c)).cell? ⟨w2.heap.size + 1 + 1, 0, none⟩ = _ := cell_put _ _ r2 (by simp)
        have S0 := Lib.hid s0; have S2 := Lib.hid s2; have HM8 := Lib.hid hM8; have HI8 := Lib.hid hI8; have HD8 := Lib.hid hD8; have R1 := Lib.hid r1; have RM := Lib.hid rM; have RI := Lib.hid rI; have RD := Lib.hid rD; have HK2 := Lib.hid hk2
        clear s0 s2 hM8 hI8 hD8 r1 rM rI rD hk2
        rw [show ((p : Int)).toNat = p by omega]
        generalize hs : sortedB (e.1.take p) = s
        have HS := Lib.hid hs
        clear hs
        cases s
        · gi_wp2
          refine ⟨⟨L', seen.push e.2.2, RM.out, hL', RI.out, HS1.out, HS2.out, fun x hx hxs => ?_, RD.out, hB7, r0, r2⟩, ?_⟩
          · rw [Array.mem_push] at hxs
            rcases hxs with h | h
            · exact HS3.out x hx h
            · rw [born_inj hL' hx HE.out h]; exact HS.out
          · rw [HM'.out, HI.out, RM.out, RI.out, unmet_eq, unmet_eq]
            exact unmet_lt hL' (fun x h => h) HE.out HSN.out
        · gi_wp2_with (refine inLoadRow (fun _ => trivial) rfl 89 (.tmp 8) rfl wn.heap.size rfl 89 (arrI e.1) (0, 0) _ R1.out Try.underlying89 rfl (by rw [arrI_size, HLE.out]; kernel_rfl) ?_)
          refine ⟨⟨L2, seen.push e.2.2, HM8.out, hL2, HI8.out, fun x h => HS1.out x ((HK2.out x).1 h).1, fun x h1 h2 => (HK2.out x).2 ⟨HS2.out x h1 h2, fun h => ?_⟩, fun x hx hxs => ?_, HD8.out, hB8, S0.out, S2.out⟩, ?_⟩
          · rw [h, HS.out] at h2; cases h2
          · obtain ⟨hx1, hx2⟩ := (HK2.out x).1 hx
            rw [Array.mem_push] at hxs
            rcases hxs with h | h
            · exact HS3.out x hx1 h
            · exact absurd (by rw [born_inj hL' hx1 HE.out h]) hx2
          · rw [HM'.out, HI.out, HM8.out, HI8.out, unmet_eq, unmet_eq]
            exact unmet_lt hL2 (fun x h => ((HK2.out x).1 h).1) HE.out HSN.out
  case stop => intro c pre W _ h; exact h.elim
end Go.Proofs.Ytdnaipiiponhpaa
