/- Group of the program. -/
import Derived.Test.YtooddicegkiiiaaW9
import Derived.Laws.CopyOwn
import Derived.Deep.OwnRows
namespace Go.Proofs.Ytooddicegkiiiaa
open Go.RowKit Go.Shelf

/-- What Group returns. -/
def grpN (V : List (Int × Int)) : List Nat := if checkP V = 0 then gre V V.length [] 0 else []
def GrpOk (V : List (Int × Int)) (w : World) (e : Ending) (w' : World) : Prop := ∃ v, e = .returned (.tuple #[v, .int .i64 (checkP V)]) ∧ RdI w' .i64 v (natL (grpN V)) ∧ Below w.heap.size w w'
theorem splice_all {α : Type} (cur cs : List α) (h : cur.length = cs.length) : splice cur 0 cs = cs := by
  simp [splice, h]

set_option maxRecDepth 100000 in
set_option maxHeartbeats 1000000 in
theorem group_any (x : Value) (V : List (Int × Int)) (w : World) (hx0 : RdP w x V) (hl : V.length ≤ 1000) :
    Calls Try.prog 35 #[x] w (GrpOk V w) := by
  obtain ⟨a, ca, rfl, _, hca2, _⟩ := hx0.form
  clear hca2
  unfold GrpOk grpN
  by_cases hc : checkP V = 0
  · rw [if_pos hc, hc]
    have hV := okPins_of hc
    have h5 := hV.l5
    have HO := Lib.hid (open_ok _ _ V [] w hx0 (rdI_nil _ _) (by simp) (by rw [openE_nil]; exact hc))
    have hgl := (gre_inc V V.length [] 0 ⟨List.Pairwise.nil, by simp⟩ (by simp)).len
    have HG := Lib.hid (fun b w' hD => greatest_n V b h5 V.length [] 0 (.slice none 0 0) w' hD (World.ownsRow_nil _ _ _ _) ⟨List.Pairwise.nil, by simp⟩ (by simp) (Nat.zero_le _) (by omega))
    clear hc
    unfold GreOk at HG
    generalize gre V V.length [] 0 = g at *
    go_enter Try.func35, Try.ntmps35
    go_wp2_with fail
    refine HO.out.mono ?_
    rintro e w2 ⟨b, rfl, hb, hD, hB2⟩
    have HB2 := Lib.hid hB2; have HD := Lib.hid hD
    clear hB2 hD
    go_wp2_with fail
    refine (HG.out b _ HD.out).mono ?_
    rintro e w3 ⟨v, rfl, hown, hB3⟩
    obtain ⟨av, cv, e, _, hav⟩ := owns_clip hown
    subst e
    rw [natL_len]
    have hrd := hown.rd.form
    obtain ⟨a', c', he, _, _, hcell⟩ := hrd
    simp only [Value.slice.injEq] at he
    obtain ⟨rfl, _, rfl⟩ := he
    rw [natL_len] at hcell
    have HC := Lib.hid hcell; have HB3 := Lib.hid hB3
    have hmk : ∀ w' : World, (Instr.makeSlice 25 (.int .i64 (g.length : Int)) (.int .i64 (g.length : Int))).run Try.prog w' = .ok (.slice (some ⟨w'.heap.size, 0, none⟩) g.length g.length) (w'.alloc (.cells (madeCells #[.int .i64 0] g.length) 3)) :=
      fun w' => run_make_row' 25 3 (.int .i64 0) 8 Try.underlying25 num3 rfl .i64 .i64 g.length (by omega) (by omega) w'
    obtain ⟨cur, hcur⟩ : ∃ cur, (madeCells #[.int .i64 0] g.length).toList = cur := ⟨_, rfl⟩
    obtain ⟨cs, hcs⟩ : ∃ cs, (natL g).map (Value.int .i64) = cs := ⟨_, rfl⟩
    have hl1 : cur.length = g.length := by rw [← hcur]; simp [madeCells]
    have hl2 : cs.length = g.length := by rw [← hcs]; simp [natL]
    have hn : cs.length = Nat.min g.length g.length := by rw [hl2]; exact (Nat.min_self _).symm
    have hone : ∀ v ∈ cs, v.oneCell' = true := by rw [← hcs]; simp [Value.oneCell']
    have hpos : 0 < cs.length → ∃ ad, av = some ad ∧ ∀ j v, cs[j]? = some v → (w3.alloc (.cells (madeCells #[.int .i64 0] g.length) 3)).cell? (ad.add j) = some v := by
      intro h
      obtain ⟨b', off, rfl, hb', hc'⟩ := hcell (by omega)
      refine ⟨_, rfl, fun j v hv => ?_⟩
      have hj : j < g.length := by have := (List.getElem?_eq_some_iff.1 hv).1; omega
      rw [Go.WideShapes.add_plain]
      refine cal _ ((hc' j hj).trans ?_)
      rw [← hcs] at hv
      simp [natL, hj] at hv
      simp [natL, hj, hv]
    have hheap : (w3.alloc (.cells (madeCells #[.int .i64 0] g.length) 3)).heap[w3.heap.size]? = some (.cells cur.toArray 3 (0, 0)) := by
      rw [heap_alloc_new, ← hcur]
    have hsp : splice cur 0 cs = cs := splice_all _ _ (by omega)
    have hfit : 0 + cs.length ≤ cur.length := by omega
    have hBw : Below w3.heap.size w3 (w3.alloc (.cells (madeCells #[.int .i64 0] g.length) 3)) := bal (bz _) _
    have HN := Lib.hid hn; have HONE := Lib.hid hone; have HPOS := Lib.hid hpos; have HHEAP := Lib.hid hheap; have HSP := Lib.hid hsp; have HFIT := Lib.hid hfit; have HBW := Lib.hid hBw; have HCS := Lib.hid hcs; have HL2 := Lib.hid hl2
    clear hown hB3 hcell hl1 hl2 hn hone hpos hheap hsp hfit hBw hcur hcs
    have hz3 : (Try.prog.info? 3).map (·.size) = some 1 := by kernel_rfl
    have HZ := Lib.hid hz3; clear hz3
    go_wp2_with (refine wpList_copy_splice rfl (.tmp 21) (.tmp 22) 25 25 rfl 3 Try.underlying25 HZ.out _ _ g.length g.length g.length cv rfl rfl w3.heap.size 0 cur 3 HHEAP.out cs HN.out (fun h => ⟨rfl, HPOS.out h⟩) HFIT.out HONE.out w3.heap.size w3 HBW.out (Nat.le_refl _) ?_; intro w7 h7 hB7)
    go_ret2
    refine ⟨.slice (some ⟨w3.heap.size, 0, none⟩) g.length g.length, rfl, ?_, btr HB2.out (btr HB3.out hB7)⟩
    have h8 := h7.out
    rw [HSP.out, ← HCS.out] at h8
    have hz7 := (Array.getElem?_eq_some_iff.1 h8).1
    refine ⟨_, _, by rw [natL_len], by rw [natL_len]; exact Nat.le_refl _, by unfold maxLen; omega, fun _ => ⟨_, _, rfl, hz7, fun j u hu => ?_⟩⟩
    rw [cell_of_row w7 _ _ _ _ _ h8, Nat.zero_add]
    simpa using hu
  · rw [if_neg hc]
    have HO := Lib.hid (open_no _ _ V [] w hx0 (rdI_nil _ _) hl (by simp) (by rw [openE_nil]; exact hc))
    rw [openE_nil] at HO
    have hcb : (checkP V != 0) = true := by simpa using hc
    have hce : (checkP V == 0) = false := by simpa using hc
    clear hc
    generalize checkP V = q at *
    go_enter Try.func35, Try.ntmps35
    go_wp2_with fail
    refine HO.out.mono ?_
    rintro e w2 ⟨rfl, hB2⟩
    go_wp2_with fail
    go_ret2
    exact ⟨_, rfl, rdI_nil _ _, hB2⟩
end Go.Proofs.Ytooddicegkiiiaa
