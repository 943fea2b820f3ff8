/- newDrum: the walk; at most 5 valid pins. -/
import Derived.Test.YtooddicegkiiiaaV4
namespace Go.Proofs.Ytooddicegkiiiaa
open Go.RowKit Go.Shelf

def DrumOk (V : List (Int × Int)) (w : World) (e : Ending) (w' : World) : Prop := ∃ b, e = .returned (.pointer (some ⟨b, 0, none⟩)) ∧ w.heap.size ≤ b ∧ IsDrum w' b V ∧ Below w.heap.size w w'
/-- newDrum under way. -/
structure Mid (w wr : World) (x : Value) (L : Ents) (c : Nat) : Prop where
  B : Below w.heap.size w wr
  D : wr.heap[w.heap.size + 1]? = some (.cells #[x, .map (some w.heap.size)] 84 (0, 0))
  M : wr.heap[w.heap.size]? = some (.map (entsOf L) c)
  ok : OkL L c
theorem Mid.up {w wr w' : World} {x : Value} {L : Ents} {c : Nat} (h : Mid w wr x L c) (hb : Below wr.heap.size wr w') : Mid w w' x L c :=
  ⟨btr h.B hb, (hb.block _ (Array.getElem?_eq_some_iff.1 h.D).1).trans h.D, (hb.block _ (Array.getElem?_eq_some_iff.1 h.M).1).trans h.M, h.ok⟩
theorem Mid.put {w wr : World} {x : Value} {L L1 : Ents} {c c1 : Nat} (h : Mid w wr x L c) (h1 : OkL L1 c1) : Mid w (wr.putObj w.heap.size (.map (entsOf L1) c1)) x L1 c1 :=
  ⟨below_put h.B _ (Nat.le_refl _), (World.putObj_heap_other (by omega)).trans h.D, World.putObj_heap_same (Array.getElem?_eq_some_iff.1 h.M).1, h1⟩
theorem Mid.cells {w wr : World} {x : Value} {L : Ents} {c : Nat} (h : Mid w wr x L c) : wr.cell? ⟨w.heap.size + 1, 0, none⟩ = some x ∧ wr.cell? ⟨w.heap.size + 1, 1, none⟩ = some (.map (some w.heap.size)) ∧ w.heap.size + 1 < wr.heap.size := by
  refine ⟨?_, ?_, (Array.getElem?_eq_some_iff.1 h.D).1⟩
  · rw [cell_of_row wr _ 0 _ _ _ h.D]; rfl
  · rw [cell_of_row wr _ 1 _ _ _ h.D]; rfl

theorem Mid.next {w wr : World} {x : Value} {L : Ents} {c bi n : Nat} {o : Obj} (h : Mid w wr x L c) (hb : w.heap.size + 1 < bi) : Mid w ((wr.drewN n).putObj bi o) x L c :=
  ⟨below_put (Below.drewN' n h.B) _ (by omega), (World.putObj_heap_other (by omega)).trans h.D, (World.putObj_heap_other (by omega)).trans h.M, h.ok⟩
theorem tmod_zero (a m : Int) (_hm : 1 ≤ m) : (a.tmod m == 0) = decide (a % m = 0) := by
  rw [Bool.eq_iff_iff]
  simp only [beq_iff_eq, decide_eq_true_eq]
  rw [← Int.dvd_iff_emod_eq_zero, ← Int.dvd_iff_tmod_eq_zero]
theorem tmod_bd (a m : Int) (hm : 1 ≤ m) : -m < a.tmod m ∧ a.tmod m < m := by
  have h1 := Int.natAbs_tmod a m
  have : a.natAbs % m.natAbs < m.natAbs := Nat.mod_lt _ (by omega)
  omega

set_option maxRecDepth 100000 in
set_option maxHeartbeats 4000000 in
theorem newdrum_any (x : Value) (V : List (Int × Int)) (w : World) (hx0 : RdP w x V) (hV : OkV V) (hl : V.length ≤ 5) :
    Calls Try.prog 71 #[x] w (DrumOk V w) := by
  obtain ⟨a, ca, rfl, hca, hca2, hx⟩ := hx0.form
  have hmm := @run_makeMap Try.prog
  clear hca2
  go_enter Try.func71, Try.ntmps71
  go_wp2_with fail
  clear hmm
  go_loopw [21] (fun i wr => ∃ (k : Nat) (L : Ents) (c : Nat), k ≤ V.length ∧ i = .int .i64 k ∧ Mid w wr (.slice a V.length ca) L c ∧ FillM V L k 0) (fun i _ => V.length - (intOf i).toNat)
  case atStart =>
    refine ⟨0, [], 0, Nat.zero_le _, rfl, ⟨bal (bal (bz _) _) _, ?_, ?_, by simp, by simp, by simp⟩, fill_nil V⟩
    · have := heap_alloc_new (w.alloc (.map #[] 0)) (.cells #[.slice a V.length ca, .map (some w.heap.size)] 84)
      rw [World.size_alloc] at this
      exact this
    · exact (Below.heap_alloc _ _ _ (by simp)).trans (heap_alloc_new _ _)
  case round =>
    obtain ⟨k, L, c, hk, rfl, hM, hF⟩ := hrel
    obtain ⟨d0, d1, dz⟩ := hM.cells
    have HM := Lib.hid hM; have HF := Lib.hid hF; clear hM hF
    by_cases hlt : k < V.length
    · obtain ⟨bx, ox, rfl, hbx, hcx⟩ := hx (by omega)
      have gx := (HM.out.B.cell (p := ⟨bx, ox + k * 2, none⟩) hbx).trans (hcx k hlt).1
      have gy := (HM.out.B.cell (p := ⟨bx, ox + k * 2 + 1, none⟩) hbx).trans (hcx k hlt).2
      have hcx' := Lib.hid hcx
      obtain ⟨p1, p2, p3, p4⟩ := hV.at hlt
      change 1 ≤ (V[k]?.getD (0, 0)).1 at p1
      change (V[k]?.getD (0, 0)).1 ≤ 200 at p2
      change 0 ≤ (V[k]?.getD (0, 0)).2 at p3
      change (V[k]?.getD (0, 0)).2 < (V[k]?.getD (0, 0)).1 at p4
      clear hx hcx
      generalize hp : V[k]?.getD (0, 0) = q at *
      have HP := Lib.hid hp; clear hp
      obtain ⟨q1, q2⟩ := q
      simp only at p1 p2 p3 p4 gx gy
      go_wp2_with fail
      have c5 : (wr.alloc (Obj.cells #[Value.int IntKind.i64 q1, Value.int IntKind.i64 q2] 55)).cell? ⟨wr.heap.size, 0, none⟩ = some (.int .i64 q1) := cnew rfl rfl
      have m5 := HM.out.up (bal (bz wr) (Obj.cells #[Value.int IntKind.i64 q1, Value.int IntKind.i64 q2] 55))
      have z5 : wr.heap.size < (wr.alloc (Obj.cells #[Value.int IntKind.i64 q1, Value.int IntKind.i64 q2] 55)).heap.size := by simp
      have hB5 := dz
      have HM5 := Lib.hid m5; have C5 := Lib.hid c5
      clear m5 c5 d0 d1 dz gx gy
      generalize (wr.alloc (Obj.cells #[Value.int IntKind.i64 q1, Value.int IntKind.i64 q2] 55)) = wv at *
      generalize hb5 : wr.heap.size = b5 at *
      clear hb5 HM
      go_loopw [34] (fun i ws => ∃ (i' : Nat) (L : Ents) (c : Nat), i' ≤ k ∧ i = .int .i64 i' ∧ Mid w ws (.slice (some ⟨bx, ox, none⟩) V.length ca) L c ∧ FillM V L k i' ∧ ws.cell? ⟨b5, 0, none⟩ = some (.int .i64 q1) ∧ b5 < ws.heap.size) (fun i _ => k - (intOf i).toNat)
      case atStart => exact ⟨0, L, c, Nat.zero_le _, rfl, HM5.out, HF.out, C5.out, z5⟩
      case round =>
        clear HM5 HF C5 z5 L c
        obtain ⟨i, L, c, hi, rfl, hM, hF, c5, z5⟩ := hrel
        by_cases hli : i < k
        · obtain ⟨d0, d1, dz⟩ := hM.cells
          have HF := Lib.hid hF; clear hF
          have hilt : i < V.length := by omega
          have gx := (hM.B.cell (p := ⟨bx, ox + i * 2, none⟩) hbx).trans (hcx'.out i hilt).1
          have gy := (hM.B.cell (p := ⟨bx, ox + i * 2 + 1, none⟩) hbx).trans (hcx'.out i hilt).2
          obtain ⟨p1', p2', p3', p4'⟩ := hV.at hilt
          change 1 ≤ (V[i]?.getD (0, 0)).1 at p1'
          change (V[i]?.getD (0, 0)).1 ≤ 200 at p2'
          generalize hp' : V[i]?.getD (0, 0) = q' at *
          have HP' := Lib.hid hp'; clear hp'
          obtain ⟨r1, r2⟩ := q'
          simp only at p1' p2' gx gy
          clear p3' p4'
          have HM := Lib.hid hM; clear hM
          go_wp2_with fail
          refine wp_region_flow [] [([0, 1, 2, 3, 4, 5, 6, 7, 8, 9, 10], 11, true), ([], 12, false)] [] (by kernel_rfl) (by kernel_rfl) ?_
          intro wc hBc hh
          clear hh
          have e5 := (hBc.cell (p := ⟨b5, 0, none⟩) (by simp; omega)).trans (cal _ c5)
          have e7 : wc.cell? ⟨wr.heap.size, 0, none⟩ = some (.int .i64 r1) := (hBc.cell (by simp)).trans (cnew rfl rfl)
          have hMc := HM.out.up (btr (bal (bz wr) _) hBc)
          obtain ⟨e0, e1, ez⟩ := hMc.cells
          have z7 : wr.heap.size < wc.heap.size := by have := hBc.size; simp at this; omega
          have z5' : b5 < wc.heap.size := by omega
          have hL := @Later.cell wc
          obtain ⟨L1, c1, hput, hok1, hkeys⟩ := run_putL hMc.M hMc.ok ((i : Int), (k : Int)) (gcdI r1 q1)
          have HMc := Lib.hid hMc; have HP1 := Lib.hid hput; have HK1 := Lib.hid hkeys
          clear hMc hput hkeys c5 d0 d1 dz gx gy
          simp only [flowP, flow, pickL, List.getElem?_cons_succ, List.getElem?_cons_zero]
          refine wpQuiet_nil ?_
          repeat (go_big_quiet_step (fail))
          refine wpQuiet_nil ?_
          go_wp2_with fail
          refine (common_i _ _ _ (by omega) (by omega) (by omega) (by omega)).mono ?_
          rintro e w2 ⟨rfl, rfl⟩
          go_wp2
          refine seg_grow ⟨⟨_, bz _⟩, rfl⟩ ?_
          refine wpQuiet_nil ?_
          have hput := HP1.out
          unfold kv at hput
          simp only at hput
          go_wp2
          refine seg_write ?_
          refine wpQuiet_nil ?_
          refine only_done ?_
          clear hput
          go_wp2
          go_roundw
          case rel =>
            refine ⟨i + 1, L1, c1, by omega, by go_num, HMc.out.put hok1, fill_put HF.out hli hlt ?_, ?_, ?_⟩
            · intro x m
              rw [HK1.out x m]
              simp only [pin, HP.out, HP'.out]
            · exact cell_put _ _ e5 (by simp; omega)
            · simp; omega
          case measure => simp [intOf]; omega
        · have hik : i = k := by omega
          subst hik
          have HM := Lib.hid hM; have HF := Lib.hid hF; clear hM hF
          go_wp2_with fail
          go_roundw
          case rel => exact ⟨i + 1, L, c, by omega, by go_num, HM.out, fill_next HF.out⟩
          case measure => simp [intOf]; omega
    · have hkl : k = V.length := by omega
      have HKL := Lib.hid hkl; clear hkl
      have hrg : (Instr.range 82 (.map (some w.heap.size))).run Try.prog wr = .ok (.pointer (some ⟨wr.heap.size, 0, none⟩)) (wr.alloc (.mapIter (some w.heap.size) c #[] c)) := by
        simp [Instr.range, Sem.run_bind, run_underlying Try.underlying82, Result.andThen_ok, run_getMap HM.out.M]
      go_wp2_with fail
      clear hrg
      have hW := HM.out.B.size
      have hMB := (Array.getElem?_eq_some_iff.1 HM.out.D).1
      have hMU := HM.out.up (bal (bz wr) (.mapIter (some w.heap.size) c #[] c))
      have hIT : (wr.alloc (.mapIter (some w.heap.size) c #[] c)).heap[wr.heap.size]? = some (.mapIter (some w.heap.size) c #[] c) := heap_alloc_new _ _
      have HMU := Lib.hid hMU; have HIT := Lib.hid hIT
      clear hMU hIT d0 d1 dz HM
      generalize (wr.alloc (.mapIter (some w.heap.size) c #[] c)) = wv at *
      generalize hbi : wr.heap.size = bi at *
      clear hbi
      go_loopw [8, 9] (fun _ _ ws => ∃ L' seen, Mid w ws (.slice a V.length ca) L' c ∧ ws.heap[bi]? = some (.mapIter (some w.heap.size) c seen c) ∧
          (∀ e ∈ L', e ∈ L) ∧ (∀ e ∈ L, clE V e = true → e ∈ L') ∧ (∀ e ∈ L', e.2.2 ∈ seen → clE V e = true)) (fun _ _ ws => unmet (ws.heap[w.heap.size]?) (ws.heap[bi]?))
      case atStart => exact ⟨L, #[], HMU.out, HIT.out, fun e h => h, fun e h _ => h, by simp⟩
      case round =>
        clear HMU HIT
        obtain ⟨L', seen, hM, hit, hs1, hs2, hs3⟩ := hrel
        rcases run_nextL hM.M hM.ok hit with ⟨hall, hnx⟩ | ⟨e, he, hes, n, hnx⟩
        · have HA := Lib.hid hall; have HM := Lib.hid hM; have HI := Lib.hid hit; have HS1 := Lib.hid hs1; have HS2 := Lib.hid hs2; have HS3 := Lib.hid hs3
          clear hall hM hit hs1 hs2 hs3
          go_wp2_with fail
          go_ret
          refine ⟨_, rfl, by omega, ⟨_, _, L', c, HM.out.D, HM.out.M, HM.out.ok, clm_of (by have := HF.out; rw [HKL.out] at this; exact this) HS1.out HS2.out HS3.out HA.out, hx0.mono HM.out.B⟩, HM.out.B⟩
        · have HSN := Lib.hid hes; have HE := Lib.hid he; have HM := Lib.hid hM; have HI := Lib.hid hit; have HS1 := Lib.hid hs1; have HS2 := Lib.hid hs2; have HS3 := Lib.hid hs3
          clear hes he hM hit hs1 hs2 hs3
          go_wp2_with fail
          clear hnx
          obtain ⟨⟨k1, k2⟩, m, t⟩ := e
          obtain ⟨a', b', hab, hbl, he1, he2⟩ := fill_at (by have := HF.out; rw [HKL.out] at this; exact this) (HS1.out _ HE.out)
          simp only [Prod.mk.injEq] at he1 he2
          obtain ⟨rfl, rfl⟩ := he1
          have hal : a' < V.length := by omega
          have hbr := HM.out.B.size
          have hrI := (Array.getElem?_eq_some_iff.1 HI.out).1
          have hMn := HM.out.next (n := n) (o := .mapIter (some w.heap.size) c (seen.push t) c) hMB
          have hnI : ((wr.drewN n).putObj bi (.mapIter (some w.heap.size) c (seen.push t) c)).heap[bi]? = some (.mapIter (some w.heap.size) c (seen.push t) c) := World.putObj_heap_same hrI
          have hen := run_entryL hMn.M hMn.ok HE.out hnI
          have hzn : ((wr.drewN n).putObj bi (.mapIter (some w.heap.size) c (seen.push t) c)).heap.size = wr.heap.size := by simp [World.drewN]
          have HMn := Lib.hid hMn; have HNI := Lib.hid hnI; clear hMn hnI
          simp only at hen HMn HNI hzn
          generalize (wr.drewN n).putObj bi (.mapIter (some w.heap.size) c (seen.push t) c) = wn at *
          have hbn : bi < wn.heap.size := by omega
          clear hzn
          obtain ⟨bx, ox, rfl, hbx, hcx⟩ := hx (by omega)
          have ga := (hcx a' hal).2
          have gb := (hcx b' hbl).2
          obtain ⟨p1, p2, p3, p4⟩ := hV.at hal
          obtain ⟨p1', p2', p3', p4'⟩ := hV.at hbl
          have g1 := gcdI_pos (pin V a').1 (pin V b').1 p1
          have g2 := gcdI_le (pin V a').1 (pin V b').1 p1
          rw [← he2] at g1 g2
          have hm2 : m ≤ 200 := by omega
          have hcl : clE V ((↑a', ↑b'), m, t) = !((((pin V a').2 - (pin V b').2).tmod m) == 0) := by
            rw [tmod_zero _ _ g1]; simp [clE]
          have HCL := Lib.hid hcl; have HE2 := Lib.hid he2
          clear hx hcx he2 g2 hcl
          change w.cell? ⟨bx, ox + a' * 2 + 1, none⟩ = some (.int .i64 (pin V a').2) at ga
          change w.cell? ⟨bx, ox + b' * 2 + 1, none⟩ = some (.int .i64 (pin V b').2) at gb
          have o1 : (pin V a').2 < 200 := by omega
          have o2 : (pin V b').2 < 200 := by omega
          clear p1 p2 p4 p1' p2' p4'
          generalize hq1 : (pin V a').2 = q1 at *
          generalize hq2 : (pin V b').2 = q2 at *
          clear hq1 hq2
          unfold kv at hen
          simp only at hen
          go_wp2_with fail
          clear hen
          have hMy := HMn.out.up (bal (bz wn) (Obj.cells #[Value.int IntKind.i64 ↑a', Value.int IntKind.i64 ↑b'] 98))
          have y0 : (wn.alloc (Obj.cells #[Value.int IntKind.i64 ↑a', Value.int IntKind.i64 ↑b'] 98)).cell? ⟨wn.heap.size, 0, none⟩ = some (.int .i64 a') := cnew rfl rfl
          have y1 : (wn.alloc (Obj.cells #[Value.int IntKind.i64 ↑a', Value.int IntKind.i64 ↑b'] 98)).cell? ⟨wn.heap.size, 1, none⟩ = some (.int .i64 b') := cnew rfl rfl
          have yz : wn.heap.size < (wn.alloc (Obj.cells #[Value.int IntKind.i64 ↑a', Value.int IntKind.i64 ↑b'] 98)).heap.size := by simp
          have yI := (Below.heap_alloc wn (.cells #[Value.int IntKind.i64 ↑a', Value.int IntKind.i64 ↑b'] 98) bi hbn).trans HNI.out
          have HMY := Lib.hid hMy; have HYI := Lib.hid yI
          clear hMy yI HMn HNI
          generalize (wn.alloc (Obj.cells #[Value.int IntKind.i64 ↑a', Value.int IntKind.i64 ↑b'] 98)) = wy at *
          generalize hyb : wn.heap.size = yb at *
          clear hyb
          have w1 : IntKind.i64.wrap (q1 - q2) = q1 - q2 := IntWalk.i64_in _ (by omega)
          obtain ⟨t1, t2⟩ := tmod_bd (q1 - q2) m g1
          have w2 : IntKind.i64.wrap ((q1 - q2).tmod m) = (q1 - q2).tmod m := IntWalk.i64_in _ (by omega)
          clear t1 t2
          generalize hcz : ((q1 - q2).tmod m == 0) = cz at *
          refine wp_region_flow [] [] [0, 1, 2, 3, 4, 5, 6, 7, 8, 9, 10, 11, 12, 13, 14, 15, 16, 17, 18, 19, 20, 21, 22, 23] (by kernel_rfl) (by kernel_rfl) ?_
          intro wc hBc hh
          clear hh
          have hMc := HMY.out.up hBc
          obtain ⟨e0, e1, ez⟩ := hMc.cells
          have hb1 := (hMc.B.cell (p := ⟨bx, ox + a' * 2 + 1, none⟩) hbx).trans ga
          have hb2 := (hMc.B.cell (p := ⟨bx, ox + b' * 2 + 1, none⟩) hbx).trans gb
          have hbx' : bx < wc.heap.size := Nat.lt_of_lt_of_le hbx hMc.B.size
          have u0 := (hBc.cell (p := ⟨yb, 0, none⟩) yz).trans y0
          have u1 := (hBc.cell (p := ⟨yb, 1, none⟩) yz).trans y1
          have uz : yb < wc.heap.size := Nat.lt_of_lt_of_le yz hBc.size
          have hL := @Later.cell wc
          have HMC := Lib.hid hMc; have HBc := Lib.hid hBc
          clear hMc hBc ga gb y0 y1
          simp only [flowP, flow, pickL, List.getElem?_cons_succ, List.getElem?_cons_zero]
          refine wpQuiet_nil ?_
          repeat (go_big_quiet_step (fail))
          refine wpQuiet_nil ?_
          refine only_done ?_
          clear w1 w2 hb1 hb2
          have hyc := (HBc.out.block _ (Array.getElem?_eq_some_iff.1 HYI.out).1).trans HYI.out
          have HYC := Lib.hid hyc; have HCZ := Lib.hid hcz
          clear hyc HYI hcz
          cases cz
          · go_wp2
            go_roundw
            case rel =>
              refine ⟨L', seen.push t, HMC.out, HYC.out, HS1.out, HS2.out, fun x hx hxs => ?_⟩
              rw [Array.mem_push] at hxs
              rcases hxs with h | h
              · exact HS3.out x hx h
              · rw [born_inj HMC.out.ok hx HE.out h]; exact HCL.out
            case measure =>
              rw [HM.out.M, HI.out, HMC.out.M, HYC.out, unmet_eq, unmet_eq]
              exact unmet_lt HMC.out.ok (fun x h => h) HE.out HSN.out
          · go_wp2_with fail
            refine wp_region_flow [] [([0, 1, 2, 3, 4], 5, false)] [] (by kernel_rfl) (by kernel_rfl) ?_
            intro wd hBd hh
            clear hh
            have hMd := HMC.out.up hBd
            have d0 := (hBd.cell (World.block_lt_of_cell? wc _ e0)).trans e0
            have d1 := (hBd.cell (World.block_lt_of_cell? wc _ e1)).trans e1
            have v0 := (hBd.cell (World.block_lt_of_cell? wc _ u0)).trans u0
            have v1 := (hBd.cell (World.block_lt_of_cell? wc _ u1)).trans u1
            have vz : yb < wd.heap.size := Nat.lt_of_lt_of_le uz hBd.size
            have dz' : w.heap.size + 1 < wd.heap.size := Nat.lt_of_lt_of_le ez hBd.size
            have hyd := (hBd.block _ (Array.getElem?_eq_some_iff.1 HYC.out).1).trans HYC.out
            have hLd := @Later.cell wd
            obtain ⟨L2, hdel, hL2, hk2⟩ := run_deleteL hMd.M hMd.ok ((a' : Int), (b' : Int))
            have HMD := Lib.hid hMd; have HYD := Lib.hid hyd; have HDEL := Lib.hid hdel; have HK2 := Lib.hid hk2
            clear hMd hyd hdel hk2 hBd e0 e1 u0 u1 hL
            simp only [flowP, flow, pickL, List.getElem?_cons_succ, List.getElem?_cons_zero]
            refine wpQuiet_nil ?_
            repeat (go_big_quiet_step (fail))
            refine wpQuiet_nil ?_
            have hdel := HDEL.out
            unfold kv at hdel
            simp only at hdel
            go_wp2
            refine seg_write ?_
            refine wpQuiet_nil ?_
            refine only_done ?_
            clear hdel
            go_wp2
            go_roundw
            case rel =>
              refine ⟨L2, seen.push t, HMD.out.put hL2, (World.putObj_heap_other (by omega)).trans HYD.out, fun x h => HS1.out x ((HK2.out x).1 h).1, fun x h1 h2 => (HK2.out x).2 ⟨HS2.out x h1 h2, fun h => ?_⟩, fun x hx hxs => ?_⟩
              · obtain ⟨x1, x2, x3⟩ := x
                simp only at h
                subst h
                have hE := HS1.out _ HE.out
                obtain ⟨f1, f2, f3, f4, f5, f6⟩ := fill_at (by have := HF.out; rw [HKL.out] at this; exact this) h1
                simp only [Prod.mk.injEq] at f5 f6
                have e1 : f1 = a' := by omega
                have e2 : f2 = b' := by omega
                subst e1; subst e2
                rw [HE2.out] at HCL
                have := HCL.out
                rw [f6] at h2
                simp only [clE] at this h2
                rw [h2] at this
                cases this
              · obtain ⟨hx1, hx2⟩ := (HK2.out x).1 hx
                rw [Array.mem_push] at hxs
                rcases hxs with h | h
                · exact HS3.out x hx1 h
                · exact absurd (by rw [born_inj HMD.out.ok hx1 HE.out h]) hx2
            case measure =>
              rw [HM.out.M, HI.out, World.putObj_heap_same (Array.getElem?_eq_some_iff.1 HMD.out.M).1, World.putObj_heap_other (by omega), HYD.out, unmet_eq, unmet_eq]
              exact unmet_lt hL2 (fun x h => ((HK2.out x).1 h).1) HE.out HSN.out
end Go.Proofs.Ytooddicegkiiiaa
