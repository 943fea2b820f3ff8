/- RunOf, the reference's run; values in number at most 1000. -/
import Derived.Test.YtdnaipiiponhpaaV4
import Derived.Test.YtdnaipiiponhpaaV5
namespace Go.Proofs.Ytdnaipiiponhpaa
open Go.RowKit

theorem Try.info2 : (Try.prog.info? 2).map (fun i => (i.zero, i.size, i.bytes)) = some (some (.int .i64 0), 1, 8) := by kernel_rfl

theorem RdC.news {w : World} {a : Option Addr} {cap n : Nat} {cs : List Value} (h : RdC w (.slice a n cap) n cs) (hne : cs ≠ []) :
    ∃ ad : Addr, a = some ad ∧ ad.spot = none ∧ ad.block < w.heap.size ∧ ∀ j u, cs[j]? = some u → w.cell? (ad.add j) = some u := by
  obtain ⟨a', cap', e, _, _, h⟩ := h
  simp only [Value.slice.injEq] at e
  obtain ⟨rfl, -, rfl⟩ := e
  obtain ⟨b, off, rfl, hb, hc⟩ := h hne
  refine ⟨_, rfl, rfl, hb, fun j u hj => ?_⟩
  have := hc j u hj
  have e : (⟨b, off, none⟩ : Addr).add j = ⟨b, off + j, none⟩ := by unfold Addr.add; split <;> simp_all
  rw [e]; exact this

theorem stepV_minmax (l : List Int) (i j : Nat) (hij : i < j) (hj : j < l.length) :
    (l.set i (if l[j]?.getD 0 < l[i]?.getD 0 then l[j]?.getD 0 else l[i]?.getD 0)).set j (if l[i]?.getD 0 < l[j]?.getD 0 then l[j]?.getD 0 else l[i]?.getD 0) = stepV l ((i : Int), (j : Int)) := by
  unfold stepV
  simp only [Int.toNat_natCast]
  split
  · rw [if_neg (by omega)]
  · rename_i h
    have hi : i < l.length := by omega
    simp only [hi, hj, List.getElem?_eq_getElem, Option.getD_some] at h ⊢
    have e : (if l[i] < l[j] then l[j] else l[i]) = l[j] := by split <;> omega
    rw [e, List.set_getElem_self, List.set_getElem_self]

set_option maxRecDepth 100000 in
set_option maxHeartbeats 1000000 in
theorem runof_any (x y : Value) (V : List (Int × Int)) (l : List Int) (w : World) (hx0 : RdP w x V) (hy0 : RdI w .i64 y l) (hn : 0 < l.length) (hn' : l.length ≤ 1000) (hvn : V.length ≤ 1000)
   (hV : ∀ v ∈ V, 0 ≤ v.1 ∧ v.1 < v.2 ∧ v.2 < l.length) :
    Calls Try.prog 60 #[x, y] w fun e w' => ∃ v, e = .returned v ∧ w'.ownsRow w.heap.size 2 1 v l.length ((runV V l).map (Value.int .i64)) ∧ Below w.heap.size w w' := by
  obtain ⟨a, ca, rfl, hca, hca2, hx⟩ := hx0.form
  obtain ⟨b, cb, rfl, hcb, hcb2, _⟩ := hy0.form
  obtain ⟨i0, hi, hz0, hz1, hz2⟩ := info_parts Try.info2
  obtain ⟨ad, rfl, hsp, hbd, hnews⟩ := RdC.news hy0 (by intro e; simp at e; subst e; simp at hn)
  have HX := Lib.hid hx0; have HY := Lib.hid hy0; clear hx0 hy0
  have hll : (l.map (Value.int .i64)).length = l.length * 1 := by simp
  have HLL := Lib.hid hll; clear hll
  have hc2 : ∀ u ∈ l.map (Value.int .i64), u.oneCell' = true := by intro u hu; simp at hu; obtain ⟨_, _, rfl⟩ := hu; rfl
  have HC2 := Lib.hid hc2; clear hc2
  have hnw : ∀ j u, (l.map (Value.int .i64))[j]? = some u → (w.alloc (.cells #[] 2)).cell? (ad.add j) = some u := by
    intro j u hj
    have := hnews j u hj
    have e : (ad.add j).block = ad.block := by unfold Addr.add; split <;> rfl
    exact (World.cell?_of_block (w := w) (by rw [e]; exact Below.heap_alloc _ _ _ hbd)).trans this
  have HNW := Lib.hid hnw; clear hnw hnews
  go_enter Try.func60, Try.ntmps60
  go_wp2_with (at_builtin; refine wpList_append_own _ rfl _ _ 25 rfl w.heap.size 2 i0 (.int .i64 0) 1 8 Try.underlying25 hi hz0 hz1 hz2 rfl (by decide) _ 0 [] rfl (World.ownsRow_made w #[] 0 (Nat.le_refl _) (by simp) (by simp)) ad l.length cb (l.map (Value.int .i64)) rfl HLL.out HNW.out HC2.out (by simp only [maxLen]; omega) (by omega) (by simp) ?_)
  intro v' w1 hown hgrow hnil
  clear hnil
  have hB1 : Below w.heap.size w w1 := bgr (bal (bz _) _) hgrow (by intro k h; simp [Value.ownBlock] at h; omega)
  clear hgrow
  obtain ⟨m, hm⟩ : ∃ m, l.length = m + 1 := ⟨l.length - 1, by omega⟩
  rw [hm] at hown
  obtain ⟨g, cap, rfl⟩ := ownsRow_succ hown
  rw [← hm] at hown
  have HM := Lib.hid hm; clear hm
  have hg := hown.lt g rfl
  rw [← HM.out]
  go_wp2
  go_loopw [6, 7, 8] (fun i a b wr => ∃ (k : Nat), k ≤ V.length ∧ i = .int .i64 k ∧ wr.ownsRow w.heap.size 2 1 (.slice (some ⟨g, 0, none⟩) l.length cap) l.length ((runV (V.take k) l).map (Value.int .i64)) ∧ Below w.heap.size w wr) (fun i a b _ => V.length - (intOf i).toNat)
  case atStart => exact ⟨0, Nat.zero_le _, rfl, hown, hB1⟩
  case round =>
    obtain ⟨k, hk, rfl, hown, hB⟩ := hrel
    by_cases hlt : k < V.length
    · obtain ⟨bx, ox, rfl, hbx, hcx⟩ := hx (by omega)
      have gx := (hB.cell (p := ⟨bx, ox + k * 2, none⟩) hbx).trans (hcx k (by omega)).1
      have gy := (hB.cell (p := ⟨bx, ox + k * 2 + 1, none⟩) hbx).trans (hcx k (by omega)).2
      have hbx' : bx < wr.heap.size := Nat.lt_of_lt_of_le hbx hB.size
      clear hx hcx
      have hs := runV_snoc V k (by omega) l
      have hmm : V[k]?.getD (0, 0) ∈ V := by rw [List.getElem?_eq_getElem (by omega)]; exact List.getElem_mem _
      have hrl : (runV (V.take k) l).length = l.length := runV_length _ _
      generalize V[k]?.getD (0, 0) = q at *
      generalize runV (V.take k) l = r at *
      obtain ⟨q1, q2⟩ := q
      obtain ⟨o1, o2, o3⟩ := hV _ hmm
      simp only at o1 o2 o3
      obtain ⟨i, rfl⟩ : ∃ i : Nat, q1 = i := ⟨q1.toNat, by omega⟩
      obtain ⟨j, rfl⟩ : ∃ j : Nat, q2 = j := ⟨q2.toNat, by omega⟩
      have hs2 := stepV_minmax r i j (by omega) (by omega)
      have ci := hown.cellAt i (by omega)
      have cj := hown.cellAt j (by omega)
      rw [List.getElem?_map, List.getElem?_eq_getElem (by omega)] at ci cj
      simp only [Option.map_some] at ci cj
      have e1 : r[i]?.getD 0 = r[i] := by rw [List.getElem?_eq_getElem (by omega)]; rfl
      have e2 : r[j]?.getD 0 = r[j] := by rw [List.getElem?_eq_getElem (by omega)]; rfl
      rw [e1, e2, ← hs] at hs2
      have fi := hown.frozenAt i
      have fj := hown.frozenAt j
      generalize r[i] = x at *
      generalize r[j] = y at *
      have HS := Lib.hid hs2; have HO := Lib.hid hown; have HRL := Lib.hid hrl
      clear hs hs2 hown hrl hmm e1 e2
      go_wp2
      go_quiet (fail)
      go_wp2
      go_region
      go_wp2
      go_roundw
      case rel =>
        have h0 : (wr.drewN (nq + 1)).ownsRow w.heap.size 2 1 (.slice (some ⟨g, 0, none⟩) l.length cap) l.length (r.map (Value.int .i64)) := HO.out
        have h1 := ((h0.stored i (.int .i64 (if y < x then y else x))).1.stored j (.int .i64 (if x < y then y else x))).1
        rw [← List.map_set, ← List.map_set] at h1
        refine ⟨k + 1, by omega, by go_num, ?_, bset (bset (Below.drewN' _ hB) hg.1 _) hg.1 _⟩
        rw [← HS.out]
        exact h1
      case measure => simp [intOf]; omega
    · obtain rfl : k = V.length := by omega
      rw [List.take_length] at hown
      go_wp2
      go_ret
      exact ⟨_, rfl, hown, hB⟩
end Go.Proofs.Ytdnaipiiponhpaa
