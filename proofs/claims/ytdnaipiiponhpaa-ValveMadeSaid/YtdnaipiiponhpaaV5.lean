/- A row run over a lane of eight places; valid rows. -/
import Derived.Test.YtdnaipiiponhpaaV3
namespace Go.Proofs.Ytdnaipiiponhpaa
open Go.RowKit

/-- What a valve does to the values. -/
def stepV (l : List Int) (v : Int × Int) : List Int :=
  if l[v.2.toNat]?.getD 0 < l[v.1.toNat]?.getD 0 then (l.set v.1.toNat (l[v.2.toNat]?.getD 0)).set v.2.toNat (l[v.1.toNat]?.getD 0) else l
/-- .. and a row. -/
def runV (V : List (Int × Int)) (l : List Int) : List Int := V.foldl stepV l
theorem stepV_length (l : List Int) (v : Int × Int) : (stepV l v).length = l.length := by unfold stepV; split <;> simp
theorem runV_length (V : List (Int × Int)) : ∀ l : List Int, (runV V l).length = l.length := by
  induction V with
  | nil => intro l; rfl
  | cons v V ih => intro l; simp only [runV, List.foldl_cons] at ih ⊢; rw [ih, stepV_length]
theorem runV_snoc (V : List (Int × Int)) (k : Nat) (hk : k < V.length) (l : List Int) : runV (V.take (k + 1)) l = stepV (runV (V.take k) l) (V[k]?.getD (0, 0)) := by
  rw [List.take_succ_eq_append_getElem hk]; simp only [runV, List.foldl_append, List.foldl_cons, List.foldl_nil, hk, List.getElem?_eq_getElem, Option.getD_some]

def arrI (l : List Int) : Array Value := (l.map (Value.int .i64)).toArray
theorem arrI_size (l : List Int) : (arrI l).size = l.length := by simp [arrI]
theorem arrI_get (l : List Int) (i : Nat) (h : i < l.length) : (arrI l)[i]? = some (.int .i64 (l[i]?.getD 0)) := by simp [arrI, h]
theorem arrI_set (l : List Int) (i : Nat) (x : Int) : (arrI l).setIfInBounds i (.int .i64 x) = arrI (l.set i x) := by simp [arrI, List.map_set]

set_option maxRecDepth 100000 in
set_option maxHeartbeats 800000 in
theorem run_any (bb : Nat) (p : Int) (x : Value) (V : List (Int × Int)) (l : List Int) (n : Nat) (w : World) (hb : IsBench w bb p x) (hx0 : RdP w x V) (hn : n ≤ V.length) (hV : OkRow p V) (hl : l.length = 8) :
    Calls Try.prog 58 #[.pointer (some ⟨bb, 0, none⟩), .agg (arrI l), .int .i64 n] w fun e w' => e = .returned (.agg (arrI (runV (V.take n) l))) ∧ Below w.heap.size w w' := by
  obtain ⟨a, ca, rfl, hca, hca2, hx⟩ := hx0.form
  obtain ⟨hb0, hb1, hb2⟩ := hb
  have h40 := hV.len
  have HL := Lib.hid hl; clear hl
  have hsl : n ≤ ca := by omega
  clear hx0
  go_enter Try.func58, Try.ntmps58
  go_wp2
  go_loopw [8, 17] (fun v i wr => ∃ k : Nat, k ≤ n ∧ i = .int .i64 k ∧ wr.heap[w.heap.size]? = some (.cells (arrI (runV (V.take k) l)) 75 (0, 0)) ∧
      wr.heap[w.heap.size + 1]? = some (.cells (arrI [0,0,0,0,0,0,0,0]) 75 (0, 0)) ∧ Below w.heap.size w wr) (fun _ i _ => n - (intOf i).toNat)
  case atStart => exact ⟨0, Nat.zero_le _, rfl, by rw [Below.heap_alloc _ _ _ (by simp)]; exact heap_alloc_new w _, heap_alloc2_new w _ _, bal (bal (bz _) _) _⟩
  case round =>
    obtain ⟨k, hk, rfl, hr, hr2, hB⟩ := hrel
    have hwz : w.heap.size + 1 < wr.heap.size := (Array.getElem?_eq_some_iff.1 hr2).1
    have hwz0 : w.heap.size < wr.heap.size := by omega
    by_cases hlt : k < n
    · obtain ⟨bx, ox, rfl, hbx, hcx⟩ := hx (by omega)
      have gx := (hB.cell (p := ⟨bx, ox + k * 2, none⟩) hbx).trans (hcx k (by omega)).1
      have gy := (hB.cell (p := ⟨bx, ox + k * 2 + 1, none⟩) hbx).trans (hcx k (by omega)).2
      have hbx' : bx < wr.heap.size := by omega
      clear hx hcx
      have hs := runV_snoc V k (by omega) l
      have hm : V[k]?.getD (0, 0) ∈ V := by rw [List.getElem?_eq_getElem (by omega)]; exact List.getElem_mem _
      have hrl : (runV (V.take k) l).length = 8 := by rw [runV_length]; exact HL.out
      generalize V[k]?.getD (0, 0) = q at *
      generalize runV (V.take k) l = r at *
      obtain ⟨q1, q2⟩ := q
      obtain ⟨o1, o2, o3⟩ := hV.ok _ hm
      have o4 := hV.p8
      simp only at o1 o2 o3
      obtain ⟨i, rfl⟩ : ∃ i : Nat, q1 = i := ⟨q1.toNat, by omega⟩
      obtain ⟨j, rfl⟩ : ∃ j : Nat, q2 = j := ⟨q2.toNat, by omega⟩
      have ci := (cell_of_row wr w.heap.size i _ _ _ hr).trans (arrI_get r i (by omega))
      have cj := (cell_of_row wr w.heap.size j _ _ _ hr).trans (arrI_get r j (by omega))
      have fi := frozen_of_row wr w.heap.size i _ _ hr
      have fj := frozen_of_row wr w.heap.size j _ _ hr
      have hs2 : runV (V.take (k+1)) l = if r[j]?.getD 0 < r[i]?.getD 0 then (r.set i (r[j]?.getD 0)).set j (r[i]?.getD 0) else r := by rw [hs]; rfl
      generalize hxv : r[i]?.getD 0 = x at *
      generalize hyv : r[j]?.getD 0 = y at *
      have H1 := Lib.hid hs2; have H2 := Lib.hid hr; have H3 := Lib.hid hr2; have H4 := Lib.hid hrl
      clear hs hs2 hr hr2 hrl hm hxv hyv
      have hi8 : (i : Int) < 8 := by omega
      have hj8 : (j : Int) < 8 := by omega
      by_cases hxy : y < x
      · go_wp2
        go_quiet (fail)
        go_wp2
        go_region
        go_wp2
        go_roundw
        case rel =>
          have hx0 : (((wr.alloc (.cells #[.int .i64 (i : Int), .int .i64 (j : Int)] 59)).drewN (nq + 1)).heap)[w.heap.size]? = some (.cells (arrI r) 75 (0, 0)) := (Below.heap_alloc wr _ _ hwz0).trans H2.out
          have hx1 := heap_setCell_same _ _ i _ _ (.int .i64 y) hx0
          have hx2 := heap_setCell_same _ _ j _ _ (.int .i64 x) hx1
          rw [arrI_set, arrI_set] at hx2
          refine ⟨k + 1, by omega, by go_num, ?_, ?_, bset (bset (Below.drewN' _ (bal hB _)) (Nat.le_refl _) _) (Nat.le_refl _) _⟩
          · rw [H1.out, if_pos hxy]; exact hx2
          · rw [heap_setCell_other _ _ _ _ (by simp), heap_setCell_other _ _ _ _ (by simp)]; exact (Below.heap_alloc wr _ _ hwz).trans H3.out
        case measure => simp [intOf]; omega
      · go_wp2
        go_quiet (fail)
        go_wp2
        go_roundw
        case rel =>
          refine ⟨k + 1, by omega, by go_num, ?_, ?_, Below.drewN' _ (bal hB _)⟩
          · rw [H1.out, if_neg (by omega)]; exact (Below.heap_alloc _ _ _ (by omega)).trans H2.out
          · exact (Below.heap_alloc _ _ _ (by omega)).trans H3.out
        case measure => simp [intOf]; omega
    · obtain rfl : k = n := by omega
      generalize hrr : runV (V.take k) l = r at *
      have hrl : r.length = 8 := by rw [← hrr, runV_length]; exact HL.out
      have HRL := Lib.hid hrl
      have hz : (Try.prog.info? 75).map (·.size) = some 8 := by kernel_rfl
      have HZ := Lib.hid hz; clear hz
      have hone : (arrI r).all (·.oneCell') = true := by simp [arrI, Value.oneCell']
      have HONE := Lib.hid hone; clear hone hrl
      have HR := Lib.hid hr; have HR2 := Lib.hid hr2
      clear hr hr2
      go_wp2_with (first
        | (refine wpList_load_row rfl 75 (.tmp 4) rfl w.heap.size rfl 75 (arrI r) (0, 0) _ HR.out Try.underlying75 rfl (by rw [arrI_size, HRL.out]; exact HZ.out) ?_)
        | (refine wpList_store_row rfl 75 (.tmp 6) (.tmp 45) rfl (w.heap.size + 1) (arrI r) rfl rfl 75 _ HR2.out (by rw [arrI_size, HRL.out]; exact HZ.out) (by rw [arrI_size, arrI_size, HRL.out]; rfl) HONE.out ?_))
      refine bodyPost_ret (results_cell_row rfl _ _ (w.heap.size + 1) 75 (arrI r) (0, 0) _ rfl (setRow_heap _ _ _ _ _ _ HR2.out) Try.underlying75 rfl (by rw [arrI_size, HRL.out]; exact HZ.out)) rfl ⟨by rw [hrr], ?_⟩
      exact hB.trans ⟨rfl, rfl, rfl, by simp, fun t ht => setRow_other _ _ _ _ (by omega)⟩
end Go.Proofs.Ytdnaipiiponhpaa
