/- The document's Some. -/
import Derived.Test.YtooddicegkiiiaaR7
import Derived.Test.YtooddicegkiiiaaP4
import Derived.Test.YtooddicegkiiiaaW9
import Derived.Test.YtooddicegkiiiaaW2
namespace Go.Proofs.Ytooddicegkiiiaa
open Go.RowKit Go.Shelf

theorem natL_at (s : List Nat) (k : Nat) (h : k < s.length) : (natL s)[k]?.getD 0 = ((s[k]'h : Nat) : Int) := by simp [natL, h]
set_option maxRecDepth 100000 in
set_option maxHeartbeats 2000000 in
theorem some_any (x y : Value) (V : List (Int × Int)) (s : List Nat) (w : World) (hx0 : RdP w x V) (hy0 : RdI w .i64 y (natL s)) (hs : ∀ i ∈ s, i < V.length) (hl : s.length ≤ 1000) :
    Calls Try.prog 52 #[x, y] w fun e w' => ∃ v, e = .returned v ∧ RdP w' v (s.map (pin V)) ∧ Below w.heap.size w w' := by
  obtain ⟨a, ca, rfl, hca, hca2, hx⟩ := hx0.form
  obtain ⟨ay, cy, rfl, hcy, hcy2, hy⟩ := hy0.form
  clear hca2 hcy2 hx0 hy0
  have hln := natL_len s
  rw [hln] at hcy hy ⊢
  have HLN := Lib.hid hln; clear hln
  go_enter Try.func52, Try.ntmps52
  go_wp2_with fail
  go_loopw [5, 6] (fun s5 i wr => ∃ (k : Nat) (v : Value), k ≤ s.length ∧ v = s5 ∧ i = .int .i64 k ∧ wr.ownsRow w.heap.size 55 2 v k (prs ((s.take k).map (pin V))) ∧ Below w.heap.size w wr) (fun _ i _ => s.length - (intOf i).toNat)
  case atStart => exact ⟨0, _, Nat.zero_le _, rfl, rfl, World.ownsRow_nil _ _ _ _, bz _⟩
  case round =>
    obtain ⟨k, v, hk, rfl, rfl, hor, hB⟩ := hrel
    obtain ⟨av, cv, rfl⟩ := owns_form hor
    have HOR := Lib.hid hor; have HB := Lib.hid hB
    clear hor hB
    by_cases hlt : k < s.length
    · obtain ⟨by', oy, rfl, hby, hcell⟩ := hy (by omega)
      have gk := (HB.out.cell (p := ⟨by', oy + k, none⟩) hby).trans (hcell k hlt)
      have hsk := hs _ (List.getElem_mem hlt)
      have htk : (s.take (k + 1)).map (pin V) = (s.take k).map (pin V) ++ [pin V (s[k]'hlt)] := by
        rw [List.take_succ_eq_append_getElem hlt, List.map_append]; rfl
      rw [natL_at s k hlt] at gk
      have HTK := Lib.hid htk
      clear htk hy hcell
      generalize s[k]'hlt = m at *
      obtain ⟨bx, ox, rfl, hbx, hcx⟩ := hx (by omega)
      have gx := (HB.out.cell (p := ⟨bx, ox + m * 2, none⟩) hbx).trans (hcx m hsk).1
      have gy := (HB.out.cell (p := ⟨bx, ox + m * 2 + 1, none⟩) hbx).trans (hcx m hsk).2
      change wr.cell? _ = some (Value.int .i64 (pin V m).1) at gx
      change wr.cell? _ = some (Value.int .i64 (pin V m).2) at gy
      clear hx hcx
      have hlk : ((s.take k).map (pin V)).length = k := by rw [List.length_map, List.length_take]; omega
      generalize (s.take k).map (pin V) = U at *
      generalize pin V m = q at *
      obtain ⟨q1, q2⟩ := q
      simp only at gx gy
      have hbz : w.heap.size ≤ wr.heap.size := HB.out.size
      have hor2 : wr.ownsRow w.heap.size 55 2 (.slice av k cv) U.length (prs U) := by rw [hlk]; exact HOR.out
      have HOR2 := Lib.hid hor2
      have hl1 : U.length ≤ 1000 := by omega
      have HLK := Lib.hid hlk; clear hlk hor2
      go_wp2_with (at_builtin; refine wpList_append_pair rfl _ _ rfl Try.underlying22 info55 HOR2.out hbz q1 q2 rfl rfl rfl hl1 ?_)
      intro v' w' hown hgrow
      have HBN := Lib.hid (append_below (bal HB.out _) (HOR2.out.alloc _) hgrow (Nat.le_refl _))
      have HOWN := Lib.hid hown
      clear hown hgrow
      go_wp2_with fail
      go_roundw
      case rel =>
        refine ⟨k + 1, v', by omega, rfl, by go_num, ?_, HBN.out⟩
        have h := HOWN.out
        rw [HLK.out] at h
        rw [HTK.out]; exact h
      case measure => simp [intOf]; omega
    · have hkl : k = s.length := by omega
      have hor := HOR.out
      rw [show (s.take k) = s from by rw [hkl, List.take_length]] at hor
      have HORF := Lib.hid (RdP.of_owns hor)
      clear hor hkl
      go_wp2_with fail
      go_ret
      exact ⟨_, rfl, HORF.out, HB.out⟩
end Go.Proofs.Ytooddicegkiiiaa
