/- RackPairs: the squares of the numbers of orders of all shapes with a sum; no condition. -/
import Derived.Test.YtnnfahdhmodejaaMLs
import Derived.Test.YtnnfahdhmodejaaML13
import Derived.Test.YtnnfahdhmodejaaMGI
namespace Go.Proofs.Ytnnfahdhmodejaa
open Go.RowKit Go.Shelf

theorem shapesF_shp {n : Nat} (hn : n ≤ 12) : ∀ l ∈ shapesF n n n, Shp l := by
  intro l hl
  have : (List.range 13).all (fun n => (shapesF n n n).all validB) = true := by decide +kernel
  exact validB_shp (List.all_eq_true.1 (List.all_eq_true.1 this n (List.mem_range.2 (by omega))) l hl)
/-- The squares of the first k. -/
def sqS (L : List (List Int)) (k : Nat) : Int := (L.take k).foldl (fun a l => a + pC l * pC l) 0
theorem sqS_succ {L : List (List Int)} {k : Nat} (h : k < L.length) : sqS L (k + 1) = sqS L k + pC (row L k) * pC (row L k) := by
  unfold sqS
  rw [List.take_succ_eq_append_getElem h, List.foldl_append, row_lt h]; rfl
theorem sqS_bd {L : List (List Int)} (h : ∀ l ∈ L, Shp l) : ∀ k, k ≤ L.length → 0 ≤ sqS L k ∧ sqS L k ≤ 59290000 * k
  | 0, _ => by simp [sqS]
  | k + 1, hk => by
    rw [sqS_succ (by omega)]
    obtain ⟨h1, h2⟩ := sqS_bd h k (by omega)
    have hs := (h (row L k) (by rw [row_lt (by omega)]; exact List.getElem_mem _)).all
    have h3 := Int.mul_le_mul hs.most hs.most (by have := hs.one; omega) (by omega)
    have h4 := Int.mul_nonneg (show 0 ≤ pC (row L k) by have := hs.one; omega) (show 0 ≤ pC (row L k) by have := hs.one; omega)
    push_cast
    omega
set_option maxRecDepth 100000 in
set_option maxHeartbeats 3200000 in
theorem rackPairs_walk (t : Int) (w : World) (ht : 0 ≤ t) (ht2 : t ≤ 255) :
    Calls Try.prog 14 #[.int .u8 t] w fun e w' => e = .returned (.bool true) ∧ Below w.heap.size w w' := by
  obtain ⟨n, hn, hn2⟩ : ∃ n : Nat, t % 13 = (n : Int) ∧ n ≤ 12 := ⟨(t % 13).toNat, by omega, by omega⟩
  have HSH := Lib.hid (rshapes_any n n n w (Nat.le_refl _) hn2 hn2)
  have HSP := Lib.hid (shapesF_shp hn2)
  have HPA : Hid (sqS (shapesF n n n) (shapesF n n n).length = facZ n) := Lib.hid (by
    unfold sqS
    rw [List.take_length]
    exact of_decide_eq_true (List.all_eq_true.1 pairs_all n (List.mem_range.2 (by omega))))
  have hbd := shapes_bd (f := n) (s := n) (m := n) hn2 hn2 hn2
  generalize shapesF n n n = L at *
  have HRB := Lib.hid hbd.2
  have hl77 := hbd.1
  have HF12 := Lib.hid hn2
  clear hbd
  go_enter Try.func14, Try.ntmps14
  go_wp2_with fail
  refine HSH.out.mono ?_
  rintro e w1 ⟨u, vs, rfl, hu, hB⟩
  obtain ⟨au, cu, rfl⟩ := hu.form
  have HU := Lib.hid hu.rd; have HB1 := Lib.hid hB
  clear hu hB
  go_wp2_with fail
  go_loopw [5, 6, 7, 8] (fun s5 s6 _ _ wr => ∃ k : Nat, k ≤ L.length ∧ s6 = .int .i64 k ∧ s5 = .int .i64 (sqS L k) ∧ Below w1.heap.size w1 wr) (fun _ s6 _ _ _ => L.length - (intOf s6).toNat)
  case atStart => exact ⟨0, Nat.zero_le _, rfl, rfl, bz w1⟩
  case round =>
    obtain ⟨k, hk, rfl, rfl, hB⟩ := hrel
    have HB := Lib.hid hB; clear hB
    obtain ⟨b1, b2⟩ := sqS_bd HSP.out k hk
    by_cases hlt : k < L.length
    · obtain ⟨b, off, a', c', e1, zx, gx, hr⟩ := (HU.out.mono HB.out).get k hlt
      cases e1
      have hrb := HRB.out k
      have hshp := HSP.out (row L k) (by rw [row_lt hlt]; exact List.getElem_mem _)
      have HCN := Lib.hid (count_lit _ (row L k) (pC (row L k)) 0 wr hr (by omega) (countE_shp hshp))
      have HSQ := Lib.hid (sqS_succ hlt)
      have p1 := hshp.all.one
      have p2 := hshp.all.most
      have h3 := Int.mul_le_mul p2 p2 (by omega) (by omega)
      have h4 := Int.mul_nonneg (show 0 ≤ pC (row L k) by omega) (show 0 ≤ pC (row L k) by omega)
      clear hr hshp
      generalize pC (row L k) = pk at *
      generalize row L k = ys at *
      generalize sqS L k = sk at *
      have m1 : IntKind.i64.wrap (pk * pk) = pk * pk := IntWalk.i64_in _ (by omega)
      generalize hsq : pk * pk = sq at *
      have n1 : ¬ pk < 1 := by omega
      have n2 : ¬ 7700 < pk := by omega
      go_wp2_with fail
      refine HCN.out.mono ?_
      rintro e w5 ⟨rfl, hB5⟩
      have HB5 := Lib.hid (btr HB.out hB5)
      clear hB5
      go_wp2_with fail
      go_roundw
      case rel => exact ⟨k + 1, by omega, by go_num, by rw [HSQ.out], HB5.out⟩
      case measure => simp [intOf]; omega
    · have hke : k = L.length := by omega
      subst hke
      rw [HPA.out] at b1 b2 ⊢
      have HFA := Lib.hid (fun wz => fac_lit n wz HF12.out)
      generalize facZ n = fz at *
      have t4 : (fz == fz) = true := by simp
      go_wp2_with fail
      refine (HFA.out _).mono ?_
      rintro e w20 ⟨rfl, hB⟩
      have HB20 := Lib.hid hB; clear hB
      go_wp2_with fail
      refine (works_any _).mono ?_
      rintro e w21 ⟨rfl, hB⟩
      have HB21 := Lib.hid hB; clear hB
      go_wp2_with fail
      go_ret
      exact ⟨rfl, btr (btr (btr HB1.out HB.out) HB20.out) HB21.out⟩
section
open Go.ChangeShapes Go.WideShapes Go.ChangeAt
set_option maxRecDepth 100000 in
theorem rackPairs_lifted (os : Os) (started : os.Started) (H : Type) (enc : TypeId × Value → H) :
    ReturnsInHanded {} Try.checked os 14 .any (Rows.rackPairsSpec.pre6 enc Try.prog Try.f14 Rows.rackPairsRow.domain false) (Rows.rackPairsSpec.post enc Try.prog Try.f14 false true false false) := by
  refine returnsInHanded_of_change (C := Try.checked) Try.own started (by kernel_rfl) Try.func14
    (ChangeSpec.witness6 (enc := enc) (C := Try.checked) false ⟨#[], #[.int .u8 0], []⟩ 8 (by kernel_rfl) (by kernel_rfl) (by kernel_rfl) (by kernel_rfl)) ?_
  intro W base args ds gs before hval0 hW _ _
  have hval : ∀ (j : Nat) t v, Try.f14.params[j]? = some t → args[j]? = some v → Value.okWide Try.prog W .any base t v := hval0
  have hW' := hW
  obtain ⟨p, q, hA0, hV, rfl, hfz, hnd⟩ := hW
  have hA : DataW.TrodAll enc Try.prog W 0 (fun _ => true) true Try.f14.params.toList args.toList ds p := hA0
  have hA2 := hA
  rw [Try.params14] at hA hval
  obtain ⟨v0, vs0, d0, ds0, p0, q0, hargs, rfl, rfl, h0, r0⟩ := trodAll_cons hA
  obtain ⟨rfl, rfl, rfl⟩ := trodAll_nil r0
  obtain rfl : args = #[v0] := by cases args; simp_all
  obtain ⟨rfl, rfl⟩ := trodVars_none hV
  obtain ⟨a0, rfl, rfl, rfl, w0⟩ := open_int Try.underlying5 (hval 0 5 v0 rfl rfl) h0
  clear hA0 hval0
  simp only [List.append_nil] at hW' hA2
  refine (rackPairs_walk a0 W (wf8 w0).1 (wf8 w0).2).mono fun e W' ⟨he, hb⟩ => ?_
  subst he
  exact ⟨_, rfl, law_post Try.laidOut Try.underlying4 hW' hA2 rfl rfl rfl rfl rfl (by kernel_rfl) hb⟩
theorem rackPairs_holds : Rows.RackPairsSaid :=
  OpenClaim.holds_of_wide 14 Try.f14 rfl rfl rfl rfl rfl rfl rfl ⟨rfl, rfl, rfl, rfl, rfl⟩ rfl rfl rfl rfl rfl (by kernel_rfl) Try.func14 (by kernel_rfl)
    (of_decide_eq_true (by kernel_rfl)) (by unfold Func.isWrapper; first | (rw [if_pos (by decide +kernel)]; kernel_rfl) | (rw [if_neg (by decide +kernel)]; exact ⟨rfl, rfl⟩))
    (fun os started H enc _ => rackPairs_lifted os started H enc)
end
end Go.Proofs.Ytnnfahdhmodejaa
