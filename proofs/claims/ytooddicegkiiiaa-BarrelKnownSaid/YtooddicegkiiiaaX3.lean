/- Offsets of the program. -/
import Derived.Test.YtooddicegkiiiaaX2
namespace Go.Proofs.Ytooddicegkiiiaa
open Go.RowKit Go.Shelf

/-- What Offsets returns. -/
def offApart (V : List (Int × Int)) (i : Nat) : Int := gcdI (jB (V.eraseIdx i)) (pin V i).1
def offAt (V : List (Int × Int)) (i : Nat) (k : Nat) : Int := jA (V.eraseIdx i) % offApart V i + (k : Int) * offApart V i
def offN (V : List (Int × Int)) (i : Nat) : Nat := ((pin V i).1 / offApart V i).toNat
def offE (V : List (Int × Int)) (i : Int) : Int := if checkP V ≠ 0 then checkP V else if outB 0 ((V.length : Int) - 1) i then 2 else 0
def offL (V : List (Int × Int)) (i : Int) : List Int := if checkP V ≠ 0 then [] else if outB 0 ((V.length : Int) - 1) i then [] else if jO (V.eraseIdx i.toNat) then (List.range (offN V i.toNat)).map (offAt V i.toNat) else []
def OffOk (V : List (Int × Int)) (i : Int) (w : World) (e : Ending) (w' : World) : Prop := ∃ v, e = .returned (.tuple #[v, .int .i64 (offE V i)]) ∧ RdI w' .i64 v (offL V i) ∧ Below w.heap.size w w'
/-- The first k of n numbers, and 0. -/
def partK (f : Nat → Int) (n k : Nat) : List Int := (List.range n).map fun j => if j < k then f j else 0
theorem partK_len (f : Nat → Int) (n k : Nat) : (partK f n k).length = n := by simp [partK]
theorem partK_set (f : Nat → Int) (n k : Nat) : (partK f n k).set k (f k) = partK f n (k + 1) := by
  apply List.ext_getElem
  · simp [partK]
  · intro i h1 h2
    simp only [partK, List.getElem_set, List.getElem_map, List.getElem_range]
    by_cases e : k = i
    · subst e; simp
    · rw [if_neg e]
      have : i < k ↔ i < k + 1 := by omega
      simp [this]
theorem partK_all (f : Nat → Int) (n : Nat) : partK f n n = (List.range n).map f := by
  apply List.ext_getElem
  · simp [partK]
  · intro i h1 h2
    have : i < n := by simpa [partK] using h1
    simp [partK, this]
theorem partK_zero (f : Nat → Int) (n : Nat) : partK f n 0 = List.replicate n 0 := by
  apply List.ext_getElem
  · simp [partK]
  · intro i h1 h2; simp [partK]
theorem made_zero (n : Nat) : madeCells #[Value.int .i64 0] n = arrI (List.replicate n 0) := by
  apply Array.ext
  · simp [madeCells, arrI]
  · intro i h1 h2; simp [madeCells, arrI, Nat.mod_one]
theorem clear_same {g n : Nat} {t : TypeId} (k : Nat) : ∀ (o : Nat) (w : World), w.heap[g]? = some (.cells (arrI (List.replicate n 0)) t (0, 0)) → (w.setCells g o (List.replicate k (.int .i64 0))).heap[g]? = some (.cells (arrI (List.replicate n 0)) t (0, 0)) := by
  induction k with
  | zero => intro o w h; exact h
  | succ k ih =>
    intro o w h
    rw [List.replicate_succ, World.setCells]
    refine ih (o + 1) _ ?_
    have := heap_setCell_same w g o _ _ (.int .i64 0) h
    rw [arrI_set, List.set_replicate_self] at this
    exact this
theorem OkV.erase {V : List (Int × Int)} (h : OkV V) (i : Nat) : OkV (V.eraseIdx i) := fun v hv => h v (List.mem_of_mem_eraseIdx hv)

theorem prod_bd : ∀ V : List (Int × Int), OkV V → ∃ d : Int, 1 ≤ d ∧ d ≤ 200 ^ V.length ∧ ∀ x ∈ V, x.1 ∣ d
  | [], _ => ⟨1, by omega, by simp, by simp⟩
  | x :: V, h => by
    obtain ⟨d, h1, h2, h3⟩ := prod_bd V (fun y hy => h y (by simp [hy]))
    have hx := h x (by simp)
    refine ⟨d * x.1, ?_, ?_, fun y hy => ?_⟩
    · have := Int.mul_le_mul_of_nonneg_left hx.1 (show 0 ≤ d by omega)
      omega
    · rw [List.length_cons, Int.pow_succ]
      have k1 : d * x.1 ≤ d * 200 := Int.mul_le_mul_of_nonneg_left hx.2.1 (by omega)
      have k2 : d * 200 ≤ 200 ^ V.length * 200 := Int.mul_le_mul_of_nonneg_right h2 (by omega)
      omega
    · rcases List.mem_cons.1 hy with rfl | hy
      · exact Int.dvd_mul_left _ _
      · exact Int.dvd_mul_of_dvd_left (h3 y hy)
theorem Joined.le {V : List (Int × Int)} {t p : Int} (h : Joined V t p) (hV : OkV V) (hl : V.length ≤ 5) : p ≤ 320000000000 := by
  obtain ⟨d, h1, h2, h3⟩ := prod_bd V hV
  have := Int.le_of_dvd (by omega) ((h.per d).2 h3)
  have := pow200 _ hl
  omega

set_option maxRecDepth 100000 in
set_option maxHeartbeats 2000000 in
theorem offsets_any (x : Value) (V : List (Int × Int)) (i : Int) (w : World) (hx0 : RdP w x V) (hl : V.length ≤ 1000) :
    Calls Try.prog 41 #[x, .int .i64 i] w (OffOk V i w) := by
  obtain ⟨a, ca, rfl, hca, hca2, hx⟩ := hx0.form
  clear hca2
  unfold OffOk
  by_cases hc : checkP V = 0
  · have e1 : offE V i = if outB 0 ((V.length : Int) - 1) i then 2 else 0 := by unfold offE; rw [if_neg (by simpa using hc)]
    have e2 : offL V i = if outB 0 ((V.length : Int) - 1) i then [] else if jO (V.eraseIdx i.toNat) then (List.range (offN V i.toNat)).map (offAt V i.toNat) else [] := by unfold offL; rw [if_neg (by simpa using hc)]
    rw [e1, e2]; clear e1 e2
    have hV := okPins_of hc
    have h1 := hV.l1; have h5 := hV.l5
    have HC := Lib.hid hc; clear hc
    cases ho : [i].any (outB 0 ((V.length : Int) - 1))
    · have hb : 0 ≤ i ∧ i < V.length := by simp [outB] at ho; omega
      have ho2 : outB 0 ((V.length : Int) - 1) i = false := by simpa using ho
      rw [ho2]
      simp only [Bool.false_eq_true, if_false]
      have HH := Lib.hid ho; clear ho ho2
      obtain ⟨n, rfl⟩ := Int.eq_ofNat_of_zero_le hb.1
      have hn : n < V.length := by omega
      rw [Int.toNat_natCast]
      clear hb
      have hE := hV.v.erase n
      have hel : (V.eraseIdx n).length ≤ 5 := by have := List.length_eraseIdx_le V n; omega
      have HJT := Lib.hid (fun h => j_true hE h)
      have HJ := Lib.hid (fun b w' hD => join_any b (V.eraseIdx n) w' hD hE hel)
      have HND := Lib.hid (fun y w' hy => newdrum_any y (V.eraseIdx n) w' hy hE hel)
      have hp := hV.v.at hn
      have hat : ∀ k, offAt V n k = jA (V.eraseIdx n) % offApart V n + (k : Int) * offApart V n := fun k => rfl
      have hnn : offN V n = ((pin V n).1 / offApart V n).toNat := rfl
      have hap : offApart V n = gcdI (jB (V.eraseIdx n)) (pin V n).1 := rfl
      obtain ⟨OL, hOL⟩ : ∃ OL : Bool → List Int, (fun o => if o then (List.range (offN V n)).map (offAt V n) else []) = OL := ⟨_, rfl⟩
      have hol : (if jO (V.eraseIdx n) = true then (List.range (offN V n)).map (offAt V n) else []) = OL (jO (V.eraseIdx n)) := by rw [← hOL]
      rw [hol]
      have HOF : Hid (OL false = []) := Lib.hid (by rw [← hOL]; rfl)
      have HOT : Hid (OL true = (List.range (offN V n)).map (offAt V n)) := Lib.hid (by rw [← hOL]; rfl)
      clear hol hOL
      have HAT := Lib.hid hat; have HNN := Lib.hid hnn; have HAP := Lib.hid hap
      clear hat hnn hap
      generalize jO (V.eraseIdx n) = o at *
      generalize jA (V.eraseIdx n) = A at *
      generalize jB (V.eraseIdx n) = B at *
      go_enter Try.func41, Try.ntmps41
      go_wp2_with fail
      refine (checkpins_any _ V _ hx0 hl).mono ?_
      rintro e w2 ⟨rfl, hB2⟩
      rw [HC.out]
      have HB2 := Lib.hid hB2; clear hB2
      go_wp2_with fail
      refine (within_any _ [(n : Int)] _ _ _ (slice_one _ _ _) (by simp)).mono ?_
      rintro e w3 ⟨rfl, hB3⟩
      rw [HH.out]
      have HB3 := Lib.hid (btr (bal (bz w2) _) hB3); clear hB3
      have hx3 := hx0.mono (btr HB2.out HB3.out)
      go_wp2_with fail
      refine (clone_any _ V _ hx3 (by omega) (by omega)).mono ?_
      rintro e w4 ⟨g, c, rfl, hown, hB4⟩
      have HB4 := Lib.hid hB4; have HOWN := Lib.hid hown; clear hB4 hown hx3
      go_wp2_with fail
      refine (delete_any g c w3.heap.size V n _ HOWN.out hn h5).mono ?_
      rintro e w5 ⟨v, rfl, hv, hB5⟩
      have HB5 := Lib.hid (hB5 w3 (Nat.le_refl _) HB4.out); have HV5 := Lib.hid hv; clear hB5 hv
      go_wp2_with fail
      refine (HND.out v _ HV5.out).mono ?_
      rintro e w6 ⟨b, rfl, hb6, hD6, hB6⟩
      have HB6 := Lib.hid hB6; have HD6 := Lib.hid hD6; clear hB6 hb6 hD6
      go_wp2_with fail
      refine (HJ.out b _ HD6.out).mono ?_
      rintro e w7 ⟨rfl, hB7⟩
      have HB7 := Lib.hid (btr HB2.out (btr HB3.out (btr HB5.out (btr HB6.out hB7)))); clear hB7
      cases o
      · go_wp2_with fail
        go_ret2
        exact ⟨_, rfl, by rw [HOF.out]; exact rdI_nil _ _, HB7.out⟩
      · have hJ := HJT.out rfl
        have a0 := hJ.t0; have a1 := hJ.tp
        obtain ⟨p1, p2, p3, p4⟩ := hp
        have hB200 : B ≤ 320000000000 := hJ.le hE hel
        obtain ⟨bx, ox, rfl, hbx, hcx⟩ := hx (by omega)
        have gx := (HB7.out.cell (p := ⟨bx, ox + n * 2, none⟩) hbx).trans (hcx n hn).1
        change w7.cell? _ = some (Value.int .i64 (pin V n).1) at gx
        have hz7 : bx < w7.heap.size := Nat.lt_of_lt_of_le hbx HB7.out.size
        clear hx hcx hJ
        generalize (pin V n).1 = P at *
        have g1 := gcdI_pos B P (by omega)
        have g2 := Int.le_of_dvd (by omega) (gcdI_dvd_right B P)
        have hCM := fun w' => common_i B P w' (by omega) (by omega) (by omega) (by omega)
        generalize hap : offApart V n = ap at *
        rw [← HAP.out] at hCM g1 g2
        have HCM := Lib.hid hCM; clear hCM hap
        obtain ⟨m, hm⟩ : ∃ m : Nat, P / ap = (m : Int) := Int.eq_ofNat_of_zero_le (Int.ediv_nonneg (by omega) (by omega))
        have hm1 : 1 ≤ m := by
          have hd : ap ∣ P := by rw [HAP.out]; exact gcdI_dvd_right B P
          have : 0 < P / ap := Int.ediv_pos_of_pos_of_dvd (by omega) (by omega) hd
          omega
        have hm2 : m ≤ 200 := by
          have : P / ap ≤ P := Int.ediv_le_self _ (by omega)
          omega
        have hmk : ∀ w' : World, (Instr.makeSlice 45 (.int .i64 (m : Int)) (.int .i64 (m : Int))).run Try.prog w' = .ok (.slice (some ⟨w'.heap.size, 0, none⟩) m m) (w'.alloc (.cells (arrI (List.replicate m 0)) 2)) := by
          intro w'
          rw [← made_zero]
          exact run_make_row' 45 2 (.int .i64 0) 8 Try.underlying45 num2 rfl .i64 .i64 m (by omega) (by omega) w'
        have hh0 := heap_alloc_new w7 (.cells (arrI (List.replicate m 0)) 2)
        have hcl : ∀ ty, (Builtin.clear_ #[45] ty #[.slice (some ⟨w7.heap.size, 0, none⟩) m m]).run Try.prog (w7.alloc (.cells (arrI (List.replicate m 0)) 2)) = .ok (.tuple #[]) ((w7.alloc (.cells (arrI (List.replicate m 0)) 2)).setCells w7.heap.size 0 (List.replicate m (.int .i64 0))) := by
          intro ty
          refine Lib.run_clear_slice _ 45 2 ty (.int .i64 0) Try.underlying45 (fun w => by kernel_rfl) rfl rfl w7.heap.size 0 m m (by omega) (fun j hj => ?_) (fun j hj => frozen_of_row _ _ _ _ _ hh0)
          rw [cell_of_row _ _ _ _ _ _ hh0, Nat.zero_add, arrI_get _ _ (by simpa using hj)]; rfl
        have hB8 : Below w7.heap.size w7 ((w7.alloc (.cells (arrI (List.replicate m 0)) 2)).setCells w7.heap.size 0 (List.replicate m (.int .i64 0))) := bsetsL (Nat.le_refl _) _ _ _ (bal (bz _) _)
        have hr8 : ((w7.alloc (.cells (arrI (List.replicate m 0)) 2)).setCells w7.heap.size 0 (List.replicate m (.int .i64 0))).heap[w7.heap.size]? = some (.cells (arrI (partK (offAt V n) m 0)) 2 (0, 0)) := by
          rw [partK_zero]; exact clear_same m 0 _ hh0
        have HB8 := Lib.hid hB8; have HR8 := Lib.hid hr8
        clear hh0 hB8 hr8
        go_wp2_with fail
        refine (HCM.out _).mono ?_
        rintro e w8 ⟨rfl, rfl⟩
        go_wp2_with fail
        clear hmk hcl gx
        generalize ((w7.alloc (.cells (arrI (List.replicate m 0)) 2)).setCells w7.heap.size 0 (List.replicate m (.int .i64 0))) = w8 at *
        have HM := Lib.hid hm; clear hm
        have HBW8 := Lib.hid (btr HB7.out HB8.out)
        have hle7 := HB7.out.size
        generalize hg7 : w7.heap.size = g7 at *
        clear hg7
        go_loopw [13, 57] (fun _ s57 wr => ∃ k : Nat, k ≤ m ∧ s57 = .int .i64 k ∧ wr.heap[g7]? = some (.cells (arrI (partK (offAt V n) m k)) 2 (0, 0)) ∧ (∀ a : World, a.heap.size ≤ g7 → Below a.heap.size a w8 → Below a.heap.size a wr)) (fun _ s57 _ => m - (intOf s57).toNat)
        case atStart => exact ⟨0, Nat.zero_le _, rfl, HR8.out, fun _ _ h => h⟩
        case round =>
          obtain ⟨k, hk, rfl, hr, hBr⟩ := hrel
          have HBR := Lib.hid hBr; clear hBr
          by_cases hlt : k < m
          · have hgz := (Array.getElem?_eq_some_iff.1 hr).1
            have hpl := partK_len (offAt V n) m k
            have ck := (cell_of_row wr g7 k _ _ _ hr).trans (arrI_get _ k (by rw [hpl]; exact hlt))
            have fk := frozen_of_row wr g7 k _ _ hr
            have hfz : ∃ z, (partK (offAt V n) m k)[k]?.getD 0 = z := ⟨_, rfl⟩
            obtain ⟨z, hz⟩ := hfz
            rw [hz] at ck
            have hval := HAT.out k
            have q0 := Int.emod_nonneg A (b := ap) (by omega)
            have q1 := Int.emod_lt_of_pos A (b := ap) (by omega)
            obtain ⟨t1, t2⟩ := mul_bd (k : Int) ap 200 200 (by omega) (by omega) (by omega) (by omega)
            have w1 : IntKind.i64.wrap ((k : Int) * ap) = (k : Int) * ap := IntWalk.i64_in _ (by omega)
            have w2' : IntKind.i64.wrap (A % ap + (k : Int) * ap) = A % ap + (k : Int) * ap := IntWalk.i64_in _ (by omega)
            have HR := Lib.hid hr; have HVAL := Lib.hid hval
            clear hr hval hpl hz
            go_wp2_with fail
            go_roundw
            case rel =>
              have hx1 := heap_setCell_same wr g7 k _ _ (.int .i64 (offAt V n k)) HR.out
              rw [arrI_set, partK_set, HVAL.out] at hx1
              exact ⟨k + 1, by omega, by go_num, hx1, fun a ha hb => bset (HBR.out a ha hb) ha _⟩
            case measure => simp [intOf]; omega
          · have hkm : k = m := by omega
            rw [hkm, partK_all] at hr
            have HR := Lib.hid hr; clear hr hkm
            go_wp2_with fail
            go_ret2
            refine ⟨.slice (some ⟨g7, 0, none⟩) m m, rfl, ?_, ?_⟩
            · have hn1 : offN V n = m := by rw [HNN.out, HM.out]; rfl
              rw [HOT.out, hn1]
              refine ⟨some ⟨g7, 0, none⟩, m, by simp, by simp, by unfold maxLen; omega, fun _ => ⟨g7, 0, rfl, (Array.getElem?_eq_some_iff.1 HR.out).1, fun j u hu => ?_⟩⟩
              rw [cell_of_row _ _ _ _ _ _ HR.out, Nat.zero_add]
              simpa [arrI] using hu
            · exact HBR.out w hle7 HBW8.out
    · have ho2 : outB 0 ((V.length : Int) - 1) i = true := by simpa using ho
      rw [ho2]
      simp only [if_true]
      have HH := Lib.hid ho; clear ho ho2
      go_enter Try.func41, Try.ntmps41
      go_wp2_with fail
      refine (checkpins_any _ V _ hx0 hl).mono ?_
      rintro e w2 ⟨rfl, hB2⟩
      rw [HC.out]
      go_wp2_with fail
      refine (within_any _ [i] _ _ _ (slice_one _ _ _) (by simp)).mono ?_
      rintro e w3 ⟨rfl, hB3⟩
      rw [HH.out]
      go_wp2_with fail
      go_ret2
      exact ⟨_, rfl, rdI_nil _ _, btr (bal hB2 _) hB3⟩
  · have e1 : offE V i = checkP V := by unfold offE; rw [if_pos (by simpa using hc)]
    have e2 : offL V i = [] := by unfold offL; rw [if_pos (by simpa using hc)]
    rw [e1, e2]; clear e1 e2
    have HP := Lib.hid (checkpins_any _ V w hx0 hl)
    have hcb : (checkP V != 0) = true := by simpa using hc
    have hce : (checkP V == 0) = false := by simpa using hc
    clear hc
    generalize checkP V = q at *
    go_enter Try.func41, Try.ntmps41
    go_wp2_with fail
    refine HP.out.mono ?_
    rintro e w2 ⟨rfl, hB2⟩
    go_wp2_with fail
    go_ret2
    exact ⟨_, rfl, rdI_nil _ _, hB2⟩
end Go.Proofs.Ytooddicegkiiiaa
