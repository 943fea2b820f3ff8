/- A truth, by numbers; no condition. -/
import Derived.Test.YteknehlkdgamjaaGreatMHwz
namespace Go.Proofs.YteknehlkdgamjaaGreat
open Go.RowKit Go.Shelf

theorem RdI.getK {w : World} {k : IntKind} {a : Option Addr} {n c : Nat} {xs : List Int} (h : RdI w k (.slice a n c) xs) (hn : 0 < xs.length) : ∃ b o, a = some ⟨b, o, none⟩ ∧ b < w.heap.size ∧ ∀ j, j < xs.length → w.cell? ⟨b, o + j, none⟩ = some (.int k (elt xs j)) := by
  obtain ⟨a', c', e, _, _, h2⟩ := h.form
  cases e
  obtain ⟨b, o, rfl, h3, h4⟩ := h2 hn
  exact ⟨b, o, rfl, h3, h4⟩
set_option maxRecDepth 100000 in
set_option maxHeartbeats 1600000 in
theorem truth_any (v y : Value) (J : List Job) (B : List Int) (w : World) (hx0 : RdJ w v J) (hJ : FineJ J) (hy0 : RdI w .u16 y B) (hw : ∀ x ∈ B, (Lit.int .u16 x).wf = true) (hl : B.length ≤ 30) :
    Calls Tryz.prog 34 #[.agg #[v], y] w fun e w' => ∃ u, e = .returned u ∧ rowL w' w.heap.size u (fnL (truD J B) J.length) ∧ Below w.heap.size w w' := by
  have HX := Lib.hid hx0
  have HY := Lib.hid hy0
  have hn12 := hJ.n12
  have HD := Lib.hid (fun i (hi : i < J.length) => hJ.days i hi)
  have HWF := Lib.hid (fun j (hj : j < B.length) => (show 0 ≤ elt B j ∧ elt B j ≤ 65535 from by
    have h1 : elt B j ∈ B := by unfold elt; rw [List.getElem?_eq_getElem hj]; exact List.getElem_mem hj
    have h2 := hw _ h1
    simp [Lit.wf] at h2
    exact h2))
  obtain ⟨a, c, rfl⟩ := hx0.sl
  obtain ⟨ay, cy, hyy⟩ : ∃ ay cy, y = .slice ay B.length cy := by obtain ⟨ay, cy, h, _⟩ := hy0.form; exact ⟨ay, cy, h⟩
  subst hyy
  clear hx0 hy0 hJ hw
  have HB0 := Lib.hid (bal (bz w) (.cells #[.slice a J.length c] 24))
  have g0 : (w.alloc (.cells #[.slice a J.length c] 24)).cell? ⟨w.heap.size, 0, none⟩ = some (.slice a J.length c) := cnew rfl rfl
  have z0 : w.heap.size < (w.alloc (.cells #[.slice a J.length c] 24)).heap.size := by simp
  obtain ⟨n, hn⟩ : ∃ n, n = J.length := ⟨_, rfl⟩
  have HN := Lib.hid hn
  have HL := Lib.hid (fun i => show truD J B i = if B.length = 0 then (job J i).lo else (job J i).lo + (elt B (i % B.length)) % ((job J i).hi - (job J i).lo + 1) from rfl)
  have HS := Lib.hid (fun i => fnL_succ (truD J B) i)
  have HLE := Lib.hid (fun i => fnL_len (truD J B) i)
  rw [← hn] at HB0 g0 z0 hn12 HD ⊢
  generalize truD J B = F at *
  clear hn
  obtain ⟨bl, hbl⟩ : ∃ bl, bl = B.length := ⟨_, rfl⟩
  have HBL := Lib.hid hbl
  rw [← hbl] at HY HWF HL hl ⊢
  clear hbl
  go_enter Tryz.func34, Tryz.ntmps34
  go_wp2_with fail
  generalize w.alloc (.cells #[.slice a n c] 24) = w1 at *
  go_loopw [5, 6] (fun s5 s6 wr => ∃ k : Nat, k ≤ n ∧ s6 = .int .i64 k ∧ wr.ownsRow w1.heap.size 2 1 s5 k ((fnL F k).map (Value.int .i64)) ∧ Below w1.heap.size w1 wr) (fun _ s6 _ => n - (intOf s6).toNat)
  case atStart => exact ⟨0, Nat.zero_le _, rfl, World.ownsRow_nil _ _ _ _, bz w1⟩
  case round =>
    obtain ⟨k, hk, rfl, ho, hB⟩ := hrel
    have HO7 := Lib.hid ho; have HB7 := Lib.hid hB
    have gr := (hB.cell (p := ⟨w.heap.size, 0, none⟩) z0).trans g0
    have zr := Nat.lt_of_lt_of_le z0 hB.size
    by_cases hlt : k < n
    · obtain ⟨b, o, a', c', e, hb, g1, g2, g3, _⟩ := (HX.out.mono (btr HB0.out hB)).get k (by have := HN.out; omega)
      subst e
      have hlk := HLE.out k
      have HSK := Lib.hid (HS.out k)
      have HF := Lib.hid (HL.out k)
      have hd := HD.out k hlt
      have HO8 := Lib.hid (show wr.ownsRow w1.heap.size 2 1 _ (fnL F k).length ((fnL F k).map (Value.int .i64)) by rw [hlk]; exact HO7.out)
      have HYR := Lib.hid (HY.out.mono (btr HB0.out hB))
      clear ho hB g3
      generalize (job J k).lo = lo at *
      generalize (job J k).hi = hh at *
      obtain ⟨hd1, hd2, hd3⟩ := hd
      go_upto_region 7 with fail
      have l0 : (wr.alloc (.cells #[.int .i64 lo, .int .i64 hh] 32)).cell? ⟨wr.heap.size, 0, none⟩ = some (.int .i64 lo) := cnew rfl rfl
      have l1 : (wr.alloc (.cells #[.int .i64 lo, .int .i64 hh] 32)).cell? ⟨wr.heap.size, 0 + 1, none⟩ = some (.int .i64 hh) := cnew rfl rfl
      have zl : wr.heap.size < (wr.alloc (.cells #[.int .i64 lo, .int .i64 hh] 32)).heap.size := by simp
      have hBa := bal (bz wr) (.cells #[.int .i64 lo, .int .i64 hh] 32)
      have HO9 := Lib.hid (World.ownsRow.alloc HO8.out (.cells #[.int .i64 lo, .int .i64 hh] 32))
      generalize wr.alloc (.cells #[.int .i64 lo, .int .i64 hh] 32) = w4 at l0 l1 zl hBa HO9 ⊢
      have HB4 := Lib.hid (btr HB7.out hBa)
      have g4 := (hBa.cell (p := ⟨w.heap.size, 0, none⟩) zr).trans gr
      have z4 := Nat.lt_of_lt_of_le zr hBa.size
      have HYR4 := Lib.hid (HYR.out.mono hBa)
      clear gr zr hBa HO8 HYR HB7 g1 g2 hb HO7
      generalize wr.heap.size = b7 at l0 l1 zl ⊢
      by_cases hB0 : bl = 0
      · have t1 : decide ((0 : Int) < (bl : Int)) = false := decide_eq_false (by omega)
        have t2 : decide (0 < bl) = false := decide_eq_false (by omega)
        have HF2 := Lib.hid (show F k = lo from by have := HF.out; rwa [if_pos hB0] at this)
        clear hB0 HF
        go_wp2_with (at_builtin; refine wpList_append_num rfl _ _ rfl Tryz.underlying35 num2 HO9.out lo rfl rfl rfl (by omega) HB4.out.size ?_)
        intro v' w' hO' hg
        have HO' := Lib.hid hO'
        have HB' := Lib.hid (show Below w1.heap.size w1 w' from append_below (bal HB4.out _) (World.ownsRow.alloc HO9.out _) hg (Nat.le_refl _))
        clear hO' hg
        go_wp2_with fail
        go_roundw
        case rel => exact ⟨k + 1, by omega, by go_num, by rw [HSK.out, HF2.out, List.map_append]; exact HO'.out, HB'.out⟩
        case measure => simp [intOf]; omega
      · have t1 : decide ((0 : Int) < (bl : Int)) = true := decide_eq_true (by omega)
        have t2 : decide (0 < bl) = true := decide_eq_true (by omega)
        have HF2 := HF.out
        rw [if_neg hB0] at HF2
        have hm : k % bl < bl := Nat.mod_lt _ (by omega)
        obtain ⟨by', oy, rfl, hby, hcy⟩ := HYR4.out.getK (by have := HBL.out; omega)
        have gy := hcy _ (by rw [← HBL.out]; exact hm)
        have hwf := HWF.out _ hm
        have zy := hby
        clear HY HYR4 HX HL HWF HF hcy hby HBL
        generalize hq : elt B (k % bl) = q at *
        clear hq
        have hi0 : ((k : Int) % (bl : Int)) = ((k % bl : Nat) : Int) := by omega
        generalize k % bl = m at *
        obtain ⟨hw1, hw2⟩ := hwf
        have hn1 : (bl : Int) ≠ 0 := by omega
        have hn2 : hh - lo + 1 ≠ 0 := by omega
        have hr1 := Int.emod_nonneg q (b := hh - lo + 1) (by omega)
        have hr2 := Int.emod_lt_of_pos q (b := hh - lo + 1) (by omega)
        go_upto_region 8 with fail
        go_quiet (fail)
        have HB5 := Lib.hid (Below.drewN' nq HB4.out)
        have HO10 := Lib.hid (show (w4.drewN nq).ownsRow w1.heap.size 2 1 u5 (fnL F k).length ((fnL F k).map (Value.int .i64)) from HO9.out)
        have HF3 := Lib.hid HF2
        clear HO9 HB4 g4 z4 l0 l1 zl gy zy hi0 hn1 hn2
        generalize w4.drewN nq = w5 at HB5 HO10 ⊢
        generalize q % (hh - lo + 1) = r at hr1 hr2 HF3 ⊢
        clear HF2
        go_wp2_with (at_builtin; refine wpList_append_num rfl _ _ rfl Tryz.underlying35 num2 HO10.out (lo + r) rfl rfl rfl (by omega) HB5.out.size ?_)
        intro v' w' hO' hg
        have HO' := Lib.hid hO'
        have HB' := Lib.hid (show Below w1.heap.size w1 w' from append_below (bal HB5.out _) (World.ownsRow.alloc HO10.out _) hg (Nat.le_refl _))
        clear hO' hg
        go_wp2_with fail
        go_roundw
        case rel => exact ⟨k + 1, by omega, by go_num, by rw [HSK.out, HF3.out, List.map_append]; exact HO'.out, HB'.out⟩
        case measure => simp [intOf]; omega
    · have hkn : k = n := by omega
      subst hkn
      clear ho hB
      go_wp2_with fail
      go_ret
      refine ⟨_, rfl, ?_, btr HB0.out HB7.out⟩
      unfold rowL
      rw [HLE.out]
      exact own_mono HO7.out HB0.out.size
end Go.Proofs.YteknehlkdgamjaaGreat
