/- Merged texts: free jobs of the program; no condition. -/
import Derived.Test.YteknehlkdgamjaaGreatMGI
import Derived.Sort.CutIn
import Derived.Laws.EntriesVeiled
namespace Go.Proofs.YteknehlkdgamjaaGreat
open Go.RowKit Go.Shelf
attribute [local go_sem] Oper.semAt_some

theorem goOn_in {J : List Job} (hJ : FineJ J) (hc : cir J = false) (d l z : Nat) (a : Option Addr) (c : Nat) (Jm Jx : List (List Nat) → World → Prop) (xs : List (List Nat)) (hJm : ∀ s, Abides1 z z (Jm s)) (hD : ∀ s W1, Jm s W1 → DeskV W1 d a c J)
    (hY : ∀ m pre x v W1, Jm pre W1 → pre ++ [x] <+: xs → EncS z x v W1 → z ≤ W1.heap.size → YieldAt Fence.wide m Tryz.prog l v W1 fun e W' => (e = .returned (.bool true) ∧ Jm (pre ++ [x]) W' ∧ KF z W1 W') ∨ (e = .returned (.bool false) ∧ Jx (pre ++ [x]) W')) :
    ∀ (m : Nat) {i : Nat}, i < J.length → suc J i ≤ m → ∀ (P : List Nat), P.length + m ≤ 50 → ∀ (n : Nat) (pre : List (List Nat)) (u : Value) (W : World), rowI W z u (ints (P ++ [i])) → z ≤ W.heap.size → Jm pre W → (pre ++ (chn J i).map fun l => P ++ l) <+: xs →
      CallsIn Fence.wide n Tryz.prog 110 #[.pointer (some ⟨d, 0, none⟩), u, .func (.yield l) #[] #[]] W fun e W' =>
        (e = .returned (.bool true) ∧ Jm (pre ++ (chn J i).map fun l => P ++ l) W' ∧ KF z W W') ∨ (e = .returned (.bool false) ∧ ∃ q, q <+: xs ∧ Jx q W')
  | 0, i, hi, hm, P, hp, n, pre, u, W, hr, hz, h0, hx =>
    goOn_step hJ hc d l z a c Jm Jx xs hJm hD hY hi P (fun k hk => by have := suc_lt hJ hc hk; omega) n pre u W (by omega) hr hz h0 hx
  | m + 1, i, hi, hm, P, hp, n, pre, u, W, hr, hz, h0, hx =>
    goOn_step hJ hc d l z a c Jm Jx xs hJm hD hY hi P (fun k hk n pre u W hr hz h0 hx => goOn_in hJ hc d l z a c Jm Jx xs hJm hD hY m (edg_lt hk) (by have := suc_lt hJ hc hk; omega) (P ++ [i]) (by simp; omega) n pre u W hr hz h0 hx) n pre u W (by omega) hr hz h0 hx
theorem chsTo_pre (J : List Job) (k : Nat) : ∀ d, chsTo J k <+: chsTo J (k + d)
  | 0 => List.prefix_refl _
  | d + 1 => by
    refine (chsTo_pre J k d).trans ?_
    rw [← Nat.add_assoc, chsTo_succ]
    exact List.prefix_append _ _
theorem map_nil_app (l : List (List Nat)) : (l.map fun m => [] ++ m) = l := by simp
theorem rowI_one (w : World) {z : Nat} (hz : z ≤ w.heap.size) (k : Nat) : rowI (w.alloc (.cells #[.int .i64 (k : Int)] 3)) z (.slice (some ⟨w.heap.size, 0, none⟩) 1 1) (ints ([] ++ [k])) :=
  ⟨rfl, .inr ⟨w.heap.size, 1, #[.int .i64 (k : Int)], rfl, hz, heap_alloc_new _ _, Nat.le_refl _, by decide, rfl, rfl⟩⟩
set_option maxRecDepth 100000 in
set_option maxHeartbeats 4000000 in
theorem chains_yields (n : Nat) {J : List Job} (hJ : FineJ J) (hc : cir J = false) (bx d : Nat) (a : Option Addr) (c : Nat) :
    YieldsV n Tryz.prog 109 #[.pointer (some ⟨bx, 0, none⟩)] EncS (fun W => W.cell? ⟨bx, 0, none⟩ = some (.pointer (some ⟨d, 0, none⟩)) ∧ DeskV W d a c J) (chs J) := by
  intro l Jm Jx W hJm hJx hR hY h0
  have HG := Lib.hid (fun (m : Nat) {i : Nat} (hi : i < J.length) => goOn_in hJ hc d l W.heap.size a c Jm Jx (chs J) hJm (fun s W1 h => (hR s W1 h).2)
    (fun m pre x v W1 h1 h2 h3 h4 => yield_anyDepth m (hY pre x v W1 h1 h2 h3 h4)) J.length hi (Nat.le_of_lt (suc_le hJ hc hi)) [] (by have := hJ.n12; simp; omega) m)
  obtain ⟨r1, f1, f2, _⟩ := hR _ _ h0
  have hzb := World.block_lt_of_cell? W _ r1
  have hzd := World.block_lt_of_cell? W _ f1
  have HR := Lib.hid hR; have HJM := Lib.hid hJm; have H0 := Lib.hid h0
  have HS := Lib.hid (chsTo_succ J)
  have HPR := Lib.hid (fun k (hk : k ≤ J.length) => (show chsTo J k <+: chsTo J J.length from by have := chsTo_pre J k (J.length - k); rwa [show k + (J.length - k) = J.length by omega] at this))
  have HJ := Lib.hid hJ
  obtain ⟨nJ, hn⟩ : ∃ n, n = J.length := ⟨_, rfl⟩
  have HN := Lib.hid hn
  have hn12 := hJ.n12
  rw [← hn] at f1 hn12
  clear hn f2 hY hJm hJx h0 hJ hc hR
  refine callsIn_of_wp Tryz.func109 rfl trivial ?_ rfl
  simp only [Tryz.ntmps109, List.size_toArray, List.length_cons, List.length_nil, Nat.reduceAdd, Nat.reduceSub, Array.replicate_succ, Array.replicate_zero, List.push_toArray, List.append_toArray, List.nil_append, List.cons_append]
  gi_wp2
  gi_loopw [11] (fun s11 wr => ∃ k : Nat, k ≤ nJ ∧ s11 = .int .i64 k ∧ Jm (chsTo J k) wr ∧ W.heap.size ≤ wr.heap.size) (fun s11 _ => nJ - (intOf s11).toNat)
  case atStart => exact ⟨0, Nat.zero_le _, rfl, H0.out, Nat.le_refl _⟩
  case round =>
    obtain ⟨k, hk, rfl, hj, hs⟩ := hrel
    have HJJ := Lib.hid hj
    clear hj
    rename World => wi
    by_cases hlt : k < nJ
    · obtain ⟨q1, _, q2, q3⟩ := HR.out _ _ HJJ.out
      obtain ⟨bj, oj, aw, cw, e, hbj, g1, g2, g3, hrw⟩ := q2.get k (by have := HN.out; omega)
      subst e
      have qz := World.block_lt_of_cell? wi _ q1
      have hm12 := HJ.out.ws_le (i := k) (by have := HN.out; omega)
      have HSK := Lib.hid (HS.out k)
      have HJA := Lib.hid (fun wz (hB : Below wi.heap.size wi wz) => HJM.out _ _ _ none HJJ.out (grown_of hB) (fun r e => by cases e))
      unfold srcB at HSK
      clear hrw q2 q3
      generalize (job J k).lo = lo at *
      generalize (job J k).hi = hh at *
      generalize (job J k).ws = ws at *
      obtain ⟨m, hm⟩ : ∃ m, m = ws.length := ⟨_, rfl⟩
      have HM := Lib.hid hm
      rw [← hm] at g3 hm12 HSK
      clear hm
      gi_upto_region 3 with fail
      have hB3 := bal (bz wi) (.cells #[.int .i64 lo, .int .i64 hh, .slice aw m cw] 62)
      have HB3 := Lib.hid hB3
      have gq : (wi.alloc (.cells #[.int .i64 lo, .int .i64 hh, .slice aw m cw] 62)).cell? ⟨wi.heap.size, 2, none⟩ = some (.slice aw m cw) := cnew rfl rfl
      have zq : wi.heap.size < (wi.alloc (.cells #[.int .i64 lo, .int .i64 hh, .slice aw m cw] 62)).heap.size := by simp
      have gb := (hB3.cell (p := ⟨bx, 0, none⟩) qz).trans q1
      have zb := Nat.lt_of_lt_of_le qz hB3.size
      generalize wi.alloc (.cells #[.int .i64 lo, .int .i64 hh, .slice aw m cw] 62) = w3 at *
      clear hB3 g1 g2 g3 hbj q1 qz
      cases hm0 : (m == 0) with
      | false =>
        have hm1 : ((m : Int) == 0) = false := by rw [← hm0]; cases m <;> rfl
        rw [hm0] at HSK
        have HSK2 := Lib.hid (show chsTo J (k + 1) = chsTo J k by rw [HSK.out]; exact List.append_nil _)
        have HJ3 := Lib.hid (HJA.out _ HB3.out)
        have hs3 := HB3.out.size
        clear hm0
        gi_wp2
        refine ⟨trivial, ?_⟩
        gi_wp2
        exact ⟨⟨k + 1, by omega, by go_num, by rw [HSK2.out]; exact HJ3.out, by omega⟩, by simp [intOf]; omega⟩
      | true =>
        have hm1 : ((m : Int) == 0) = true := by rw [← hm0]; cases m <;> rfl
        rw [hm0, if_pos rfl] at HSK
        have HPX := Lib.hid (HPR.out (k + 1) (by have := HN.out; omega))
        rw [HSK.out] at HPX
        have HJ3 := Lib.hid (HJA.out _ (btr HB3.out (bal (bz w3) (.cells #[.int .i64 (k : Int)] 3))))
        have HR3 := Lib.hid (rowI_one w3 (z := W.heap.size) (by have := HB3.out.size; omega) k)
        have hs3 := HB3.out.size
        clear hm0
        gi_wp2
        refine ⟨trivial, fun h => by simp [Fence.wide] at h, (HG.out (n - 1) (by have := HN.out; omega) (chsTo J k) _ _ HR3.out (by simp; omega) HJ3.out (by rw [map_nil_app]; exact HPX.out)).mono ?_⟩
        rw [map_nil_app]
        rintro e W3 (⟨rfl, hJ4, hk4⟩ | ⟨rfl, hq⟩)
        · have HJ4 := Lib.hid (show Jm (chsTo J (k + 1)) W3 by rw [HSK.out]; exact hJ4)
          have hs4 := hk4.size
          clear hJ4 hk4
          simp at hs4
          gi_wp2
          exact ⟨⟨k + 1, by omega, by go_num, HJ4.out, by omega⟩, by simp [intOf]; omega⟩
        · have HQ := Lib.hid hq
          clear hq
          gi_wp2
          refine bodyPost_ret (results_none rfl _ _ _) rfl ?_
          exact ⟨⟨_, rfl⟩, .inr HQ.out⟩
    · have hkn : k = nJ := by omega
      subst hkn
      have HJ2 := Lib.hid (show Jm (chs J) wi by have := HJJ.out; rwa [HN.out] at this)
      gi_wp2
      exact bodyPost_end (results_none rfl _ _ _) rfl ⟨⟨_, rfl⟩, .inl HJ2.out⟩
end Go.Proofs.YteknehlkdgamjaaGreat

namespace Go.Proofs.YteknehlkdgamjaaGreat
open Go.RowKit Go.Shelf

set_option maxRecDepth 100000 in
theorem chains_any (d : Nat) (w : World) :
    Calls Tryz.prog 94 #[.pointer (some ⟨d, 0, none⟩)] w fun e w' => e = .returned (.func (.func 109) #[] #[.pointer (some ⟨w.heap.size, 0, none⟩)]) ∧ ∃ t, w.alloc (.cells #[.pointer (some ⟨d, 0, none⟩)] t) = w' := by
  go_enter Tryz.func94, Tryz.ntmps94
  go_wp2
  go_ret
  exact ⟨rfl, _, rfl⟩
/-- The days in the truth of a chain. -/
def chD (J : List Job) (l : List Nat) (i : Nat) : Int := if (ints l).contains (i : Int) then hiD J i else loD J i
set_option maxRecDepth 100000 in
set_option maxHeartbeats 400000 in
theorem chdays_call (d b1 b2 b3 : Nat) (u : Value) (J : List Job) (hJ : FineJ J) (l : List Nat) (hl : l.length ≤ 12) (i : Nat) (hi : i < J.length) (w : World) (hd : DeskAt w d J)
    (h1 : w.cell? ⟨b1, 0, none⟩ = some u) (hu : RdI w .i64 u (ints l)) (h2 : w.cell? ⟨b2, 0, none⟩ = some (.func (.func 61) #[.pointer (some ⟨d, 0, none⟩)] #[])) (h3 : w.cell? ⟨b3, 0, none⟩ = some (.func (.func 60) #[.pointer (some ⟨d, 0, none⟩)] #[])) :
    Calls Tryz.prog 96 #[.int .i64 (i : Int), .pointer (some ⟨b1, 0, none⟩), .pointer (some ⟨b2, 0, none⟩), .pointer (some ⟨b3, 0, none⟩)] w fun e w' => e = .returned (.int .i64 (chD J l i)) ∧ w' = w := by
  have HLO := Lib.hid (low_any d i J w hd hi)
  have HHI := Lib.hid (high_any d i J w hd hi)
  have el := (days_low hd hJ).1
  have eh := (days_high hd hJ).1
  have HU := Lib.hid hu
  obtain ⟨au, cu, rfl, _⟩ := hu.form
  have HQ := Lib.hid (show chD J l i = if (ints l).contains (i : Int) then hiD J i else loD J i from rfl)
  have HLL := Lib.hid (ints_len l)
  have HCO := Lib.hid (contains_any _ (ints l) (i : Int) w hu (by rw [ints_len]; omega))
  generalize (ints l).contains (i : Int) = q at *
  generalize ints l = li at *
  obtain ⟨n, hn⟩ : ∃ n, n = li.length := ⟨_, rfl⟩
  rw [← hn] at h1 HCO HLL
  clear hn HU hu hd hJ
  generalize chD J l i = ans at *
  generalize hiD J i = dh at *
  generalize loD J i = dl at *
  go_enter Tryz.func96, Tryz.ntmps96
  go_wp2_with fail
  refine HCO.out.mono ?_
  rintro e w' ⟨rfl, rfl⟩
  cases q with
  | true =>
    have HQ2 := Lib.hid (show ans = dh from HQ.out)
    go_wp2_with fail
    refine HHI.out.mono ?_
    rintro e w' ⟨rfl, rfl⟩
    go_wp2
    go_ret
    exact ⟨ret_int HQ2.out.symm, rfl⟩
  | false =>
    have HQ2 := Lib.hid (show ans = dl by rw [HQ.out, if_neg (by simp)])
    go_wp2_with fail
    refine HLO.out.mono ?_
    rintro e w' ⟨rfl, rfl⟩
    go_wp2
    go_ret
    exact ⟨ret_int HQ2.out.symm, rfl⟩
end Go.Proofs.YteknehlkdgamjaaGreat

namespace Go.Proofs.YteknehlkdgamjaaGreat
open Go.RowKit Go.Shelf

/-- Job i is on a longest chain in the truth of a chain. -/
def onB (J : List Job) (i : Nat) (l : List Nat) : Bool := decide (beg J (chD J l) i + chD J l i + tl J (chD J l) i = takes J (chD J l))
def onN (J : List Job) (i : Nat) (ls : List (List Nat)) : Nat := (ls.filter (onB J i)).length
def offN (J : List Job) (i : Nat) (ls : List (List Nat)) : Nat := (ls.filter fun l => !onB J i l).length
/-- 2: in each truth, 0: in none, 1: in some. -/
def kindR (J : List Job) (i : Nat) : Int := if offN J i (chs J) = 0 then 2 else if onN J i (chs J) = 0 then 0 else 1
theorem onN_snoc (J : List Job) (i : Nat) (ls : List (List Nat)) (l : List Nat) : onN J i (ls ++ [l]) = onN J i ls + if onB J i l then 1 else 0 := by
  unfold onN
  rw [List.filter_append, List.length_append]
  cases h : onB J i l <;> simp [h]
theorem offN_snoc (J : List Job) (i : Nat) (ls : List (List Nat)) (l : List Nat) : offN J i (ls ++ [l]) = offN J i ls + if onB J i l then 0 else 1 := by
  unfold offN
  rw [List.filter_append, List.length_append]
  cases h : onB J i l <;> simp [h]
theorem flatMap_len {α β : Type} {f : α → List β} {c : Nat} : ∀ {l : List α}, (∀ x ∈ l, (f x).length ≤ c) → (l.flatMap f).length ≤ l.length * c
  | [], _ => by simp
  | x :: l, h => by
    have h1 := h x (by simp)
    have h2 := flatMap_len (l := l) fun y hy => h y (by simp [hy])
    rw [List.flatMap_cons, List.length_append, List.length_cons, Nat.succ_mul]
    omega
theorem chnF_len {J : List Job} (h12 : J.length ≤ 12) : ∀ (m i : Nat), (chnF J m i).length ≤ 12 ^ m
  | 0, _ => by simp [chnF]
  | m + 1, i => by
    rw [chnF]
    split
    · have : 1 ≤ 12 ^ (m + 1) := Nat.one_le_pow _ _ (by decide)
      simpa using this
    · refine Nat.le_trans (flatMap_len (c := 12 ^ m) fun k _ => by rw [List.length_map]; exact chnF_len h12 m k) ?_
      have h1 : (nxt J i).length ≤ J.length := by
        unfold nxt
        have := List.length_filter_le (fun k => edg J i k) (List.range J.length)
        rwa [List.length_range] at this
      rw [Nat.pow_succ, Nat.mul_comm]
      exact Nat.mul_le_mul (Nat.le_refl _) (by omega)
theorem chs_len {J : List Job} (h12 : J.length ≤ 12) : (chs J).length ≤ 12 * 12 ^ 12 := by
  unfold chs chsTo
  refine Nat.le_trans (flatMap_len (c := 12 ^ 12) fun k _ => Nat.le_trans (chnF_len h12 _ k) (Nat.pow_le_pow_right (by decide) h12)) ?_
  refine Nat.mul_le_mul ?_ (Nat.le_refl _)
  have := List.length_filter_le (srcB J) (List.range J.length)
  rw [List.length_range] at this
  omega
theorem onN_le (J : List Job) (i : Nat) {pre : List (List Nat)} (h : pre <+: chs J) (h12 : J.length ≤ 12) : onN J i pre ≤ 106993205379072 ∧ offN J i pre ≤ 106993205379072 := by
  have h1 := h.length_le
  have h2 := chs_len h12
  have h3 := List.length_filter_le (onB J i) pre
  have h4 := List.length_filter_le (fun l => !onB J i l) pre
  have h5 : (12 : Nat) * 12 ^ 12 = 106993205379072 := by decide
  unfold onN offN
  omega
theorem chs_ch {J : List Job} (hJ : FineJ J) (hc : cir J = false) {l : List Nat} (h : l ∈ chs J) : l.length ≤ 12 := by
  have h1 := ((chs_mem hJ hc l).1 h).2.1.length hJ hc
  have := hJ.n12
  omega
theorem chdays {d b1 b2 b3 : Nat} {u : Value} {J : List Job} (hJ : FineJ J) {l : List Nat} (hl : l.length ≤ 12) {w : World} (hd : DeskAt w d J)
    (h1 : w.cell? ⟨b1, 0, none⟩ = some u) (hu : RdI w .i64 u (ints l)) (h2 : w.cell? ⟨b2, 0, none⟩ = some (.func (.func 61) #[.pointer (some ⟨d, 0, none⟩)] #[])) (h3 : w.cell? ⟨b3, 0, none⟩ = some (.func (.func 60) #[.pointer (some ⟨d, 0, none⟩)] #[])) :
    DaysF w 96 #[] #[.pointer (some ⟨b1, 0, none⟩), .pointer (some ⟨b2, 0, none⟩), .pointer (some ⟨b3, 0, none⟩)] J.length (chD J l) := by
  refine ⟨enters_of Tryz.func96 (by kernel_rfl) rfl, fun i hi => ?_, fun wz hz i hi => ?_⟩
  · have := hJ.days i hi
    unfold chD hiD loD
    split <;> omega
  · have k : ∀ {b : Nat} {v : Value}, w.cell? ⟨b, 0, none⟩ = some v → wz.cell? ⟨b, 0, none⟩ = some v := fun {b v} h => (hz.cell (p := ⟨b, 0, none⟩) (World.block_lt_of_cell? w _ h)).trans h
    refine (chdays_call d b1 b2 b3 u J hJ l hl i hi wz (hd.mono hz) (k h1) (hu.mono hz) (k h2) (k h3)).mono ?_
    rintro e w' ⟨rfl, rfl⟩
    exact ⟨rfl, bz _⟩
/-- Two variables are made, and each takes its value. -/
theorem two_vars (w : World) (x y v v' : Value) (t t' : TypeId) :
    ∀ w1, (((w.alloc (.cells #[x] t)).alloc (.cells #[y] t')).setCell ⟨w.heap.size, 0, none⟩ v).setCell ⟨w.heap.size + 1, 0, none⟩ v' = w1 →
      w1.cell? ⟨w.heap.size, 0, none⟩ = some v ∧ w1.cell? ⟨w.heap.size + 1, 0, none⟩ = some v' ∧ Below w.heap.size w w1 := by
  rintro _ rfl
  have a1 : (w.alloc (.cells #[x] t)).cell? ⟨w.heap.size, 0, none⟩ = some x := cnew rfl rfl
  have a2 := cal (.cells #[y] t') a1
  have a3 : ((w.alloc (.cells #[x] t)).alloc (.cells #[y] t')).cell? ⟨w.heap.size + 1, 0, none⟩ = some y := cnew (by simp) rfl
  have hb : Below w.heap.size w ((w.alloc (.cells #[x] t)).alloc (.cells #[y] t')) := bal (bal (bz w) _) _
  have hne : ∀ {a b : Nat}, a ≠ b → (⟨a, 0, none⟩ : Addr) ≠ ⟨b, 0, none⟩ := fun h e => h (congrArg Addr.block e)
  refine ⟨?_, ?_, bset (bset hb (by simp) _) (by simp) _⟩
  · rw [World.cell?_setCell_other _ _ _ _ (hne (by omega))]
    exact World.cell?_setCell_same' _ _ _ (by rw [a2]; rfl)
  · exact World.cell?_setCell_same' _ _ _ (by rw [World.cell?_setCell_other _ _ _ _ (hne (by omega)), a3]; rfl)
theorem two_vars' (w : World) (x y v v' : Value) (t t' : TypeId) :
    ∀ w1, (((w.alloc (.cells #[x] t)).alloc (.cells #[y] t')).setCell ⟨w.heap.size + 1, 0, none⟩ v').setCell ⟨w.heap.size, 0, none⟩ v = w1 →
      w1.cell? ⟨w.heap.size, 0, none⟩ = some v ∧ w1.cell? ⟨w.heap.size + 1, 0, none⟩ = some v' ∧ Below w.heap.size w w1 := by
  rintro _ rfl
  have a1 : (w.alloc (.cells #[x] t)).cell? ⟨w.heap.size, 0, none⟩ = some x := cnew rfl rfl
  have a2 := cal (.cells #[y] t') a1
  have a3 : ((w.alloc (.cells #[x] t)).alloc (.cells #[y] t')).cell? ⟨w.heap.size + 1, 0, none⟩ = some y := cnew (by simp) rfl
  have hb : Below w.heap.size w ((w.alloc (.cells #[x] t)).alloc (.cells #[y] t')) := bal (bal (bz w) _) _
  have hne : ∀ {a b : Nat}, a ≠ b → (⟨a, 0, none⟩ : Addr) ≠ ⟨b, 0, none⟩ := fun h e => h (congrArg Addr.block e)
  refine ⟨?_, ?_, bset (bset hb (by simp) _) (by simp) _⟩
  · exact World.cell?_setCell_same' _ _ _ (by rw [World.cell?_setCell_other _ _ _ _ (hne (by omega)), a2]; rfl)
  · rw [World.cell?_setCell_other _ _ _ _ (hne (by omega))]
    exact World.cell?_setCell_same' _ _ _ (by rw [a3]; rfl)
/-- The first four variables of kind. -/
theorem four_vars (w : World) (p q : Value) (t1 t2 t3 t4 : TypeId) : ∀ w4, (((w.alloc (.cells #[p] t1)).alloc (.cells #[q] t2)).alloc (.cells #[.int .i64 0] t3)).alloc (.cells #[.int .i64 0] t4) = w4 →
    w4.cell? ⟨w.heap.size, 0, none⟩ = some p ∧ w4.cell? ⟨w.heap.size + 1, 0, none⟩ = some q ∧ w4.cell? ⟨w.heap.size + 1 + 1, 0, none⟩ = some (.int .i64 0) ∧ w4.cell? ⟨w.heap.size + 1 + 1 + 1, 0, none⟩ = some (.int .i64 0) ∧
    w4.frozen? ⟨w.heap.size + 1 + 1, 0, none⟩ = false ∧ w4.frozen? ⟨w.heap.size + 1 + 1 + 1, 0, none⟩ = false ∧ Below w.heap.size w w4 ∧ w4.heap.size = w.heap.size + 4 := by
  rintro _ rfl
  refine ⟨cal _ (cal _ (cal _ (cnew rfl rfl))), cal _ (cal _ (cnew (by simp) rfl)), cal _ (cnew (by simp) rfl), cnew (by simp) rfl, fal _ (fnew (by simp)) (by simp), fnew (by simp), bal (bal (bal (bal (bz w) _) _) _) _, by simp⟩
section
variable {P : Program} {Q : Exit → Act → World → Prop}
/-- wp_region_US in the fence of everything. -/
theorem in_region_US {r : Option Nat} {m : Nat} (S : World → Prop) {id : Nat} {a : Act} {w : World} {l : List Oper} (H W : List Nat) (hm : P.follows .mixedOrders = true) (hB : UB .any l.toArray H W = true) (hd : noDefer l = true)
    (h : ∀ w', Below w.heap.size w w' → w'.heap = w.heap → wpU P l (onlyN (Q .normal)) S H W l.length (Array.replicate l.length false) a w') : (Code.region id l.toArray true).wpIn (WF r) m P Q a w := by
  refine Code.wpIn_mono onlyN_imp (wpIn_region_any hm (inAny_of_any (noDefer_spec hd) (by rintro ⟨_, _, h⟩; exact h) _ _ _ _ ?_))
  have := h (w.drewN 1) (Below.drewN' 1 (Below.refl _ _)) rfl hB
  have := wpAny_of_U _ _ _ _ this
  rw [show l.toArray.size = l.length from rfl]
  exact this
end
end Go.Proofs.YteknehlkdgamjaaGreat

namespace Go.Proofs.YteknehlkdgamjaaGreat
open Go.RowKit Go.Shelf
attribute [local go_sem] Oper.semAt_some

/-- The variables low and high. -/
def KdCut (w : World) (d : Nat) (v7 v8 : Value) (wx : World) : Prop :=
  ∃ b7 b8 : Nat, v7 = .pointer (some ⟨b7, 0, none⟩) ∧ v8 = .pointer (some ⟨b8, 0, none⟩) ∧ wx.cell? ⟨b7, 0, none⟩ = some (.func (.func 60) #[.pointer (some ⟨d, 0, none⟩)] #[]) ∧
    wx.cell? ⟨b8, 0, none⟩ = some (.func (.func 61) #[.pointer (some ⟨d, 0, none⟩)] #[]) ∧ Below w.heap.size w wx ∧ w.heap.size ≤ b7 ∧ w.heap.size ≤ b8
theorem kd_fin (w : World) (t : TypeId) (f g : Value) : ((w.alloc (.cells #[f] t)).alloc (.cells #[g] t)).drew.cell? ⟨w.heap.size, 0, none⟩ = some f ∧ ((w.alloc (.cells #[f] t)).alloc (.cells #[g] t)).drew.cell? ⟨w.heap.size + 1, 0, none⟩ = some g ∧
    Below w.heap.size w ((w.alloc (.cells #[f] t)).alloc (.cells #[g] t)).drew := by
  have h1 : ((w.alloc (.cells #[f] t)).alloc (.cells #[g] t)).cell? ⟨w.heap.size, 0, none⟩ = some f := cal _ (cnew rfl rfl)
  have h2 : ((w.alloc (.cells #[f] t)).alloc (.cells #[g] t)).cell? ⟨w.heap.size + 1, 0, none⟩ = some g := cnew (by simp) rfl
  exact ⟨h1, h2, btr (bal (bal (bz w) _) _) (Below.drewN' 1 (bz _))⟩
theorem abides_fr {w0 : World} {B : Nat → Prop} {lo hi : Nat} (h1 : w0.heap.size ≤ lo) : Abides1 lo hi (fun W => Fr w0 W B) := fun W W' row h hg hr =>
  ((h.mono (C := fun k => B k ∨ w0.heap.size ≤ k) (fun _ _ => .inl)).trans (Fr.grown hg fun j e => .inr (by have := hr j e; omega))).mono (fun j hj hb => hb.elim id (fun h => by omega))
theorem abides_frozen {lo hi b : Nat} {v : Value} (h1 : b < lo) : Abides1 lo hi (fun W => W.cell? ⟨b, 0, none⟩ = some v ∧ W.frozen? ⟨b, 0, none⟩ = false) := fun W W' row h hg hr => by
  have hl := World.block_lt_of_cell? W _ h.1
  have hb := hg.block b hl (fun e => by have := hr b e.symm; omega)
  exact ⟨(World.cell?_of_block hb).trans h.1, (World.frozen?_of_block hb).trans h.2⟩
theorem Fr.cell1 {w w' : World} {B : Nat → Prop} (h : Fr w w' B) {b : Nat} {v : Value} (hc : w.cell? ⟨b, 0, none⟩ = some v) (hb : ¬ B b) : w'.cell? ⟨b, 0, none⟩ = some v := by
  have hl := World.block_lt_of_cell? w _ hc
  rw [World.cell?_of_block (h.block b hl hb)]
  exact hc
theorem rowL.kd {w : World} {z n : Nat} {v : Value} {f : Nat → Int} (h : rowL w z v (fnL f n)) {i : Nat} (hi : i < n) :
    ∃ g c, v = .slice (some ⟨g, 0, none⟩) n c ∧ ∀ wz, Below w.heap.size w wz → wz.cell? ⟨g, i, none⟩ = some (.int .i64 (f i)) ∧ g < wz.heap.size := by
  have h' := h
  have hl := fnL_len f n
  rcases h.2 with ⟨_, h2⟩ | ⟨g, cap, cur, rfl, _⟩
  · omega
  · rw [hl]
    obtain ⟨h1, h2, _⟩ := rowL.at h' i (by omega)
    rw [fnL_at f hi] at h2
    exact ⟨g, cap, rfl, fun wz hb => ⟨(hb.cell (p := ⟨g, i, none⟩) h1).trans h2, Nat.lt_of_lt_of_le h1 hb.size⟩⟩
set_option maxRecDepth 100000 in
set_option maxHeartbeats 8000000 in
theorem kind_any (d i : Nat) (J : List Job) (w : World) (hd : DeskAt w d J) (hJ : FineJ J) (hc : cir J = false) (hi : i < J.length) :
    Calls Tryz.prog 71 #[.pointer (some ⟨d, 0, none⟩), .int .i64 (i : Int)] w fun e w' => e = .returned (.int .i64 (kindR J i)) ∧ Below w.heap.size w w' := by
  obtain ⟨a, c, hV⟩ := hd.toV
  have HV := Lib.hid hV
  have HJ := Lib.hid hJ; have HC := Lib.hid hc
  have HK := Lib.hid (show kindR J i = if offN J i (chs J) = 0 then 2 else if onN J i (chs J) = 0 then 0 else 1 from rfl)
  generalize kindR J i = ans at *
  clear hd hV hJ hc
  refine callsIn_wide (n := 10).1 ?_
  refine callsIn_of_wp_marks Tryz.func71 rfl trivial ?_ rfl
  simp only [Tryz.ntmps71, List.size_toArray, List.length_cons, List.length_nil, Nat.reduceAdd, Nat.reduceSub, Array.replicate_succ, Array.replicate_zero, List.push_toArray, List.append_toArray, List.nil_append, List.cons_append]
  gi_upto_region 2 with fail
  generalize hw4 : World.alloc _ _ = w4
  obtain ⟨e2, e3, e5, e6, q5, q6, hb4, hs4⟩ := four_vars w _ _ _ _ _ _ w4 hw4
  clear hw4
  have HB4 := Lib.hid hb4
  have HF4 := Lib.hid (⟨q5, q6⟩ : w4.frozen? ⟨w.heap.size + 1 + 1, 0, none⟩ = false ∧ w4.frozen? ⟨w.heap.size + 1 + 1 + 1, 0, none⟩ = false)
  have HS4 := Lib.hid hs4
  obtain ⟨b6, hb6⟩ : ∃ b, w.heap.size + 1 + 1 + 1 = b := ⟨_, rfl⟩
  obtain ⟨b5, hb5⟩ : ∃ b, w.heap.size + 1 + 1 = b := ⟨_, rfl⟩
  obtain ⟨b3, hb3⟩ : ∃ b, w.heap.size + 1 = b := ⟨_, rfl⟩
  obtain ⟨b2, hb2⟩ : ∃ b, w.heap.size = b := ⟨_, rfl⟩
  rw [hb6] at e6 HF4; rw [hb5] at e5 HF4; rw [hb3] at e3; rw [hb2] at e2
  rw [hb6, hb5, hb3, hb2]
  have HE5 := Lib.hid e5; have HE6 := Lib.hid e6
  have HZZ := Lib.hid (show b2 < w4.heap.size by omega)
  have hzb : b2 < b3 ∧ b3 < b5 ∧ b5 < b6 ∧ b6 < w4.heap.size ∧ w.heap.size = b2 := by omega
  have HZ := Lib.hid hzb
  clear hb4 q5 q6 hs4 hb6 hb5 hb3 hb2 e5 e6 hzb
  gi_cut [7, 8] from 11 (KdCut w4 d)
  case first =>
    have z2 := HZZ.out
    gi_region
    · gi_wp2
      gi_meet
      case rel =>
        obtain ⟨m1, m2, m3⟩ := kd_fin w4 88 (.func (.func 60) #[.pointer (some ⟨d, 0, none⟩)] #[]) (.func (.func 61) #[.pointer (some ⟨d, 0, none⟩)] #[])
        exact ⟨_, _, rfl, rfl, m1, m2, m3, Nat.le_refl _, by omega⟩
    · gi_wp2
      gi_meet
      case rel =>
        obtain ⟨m1, m2, m3⟩ := kd_fin w4 88 (.func (.func 61) #[.pointer (some ⟨d, 0, none⟩)] #[]) (.func (.func 60) #[.pointer (some ⟨d, 0, none⟩)] #[])
        exact ⟨_, _, rfl, rfl, m2, m1, m3, by omega, Nat.le_refl _⟩
  case rest =>
    obtain ⟨b7, b8, rfl, rfl, m7, m8, hB5, z7, z8⟩ := hcut
    have hzz := HZ.out
    have n2 := (hB5.cell (p := ⟨b2, 0, none⟩) (by show b2 < w4.heap.size; omega)).trans e2
    have n3 := (hB5.cell (p := ⟨b3, 0, none⟩) (by show b3 < w4.heap.size; omega)).trans e3
    have n5 := (hB5.cell (p := ⟨b5, 0, none⟩) (by show b5 < w4.heap.size; omega)).trans HE5.out
    have n6 := (hB5.cell (p := ⟨b6, 0, none⟩) (by show b6 < w4.heap.size; omega)).trans HE6.out
    have f5 := (World.frozen?_of_block (hB5.block b5 (by omega))).trans HF4.out.1
    have f6 := (World.frozen?_of_block (hB5.block b6 (by omega))).trans HF4.out.2
    have HB5 := Lib.hid (btr HB4.out hB5)
    have hx7 := World.block_lt_of_cell? wc _ m7
    have hx8 := World.block_lt_of_cell? wc _ m8
    have hx4 := hB5.size
    clear e2 e3 hB5
    gi_wp2_with fail
    refine ⟨trivial, callsIn_wide.2 ((chains_any d _).mono ?_)⟩
    rintro e w6 ⟨rfl, t6, hw6⟩
    obtain ⟨bx, hbx⟩ : ∃ b, wc.heap.size = b := ⟨_, rfl⟩
    have hk : ∀ {b : Nat} {v : Value}, wc.cell? ⟨b, 0, none⟩ = some v → w6.cell? ⟨b, 0, none⟩ = some v := fun {b v} h => by rw [← hw6]; exact cal _ h
    have r2 := hk n2; have r3 := hk n3; have r5 := hk n5; have r6 := hk n6; have r7 := hk m7; have r8 := hk m8
    have rx : w6.cell? ⟨bx, 0, none⟩ = some (.pointer (some ⟨d, 0, none⟩)) := by rw [← hw6, ← hbx]; exact cnew rfl rfl
    have s5 : w6.frozen? ⟨b5, 0, none⟩ = false := by rw [← hw6]; exact fal _ f5 (by show b5 < wc.heap.size; omega)
    have s6 : w6.frozen? ⟨b6, 0, none⟩ = false := by rw [← hw6]; exact fal _ f6 (by show b6 < wc.heap.size; omega)
    have HB6 := Lib.hid (show Below w.heap.size w w6 by rw [← hw6]; exact bal HB5.out _)
    have hs6 : w6.heap.size = bx + 1 := by rw [← hw6, ← hbx]; simp
    rw [hbx]
    have HX := Lib.hid (⟨hx7, hx8, hx4⟩ : b7 < wc.heap.size ∧ b8 < wc.heap.size ∧ w4.heap.size ≤ wc.heap.size)
    rw [hbx] at HX
    have HXX := Lib.hid hzz
    clear hk n2 n3 n5 n6 m7 m8 f5 f6 hw6 hx7 hx8 hx4 hzz hbx HB5
    have HR := Lib.hid (⟨r2, r3, r5, r6, r7, r8, rx, s5, s6⟩ : _ ∧ _ ∧ _ ∧ _ ∧ _ ∧ _ ∧ _ ∧ _ ∧ _)
    clear r2 r3 r5 r6 r7 r8 rx s5 s6
    gi_wp2
    have HZI := Lib.hid (show bx < w6.heap.size ∧ ¬ (bx = b5 ∨ bx = b6) ∧ b5 < w6.heap.size ∧ b6 < w6.heap.size ∧ ¬ (b2 = b5 ∨ b2 = b6) ∧ ¬ (b3 = b5 ∨ b3 = b6) ∧ ¬ (b7 = b5 ∨ b7 = b6) ∧ ¬ (b8 = b5 ∨ b8 = b6) ∧ b5 ≠ b6 ∧ w.heap.size ≤ b5 ∧ w.heap.size ≤ b6 by
      have h1 := HX.out; have h2 := HXX.out; omega)
    have HDE := Lib.hid (fun X (h : Fr w6 X (fun k => k = b5 ∨ k = b6)) => show DeskV X d a c J from HV.out.mono (Fr.below h HB6.out (fun j hj => by have := HZI.out; omega)))
    refine range_lawV (gf := 109) (lb := #[.pointer (some ⟨bx, 0, none⟩)]) rfl (enters_of Tryz.func109 (by kernel_rfl) rfl) (chains_yields _ HJ.out HC.out bx d a c) (fun z x v W h => by obtain ⟨u, rfl, _⟩ := h; rfl)
      (fun pre X => Fr w6 X (fun k => k = b5 ∨ k = b6) ∧ (X.cell? ⟨b5, 0, none⟩ = some (.int .i64 (onN J i pre : Int)) ∧ X.frozen? ⟨b5, 0, none⟩ = false) ∧ (X.cell? ⟨b6, 0, none⟩ = some (.int .i64 (offN J i pre : Int)) ∧ X.frozen? ⟨b6, 0, none⟩ = false))
      (fun _ _ _ => False)
      (fun s => (abides_fr (Nat.le_refl _)).and ((abides_frozen HZI.out.2.2.1).and (abides_frozen HZI.out.2.2.2.1)))
      (fun c s => abides_pure)
      (fun s X h => ⟨h.1.cell1 HR.out.2.2.2.2.2.2.1 HZI.out.2.1, HDE.out X h.1⟩)
      ⟨Fr.refl _ _, ⟨HR.out.2.2.1, HR.out.2.2.2.2.2.2.2.1⟩, ⟨HR.out.2.2.2.1, HR.out.2.2.2.2.2.2.2.2⟩⟩ ?round ?done ?stop
    case round =>
      rintro l pre x v X ⟨hF, ⟨h5, k5⟩, h6, k6⟩ hpx ⟨u, rfl, hu⟩ hsz
      have hxm : x ∈ chs J := hpx.subset (by simp)
      have HXL := Lib.hid (chs_ch HJ.out HC.out hxm)
      have HPX := Lib.hid (onN_le J i hpx HJ.out.n12)
      have HON := Lib.hid (onN_snoc J i pre x); have HOF := Lib.hid (offN_snoc J i pre x)
      have HFX := Lib.hid hF
      obtain ⟨au, cu, hue⟩ := owns_form hu
      obtain ⟨nx, hnx⟩ : ∃ n, (ints x).length = n := ⟨_, rfl⟩
      rw [hnx] at hue
      subst hue
      clear hxm hpx hF hnx
      gi_wp2
      refine ⟨(KF.refl _ _).alloc _, fun W2 hg2 hs2 => ?_⟩
      have hrow : ∀ r, some (w6.heap.size + 1) = some r → w6.heap.size ≤ r ∧ r < w6.heap.size + 2 := fun r e => by cases e; omega
      have HF2 := Lib.hid ((abides_fr (w0 := w6) (B := fun k => k = b5 ∨ k = b6) (lo := w6.heap.size) (hi := w6.heap.size + 2) (Nat.le_refl _)) _ W2 _ (HFX.out.trans (Fr.of_below (bal (bz X) _))) hg2 hrow)
      have keep : ∀ {b : Nat} {v : Value}, X.cell? ⟨b, 0, none⟩ = some v → b < w6.heap.size → W2.cell? ⟨b, 0, none⟩ = some v := fun {b v} h hb => hg2.cell (cal _ h) (fun e => by have := Option.some.inj e; simp only at this; omega)
      have hz := HZI.out
      have g5 := keep h5 hz.2.2.1; have g6 := keep h6 hz.2.2.2.1
      have gf5 : W2.frozen? ⟨b5, 0, none⟩ = false := (World.frozen?_of_block (hg2.block b5 (by simp; omega) (fun e => by have := Option.some.inj e; omega))).trans (fal _ k5 (by simp only; omega))
      have gf6 : W2.frozen? ⟨b6, 0, none⟩ = false := (World.frozen?_of_block (hg2.block b6 (by simp; omega) (fun e => by have := Option.some.inj e; omega))).trans (fal _ k6 (by simp only; omega))
      have g9 : W2.cell? ⟨X.heap.size, 0, none⟩ = some (.slice au nx cu) := hg2.cell (cnew rfl rfl) (fun e => by have := Option.some.inj e; simp only at this; omega)
      have hur : RdI W2 .i64 (.slice au nx cu) (ints x) := RdI.of_owns (World.ownsRow.kept (owns_kept hu (bal (bz X) _)) hg2 (by
        cases hub : (Value.slice au nx cu).ownBlock with
        | none => exact .inl rfl
        | some k =>
          right
          intro e
          have h1 := (rowI.lt hu hub).1
          have := Option.some.inj e
          omega))
      have g2 := HF2.out.cell1 HR.out.1 hz.2.2.2.2.1
      have g3 := HF2.out.cell1 HR.out.2.1 hz.2.2.2.2.2.1
      have g7 := HF2.out.cell1 HR.out.2.2.2.2.1 hz.2.2.2.2.2.2.1
      have g8 := HF2.out.cell1 HR.out.2.2.2.2.2.1 hz.2.2.2.2.2.2.2.1
      have HDS := Lib.hid (HDE.out W2 HF2.out).2.2
      have HDD := Lib.hid (chdays HJ.out HXL.out HDS.out g9 hur g8 g7)
      have G5 := Lib.hid g5; have G6 := Lib.hid g6; have GF := Lib.hid (⟨gf5, gf6⟩ : _ ∧ _)
      have hsx : w6.heap.size + 2 ≤ W2.heap.size := by rw [hs2]; simp; omega
      have z2 := World.block_lt_of_cell? W2 _ g2; have z3 := World.block_lt_of_cell? W2 _ g3
      obtain ⟨b9, hb9⟩ : ∃ b, X.heap.size = b := ⟨_, rfl⟩
      rw [hb9] at HDD
      rw [hb9]
      clear keep hg2 hs2 hrow g5 g6 gf5 gf6 g9 hur g7 g8 h5 h6 k5 k6 hu hb9 hz
      gi_upto_region 6 with fail
      have HIN := Lib.hid hi
      obtain ⟨y1, hy1⟩ : ∃ y, y = beg J (chD J x) i := ⟨_, rfl⟩
      obtain ⟨y2, hy2⟩ : ∃ y, y = chD J x i := ⟨_, rfl⟩
      obtain ⟨y3, hy3⟩ : ∃ y, y = tl J (chD J x) i := ⟨_, rfl⟩
      obtain ⟨y4, hy4⟩ : ∃ y, y = takes J (chD J x) := ⟨_, rfl⟩
      obtain ⟨q, hq⟩ : ∃ q, q = onB J i x := ⟨_, rfl⟩
      have HQ := Lib.hid (show q = (y1 + y2 + y3 == y4) by rw [hq, hy1, hy2, hy3, hy4]; rfl)
      have HDB := HDD.out.2.1
      have b1 := beg_bd HJ.out (fun i hi => (HDB i hi).2) hi
      have b1' := beg_nn J (chD J x) i
      have b3 := tl_bd HJ.out (fun i hi => (HDB i hi).2) hi
      have b3' := tl_nn J (chD J x) i
      have b2' := HDB i hi
      rw [← hy1] at b1 b1'; rw [← hy2] at b2'; rw [← hy3] at b3 b3'
      have wr1 : IntKind.i64.wrap (y1 + y2) = y1 + y2 := IntWalk.i64_in _ (by omega)
      have wr2 : IntKind.i64.wrap (y1 + y2 + y3) = y1 + y2 + y3 := IntWalk.i64_in _ (by omega)
      have eg := HDD.out.1
      have HBG := Lib.hid (fun wz (h : Below W2.heap.size W2 wz) => begins_any d 96 #[] _ J _ wz (HDS.out.mono h) HJ.out HC.out (HDD.out.mono h))
      have HTL := Lib.hid (fun wz (h : Below W2.heap.size W2 wz) => tails_any d 96 #[] _ J _ wz (HDS.out.mono h) HJ.out HC.out (HDD.out.mono h))
      have HTK := Lib.hid (fun wz (h : Below W2.heap.size W2 wz) => takes_any d 96 #[] _ J _ wz (HDS.out.mono h) HJ.out HC.out (HDD.out.mono h))
      have HDY := Lib.hid (fun wz (h : Below W2.heap.size W2 wz) => HDD.out.2.2 wz h i hi)
      rw [← hq] at HON HOF
      rw [← hy2] at HDY
      rw [← hy4] at HTK
      have HY1 := Lib.hid hy1; have HY3 := Lib.hid hy3
      clear hq hy1 hy2 hy3 hy4 b1 b1' b2' b3 b3' HDB
      gi_cut [39] from 40 (fun v39 wx => v39 = .bool q ∧ Below W2.heap.size W2 wx)
      case first =>
        refine in_region_US (r := some l) (fun w2 => ∃ x : Later W2, w2 = x.val) [0, 1, 3, 4, 6, 7, 9, 10, 11, 13, 14, 16, 17, 18, 20] [] (by kernel_rfl) (by kernel_rfl) (by rfl) ?_
        intro wr hBr hh
        clear hh
        have HX := Lib.hid hBr
        have hL := @Later.cell W2
        clear hBr
        refine U_heads [0, 1, 3, 6, 7, 10, 11, 13, 17, 18] (by kernel_rfl) ⟨⟨_, HX.out⟩, rfl⟩ ?_
        simp only [pickL, List.getElem?_cons_succ, List.getElem?_cons_zero]
        repeat (go_big_quiet_step (fail))
        refine wpQuiet_nil ?_
        clear hL g2 g3 z2 z3
        refine U_one 2 (by kernel_rfl) ?_
        simp only [pickL, List.getElem?_cons_succ, List.getElem?_cons_zero]
        go_wp2_with fail
        refine (HBG.out _ HX.out).mono ?_
        rintro e w21 ⟨v, rfl, hr, hB⟩
        obtain ⟨g1, c1, rfl, hk1⟩ := hr.kd hi
        rw [← HY1.out] at hk1
        have HK1 := Lib.hid hk1
        clear hk1 hr
        have HX := Lib.hid (btr HX.out hB)
        have HP1 := Lib.hid (bz w21)
        clear hB
        go_wp2
        refine seg_grow ⟨⟨_, HX.out⟩, rfl⟩ ?_
        refine U_heads [4] (by kernel_rfl) ⟨⟨_, HX.out⟩, rfl⟩ ?_
        simp only [pickL, List.getElem?_cons_succ, List.getElem?_cons_zero]
        repeat (go_big_quiet_step (fail))
        refine wpQuiet_nil ?_
        refine U_two 5 8 (by kernel_rfl) ?_ ?_
        · simp only [pickL, List.getElem?_cons_succ, List.getElem?_cons_zero]
          obtain ⟨kc, kz⟩ := HK1.out _ HP1.out
          go_wp2
          clear kc kz
          refine seg_grow ⟨⟨_, HX.out⟩, rfl⟩ ?_
          refine U_one 8 (by kernel_rfl) ?_
          simp only [pickL, List.getElem?_cons_succ, List.getElem?_cons_zero]
          go_wp2_with fail
          refine (HDY.out _ HX.out).mono ?_
          rintro e w23 ⟨rfl, hB⟩
          have HP1 := Lib.hid (btr HP1.out hB)
          have HX := Lib.hid (btr HX.out hB)
          clear hB
          go_wp2
          refine seg_grow ⟨⟨_, HX.out⟩, rfl⟩ ?_
          refine U_heads [9] (by kernel_rfl) ⟨⟨_, HX.out⟩, rfl⟩ ?_
          simp only [pickL, List.getElem?_cons_succ, List.getElem?_cons_zero]
          repeat (go_big_quiet_step (fail))
          refine wpQuiet_nil ?_
          refine U_one 12 (by kernel_rfl) ?_
          simp only [pickL, List.getElem?_cons_succ, List.getElem?_cons_zero]
          go_wp2_with fail
          refine (HTL.out _ HX.out).mono ?_
          rintro e w24 ⟨v, rfl, hr, hB⟩
          obtain ⟨g3, c3, rfl, hk3⟩ := hr.kd hi
          rw [← HY3.out] at hk3
          have HK3 := Lib.hid hk3
          clear hk3 hr
          have HP1 := Lib.hid (btr HP1.out hB)
          have HX := Lib.hid (btr HX.out hB)
          have HP3 := Lib.hid (bz w24)
          clear hB
          go_wp2
          refine seg_grow ⟨⟨_, HX.out⟩, rfl⟩ ?_
          refine U_heads [14] (by kernel_rfl) ⟨⟨_, HX.out⟩, rfl⟩ ?_
          simp only [pickL, List.getElem?_cons_succ, List.getElem?_cons_zero]
          repeat (go_big_quiet_step (fail))
          refine wpQuiet_nil ?_
          refine U_two 15 19 (by kernel_rfl) ?_ ?_
          · simp only [pickL, List.getElem?_cons_succ, List.getElem?_cons_zero]
            obtain ⟨kc, kz⟩ := HK3.out _ HP3.out
            go_wp2
            clear kc kz
            refine seg_grow ⟨⟨_, HX.out⟩, rfl⟩ ?_
            refine U_heads [16] (by kernel_rfl) ⟨⟨_, HX.out⟩, rfl⟩ ?_
            simp only [pickL, List.getElem?_cons_succ, List.getElem?_cons_zero]
            repeat (go_big_quiet_step (fail))
            refine wpQuiet_nil ?_
            refine U_one 19 (by kernel_rfl) ?_
            simp only [pickL, List.getElem?_cons_succ, List.getElem?_cons_zero]
            go_wp2_with fail
            refine (HTK.out _ HX.out).mono ?_
            rintro e w26 ⟨rfl, hB⟩
            have HP1 := Lib.hid (btr HP1.out hB)
            have HP3 := Lib.hid (btr HP3.out hB)
            have HX := Lib.hid (btr HX.out hB)
            clear hB
            go_wp2
            refine seg_grow ⟨⟨_, HX.out⟩, rfl⟩ ?_
            refine U_heads [20] (by kernel_rfl) ⟨⟨_, HX.out⟩, rfl⟩ ?_
            simp only [pickL, List.getElem?_cons_succ, List.getElem?_cons_zero]
            repeat (go_big_quiet_step (fail))
            refine wpQuiet_nil ?_
            refine U_done (by kernel_rfl) ?_
            gi_wp2
            gi_meet
            case rel => exact ⟨by rw [HQ.out], HX.out⟩
          · simp only [pickL, List.getElem?_cons_succ, List.getElem?_cons_zero]
            go_wp2_with fail
            refine (HTK.out _ HX.out).mono ?_
            rintro e w25 ⟨rfl, hB⟩
            have HP1 := Lib.hid (btr HP1.out hB)
            have HP3 := Lib.hid (btr HP3.out hB)
            have HX := Lib.hid (btr HX.out hB)
            clear hB
            go_wp2
            refine seg_grow ⟨⟨_, HX.out⟩, rfl⟩ ?_
            refine U_one 15 (by kernel_rfl) ?_
            simp only [pickL, List.getElem?_cons_succ, List.getElem?_cons_zero]
            obtain ⟨kc, kz⟩ := HK3.out _ HP3.out
            go_wp2
            clear kc kz
            refine seg_grow ⟨⟨_, HX.out⟩, rfl⟩ ?_
            refine U_heads [16, 20] (by kernel_rfl) ⟨⟨_, HX.out⟩, rfl⟩ ?_
            simp only [pickL, List.getElem?_cons_succ, List.getElem?_cons_zero]
            repeat (go_big_quiet_step (fail))
            refine wpQuiet_nil ?_
            refine U_done (by kernel_rfl) ?_
            gi_wp2
            gi_meet
            case rel => exact ⟨by rw [HQ.out], HX.out⟩
        · simp only [pickL, List.getElem?_cons_succ, List.getElem?_cons_zero]
          go_wp2_with fail
          refine (HDY.out _ HX.out).mono ?_
          rintro e w22 ⟨rfl, hB⟩
          have HP1 := Lib.hid (btr HP1.out hB)
          have HX := Lib.hid (btr HX.out hB)
          clear hB
          go_wp2
          refine seg_grow ⟨⟨_, HX.out⟩, rfl⟩ ?_
          refine U_two 5 12 (by kernel_rfl) ?_ ?_
          · simp only [pickL, List.getElem?_cons_succ, List.getElem?_cons_zero]
            obtain ⟨kc, kz⟩ := HK1.out _ HP1.out
            go_wp2
            clear kc kz
            refine seg_grow ⟨⟨_, HX.out⟩, rfl⟩ ?_
            refine U_heads [9] (by kernel_rfl) ⟨⟨_, HX.out⟩, rfl⟩ ?_
            simp only [pickL, List.getElem?_cons_succ, List.getElem?_cons_zero]
            repeat (go_big_quiet_step (fail))
            refine wpQuiet_nil ?_
            refine U_one 12 (by kernel_rfl) ?_
            simp only [pickL, List.getElem?_cons_succ, List.getElem?_cons_zero]
            go_wp2_with fail
            refine (HTL.out _ HX.out).mono ?_
            rintro e w24 ⟨v, rfl, hr, hB⟩
            obtain ⟨g3, c3, rfl, hk3⟩ := hr.kd hi
            rw [← HY3.out] at hk3
            have HK3 := Lib.hid hk3
            clear hk3 hr
            have HP1 := Lib.hid (btr HP1.out hB)
            have HX := Lib.hid (btr HX.out hB)
            have HP3 := Lib.hid (bz w24)
            clear hB
            go_wp2
            refine seg_grow ⟨⟨_, HX.out⟩, rfl⟩ ?_
            refine U_heads [14] (by kernel_rfl) ⟨⟨_, HX.out⟩, rfl⟩ ?_
            simp only [pickL, List.getElem?_cons_succ, List.getElem?_cons_zero]
            repeat (go_big_quiet_step (fail))
            refine wpQuiet_nil ?_
            refine U_two 15 19 (by kernel_rfl) ?_ ?_
            · simp only [pickL, List.getElem?_cons_succ, List.getElem?_cons_zero]
              obtain ⟨kc, kz⟩ := HK3.out _ HP3.out
              go_wp2
              clear kc kz
              refine seg_grow ⟨⟨_, HX.out⟩, rfl⟩ ?_
              refine U_heads [16] (by kernel_rfl) ⟨⟨_, HX.out⟩, rfl⟩ ?_
              simp only [pickL, List.getElem?_cons_succ, List.getElem?_cons_zero]
              repeat (go_big_quiet_step (fail))
              refine wpQuiet_nil ?_
              refine U_one 19 (by kernel_rfl) ?_
              simp only [pickL, List.getElem?_cons_succ, List.getElem?_cons_zero]
              go_wp2_with fail
              refine (HTK.out _ HX.out).mono ?_
              rintro e w26 ⟨rfl, hB⟩
              have HP1 := Lib.hid (btr HP1.out hB)
              have HP3 := Lib.hid (btr HP3.out hB)
              have HX := Lib.hid (btr HX.out hB)
              clear hB
              go_wp2
              refine seg_grow ⟨⟨_, HX.out⟩, rfl⟩ ?_
              refine U_heads [20] (by kernel_rfl) ⟨⟨_, HX.out⟩, rfl⟩ ?_
              simp only [pickL, List.getElem?_cons_succ, List.getElem?_cons_zero]
              repeat (go_big_quiet_step (fail))
              refine wpQuiet_nil ?_
              refine U_done (by kernel_rfl) ?_
              gi_wp2
              gi_meet
              case rel => exact ⟨by rw [HQ.out], HX.out⟩
            · simp only [pickL, List.getElem?_cons_succ, List.getElem?_cons_zero]
              go_wp2_with fail
              refine (HTK.out _ HX.out).mono ?_
              rintro e w25 ⟨rfl, hB⟩
              have HP1 := Lib.hid (btr HP1.out hB)
              have HP3 := Lib.hid (btr HP3.out hB)
              have HX := Lib.hid (btr HX.out hB)
              clear hB
              go_wp2
              refine seg_grow ⟨⟨_, HX.out⟩, rfl⟩ ?_
              refine U_one 15 (by kernel_rfl) ?_
              simp only [pickL, List.getElem?_cons_succ, List.getElem?_cons_zero]
              obtain ⟨kc, kz⟩ := HK3.out _ HP3.out
              go_wp2
              clear kc kz
              refine seg_grow ⟨⟨_, HX.out⟩, rfl⟩ ?_
              refine U_heads [16, 20] (by kernel_rfl) ⟨⟨_, HX.out⟩, rfl⟩ ?_
              simp only [pickL, List.getElem?_cons_succ, List.getElem?_cons_zero]
              repeat (go_big_quiet_step (fail))
              refine wpQuiet_nil ?_
              refine U_done (by kernel_rfl) ?_
              gi_wp2
              gi_meet
              case rel => exact ⟨by rw [HQ.out], HX.out⟩
          · simp only [pickL, List.getElem?_cons_succ, List.getElem?_cons_zero]
            go_wp2_with fail
            refine (HTL.out _ HX.out).mono ?_
            rintro e w23 ⟨v, rfl, hr, hB⟩
            obtain ⟨g3, c3, rfl, hk3⟩ := hr.kd hi
            rw [← HY3.out] at hk3
            have HK3 := Lib.hid hk3
            clear hk3 hr
            have HP1 := Lib.hid (btr HP1.out hB)
            have HX := Lib.hid (btr HX.out hB)
            have HP3 := Lib.hid (bz w23)
            clear hB
            go_wp2
            refine seg_grow ⟨⟨_, HX.out⟩, rfl⟩ ?_
            refine U_heads [14] (by kernel_rfl) ⟨⟨_, HX.out⟩, rfl⟩ ?_
            simp only [pickL, List.getElem?_cons_succ, List.getElem?_cons_zero]
            repeat (go_big_quiet_step (fail))
            refine wpQuiet_nil ?_
            refine U_all [5, 15, 19] (by kernel_rfl) ?_
            intro c hc
            simp only [List.mem_cons, List.not_mem_nil, or_false] at hc
            rcases hc with rfl | rfl | rfl
            · simp only [pickL, List.getElem?_cons_succ, List.getElem?_cons_zero]
              obtain ⟨kc, kz⟩ := HK1.out _ HP1.out
              go_wp2
              clear kc kz
              refine seg_grow ⟨⟨_, HX.out⟩, rfl⟩ ?_
              refine U_heads [9] (by kernel_rfl) ⟨⟨_, HX.out⟩, rfl⟩ ?_
              simp only [pickL, List.getElem?_cons_succ, List.getElem?_cons_zero]
              repeat (go_big_quiet_step (fail))
              refine wpQuiet_nil ?_
              refine U_two 15 19 (by kernel_rfl) ?_ ?_
              · simp only [pickL, List.getElem?_cons_succ, List.getElem?_cons_zero]
                obtain ⟨kc, kz⟩ := HK3.out _ HP3.out
                go_wp2
                clear kc kz
                refine seg_grow ⟨⟨_, HX.out⟩, rfl⟩ ?_
                refine U_heads [16] (by kernel_rfl) ⟨⟨_, HX.out⟩, rfl⟩ ?_
                simp only [pickL, List.getElem?_cons_succ, List.getElem?_cons_zero]
                repeat (go_big_quiet_step (fail))
                refine wpQuiet_nil ?_
                refine U_one 19 (by kernel_rfl) ?_
                simp only [pickL, List.getElem?_cons_succ, List.getElem?_cons_zero]
                go_wp2_with fail
                refine (HTK.out _ HX.out).mono ?_
                rintro e w26 ⟨rfl, hB⟩
                have HP1 := Lib.hid (btr HP1.out hB)
                have HP3 := Lib.hid (btr HP3.out hB)
                have HX := Lib.hid (btr HX.out hB)
                clear hB
                go_wp2
                refine seg_grow ⟨⟨_, HX.out⟩, rfl⟩ ?_
                refine U_heads [20] (by kernel_rfl) ⟨⟨_, HX.out⟩, rfl⟩ ?_
                simp only [pickL, List.getElem?_cons_succ, List.getElem?_cons_zero]
                repeat (go_big_quiet_step (fail))
                refine wpQuiet_nil ?_
                refine U_done (by kernel_rfl) ?_
                gi_wp2
                gi_meet
                case rel => exact ⟨by rw [HQ.out], HX.out⟩
              · simp only [pickL, List.getElem?_cons_succ, List.getElem?_cons_zero]
                go_wp2_with fail
                refine (HTK.out _ HX.out).mono ?_
                rintro e w25 ⟨rfl, hB⟩
                have HP1 := Lib.hid (btr HP1.out hB)
                have HP3 := Lib.hid (btr HP3.out hB)
                have HX := Lib.hid (btr HX.out hB)
                clear hB
                go_wp2
                refine seg_grow ⟨⟨_, HX.out⟩, rfl⟩ ?_
                refine U_one 15 (by kernel_rfl) ?_
                simp only [pickL, List.getElem?_cons_succ, List.getElem?_cons_zero]
                obtain ⟨kc, kz⟩ := HK3.out _ HP3.out
                go_wp2
                clear kc kz
                refine seg_grow ⟨⟨_, HX.out⟩, rfl⟩ ?_
                refine U_heads [16, 20] (by kernel_rfl) ⟨⟨_, HX.out⟩, rfl⟩ ?_
                simp only [pickL, List.getElem?_cons_succ, List.getElem?_cons_zero]
                repeat (go_big_quiet_step (fail))
                refine wpQuiet_nil ?_
                refine U_done (by kernel_rfl) ?_
                gi_wp2
                gi_meet
                case rel => exact ⟨by rw [HQ.out], HX.out⟩
            · simp only [pickL, List.getElem?_cons_succ, List.getElem?_cons_zero]
              obtain ⟨kc, kz⟩ := HK3.out _ HP3.out
              go_wp2
              clear kc kz
              refine seg_grow ⟨⟨_, HX.out⟩, rfl⟩ ?_
              refine U_two 5 19 (by kernel_rfl) ?_ ?_
              · simp only [pickL, List.getElem?_cons_succ, List.getElem?_cons_zero]
                obtain ⟨kc, kz⟩ := HK1.out _ HP1.out
                go_wp2
                clear kc kz
                refine seg_grow ⟨⟨_, HX.out⟩, rfl⟩ ?_
                refine U_heads [9, 16] (by kernel_rfl) ⟨⟨_, HX.out⟩, rfl⟩ ?_
                simp only [pickL, List.getElem?_cons_succ, List.getElem?_cons_zero]
                repeat (go_big_quiet_step (fail))
                refine wpQuiet_nil ?_
                refine U_one 19 (by kernel_rfl) ?_
                simp only [pickL, List.getElem?_cons_succ, List.getElem?_cons_zero]
                go_wp2_with fail
                refine (HTK.out _ HX.out).mono ?_
                rintro e w26 ⟨rfl, hB⟩
                have HP1 := Lib.hid (btr HP1.out hB)
                have HP3 := Lib.hid (btr HP3.out hB)
                have HX := Lib.hid (btr HX.out hB)
                clear hB
                go_wp2
                refine seg_grow ⟨⟨_, HX.out⟩, rfl⟩ ?_
                refine U_heads [20] (by kernel_rfl) ⟨⟨_, HX.out⟩, rfl⟩ ?_
                simp only [pickL, List.getElem?_cons_succ, List.getElem?_cons_zero]
                repeat (go_big_quiet_step (fail))
                refine wpQuiet_nil ?_
                refine U_done (by kernel_rfl) ?_
                gi_wp2
                gi_meet
                case rel => exact ⟨by rw [HQ.out], HX.out⟩
              · simp only [pickL, List.getElem?_cons_succ, List.getElem?_cons_zero]
                go_wp2_with fail
                refine (HTK.out _ HX.out).mono ?_
                rintro e w25 ⟨rfl, hB⟩
                have HP1 := Lib.hid (btr HP1.out hB)
                have HP3 := Lib.hid (btr HP3.out hB)
                have HX := Lib.hid (btr HX.out hB)
                clear hB
                go_wp2
                refine seg_grow ⟨⟨_, HX.out⟩, rfl⟩ ?_
                refine U_one 5 (by kernel_rfl) ?_
                simp only [pickL, List.getElem?_cons_succ, List.getElem?_cons_zero]
                obtain ⟨kc, kz⟩ := HK1.out _ HP1.out
                go_wp2
                clear kc kz
                refine seg_grow ⟨⟨_, HX.out⟩, rfl⟩ ?_
                refine U_heads [9, 16, 20] (by kernel_rfl) ⟨⟨_, HX.out⟩, rfl⟩ ?_
                simp only [pickL, List.getElem?_cons_succ, List.getElem?_cons_zero]
                repeat (go_big_quiet_step (fail))
                refine wpQuiet_nil ?_
                refine U_done (by kernel_rfl) ?_
                gi_wp2
                gi_meet
                case rel => exact ⟨by rw [HQ.out], HX.out⟩
            · simp only [pickL, List.getElem?_cons_succ, List.getElem?_cons_zero]
              go_wp2_with fail
              refine (HTK.out _ HX.out).mono ?_
              rintro e w24 ⟨rfl, hB⟩
              have HP1 := Lib.hid (btr HP1.out hB)
              have HP3 := Lib.hid (btr HP3.out hB)
              have HX := Lib.hid (btr HX.out hB)
              clear hB
              go_wp2
              refine seg_grow ⟨⟨_, HX.out⟩, rfl⟩ ?_
              refine U_two 5 15 (by kernel_rfl) ?_ ?_
              · simp only [pickL, List.getElem?_cons_succ, List.getElem?_cons_zero]
                obtain ⟨kc, kz⟩ := HK1.out _ HP1.out
                go_wp2
                clear kc kz
                refine seg_grow ⟨⟨_, HX.out⟩, rfl⟩ ?_
                refine U_heads [9] (by kernel_rfl) ⟨⟨_, HX.out⟩, rfl⟩ ?_
                simp only [pickL, List.getElem?_cons_succ, List.getElem?_cons_zero]
                repeat (go_big_quiet_step (fail))
                refine wpQuiet_nil ?_
                refine U_one 15 (by kernel_rfl) ?_
                simp only [pickL, List.getElem?_cons_succ, List.getElem?_cons_zero]
                obtain ⟨kc, kz⟩ := HK3.out _ HP3.out
                go_wp2
                clear kc kz
                refine seg_grow ⟨⟨_, HX.out⟩, rfl⟩ ?_
                refine U_heads [16, 20] (by kernel_rfl) ⟨⟨_, HX.out⟩, rfl⟩ ?_
                simp only [pickL, List.getElem?_cons_succ, List.getElem?_cons_zero]
                repeat (go_big_quiet_step (fail))
                refine wpQuiet_nil ?_
                refine U_done (by kernel_rfl) ?_
                gi_wp2
                gi_meet
                case rel => exact ⟨by rw [HQ.out], HX.out⟩
              · simp only [pickL, List.getElem?_cons_succ, List.getElem?_cons_zero]
                obtain ⟨kc, kz⟩ := HK3.out _ HP3.out
                go_wp2
                clear kc kz
                refine seg_grow ⟨⟨_, HX.out⟩, rfl⟩ ?_
                refine U_one 5 (by kernel_rfl) ?_
                simp only [pickL, List.getElem?_cons_succ, List.getElem?_cons_zero]
                obtain ⟨kc, kz⟩ := HK1.out _ HP1.out
                go_wp2
                clear kc kz
                refine seg_grow ⟨⟨_, HX.out⟩, rfl⟩ ?_
                refine U_heads [9, 16, 20] (by kernel_rfl) ⟨⟨_, HX.out⟩, rfl⟩ ?_
                simp only [pickL, List.getElem?_cons_succ, List.getElem?_cons_zero]
                repeat (go_big_quiet_step (fail))
                refine wpQuiet_nil ?_
                refine U_done (by kernel_rfl) ?_
                gi_wp2
                gi_meet
                case rel => exact ⟨by rw [HQ.out], HX.out⟩
      case rest =>
        obtain ⟨rfl, hB7⟩ := hcut
        have HB7 := Lib.hid hB7
        have hz := HZI.out
        have v5 := (hB7.cell (p := ⟨b5, 0, none⟩) (by show b5 < W2.heap.size; omega)).trans G5.out
        have v6 := (hB7.cell (p := ⟨b6, 0, none⟩) (by show b6 < W2.heap.size; omega)).trans G6.out
        have f5 := (World.frozen?_of_block (hB7.block b5 (by omega))).trans GF.out.1
        have f6 := (World.frozen?_of_block (hB7.block b6 (by omega))).trans GF.out.2
        have HF7 := Lib.hid (HF2.out.trans (Fr.of_below hB7))
        have hpx := HPX.out
        rw [HON.out, HOF.out] at hpx
        generalize onN J i pre = on at *
        generalize offN J i pre = off at *
        have wr3 : IntKind.i64.wrap ((on : Int) + 1) = (on : Int) + 1 := IntWalk.i64_in _ (by omega)
        have wr4 : IntKind.i64.wrap ((off : Int) + 1) = (off : Int) + 1 := IntWalk.i64_in _ (by omega)
        clear hB7 hpx
        cases q with
        | true =>
          have HO5 := Lib.hid (show ((onN J i (pre ++ [x]) : Nat) : Int) = (on : Int) + 1 by rw [HON.out]; simp)
          have HO6 := Lib.hid (show offN J i (pre ++ [x]) = off by rw [HOF.out]; simp)
          gi_wp2
          refine ⟨(KF.of_below HB7.out).set (p := ⟨b5, 0, none⟩) (by show b5 < bx + 1; omega) _, HF7.out.trans (Fr.set (p := ⟨b5, 0, none⟩) (.inl rfl) _), ⟨?_, by rw [World.frozen?_setCell]; exact f5⟩, ?_, by rw [World.frozen?_setCell]; exact f6⟩
          · rw [HO5.out]
            exact World.cell?_setCell_same' _ _ _ (by rw [v5]; rfl)
          · rw [HO6.out, World.cell?_setCell_other _ _ _ _ (fun e => hz.2.2.2.2.2.2.2.2.1 (congrArg Addr.block e))]
            exact v6
        | false =>
          have HO5 := Lib.hid (show onN J i (pre ++ [x]) = on by rw [HON.out]; simp)
          have HO6 := Lib.hid (show ((offN J i (pre ++ [x]) : Nat) : Int) = (off : Int) + 1 by rw [HOF.out]; simp)
          gi_wp2
          refine ⟨(KF.of_below HB7.out).set (p := ⟨b6, 0, none⟩) (by show b6 < bx + 1; omega) _, HF7.out.trans (Fr.set (p := ⟨b6, 0, none⟩) (.inr rfl) _), ⟨?_, by rw [World.frozen?_setCell]; exact f5⟩, ?_, by rw [World.frozen?_setCell]; exact f6⟩
          · rw [HO5.out, World.cell?_setCell_other _ _ _ _ (fun e => hz.2.2.2.2.2.2.2.2.1 (congrArg Addr.block e).symm)]
            exact v5
          · rw [HO6.out]
            exact World.cell?_setCell_same' _ _ _ (by rw [v6]; rfl)
    case done =>
      rintro X ⟨hF, ⟨h5, k5⟩, h6, k6⟩ hDD
      have HD := Lib.hid hDD
      have HBX := Lib.hid (Fr.below hF HB6.out (fun j hj => by have := HZI.out; omega))
      have hon := onN_le J i (List.prefix_refl (chs J)) HJ.out.n12
      generalize onN J i (chs J) = on at *
      generalize offN J i (chs J) = off at *
      clear hDD hF
      have fin : ∀ q : Int, ans = q → ∀ tm : Array Value, tm.getD 4 undef = .int .i64 q → tm.size = 50 → bodyPostM Fence.wide 10 Tryz.prog Tryz.f71 (fun e w' => e = .returned (.int .i64 ans) ∧ Below w.heap.size w w') .ret { tmps := tm, defers := [{ target := .collected w6.heap.size, args := #[] }] } X := by
        intro q hq tm h4 hsz
        refine ⟨by simp, .inl ⟨_, _, rfl, run_takeDeferred HD.out, ?_⟩⟩
        exact ⟨_, results_tmp rfl _ _ _, by rw [h4, hq], below_put HBX.out (.deferred none) (r := w6.heap.size) HB6.out.size⟩
      cases ho : (off == 0) with
      | true =>
        have d1 : ((off : Int) == 0) = true := by rw [← ho]; cases off <;> rfl
        have HA := Lib.hid (show ans = 2 by rw [HK.out, if_pos (by simpa using ho)])
        clear ho
        gi_wp2
        exact fin 2 HA.out _ rfl rfl
      | false =>
        have d1 : ((off : Int) == 0) = false := by rw [← ho]; cases off <;> rfl
        have ho2 : ¬ off = 0 := by simpa using ho
        cases hq : (on == 0) with
        | true =>
          have d2 : ((on : Int) == 0) = true := by rw [← hq]; cases on <;> rfl
          have HA := Lib.hid (show ans = 0 by rw [HK.out, if_neg ho2, if_pos (by simpa using hq)])
          clear ho hq ho2
          gi_wp2
          exact fin 0 HA.out _ rfl rfl
        | false =>
          have d2 : ((on : Int) == 0) = false := by rw [← hq]; cases on <;> rfl
          have HA := Lib.hid (show ans = 1 by rw [HK.out, if_neg ho2, if_neg (by simpa using hq)])
          clear ho hq ho2
          gi_wp2
          exact fin 1 HA.out _ rfl rfl
    case stop =>
      rintro c pre W _ h _
      exact h.elim
end Go.Proofs.YteknehlkdgamjaaGreat

namespace Go.Proofs.YteknehlkdgamjaaGreat
open Go.RowKit Go.Shelf

def kindC (J : List Job) (j : Int) : Int := if errC J = 0 then (if outB 0 ((J.length : Int) - 1) j then 3 else 0) else errC J
def kindV (J : List Job) (j : Int) : Int := if kindC J j = 0 then kindR J j.toNat else 0
set_option maxRecDepth 100000 in
set_option maxHeartbeats 1600000 in
theorem pkind_any (v : Value) (J : List Job) (j : Int) (w : World) (hx0 : RdJ w v J) (hs : SmJ J) :
    Calls Tryz.prog 31 #[.agg #[v], .int .i64 j] w (RetN w (kindV J j) (kindC J j)) := by
  have HO := Lib.hid (fun wz (h : Below w.heap.size w wz) => open_any v J wz (hx0.mono h) hs)
  obtain ⟨a, c, rfl⟩ := hx0.sl
  have hsn := hs.1
  clear hx0 hs
  obtain ⟨n, hn⟩ : ∃ n, n = J.length := ⟨_, rfl⟩
  have HN := Lib.hid hn
  have HC := Lib.hid (show kindC J j = if errC J = 0 then (if outB 0 ((J.length : Int) - 1) j then 3 else 0) else errC J from rfl)
  have HV := Lib.hid (show kindV J j = if kindC J j = 0 then kindR J j.toNat else 0 from rfl)
  have HOUT := Lib.hid (show outB 0 ((J.length : Int) - 1) j = false → 0 ≤ j ∧ j.toNat < J.length from by unfold outB; intro h; simp at h; omega)
  rw [← hn] at HO HC hsn HOUT ⊢
  clear hn
  have gq : (w.alloc (.cells #[.slice a n c] 24)).cell? ⟨w.heap.size, 0, none⟩ = some (.slice a n c) := cnew rfl rfl
  have zq : w.heap.size < (w.alloc (.cells #[.slice a n c] 24)).heap.size := by simp
  have HB0 := Lib.hid (bal (bz w) (.cells #[.slice a n c] 24))
  unfold Opened at HO
  unfold RetN
  generalize hq0 : errC J = q at *
  have HQ := Lib.hid hq0
  clear hq0
  generalize kindC J j = C at *
  generalize kindV J j = V at *
  go_enter Tryz.func31, Tryz.ntmps31
  go_wp2_with fail
  generalize w.alloc (.cells #[.slice a n c] 24) = w3 at *
  refine (HO.out _ HB0.out).mono ?_
  rintro e w4 ⟨hO, hB⟩
  have HB4 := Lib.hid (btr HB0.out hB)
  have g4 := (hB.cell (p := ⟨w.heap.size, 0, none⟩) zq).trans gq
  have z4 := Nat.lt_of_lt_of_le zq hB.size
  clear hB gq zq HO
  rcases hO with ⟨hq, rfl⟩ | ⟨rfl, d, rfl, hdk, hdz⟩
  · have t1 : (q != 0) = true := by simp [hq]
    rw [if_neg hq] at HC
    have HVV := Lib.hid (show V = 0 by rw [HV.out, if_neg (by rw [HC.out]; exact hq)])
    clear hq
    go_wp2_with fail
    go_ret2
    exact ⟨by rw [HVV.out, HC.out]; rfl, HB4.out⟩
  · rw [if_pos rfl] at HC
    have HFI := Lib.hid (fine_err HQ.out)
    have h12 : n ≤ 12 := by have := HFI.out.1.n12; have := HN.out; omega
    have HD := Lib.hid hdk
    clear hdk hdz
    have hw1 : IntKind.i64.wrap ((n : Int) - 1) = (n : Int) - 1 := IntWalk.i64_in _ (by omega)
    have HR := Lib.hid (rdI_oneAt w4 j w4.heap.size rfl)
    go_wp2_with fail
    refine (within_any _ [j] 0 ((n : Int) - 1) _ HR.out (by simp)).mono ?_
    rintro e w5 ⟨rfl, hB⟩
    have HB45 := Lib.hid (btr (bal (bz w4) _) hB)
    have HB5 := Lib.hid (btr HB4.out HB45.out)
    have HD5 := Lib.hid (HD.out.mono HB45.out)
    rw [show [j].any (outB 0 ((n : Int) - 1)) = outB 0 ((n : Int) - 1) j by simp]
    generalize outB 0 ((n : Int) - 1) j = ob at *
    clear hB g4 z4
    cases ob with
    | true =>
      have HC2 := Lib.hid (show C = 3 by rw [HC.out]; rfl)
      have HVV := Lib.hid (show V = 0 by rw [HV.out, if_neg (by rw [HC2.out]; decide)])
      go_wp2_with fail
      go_ret2
      exact ⟨by rw [HVV.out, HC2.out]; rfl, HB5.out⟩
    | false =>
      have HC2 := Lib.hid (show C = 0 by rw [HC.out]; rfl)
      have HVV := Lib.hid (show V = kindR J j.toNat by rw [HV.out, if_pos HC2.out])
      obtain ⟨ho1, ho2⟩ := HOUT.out rfl
      obtain ⟨i, hi⟩ := Int.eq_ofNat_of_zero_le ho1
      subst hi
      rw [Int.toNat_natCast] at ho2 HVV
      clear HV HOUT HC
      go_wp2_with fail
      refine (kind_any d i J w5 HD5.out HFI.out.1 HFI.out.2 (by have := HN.out; omega)).mono ?_
      rintro e w6 ⟨rfl, hB⟩
      have HB6 := Lib.hid (btr HB5.out hB)
      clear hB
      go_wp2_with fail
      go_ret2
      exact ⟨by rw [HVV.out, HC2.out]; rfl, HB6.out⟩
end Go.Proofs.YteknehlkdgamjaaGreat

namespace Go.Proofs.YteknehlkdgamjaaGreat
open Go.RowKit Go.Shelf

/-- What Free returns: an error and no list; or the jobs that are free by a match. -/
def FreeOut (J : List Job) (w : World) (e : Ending) (w' : World) : Prop :=
  ((errC J ≠ 0 ∧ e = .returned (.tuple #[.slice none 0 0, .int .i64 (errC J)])) ∨
    (errC J = 0 ∧ ∃ v nx bf F G, e = .returned (.tuple #[v, .int .i64 0]) ∧ MatI J nx bf J.length ∧ FrI J nx bf F G [] J.length 0 ∧ RdI w' .i64 v (ints (frTo F G J.length)))) ∧ Below w.heap.size w w'
/-- What Cover returns: an error and no lists; or the lists of a match. -/
def CoverOut (J : List Job) (w : World) (e : Ending) (w' : World) : Prop :=
  ((errC J ≠ 0 ∧ e = .returned (.tuple #[.slice none 0 0, .int .i64 (errC J)])) ∨
    (errC J = 0 ∧ ∃ v nx bf, e = .returned (.tuple #[v, .int .i64 0]) ∧ MatI J nx bf J.length ∧ RdLL w' v (covI J nx bf J.length))) ∧ Below w.heap.size w w'
set_option maxRecDepth 100000 in
set_option maxHeartbeats 1600000 in
theorem pfree_any (v : Value) (J : List Job) (w : World) (hx0 : RdJ w v J) (hs : SmJ J) : Calls Tryz.prog 42 #[.agg #[v]] w (FreeOut J w) := by
  have HO := Lib.hid (fun wz (h : Below w.heap.size w wz) => open_any v J wz (hx0.mono h) hs)
  obtain ⟨a, c, rfl⟩ := hx0.sl
  clear hx0 hs
  have HB0 := Lib.hid (bal (bz w) (.cells #[.slice a J.length c] 24))
  unfold Opened at HO
  generalize hq0 : errC J = q at HO
  have HQ := Lib.hid hq0
  clear hq0
  obtain ⟨n, hn⟩ : ∃ n, n = J.length := ⟨_, rfl⟩
  have HN := Lib.hid hn
  rw [← hn] at HO HB0 ⊢
  clear hn
  go_enter Tryz.func42, Tryz.ntmps42
  go_wp2_with fail
  refine (HO.out _ HB0.out).mono ?_
  rintro e w4 ⟨hO, hB⟩
  have HB4 := Lib.hid (btr HB0.out hB)
  clear hB
  rcases hO with ⟨hq, rfl⟩ | ⟨rfl, d, rfl, hdk, hdz⟩
  · have t1 : (q != 0) = true := by simp [hq]
    have HQ2 := Lib.hid hq
    clear hq
    go_wp2_with fail
    go_ret2
    exact ⟨.inl ⟨by rw [HQ.out]; exact HQ2.out, by rw [HQ.out]; rfl⟩, HB4.out⟩
  · have HFI := Lib.hid (fine_err HQ.out)
    have HD := Lib.hid hdk
    clear hdk hdz
    go_wp2_with fail
    refine (match_any d J w4 HD.out HFI.out.1).mono ?_
    rintro e w5 ⟨gn, gb, nx, bf, rfl, hN, hF, hne, hz1, hz2, hm, hB⟩
    have HB5 := Lib.hid (btr HB4.out hB)
    have HD5 := Lib.hid (HD.out.mono hB)
    have HNX := Lib.hid hN; have HBF := Lib.hid hF; have HM := Lib.hid hm
    rw [← HN.out] at HM ⊢
    clear hN hF hne hz1 hz2 hm hB
    go_wp2_with fail
    refine (free_any d gn gb n J nx bf w5 HD5.out HFI.out.1 HN.out HNX.out HBF.out HM.out).mono ?_
    rintro e w6 ⟨v6, F, G, rfl, hfr, hr, hB⟩
    have HB6 := Lib.hid (btr HB5.out hB)
    have HFR := Lib.hid hfr; have HR := Lib.hid hr
    clear hfr hr hB
    go_wp2_with fail
    go_ret2
    exact ⟨.inr ⟨HQ.out, v6, nx, bf, F, G, rfl, by rw [← HN.out]; exact HM.out, HFR.out, by rw [← HN.out]; exact HR.out⟩, HB6.out⟩
set_option maxRecDepth 100000 in
set_option maxHeartbeats 1600000 in
theorem pcover_any (v : Value) (J : List Job) (w : World) (hx0 : RdJ w v J) (hs : SmJ J) : Calls Tryz.prog 44 #[.agg #[v]] w (CoverOut J w) := by
  have HO := Lib.hid (fun wz (h : Below w.heap.size w wz) => open_any v J wz (hx0.mono h) hs)
  obtain ⟨a, c, rfl⟩ := hx0.sl
  clear hx0 hs
  have HB0 := Lib.hid (bal (bz w) (.cells #[.slice a J.length c] 24))
  unfold Opened at HO
  generalize hq0 : errC J = q at HO
  have HQ := Lib.hid hq0
  clear hq0
  obtain ⟨n, hn⟩ : ∃ n, n = J.length := ⟨_, rfl⟩
  have HN := Lib.hid hn
  rw [← hn] at HO HB0 ⊢
  clear hn
  go_enter Tryz.func44, Tryz.ntmps44
  go_wp2_with fail
  refine (HO.out _ HB0.out).mono ?_
  rintro e w4 ⟨hO, hB⟩
  have HB4 := Lib.hid (btr HB0.out hB)
  clear hB
  rcases hO with ⟨hq, rfl⟩ | ⟨rfl, d, rfl, hdk, hdz⟩
  · have t1 : (q != 0) = true := by simp [hq]
    have HQ2 := Lib.hid hq
    clear hq
    go_wp2_with fail
    go_ret2
    exact ⟨.inl ⟨by rw [HQ.out]; exact HQ2.out, by rw [HQ.out]; rfl⟩, HB4.out⟩
  · have HFI := Lib.hid (fine_err HQ.out)
    have HD := Lib.hid hdk
    clear hdk hdz
    go_wp2_with fail
    refine (match_any d J w4 HD.out HFI.out.1).mono ?_
    rintro e w5 ⟨gn, gb, nx, bf, rfl, hN, hF, hne, hz1, hz2, hm, hB⟩
    have HB5 := Lib.hid (btr HB4.out hB)
    have HD5 := Lib.hid (HD.out.mono hB)
    have HNX := Lib.hid hN; have HBF := Lib.hid hF; have HM := Lib.hid hm
    rw [← HN.out] at HM ⊢
    clear hN hF hne hz1 hz2 hm hB
    go_wp2_with fail
    refine (cover_any d gn gb n J nx bf w5 HD5.out HFI.out.1 HFI.out.2 HN.out HNX.out HBF.out HM.out.mat).mono ?_
    rintro e w6 ⟨v6, rfl, hr, hB⟩
    have HB6 := Lib.hid (btr HB5.out hB)
    have HR := Lib.hid hr
    rw [← HN.out] at HR
    clear hr hB
    go_wp2_with fail
    go_ret2
    exact ⟨.inr ⟨HQ.out, v6, nx, bf, rfl, by rw [← HN.out]; exact HM.out, by rw [← HN.out]; exact HR.out⟩, HB6.out⟩
end Go.Proofs.YteknehlkdgamjaaGreat
