/- Merged texts: lasting, proved, CheckTimes, Reverse; which times prove the most. -/
import Derived.Test.YtjajdpggoggoiaaGA
import Derived.Test.YtjajdpggoggoiaaGB
import Derived.Test.YtjajdpggoggoiaaGC
import Derived.Test.YtjajdpggoggoiaaGD
namespace Go.Proofs.Ytjajdpggoggoiaa
open Go.RowKit Go.Shelf
attribute [local go_sem] Oper.semAt_some

def pauseB (W : List Int) (a b : Nat) : Bool := decide (want W b = want W a) && soleB W a b
/-- The pauses that end at a want, and begin before k. -/
def endsK (W : List Int) (b k : Nat) : List (Int × Int) := ((List.range k).filter fun a => pauseB W a b).map fun (a : Nat) => ((a : Int), (b : Int))
/-- The pauses that end before k, by their ends. -/
def lastL (W : List Int) (k : Nat) : List (Int × Int) := (List.range k).flatMap fun b => endsK W b b
theorem endsK_succ (W : List Int) (b k : Nat) : endsK W b (k + 1) = if pauseB W k b then endsK W b k ++ [((k : Int), (b : Int))] else endsK W b k := by
  unfold endsK
  rw [List.range_succ, List.filter_append, List.map_append]
  by_cases h : pauseB W k b
  · simp [h]
  · simp [h]
theorem lastL_succ (W : List Int) (k : Nat) : lastL W (k + 1) = lastL W k ++ endsK W k k := by
  unfold lastL
  rw [List.range_succ, List.flatMap_append]; simp
theorem endsK_pre (W : List Int) (b : Nat) : ∀ k, k ≤ b → endsK W b k <+: endsK W b b := by
  have key : ∀ d k, endsK W b k <+: endsK W b (k + d) := by
    intro d
    induction d with
    | zero => intro k; exact List.prefix_refl _
    | succ d ih =>
      intro k
      refine (ih k).trans ?_
      rw [← Nat.add_assoc, endsK_succ]
      split
      · exact List.prefix_append _ _
      · exact List.prefix_refl _
  intro k hk
  have := key (b - k) k
  rwa [show k + (b - k) = b by omega] at this
theorem lastL_pre (W : List Int) : ∀ d k, lastL W k <+: lastL W (k + d)
  | 0, _ => List.prefix_refl _
  | d + 1, k => by
    refine (lastL_pre W d k).trans ?_
    rw [← Nat.add_assoc, lastL_succ]
    exact List.prefix_append _ _
theorem here_pre (W : List Int) {b k n : Nat} (hb : b < n) (hk : k ≤ b) : lastL W b ++ endsK W b k <+: lastL W n := by
  have h1 := lastL_pre W (n - (b + 1)) (b + 1)
  rw [show b + 1 + (n - (b + 1)) = n by omega, lastL_succ] at h1
  exact ((List.prefix_append_right_inj _).2 (endsK_pre W b k hk)).trans h1
/-- What the map says of a pair. -/
theorem lookup_pause {w : World} {M : Nat} {L : Ents} {c : Nat} {W : List Int} (hm : w.heap[M]? = some (.map (entsOf L) c)) (hp : PsM W L) {a b : Nat} (hab : a < b) (hb : b < W.length) :
    (Instr.lookup 61 (.map (some M)) (kv ((a : Int), (b : Int))) false).run Try.prog w = .ok (.int .i64 (if pauseB W a b then want W b else 0)) w := by
  have hf := run_findKey w ((a : Int), (b : Int)) L
  cases hr : findL ((a : Int), (b : Int)) L 0 with
  | none =>
    rw [hr] at hf
    have hno := findL_none hr
    have : pauseB W a b = false := by
      rw [← Bool.not_eq_true]
      intro h
      unfold pauseB at h
      rw [Bool.and_eq_true, decide_eq_true_eq] at h
      obtain ⟨t, ht⟩ := (hp ((a : Int), (b : Int)) (want W b)).2 ⟨a, b, hab, hb, rfl, rfl, h.1, h.2⟩
      exact hno (List.mem_map.2 ⟨_, ht, rfl⟩)
    rw [this]
    simp [Instr.lookup, Sem.run_bind, run_underlying Try.underlying61, Result.andThen_ok, run_getMap hm, checkStruct w _ _, hf]
  | some q =>
    obtain ⟨j, v⟩ := q
    rw [hr] at hf
    obtain ⟨k, e, _, he, e1, e2⟩ := findL_some hr
    obtain ⟨x, m, t⟩ := e
    simp only at e1 e2
    subst e1
    have hmem := List.mem_of_getElem? he
    obtain ⟨a', b', h1, h2, h3, h4, h5, h6⟩ := (hp _ _).1 ⟨t, hmem⟩
    simp only [Prod.mk.injEq] at h3
    have ea : a' = a := by omega
    have eb : b' = b := by omega
    subst ea; subst eb
    have : pauseB W a' b' = true := by unfold pauseB; rw [Bool.and_eq_true, decide_eq_true_eq]; exact ⟨h5, h6⟩
    rw [this, if_pos rfl, ← h4, ← e2]
    simp [Instr.lookup, Sem.run_bind, run_underlying Try.underlying61, Result.andThen_ok, run_getMap hm, checkStruct w _ _, hf]
set_option maxRecDepth 100000 in
set_option maxHeartbeats 4000000 in
theorem lasting_yields (n : Nat) (cb bb : Nat) (R : Int) (W on : List Int) (hpos : ∀ i, i < W.length → 0 < want W i) (hl : W.length ≤ 1000) :
    Yields n Try.prog 83 #[.pointer (some ⟨cb, 0, none⟩)] (fun x => #[kv x]) 0 (fun w => w.cell? ⟨cb, 0, none⟩ = some (.pointer (some ⟨bb, 0, none⟩)) ∧ IsBench w bb R W on) (lastL W W.length) := by
  intro l J Jx w hJ hJx hR hY h0
  obtain ⟨r1, r2⟩ := hR _ _ h0
  obtain ⟨x, M, L, c, hD, _, _, _, hx0⟩ := r2
  obtain ⟨a, ca, rfl, _, _, _⟩ := hx0.form
  have c1 := hD.cells.2.1
  have hz := hD.lt
  have hzc := World.block_lt_of_cell? w _ r1
  clear hD hx0
  refine callsIn_of_wp Try.func83 rfl trivial ?_ rfl
  simp only [Try.ntmps83, List.size_toArray, List.length_cons, List.length_nil, Nat.reduceAdd, Nat.reduceSub, Array.replicate_succ, Array.replicate_zero, List.push_toArray, List.append_toArray, List.nil_append, List.cons_append]
  gi_wp2
  gi_loopw [3, 4, 5, 12, 16] (fun _ _ _ bv _ wr => ∃ b : Nat, b ≤ W.length ∧ bv = .int .i64 b ∧ J (lastL W b) wr ∧ w.heap.size ≤ wr.heap.size) (fun _ _ _ bv _ _ => W.length - (intOf bv).toNat)
  case atStart => exact ⟨0, Nat.zero_le _, rfl, h0, Nat.le_refl _⟩
  case round =>
    obtain ⟨b, hb, rfl, hj, hs⟩ := hrel
    have HJ := Lib.hid hj; clear hj
    by_cases hlt : b < W.length
    · gi_wp2
      gi_loopw [4, 5, 16] (fun _ _ iv wr => ∃ i : Nat, i ≤ b ∧ iv = .int .i64 i ∧ J (lastL W b ++ endsK W b i) wr ∧ w.heap.size ≤ wr.heap.size) (fun _ _ iv _ => b - (intOf iv).toNat)
      case atStart => exact ⟨0, Nat.zero_le _, rfl, by rw [show endsK W b 0 = [] from rfl, List.append_nil]; exact HJ.out, hs⟩
      case round =>
        obtain ⟨i, hi, rfl, hj, hs'⟩ := hrel
        rename World => wi
        clear HJ hs
        have HJ := Lib.hid hj; clear hj
        by_cases hli : i < b
        · obtain ⟨q1, q2⟩ := hR _ _ HJ.out
          obtain ⟨x', M', L', c', hD', hM', hO', hP', _⟩ := q2
          have d2 := hD'.cells.2.2
          have dz := hD'.lt
          have qz := World.block_lt_of_cell? wi _ q1
          have mz := (Array.getElem?_eq_some_iff.1 hM').1
          have HJA := Lib.hid (fun wz (hB : Below wi.heap.size wi wz) => hJ _ _ _ none HJ.out (grown_of hB) (fun r e => by cases e))
          have HLK := Lib.hid (fun wz (hB : Below wi.heap.size wi wz) => lookup_pause (w := wz) (M := M') ((hB.block _ mz).trans hM') hP' hli hlt)
          have HST := Lib.hid (endsK_succ W b i)
          have HPRE := Lib.hid (here_pre W hlt (show i + 1 ≤ b by omega))
          have HPOS := Lib.hid (hpos b hlt)
          clear hD' hM' hO' hP'
          have hz96 : (Try.prog.info? 96).map (·.size) = some 2 := by kernel_rfl
          have HZ96 := Lib.hid hz96
          clear hz96
          by_cases hpb : pauseB W i b = true
          · rw [hpb] at HST HLK
            rw [if_pos rfl] at HST HLK
            generalize want W b = q at *
            have hqp : decide (0 < q) = true := decide_eq_true HPOS.out
            gi_wp2
            have HB0 := Lib.hid (bal (bz wi) (Obj.cells #[Value.int .i64 (i : Int), Value.int .i64 (b : Int)] 96))
            have e5 := heap_alloc_new wi (Obj.cells #[Value.int .i64 (i : Int), Value.int .i64 (b : Int)] 96)
            have q1' := (HB0.out.cell (p := ⟨cb, 0, none⟩) qz).trans q1
            have d2' := (HB0.out.cell (p := ⟨bb, 11, none⟩) dz).trans d2
            have z1 := Nat.lt_of_lt_of_le qz HB0.out.size
            have z2 := Nat.lt_of_lt_of_le dz HB0.out.size
            obtain ⟨nb, hnb⟩ : ∃ nb, wi.heap.size = nb := ⟨_, rfl⟩
            rw [hnb] at e5
            rw [hnb]
            generalize wi.alloc (Obj.cells #[Value.int .i64 (i : Int), Value.int .i64 (b : Int)] 96) = wz at *
            have HE5 := Lib.hid e5
            have hlk := fun l : Later wz => HLK.out l.val (btr HB0.out l.le)
            unfold kv at hlk
            simp only at hlk
            have hL := @Later.cell wz
            clear e5 q1 d2
            refine in_region_tailF (r := none) 10 (by kernel_rfl) (by kernel_rfl) (by rfl) ?_
            simp only [List.take_succ_cons, List.take_zero]
            repeat (first
              | (refine wpQuiet_load_rowG (by rfl) 96 (.tmp 5) rfl nb rfl 96 #[.int .i64 (i : Int), .int .i64 (b : Int)] (0, 0) _ HE5.out Try.struct96 rfl HZ96.out ?_)
              | (quiet_step (fail)))
            refine wpQuiet_nil ?_
            rintro w' ⟨lx, rfl⟩
            have HBx := Lib.hid (btr HB0.out lx.le)
            obtain ⟨fn, tmps, assign, body, hy, hR2⟩ := hY _ ((i : Int), (b : Int)) _ (HJA.out _ HBx.out) (by have := HPRE.out; rw [HST.out, ← List.append_assoc] at this; exact this) (by have := HBx.out.size; omega)
            rw [show lastL W b ++ endsK W b i ++ [((i : Int), (b : Int))] = lastL W b ++ endsK W b (i + 1) by rw [HST.out, List.append_assoc]] at hR2
            have hs2 := HBx.out.size
            generalize lx.val = wv at *
            clear hlk hL q1' d2' z1 z2 lx
            unfold kv at hy
            simp only at hy
            simp only [List.drop_succ_cons, List.drop_zero, Act.put]
            gi_wp2
            refine ⟨fun h => by simp [Fence.wide] at h, ?_⟩
            refine hR2.mono ?_
            rintro e W3 (⟨rfl, hJ3, hs3, _⟩ | ⟨rfl, hJx3⟩)
            · have HJ3 := Lib.hid hJ3; clear hJ3
              gi_wp2
              exact ⟨⟨i + 1, by omega, by go_num, HJ3.out, by omega⟩, by simp [intOf]; omega⟩
            · have HJ3 := Lib.hid hJx3; clear hJx3
              gi_wp2
              refine bodyPost_ret (results_none rfl _ _ _) rfl ?_
              exact ⟨⟨_, rfl⟩, .inr ⟨_, here_pre W hlt (by omega), HJ3.out⟩⟩
          · have hpf : pauseB W i b = false := by simpa using hpb
            rw [hpf] at HST HLK
            rw [if_neg (by simp)] at HST
            have HLK2 := Lib.hid (fun wz hB => (HLK.out wz hB))
            simp only [Bool.false_eq_true, if_false] at HLK2
            clear HLK hpb hpf
            gi_wp2
            have HB0 := Lib.hid (bal (bz wi) (Obj.cells #[Value.int .i64 (i : Int), Value.int .i64 (b : Int)] 96))
            have e5 := heap_alloc_new wi (Obj.cells #[Value.int .i64 (i : Int), Value.int .i64 (b : Int)] 96)
            have q1' := (HB0.out.cell (p := ⟨cb, 0, none⟩) qz).trans q1
            have d2' := (HB0.out.cell (p := ⟨bb, 11, none⟩) dz).trans d2
            have z1 := Nat.lt_of_lt_of_le qz HB0.out.size
            have z2 := Nat.lt_of_lt_of_le dz HB0.out.size
            obtain ⟨nb, hnb⟩ : ∃ nb, wi.heap.size = nb := ⟨_, rfl⟩
            rw [hnb] at e5
            rw [hnb]
            generalize wi.alloc (Obj.cells #[Value.int .i64 (i : Int), Value.int .i64 (b : Int)] 96) = wz at *
            have HE5 := Lib.hid e5
            have hlk := fun l : Later wz => HLK2.out l.val (btr HB0.out l.le)
            unfold kv at hlk
            simp only at hlk
            have hL := @Later.cell wz
            clear e5 q1 d2
            refine in_region_tailF (r := none) 10 (by kernel_rfl) (by kernel_rfl) (by rfl) ?_
            simp only [List.take_succ_cons, List.take_zero]
            repeat (first
              | (refine wpQuiet_load_rowG (by rfl) 96 (.tmp 5) rfl nb rfl 96 #[.int .i64 (i : Int), .int .i64 (b : Int)] (0, 0) _ HE5.out Try.struct96 rfl HZ96.out ?_)
              | (quiet_step (fail)))
            refine wpQuiet_nil ?_
            rintro w' ⟨lx, rfl⟩
            have HBx := Lib.hid (btr HB0.out lx.le)
            have HJ3 := Lib.hid (HJA.out _ HBx.out)
            have hs2 := HBx.out.size
            generalize lx.val = wv at *
            clear hlk hL q1' d2' z1 z2 lx
            simp only [List.drop_succ_cons, List.drop_zero]
            gi_wp2
            refine ⟨fun f h => by simp at h, ?_⟩
            gi_wp2
            exact ⟨⟨i + 1, by omega, by go_num, by rw [HST.out]; exact HJ3.out, by omega⟩, by simp [intOf]; omega⟩
        · have hib : i = b := by omega
          have HJ2 := Lib.hid (show J (lastL W (b + 1)) wi by rw [lastL_succ]; rw [hib] at HJ; exact HJ.out)
          gi_wp2
          exact ⟨⟨b + 1, by omega, by go_num, HJ2.out, by omega⟩, by simp [intOf]; omega⟩
    · have hbn : b = W.length := by omega
      subst hbn
      gi_wp2
      exact bodyPost_end (results_none rfl _ _ _) rfl ⟨⟨_, rfl⟩, .inl HJ.out⟩
end Go.Proofs.Ytjajdpggoggoiaa

namespace Go.Proofs.Ytjajdpggoggoiaa
open Go.RowKit Go.Shelf
attribute [local go_sem] Oper.semAt_some

set_option maxRecDepth 100000 in
theorem lasting_any (bb : Nat) (w : World) :
    Calls Try.prog 75 #[.pointer (some ⟨bb, 0, none⟩)] w fun e w' => e = .returned (.func (.func 83) #[] #[.pointer (some ⟨w.heap.size, 0, none⟩)]) ∧ w.alloc (.cells #[.pointer (some ⟨bb, 0, none⟩)] 53) = w' := by
  go_enter Try.func75, Try.ntmps75
  go_wp2
  go_ret
  exact ⟨rfl, rfl⟩
set_option maxRecDepth 100000 in
theorem inpause_any (t p0 p1 : Int) (pb : Nat) (w : World) (h0 : w.cell? ⟨pb, 0, none⟩ = some (.int .i64 p0)) (h1 : w.cell? ⟨pb, 1, none⟩ = some (.int .i64 p1)) :
    Calls Try.prog 76 #[.int .i64 t, .pointer (some ⟨pb, 0, none⟩)] w fun e w' => e = .returned (.bool (inP p0 p1 t)) ∧ w' = w := by
  by_cases ha : p0 < t
  · by_cases hb : t < p1
    · go_enter Try.func76, Try.ntmps76
      go_wp2_with fail
      go_ret
      exact ⟨ret_bool (by simp [inP, ha, hb]), rfl⟩
    · go_enter Try.func76, Try.ntmps76
      go_wp2_with fail
      go_ret
      exact ⟨ret_bool (by simp [inP, ha, hb]), rfl⟩
  · go_enter Try.func76, Try.ntmps76
    go_wp2_with fail
    go_ret
    exact ⟨ret_bool (by simp [inP]; omega), rfl⟩
set_option maxRecDepth 100000 in
set_option maxHeartbeats 1000000 in
theorem indexp_any (x : Value) (xs : List Int) (p0 p1 : Int) (pb : Nat) (w : World) (hx0 : RdI w .i64 x xs) (hl : xs.length ≤ 1000) (h0 : w.cell? ⟨pb, 0, none⟩ = some (.int .i64 p0)) (h1 : w.cell? ⟨pb, 1, none⟩ = some (.int .i64 p1)) :
    Calls Try.prog 80 #[x, .func (.func 76) #[] #[.pointer (some ⟨pb, 0, none⟩)]] w fun e w' => e = .returned (.int .i64 (idxOf (inP p0 p1) xs)) ∧ w' = w := by
  obtain ⟨a, ca, rfl, _, _, hx⟩ := hx0.form
  clear hx0
  go_enter Try.func80, Try.ntmps80
  go_wp2
  go_loopw [5, 8] (fun j i wr => ∃ k : Nat, k ≤ xs.length ∧ i = .int .i64 k ∧ (∀ i, i < k → inP p0 p1 (xs[i]?.getD 0) = false) ∧ wr = w) (fun _ i _ => xs.length - (intOf i).toNat)
  case atStart => exact ⟨0, Nat.zero_le _, rfl, by intro i h1; omega, rfl⟩
  case round =>
    obtain ⟨k, hk, rfl, ht, rfl⟩ := hrel
    have HT := Lib.hid ht; clear ht
    by_cases hlt : k < xs.length
    · obtain ⟨bx, ox, rfl, hbx, hcx⟩ := hx (by omega)
      have gx := hcx k hlt
      clear hx hcx
      generalize hp : xs[k]?.getD 0 = p at *
      have HP := Lib.hid hp; clear hp
      go_wp2_with (go_at_call 76; refine (inpause_any _ _ _ _ _ h0 h1).mono ?_)
      rintro e w2 ⟨rfl, rfl⟩
      cases hb : inP p0 p1 p
      · go_wp2
        go_roundw
        case rel =>
          refine ⟨k + 1, by omega, by go_num, fun i h1 => ?_, trivial⟩
          by_cases e : i = k
          · subst e; rw [HP.out]; exact hb
          · exact HT.out i (by omega)
        case measure => simp [intOf]; omega
      · go_wp2
        go_ret
        exact ⟨ret_int (find_none_step HT.out hlt (by rw [HP.out]; exact hb)).symm, rfl⟩
    · go_wp2
      go_ret
      exact ⟨ret_int (find_none fun i hi => HT.out i (by omega)).symm, rfl⟩
set_option maxRecDepth 100000 in
set_option maxHeartbeats 400000 in
theorem containsp_any (x : Value) (xs : List Int) (p0 p1 : Int) (pb : Nat) (w : World) (hx0 : RdI w .i64 x xs) (hl : xs.length ≤ 1000) (h0 : w.cell? ⟨pb, 0, none⟩ = some (.int .i64 p0)) (h1 : w.cell? ⟨pb, 1, none⟩ = some (.int .i64 p1)) :
    Calls Try.prog 63 #[x, .func (.func 76) #[] #[.pointer (some ⟨pb, 0, none⟩)]] w fun e w' => e = .returned (.bool (!freeP xs (p0, p1))) ∧ w' = w := by
  unfold freeP
  rw [Bool.not_not]
  go_enter Try.func63, Try.ntmps63
  go_wp2_with (go_at_call 80; refine (indexp_any _ _ _ _ _ _ hx0 hl h0 h1).mono ?_)
  rintro e w2 ⟨rfl, rfl⟩
  have H := Lib.hid (idxOf_any (inP p0 p1) xs)
  go_wp2
  go_ret
  exact ⟨ret_bool H.out, rfl⟩
theorem abides_frozen {lo hi : Nat} {a : Addr} {v : Value} (h1 : a.block < lo) : Abides1 lo hi (fun W => W.cell? a = some v ∧ W.frozen? a = false) :=
  fun W _ _ h hg hr => by
    have hb := hg.block a.block (World.block_lt_of_cell? W a h.1) (fun e => by have := hr _ e.symm; omega)
    exact ⟨(World.cell?_of_block hb).trans h.1, (World.frozen?_of_block hb).trans h.2⟩
theorem freeN_snoc (T : List Int) (l : List (Int × Int)) (p : Int × Int) : freeN T (l ++ [p]) = freeN T l + if freeP T p then 1 else 0 := by
  unfold freeN
  rw [List.filter_append, List.length_append]
  by_cases h : freeP T p <;> simp [h]
theorem endsK_len (W : List Int) (b : Nat) : ∀ k, (endsK W b k).length ≤ k
  | 0 => Nat.le_refl _
  | k + 1 => by
    have := endsK_len W b k
    rw [endsK_succ]
    split
    · simp; omega
    · omega
theorem lastL_len (W : List Int) : ∀ k, (lastL W k).length ≤ k * k
  | 0 => Nat.le_refl _
  | k + 1 => by
    have := lastL_len W k
    have := endsK_len W k k
    rw [lastL_succ, List.length_append]
    rw [Nat.add_mul, Nat.mul_add]; omega
set_option maxRecDepth 100000 in
set_option maxHeartbeats 4000000 in
theorem proved_any (b : Nat) (R : Int) (W on T : List Int) (y : Value) (w : World) (hI : IsBench w b R W on) (hd : OkD R W) (hy0 : RdI w .i64 y T) (ht : T.length ≤ 1000) :
    Calls Try.prog 54 #[.pointer (some ⟨b, 0, none⟩), y] w fun e w' => e = .returned (.int .i64 ((W.length : Int) - (T.length : Int) * (R - 1) - freeN T (lastL W W.length))) ∧ Below w.heap.size w w' := by
  have h16 := hd.l16
  have hr6 := hd.r6
  have hr1 := hd.r1
  have HI := Lib.hid hI
  obtain ⟨x, M, L, cl, hD, _, _, _, hx0⟩ := hI
  obtain ⟨a, ca, rfl, _, _, _⟩ := hx0.form
  obtain ⟨ay, cy, rfl⟩ := hy0.ex _ rfl
  have HY := Lib.hid hy0
  have c0 := hD.cells.1
  have c1 := hD.cells.2.1
  have hz := hD.lt
  clear hD hx0 hy0
  have hpm0 : 0 ≤ (T.length : Int) * (R - 1) := Int.mul_nonneg (by omega) (by omega)
  have hpm1 : (T.length : Int) * (R - 1) ≤ 5000 := by
    have := Int.mul_le_mul (show (T.length : Int) ≤ 1000 by omega) (show R - 1 ≤ 5 by omega) (by omega) (by omega)
    omega
  have hw1 : IntKind.i64.wrap (R - 1) = R - 1 := IntWalk.i64_in _ (by omega)
  have hw2 : IntKind.i64.wrap ((T.length : Int) * (R - 1)) = (T.length : Int) * (R - 1) := IntWalk.i64_in _ (by omega)
  refine callsIn_wide (n := 10).1 ?_
  refine callsIn_of_wp_marks Try.func54 rfl trivial ?_ rfl
  simp only [Try.ntmps54, List.size_toArray, List.length_cons, List.length_nil, Nat.reduceAdd, Nat.reduceSub, Array.replicate_succ, Array.replicate_zero, List.push_toArray, List.append_toArray, List.nil_append, List.cons_append]
  gi_wp2_with fail
  have HB0 := Lib.hid (bal (bz w) (Obj.cells #[Value.slice ay T.length cy] 22))
  have e0 := (HB0.out.cell (p := ⟨b, 0, none⟩) hz).trans c0
  have e1 := (HB0.out.cell (p := ⟨b, 1, none⟩) hz).trans c1
  have e2 : (w.alloc (Obj.cells #[Value.slice ay T.length cy] 22)).cell? ⟨w.heap.size, 0, none⟩ = some (.slice ay T.length cy) := cnew rfl rfl
  have z2 : w.heap.size < (w.alloc (Obj.cells #[Value.slice ay T.length cy] 22)).heap.size := by simp
  have z0 := Nat.lt_of_lt_of_le hz HB0.out.size
  generalize w.alloc (Obj.cells #[Value.slice ay T.length cy] 22) = w1 at *
  clear c0 c1
  refine in_region_flow (r := none) [] [([0, 1, 2, 3, 4, 5, 6, 7, 8, 9, 10, 11, 12, 13, 14, 15], 16, true), ([], 17, false)] [] (by kernel_rfl) (by kernel_rfl) (by rfl) ?_
  intro wc hB hh
  clear hh
  have HBc := Lib.hid (btr HB0.out hB)
  have f0 := (hB.cell (p := ⟨b, 0, none⟩) z0).trans e0
  have f1 := (hB.cell (p := ⟨b, 1, none⟩) z0).trans e1
  have f2 := (hB.cell (p := ⟨w.heap.size, 0, none⟩) z2).trans e2
  have y0 := Nat.lt_of_lt_of_le z0 hB.size
  have y2 := Nat.lt_of_lt_of_le z2 hB.size
  have hL := @Later.cell wc
  clear hB HB0 e0 e1 e2 z0 z2
  simp only [flowP, flow, pickL, List.getElem?_cons_succ, List.getElem?_cons_zero]
  refine wpQuiet_nil ?_
  repeat (go_big_quiet_step (fail))
  refine wpQuiet_nil ?_
  go_wp2
  refine seg_grow ⟨⟨_, bal (bz _) _⟩, rfl⟩ ?_
  refine wpQuiet_nil ?_
  go_wp2
  refine seg_write ?_
  refine wpQuiet_nil ?_
  refine only_done ?_
  gi_wp2_with fail
  have HPL := Lib.hid (lastL_len W W.length)
  have hN0 := (freeN_bd T (lastL W W.length))
  have HPRE := Lib.hid (fun pre (h : pre <+: lastL W W.length) => h.length_le)
  obtain ⟨B, hBv⟩ : ∃ B, (W.length : Int) - (T.length : Int) * (R - 1) = B := ⟨_, rfl⟩
  have hB1 : -5000 ≤ B := by omega
  have hB2 : B ≤ 16 := by omega
  have HBV := Lib.hid hBv
  rw [hBv]
  have HBc2 := Lib.hid (bal HBc.out (Obj.cells #[Value.int .i64 B] 3))
  have k5 : (wc.alloc (Obj.cells #[Value.int .i64 B] 3)).cell? ⟨wc.heap.size, 0, none⟩ = some (.int .i64 B) := cnew rfl rfl
  have kf5 : (wc.alloc (Obj.cells #[Value.int .i64 B] 3)).frozen? ⟨wc.heap.size, 0, none⟩ = false := fnew rfl
  have k2 : (wc.alloc (Obj.cells #[Value.int .i64 B] 3)).cell? ⟨w.heap.size, 0, none⟩ = some (.slice ay T.length cy) := cal _ f2
  obtain ⟨nb, hnb⟩ : ∃ nb, wc.heap.size = nb := ⟨_, rfl⟩
  have hnz : nb < (wc.alloc (Obj.cells #[Value.int .i64 B] 3)).heap.size := by rw [← hnb]; simp
  have hnw : w.heap.size < nb := by rw [← hnb]; exact y2
  rw [hnb] at k5 kf5
  rw [hnb]
  generalize wc.alloc (Obj.cells #[Value.int .i64 B] 3) = w5 at *
  have HB5 := HBc2
  clear hpm0 hpm1 hw1 hw2 HBc HBc2 f0 f1 f2 y0 y2 hL hBv hnb
  refine ⟨trivial, callsIn_wide.2 ((lasting_any _ _).mono ?_)⟩
  rintro e w4 ⟨rfl, hw4⟩
  have hB0 : Below w.heap.size w w4 := by rw [← hw4]; exact bal HB5.out _
  have hcb : w5.heap.size < w4.heap.size := by rw [← hw4]; simp
  have m5 : w4.cell? ⟨nb, 0, none⟩ = some (.int .i64 B) ∧ w4.frozen? ⟨nb, 0, none⟩ = false := by rw [← hw4]; exact ⟨cal _ k5, fal _ kf5 hnz⟩
  have m2 : w4.cell? ⟨w.heap.size, 0, none⟩ = some (.slice ay T.length cy) := by rw [← hw4]; exact cal _ k2
  have m3 : w4.cell? ⟨w5.heap.size, 0, none⟩ = some (.pointer (some ⟨b, 0, none⟩)) := by rw [← hw4]; exact cnew rfl rfl
  clear hw4 k5 kf5 k2
  obtain ⟨cb, hcbv⟩ : ∃ cb, w5.heap.size = cb := ⟨_, rfl⟩
  rw [hcbv] at hcb m3
  rw [hcbv]
  have hnb4 : nb < w4.heap.size := by omega
  have hwb4 : w.heap.size ≤ w4.heap.size := hB0.size
  have hnc : nb < cb := by omega
  clear hcbv hnz HB5
  have HM5 := Lib.hid m5; have HM2 := Lib.hid m2; have HM3 := Lib.hid m3; have HB0 := Lib.hid hB0
  clear m5 m2 m3 hB0
  gi_wp2
  refine range_law (gf := 83) (lb := #[.pointer (some ⟨cb, 0, none⟩)]) rfl (enters_of Try.func83 (by kernel_rfl) rfl) (lasting_yields _ cb b R W on (fun i hi => by have := (hd.at hi).1; omega) (by omega)) (fun _ => rfl)
    (fun pre X => Below w.heap.size w X ∧ (X.cell? ⟨nb, 0, none⟩ = some (.int .i64 (B - freeN T pre)) ∧ X.frozen? ⟨nb, 0, none⟩ = false) ∧ X.cell? ⟨w.heap.size, 0, none⟩ = some (.slice ay T.length cy) ∧ X.cell? ⟨cb, 0, none⟩ = some (.pointer (some ⟨b, 0, none⟩)))
    (fun _ _ _ => False)
    (fun s => (abides_below hwb4 (Nat.le_refl _)).and ((abides_frozen hnb4).and ((abides_cell (by show w.heap.size < w4.heap.size; omega)).and (abides_cell hcb))))
    (fun c s => abides_pure)
    (fun s X h => ⟨h.2.2.2, HI.out.mono h.1⟩)
    ⟨HB0.out, by have := HM5.out; rwa [show freeN T [] = 0 from rfl, Int.sub_zero], HM2.out, HM3.out⟩ ?round ?done ?stop
  case round =>
    rintro l pre ⟨p0, p1⟩ X ⟨hB, hc5, hc2, hc3⟩ hpx hszX
    have HB := Lib.hid hB; have HC5 := Lib.hid hc5; have HC2 := Lib.hid hc2; have HC3 := Lib.hid hc3
    have hpl := HPRE.out _ hpx
    have hf1 := freeN_bd T (pre ++ [(p0, p1)])
    have HFS := Lib.hid (freeN_snoc T pre (p0, p1))
    have hf0 := freeN_bd T pre
    have hll : (lastL W W.length).length ≤ 256 := Nat.le_trans HPL.out (by have := Nat.mul_le_mul h16 h16; omega)
    rw [List.length_append, List.length_singleton] at hpl
    clear hB hc5 hc2 hc3 hpx
    generalize hfp : freeN T pre = fp at *
    clear hfp
    unfold kv
    gi_wp2
    refine ⟨(KF.refl _ _).alloc _, fun W2 hg2 hs2 => ?_⟩
    have HB2 := Lib.hid (bgr (bal HB.out (Obj.cells #[Value.int .i64 p0, Value.int .i64 p1] 96)) hg2 (fun k e => by have := Option.some.inj e; omega))
    have keep : ∀ {q : Nat} {v : Value}, X.cell? ⟨q, 0, none⟩ = some v → q < w4.heap.size → W2.cell? ⟨q, 0, none⟩ = some v := fun {q v} h hq =>
      hg2.cell (cal _ h) (fun e => by have := Option.some.inj e; simp only at this; omega)
    have g5 := keep HC5.out.1 hnb4
    have g2 := keep HC2.out (by omega)
    have g3 := keep HC3.out hcb
    have gf5 : W2.frozen? ⟨nb, 0, none⟩ = false := (World.frozen?_of_block (hg2.block nb (by simp; omega) (fun e => by have := Option.some.inj e; omega))).trans (fal _ HC5.out.2 (by simp only; omega))
    have hpb : W2.heap[X.heap.size]? = some (.cells #[Value.int .i64 p0, Value.int .i64 p1] 96 (0, 0)) := (hg2.block _ (by simp) (fun e => by have := Option.some.inj e; omega)).trans (heap_alloc_new _ _)
    have q0 : W2.cell? ⟨X.heap.size, 0, none⟩ = some (.int .i64 p0) := by rw [cell_of_row _ _ _ _ _ _ hpb]; rfl
    have q1 : W2.cell? ⟨X.heap.size, 1, none⟩ = some (.int .i64 p1) := by rw [cell_of_row _ _ _ _ _ _ hpb]; rfl
    have hRT := HY.out.mono HB2.out
    have HCT := Lib.hid (containsp_any _ T p0 p1 X.heap.size W2 hRT (by omega) q0 q1)
    have hxs : X.heap.size < W2.heap.size := by rw [hs2]; simp
    have G5 := Lib.hid g5; have G2 := Lib.hid g2; have G3 := Lib.hid g3
    clear keep hg2 hs2 hpb hRT
    gi_wp2
    refine ⟨trivial, CallsIn.inRound l (callsIn_wide.2 (HCT.out.mono ?_))⟩
    rintro e w6 ⟨rfl, rfl⟩
    cases hfr : freeP T (p0, p1)
    · rw [hfr] at HFS
      gi_wp2
      refine ⟨KF.refl _ _, HB2.out, ⟨by rw [HFS.out, if_neg (by simp), Int.add_zero]; exact G5.out, gf5⟩, G2.out, G3.out⟩
    · rw [hfr] at HFS
      have hwr : IntKind.i64.wrap (B - fp - 1) = B - fp - 1 := IntWalk.i64_in _ (by omega)
      gi_wp2
      have hc5' := World.cell?_setCell_same' w6 ⟨nb, 0, none⟩ (.int .i64 (B - fp - 1)) (by rw [G5.out]; rfl)
      refine ⟨(KF.refl _ _).set hnb4 _, bset HB2.out (by show w.heap.size ≤ nb; omega) _, ⟨by rw [HFS.out, if_pos trivial, hc5']; congr 2; omega, by rw [World.frozen?_setCell]; exact gf5⟩, ?_, ?_⟩
      · rw [World.cell?_setCell_other _ _ _ _ (by intro e; have := congrArg Addr.block e; simp only at this; omega)]; exact G2.out
      · rw [World.cell?_setCell_other _ _ _ _ (by intro e; have := congrArg Addr.block e; simp only at this; omega)]; exact G3.out
  case done =>
    rintro X ⟨hB, hc5, hc2, hc3⟩ hD
    have HD := Lib.hid hD
    have n5 := hc5.1
    have HBX := Lib.hid hB
    clear hD hB hc5 hc2 hc3
    gi_wp2
    refine ⟨by simp, .inl ⟨_, _, rfl, run_takeDeferred HD.out, ?_⟩⟩
    have bX := below_put HBX.out (.deferred none) (r := w4.heap.size) hwb4
    exact ⟨_, results_tmp rfl _ _ _, by rw [HBV.out]; rfl, bX⟩
  case stop =>
    rintro c pre X _ h _
    exact h.elim
end Go.Proofs.Ytjajdpggoggoiaa

namespace Go.Proofs.Ytjajdpggoggoiaa

theorem soleB_iff {W : List Int} {a b : Nat} (hab : a < b) (hb : b < W.length) : soleB W a b = true ↔ ∀ k, a < k → k < b → want W k ≠ want W b := by
  unfold soleB
  rw [any_eqB]
  simp only [Bool.not_eq_true', decide_eq_false_iff_not]
  constructor
  · intro h k h1 h2 e
    apply h
    rw [List.mem_iff_getElem]
    refine ⟨k - (a + 1), by simp; omega, ?_⟩
    simp only [List.getElem_take, List.getElem_drop]
    have : a + 1 + (k - (a + 1)) = k := by omega
    rw [← e]
    simp [want, this, show k < W.length by omega]
  · intro h hm
    obtain ⟨j, hj, e⟩ := List.getElem_of_mem hm
    simp only [List.length_take, List.length_drop] at hj
    simp only [List.getElem_take, List.getElem_drop] at e
    refine h (a + 1 + j) (by omega) (by omega) ?_
    rw [← e]
    simp [want, show a + 1 + j < W.length by omega]
theorem pauseB_iff {W : List Int} (hl : W.length ≤ 1000) {a b : Nat} (hab : a < b) (hb : b < W.length) : pauseB W a b = true ↔ nextD W a (want W a) = b := by
  unfold pauseB
  rw [Bool.and_eq_true, decide_eq_true_eq, soleB_iff hab hb]
  rcases nextD_spec W hl a (want W a) with ⟨h1, h2⟩ | ⟨q, h1, h2, h3, h4, h5⟩
  · rw [h1]
    constructor
    · rintro ⟨h, _⟩; exact absurd h (h2 b hab hb)
    · intro h; omega
  · rw [h1]
    constructor
    · rintro ⟨h, hk⟩
      rcases Nat.lt_trichotomy q b with g | g | g
      · exact absurd (h4.trans h.symm) (hk q h2 g)
      · rw [g]
      · exact absurd h (h5 b hab g)
    · intro h
      have : q = b := by omega
      subst this
      exact ⟨h4, fun k k1 k2 e => h5 k k1 k2 (e.trans h4)⟩
theorem mem_endsK {W : List Int} {b k : Nat} {p : Int × Int} : p ∈ endsK W b k ↔ ∃ a, a < k ∧ pauseB W a b = true ∧ p = ((a : Int), (b : Int)) := by
  unfold endsK
  simp only [List.mem_map, List.mem_filter, List.mem_range]
  constructor
  · rintro ⟨a, ⟨h1, h2⟩, rfl⟩; exact ⟨a, h1, h2, rfl⟩
  · rintro ⟨a, h1, h2, rfl⟩; exact ⟨a, ⟨h1, h2⟩, rfl⟩
theorem mem_lastL {W : List Int} {k : Nat} {p : Int × Int} : p ∈ lastL W k ↔ ∃ a b, a < b ∧ b < k ∧ pauseB W a b = true ∧ p = ((a : Int), (b : Int)) := by
  unfold lastL
  simp only [List.mem_flatMap, List.mem_range, mem_endsK]
  constructor
  · rintro ⟨b, hb, a, h1, h2, rfl⟩; exact ⟨a, b, h1, hb, h2, rfl⟩
  · rintro ⟨a, b, h1, hb, h2, rfl⟩; exact ⟨b, hb, a, h1, h2, rfl⟩
theorem nodup_endsK (W : List Int) (b k : Nat) : (endsK W b k).Nodup := by
  unfold endsK
  rw [List.Nodup, List.pairwise_map]
  refine List.Pairwise.imp_of_mem ?_ ((List.nodup_range (n := k)).filter _)
  intro x y _ _ hxy e
  exact hxy (by have := congrArg Prod.fst e; simp only at this; omega)
theorem nodup_lastL (W : List Int) : ∀ k, (lastL W k).Nodup
  | 0 => List.nodup_nil
  | k + 1 => by
    rw [lastL_succ, List.nodup_append]
    refine ⟨nodup_lastL W k, nodup_endsK W k k, fun p hp q hq e => ?_⟩
    subst e
    obtain ⟨a, b, _, hb, _, e1⟩ := mem_lastL.1 hp
    obtain ⟨a', _, _, e2⟩ := mem_endsK.1 hq
    rw [e1] at e2
    have := congrArg Prod.snd e2
    simp only at this
    omega
theorem mem_psL {W : List Int} {k : Nat} {p : Int × Int} : p ∈ psL W k ↔ ∃ a : Nat, a < k ∧ nextD W a (want W a) ≠ 1000 ∧ p = ((a : Int), nextD W a (want W a)) := by
  induction k with
  | zero => simp [psL]
  | succ k ih =>
    unfold psL
    by_cases h : nextD W k (want W k) = 1000
    · rw [if_pos h, ih]
      constructor
      · rintro ⟨a, h1, h2, h3⟩; exact ⟨a, by omega, h2, h3⟩
      · rintro ⟨a, h1, h2, h3⟩
        refine ⟨a, ?_, h2, h3⟩
        rcases Nat.lt_or_ge a k with h4 | h4
        · exact h4
        · have : a = k := by omega
          subst this; exact absurd h h2
    · rw [if_neg h, List.mem_append, ih, List.mem_singleton]
      constructor
      · rintro (⟨a, h1, h2, h3⟩ | h3)
        · exact ⟨a, by omega, h2, h3⟩
        · exact ⟨k, by omega, h, h3⟩
      · rintro ⟨a, h1, h2, h3⟩
        rcases Nat.lt_or_ge a k with h4 | h4
        · exact .inl ⟨a, h4, h2, h3⟩
        · have : a = k := by omega
          subst this; exact .inr h3
theorem nodup_psL (W : List Int) : ∀ k, (psL W k).Nodup
  | 0 => List.nodup_nil
  | k + 1 => by
    have ih := nodup_psL W k
    unfold psL
    split
    · exact ih
    · rw [List.nodup_append]
      refine ⟨ih, by simp, fun p hp q hq e => ?_⟩
      subst e
      obtain ⟨a, h1, _, e1⟩ := mem_psL.1 hp
      rw [List.mem_singleton] at hq
      rw [e1] at hq
      have := congrArg Prod.fst hq
      simp only at this
      omega
theorem mem_pauses {W : List Int} (hl : W.length ≤ 1000) (p : Int × Int) : p ∈ lastL W W.length ↔ p ∈ psL W W.length := by
  rw [mem_lastL, mem_psL]
  constructor
  · rintro ⟨a, b, h1, h2, h3, rfl⟩
    rw [pauseB_iff hl h1 h2] at h3
    exact ⟨a, by omega, by omega, by rw [h3]⟩
  · rintro ⟨a, h1, h2, rfl⟩
    rcases nextD_spec W hl a (want W a) with ⟨g, _⟩ | ⟨q, g1, g2, g3, _, _⟩
    · exact absurd g h2
    · exact ⟨a, q, g2, g3, (pauseB_iff hl g2 g3).2 g1, by rw [g1]⟩
theorem free_same {W : List Int} (hl : W.length ≤ 1000) (T : List Int) : freeN T (lastL W W.length) = freeN T (psL W W.length) := by
  unfold freeN
  congr 1
  refine nodup_len _ _ ((nodup_lastL W _).filter _) ((nodup_psL W _).filter _) fun p => ?_
  simp only [List.mem_filter, mem_pauses hl]
end Go.Proofs.Ytjajdpggoggoiaa

namespace Go.Proofs.Ytjajdpggoggoiaa
open Go.RowKit Go.Shelf

set_option maxRecDepth 100000 in
set_option maxHeartbeats 4000000 in
theorem checktimes_any (R : Int) (x y : Value) (W T : List Int) (w : World) (hx0 : RdI w .i64 x W) (hy0 : RdI w .i64 y T) (hl : W.length ≤ 1000) (hlt : T.length ≤ 1000) :
    Calls Try.prog 28 #[.agg #[.int .i64 R, x], y] w (TimesOk R W T w) := by
  obtain ⟨a, c, rfl⟩ := hx0.ex _ rfl
  obtain ⟨ay, cy, rfl, _, _, hy⟩ := hy0.form
  have HX := Lib.hid hx0; have HY := Lib.hid hy0
  unfold TimesOk timesR
  by_cases hc : checkD R W = 0
  · have HO := Lib.hid (fun wz hx => open_ok R (.slice a W.length c) W wz hx hc)
    have hd := okD_of hc
    have h16 := hd.l16
    unfold OpenOk at HO
    have HR := Lib.hid (fun b wz (hI : IsBench wz b R W zeros) hy => proved_any b R W zeros T (.slice ay T.length cy) wz hI hd hy hlt)
    rw [if_neg (by simp [hc])]
    have HPV := Lib.hid (show provN R W T = (W.length : Int) - (T.length : Int) * (R - 1) - freeN T (lastL W W.length) by unfold provN; rw [free_same hl])
    generalize (W.length : Int) - (T.length : Int) * (R - 1) - freeN T (lastL W W.length) = pv at *
    generalize hres : (if okT (↑W.length) 0 T = false then ((0 : Int), (3 : Int)) else (provN R W T, 0)) = res at *
    have HRES := Lib.hid hres
    clear hc hx0 hd hres hy0
    have hr1 : (w.alloc (.cells #[.int .i64 R, .slice a W.length c] 24)).cell? ⟨w.heap.size, 1, none⟩ = some (.slice a W.length c) := cnew rfl rfl
    go_enter Try.func28, Try.ntmps28
    go_wp2_with fail
    refine (HO.out _ (HX.out.mono (bal (bz _) _))).mono ?_
    rintro e w2 ⟨b, rfl, hb, hD, hB2⟩
    have k1 := (hB2.cell (p := ⟨w.heap.size, 1, none⟩) (by simp)).trans hr1
    have hws : w.heap.size < w2.heap.size := by have := hB2.size; simp at this; omega
    have HB2 := Lib.hid (btr (bal (bz w) _) hB2); have HD := Lib.hid hD
    clear hB2 hD hr1 hb
    go_wp2_with fail
    go_loopw [8, 10, 21] (fun nv _ iv wr => ∃ (k : Nat) (nx : Int), k ≤ T.length ∧ nv = .int .i64 nx ∧ iv = .int .i64 k ∧ 0 ≤ nx ∧ nx ≤ W.length ∧ okT W.length nx (T.drop k) = okT W.length 0 T ∧ Below w2.heap.size w2 wr) (fun _ _ iv _ => T.length - (intOf iv).toNat)
    case atStart => exact ⟨0, 0, Nat.zero_le _, rfl, rfl, Int.le_refl _, by omega, rfl, bz _⟩
    case round =>
      obtain ⟨k, nx, hk, rfl, rfl, n0, n1, hO, hB⟩ := hrel
      have HB := Lib.hid hB; have HOK := Lib.hid hO
      have kr := (hB.cell (p := ⟨w.heap.size, 1, none⟩) hws).trans k1
      have zr := Nat.lt_of_lt_of_le hws hB.size
      clear hB hO
      by_cases hkt : k < T.length
      · obtain ⟨bt, ot, rfl, hbt, hct⟩ := hy (by omega)
        have gt := ((btr HB2.out HB.out).cell (p := ⟨bt, ot + k, none⟩) hbt).trans (hct k hkt)
        have zt := Nat.lt_of_lt_of_le hbt (btr HB2.out HB.out).size
        change wr.cell? _ = some (Value.int .i64 (want T k)) at gt
        have hst := okT_step W.length nx T k hkt
        rw [HOK.out] at hst
        have HST := Lib.hid hst
        clear hst hct hy
        generalize want T k = t at *
        have hwr1 : IntKind.i64.wrap ((W.length : Int) - 1) = (W.length : Int) - 1 := IntWalk.i64_in _ (by omega)
        go_wp2_with fail
        refine (within_any _ [t] _ _ _ (one_slice (cnew rfl rfl) (by simp)) (by simp)).mono ?_
        rintro e w3 ⟨rfl, hB3⟩
        have HB3 := Lib.hid (btr (bal HB.out _) hB3)
        clear hB3 gt zt kr zr
        have hany : [t].any (outB nx ((W.length : Int) - 1)) = outB nx ((W.length : Int) - 1) t := by simp
        rw [hany]
        clear hany
        by_cases hin : nx ≤ t ∧ t ≤ (W.length : Int) - 1
        · rw [show outB nx ((W.length : Int) - 1) t = false by simp [outB]; omega]
          have ho := HST.out
          rw [decide_eq_true hin, Bool.true_and] at ho
          have HO2 := Lib.hid ho.symm
          have t1 : IntKind.i64.wrap (t + 1) = t + 1 := IntWalk.i64_in _ (by omega)
          clear ho HST
          go_wp2_with fail
          go_roundw
          case rel => exact ⟨k + 1, t + 1, by omega, rfl, by go_num, by omega, by omega, HO2.out, HB3.out⟩
          case measure => simp [intOf]; omega
        · rw [show outB nx ((W.length : Int) - 1) t = true by simp [outB]; omega]
          have ho := HST.out
          rw [decide_eq_false hin, Bool.false_and] at ho
          have hr := HRES.out
          rw [if_pos ho] at hr
          subst hr
          clear ho HST HRES
          go_wp2_with fail
          go_ret2
          exact ⟨rfl, btr HB2.out HB3.out⟩
      · have hke : k = T.length := by omega
        have ho := HOK.out
        rw [hke, List.drop_of_length_le (Nat.le_refl _)] at ho
        have hr := HRES.out
        rw [if_neg (by rw [← ho]; simp [okT]), HPV.out] at hr
        subst hr
        clear ho HRES hke
        go_wp2_with fail
        refine (HR.out b wr (HD.out.mono HB.out) (HY.out.mono (btr HB2.out HB.out))).mono ?_
        rintro e w3 ⟨rfl, hB3⟩
        have HB3 := Lib.hid (btr (btr HB2.out HB.out) hB3)
        clear hB3
        go_wp2_with fail
        go_ret2
        exact ⟨rfl, HB3.out⟩
  · have HO := Lib.hid (fun wz hx => open_no R (.slice a W.length c) W wz hx hl hc)
    rw [if_pos hc]
    have t1 : (checkD R W != 0) = true := by simpa using hc
    generalize checkD R W = q at *
    clear hc hx0 hy0 hy
    go_enter Try.func28, Try.ntmps28
    go_wp2_with fail
    refine (HO.out _ (HX.out.mono (bal (bz _) _))).mono ?_
    rintro e w2 ⟨rfl, hB2⟩
    have HB2 := Lib.hid (btr (bal (bz w) _) hB2)
    clear hB2
    go_wp2_with fail
    go_ret2
    exact ⟨rfl, HB2.out⟩
end Go.Proofs.Ytjajdpggoggoiaa

namespace Go.Proofs.Ytjajdpggoggoiaa
open Go.RowKit Go.Shelf

/-- Turned from both ends up to i. -/
def RevA (n i : Nat) (zs cur : List Int) : Prop := ∀ t, t < n → cur[t]?.getD 0 = if t < i ∨ n ≤ t + i then zs[n - 1 - t]?.getD 0 else zs[t]?.getD 0
theorem RevA.step {n i m : Nat} {zs cur : List Int} (h : RevA n i zs cur) (hm : m + i + 1 = n) (him : i < m) (hl : cur.length = n) : RevA n (i + 1) zs ((cur.set i (cur[m]?.getD 0)).set m (cur[i]?.getD 0)) := by
  intro t ht
  have hi := h i (by omega)
  have hmm := h m (by omega)
  rw [if_neg (by omega)] at hi hmm
  rw [set_get _ _ _ _ (by simp; omega), set_get _ _ _ _ (by omega)]
  by_cases e1 : m = t
  · subst e1
    rw [if_pos rfl, hi, if_pos (by omega), show n - 1 - m = i by omega]
  · rw [if_neg e1]
    by_cases e2 : i = t
    · subst e2
      rw [if_pos rfl, hmm, if_pos (by omega), show n - 1 - i = m by omega]
    · rw [if_neg e2, h t ht]
      by_cases e3 : t < i ∨ n ≤ t + i
      · rw [if_pos e3, if_pos (by omega)]
      · rw [if_neg e3, if_neg (by omega)]
theorem RevA.done {n i : Nat} {zs cur : List Int} (h : RevA n i zs cur) (hi : n ≤ 2 * i + 1) (hl : cur.length = n) (hz : zs.length = n) : cur = zs.reverse := by
  apply List.ext_getElem
  · simp [hl, hz]
  · intro t h1 h2
    have ht := h t (by omega)
    have e0 : cur[t]?.getD 0 = cur[t] := by simp [h1]
    rw [e0] at ht
    rw [ht, List.getElem_reverse]
    by_cases e3 : t < i ∨ n ≤ t + i
    · rw [if_pos e3]
      have hb : n - 1 - t < zs.length := by omega
      simp only [hz]
      rw [List.getElem?_eq_getElem hb]; rfl
    · rw [if_neg e3]
      have : t = n - 1 - t := by omega
      simp only [hz]
      simp [show t < zs.length by omega]
      congr 1
set_option maxRecDepth 100000 in
set_option maxHeartbeats 4000000 in
theorem rev_own (base g n cap : Nat) (zs : List Int) (w : World) (h : ownI w base g n cap zs) (hn : n ≤ 100) :
    Calls Try.prog 77 #[.slice (some ⟨g, 0, none⟩) n cap] w fun e w' => (∃ v, e = .returned v) ∧ ownI w' base g n cap zs.reverse ∧ w.grownBy w' (some g) := by
  have HO := Lib.hid h
  have HZ := Lib.hid h.len
  clear h
  have hw0 : IntKind.i64.wrap ((n : Int) - 1) = (n : Int) - 1 := IntWalk.i64_in _ (by omega)
  go_enter Try.func77, Try.ntmps77
  go_wp2_with fail
  go_loopw [2, 3] (fun iv jv wr => ∃ (i : Nat) (cur : List Int), i ≤ n ∧ iv = .int .i64 i ∧ jv = .int .i64 ((n : Int) - 1 - i) ∧ RevA n i zs cur ∧ ownI wr base g n cap cur ∧ w.grownBy wr (some g)) (fun iv _ _ => n - (intOf iv).toNat)
  case atStart => exact ⟨0, zs, Nat.zero_le _, rfl, by simp, fun t ht => by rw [if_neg (by omega)], HO.out, grown_rfl _ _⟩
  case round =>
    obtain ⟨i, cur, hi, rfl, rfl, hr, ho, hg⟩ := hrel
    have HR := Lib.hid hr; have HW := Lib.hid ho; have HG := Lib.hid hg
    have hl := ho.len
    clear hr ho hg
    by_cases hlt : (i : Int) < (n : Int) - 1 - i
    · obtain ⟨m, hm⟩ : ∃ m, m + i + 1 = n := ⟨n - 1 - i, by omega⟩
      have hmv : (n : Int) - 1 - i = (m : Int) := by omega
      rw [hmv]
      have HR2 := Lib.hid (HR.out.step hm (by omega) hl)
      have HW2 := Lib.hid (fun wz (h : ownI wz base g n cap cur) => (h.set i (cur[m]?.getD 0)).set m (cur[i]?.getD 0))
      have hx1 := HW.out.cell (j := i) (by omega)
      have hx2 := HW.out.cell (j := m) (by omega)
      have HC1 := Lib.hid (fun wz (h : ownI wz base g n cap cur) => h.cell (j := i) (by omega))
      have HC2 := Lib.hid (fun wz (h : ownI wz base g n cap cur) => h.cell (j := m) (by omega))
      clear hx1 hx2
      generalize cur[i]?.getD 0 = x at *
      generalize cur[m]?.getD 0 = y at *
      have j1 : (m : Int) < n := by omega
      have j2 : (i : Int) < n := by omega
      have j3 : m < n := by omega
      have j4 : i < n := by omega
      have j5 : (i : Int) < m := by omega
      have j6 : (0 : Int) ≤ (m : Int) := by omega
      have j7 : (0 : Int) ≤ (i : Int) := by omega
      have w1 : IntKind.i64.wrap ((i : Int) + 1) = (i : Int) + 1 := IntWalk.i64_in _ (by omega)
      have w2 : IntKind.i64.wrap ((m : Int) - 1) = (m : Int) - 1 := IntWalk.i64_in _ (by omega)
      have HMV := Lib.hid hm
      clear hmv hm hlt hl hw0
      go_wp2_with fail
      refine wp_region_flow [2, 3] [([0, 1, 4, 5, 6, 7, 8, 9, 10, 11, 12], 13, false), ([], 14, false), ([], 15, false)] [] (by kernel_rfl) (by kernel_rfl) ?_
      intro wc hB hh
      have HC := Lib.hid (show ownI wc base g n cap cur by unfold ownI World.ownsRow; rw [hh]; exact HW.out)
      have HGC := Lib.hid (show w.grownBy wc (some g) from ⟨hB.os.trans HG.out.os, hB.tape.trans HG.out.tape, hB.output.trans HG.out.output, by rw [hh]; exact HG.out.size, fun r h1 h2 => by rw [hh]; exact HG.out.block r h1 h2⟩)
      clear hh
      have c1 := HC1.out wc HC.out
      have c2 := HC2.out wc HC.out
      have f1 := World.ownsRow.frozenAt HC.out i
      have f2 := World.ownsRow.frozenAt HC.out m
      have zg := HC.out.lt
      have hL := @Later.cell wc
      clear hB
      simp only [flowP, flow, pickL, List.getElem?_cons_succ, List.getElem?_cons_zero]
      repeat (go_big_quiet_step (fail))
      refine wpQuiet_nil ?_
      repeat (go_big_quiet_step (fail))
      refine wpQuiet_nil ?_
      go_wp2
      refine seg_write ?_
      refine wpQuiet_nil ?_
      go_wp2
      refine seg_write ?_
      refine wpQuiet_nil ?_
      go_wp2
      refine seg_write ?_
      refine wpQuiet_nil ?_
      refine only_done ?_
      go_wp2_with fail
      go_roundw
      case rel => exact ⟨i + 1, _, by omega, by go_num, by have := HMV.out; congr 1; omega, HR2.out, HW2.out wc HC.out, grown_set (grown_set HGC.out)⟩
      case measure => simp [intOf]; omega
    · have HD := Lib.hid (HR.out.done (by omega) hl HZ.out)
      clear hl
      go_wp2_with fail
      exact bodyPost_end (results_none rfl _ _ _) rfl ⟨⟨_, rfl⟩, by rw [← HD.out]; exact HW.out, HG.out⟩
set_option maxRecDepth 100000 in
set_option maxHeartbeats 4000000 in
theorem rev_nil (w : World) : Calls Try.prog 77 #[.slice none 0 0] w fun e w' => (∃ v, e = .returned v) ∧ w' = w := by
  go_enter Try.func77, Try.ntmps77
  go_wp2_with fail
  go_loopw [2, 3] (fun iv jv wr => iv = .int .i64 0 ∧ jv = .int .i64 (-1) ∧ wr = w) (fun _ _ _ => 0)
  case atStart => exact ⟨rfl, rfl, rfl⟩
  case round =>
    obtain ⟨rfl, rfl, rfl⟩ := hrel
    go_wp2_with fail
    exact bodyPost_end (results_none rfl _ _ _) rfl ⟨⟨_, rfl⟩, rfl⟩
end Go.Proofs.Ytjajdpggoggoiaa

namespace Go.Proofs.Ytjajdpggoggoiaa
open Go.RowKit Go.Shelf

/-- A pause lies between two times (each plus 1). -/
def betwB (old last : Nat) (p : Int × Int) : Bool := decide ((old : Int) - 1 ≤ p.1) && decide (p.2 ≤ (last : Int) - 1)
def cntP (old last : Nat) (l : List (Int × Int)) : Int := ((l.filter (betwB old last)).length : Int)
theorem cntP_snoc (old last : Nat) (l : List (Int × Int)) (p : Int × Int) : cntP old last (l ++ [p]) = cntP old last l + if betwB old last p then 1 else 0 := by
  unfold cntP
  rw [List.filter_append, List.length_append]
  by_cases h : betwB old last p <;> simp [h]
theorem cntP_bd (old last : Nat) (l : List (Int × Int)) : 0 ≤ cntP old last l ∧ cntP old last l ≤ (l.length : Int) := by
  unfold cntP
  have := List.length_filter_le (betwB old last) l
  omega
/-- The first of the least values below k. -/
def minT (f : Nat → Int) : Nat → Int × Nat
  | 0 => (1000, 0)
  | k + 1 => if f k < (minT f k).1 then (f k, k) else minT f k
theorem minT_bd {f : Nat → Int} : ∀ {k : Nat}, (∀ j, j < k → 0 ≤ f j) → 0 ≤ (minT f k).1 ∧ (minT f k).1 ≤ 1000 ∧ ((minT f k).2 < k ∨ (minT f k).2 = 0)
  | 0, _ => by simp [minT]
  | k + 1, h => by
    have ih := minT_bd (k := k) (fun j hj => h j (by omega))
    have := h k (by omega)
    unfold minT
    split
    · simp only; omega
    · omega
def tabAt (tab : List (Int × Nat)) (j : Nat) : Int × Nat := tab[j]?.getD ((0 : Int), (0 : Nat))
def lostT (R : Int) (W : List Int) (tab : List (Int × Nat)) (last old : Nat) : Int := (tabAt tab old).1 + cntP old last (lastL W W.length) + if last ≤ W.length then R - 1 else 0
/-- For each last time, plus 1, how little is lost, and the last time before it. -/
def tabT (R : Int) (W : List Int) : Nat → List (Int × Nat)
  | 0 => [(0, 0)]
  | k + 1 => tabT R W k ++ [minT (lostT R W (tabT R W k) (k + 1)) (k + 1)]
theorem tabT_len (R : Int) (W : List Int) : ∀ k, (tabT R W k).length = k + 1
  | 0 => rfl
  | k + 1 => by unfold tabT; rw [List.length_append, tabT_len R W k]; rfl
theorem tabT_bd (R : Int) (W : List Int) (hR : 1 ≤ R) : ∀ k j, 0 ≤ (tabAt (tabT R W k) j).1 ∧ (tabAt (tabT R W k) j).1 ≤ 1000 ∧ (0 < j → (tabAt (tabT R W k) j).2 < j) ∧ (j = 0 → (tabAt (tabT R W k) j).2 = 0)
  | 0, j => by
    match j with
    | 0 => simp [tabT, tabAt]
    | j + 1 => simp [tabT, tabAt]
  | k + 1, j => by
    have ih := tabT_bd R W hR k j
    have hl := tabT_len R W k
    unfold tabT
    unfold tabAt at ih ⊢
    by_cases h1 : j < k + 1
    · rw [List.getElem?_append_left (by omega)]; exact ih
    · rw [List.getElem?_append_right (by omega)]
      by_cases h2 : j = k + 1
      · subst h2
        rw [hl, Nat.sub_self]
        have := minT_bd (f := lostT R W (tabT R W k) (k + 1)) (k := k + 1) (fun i _ => by
          have := (tabT_bd R W hR k i).1
          have := (cntP_bd i (k + 1) (lastL W W.length)).1
          unfold lostT
          split <;> omega)
        simp only [List.getElem?_cons_zero, Option.getD_some]
        refine ⟨this.1, this.2.1, fun _ => by omega, fun h => by omega⟩
      · have : (([minT (lostT R W (tabT R W k) (k + 1)) (k + 1)] : List (Int × Nat))[j - (tabT R W k).length]?) = none := by
          rw [hl]; simp; omega
        rw [this]; simp
/-- An array of N numbers, of which the first ones are filled. -/
def padL (f : Int × Nat → Int) (tab : List (Int × Nat)) (N : Nat) : List Int := tab.map f ++ List.replicate (N - tab.length) 0
theorem padL_len (f : Int × Nat → Int) (tab : List (Int × Nat)) (N : Nat) (h : tab.length ≤ N) : (padL f tab N).length = N := by simp [padL]; omega
theorem padL_at (f : Int × Nat → Int) (hf : f (0, 0) = 0) (tab : List (Int × Nat)) (N j : Nat) : (padL f tab N)[j]?.getD 0 = f (tabAt tab j) := by
  unfold padL tabAt
  by_cases h : j < tab.length
  · rw [List.getElem?_append_left (by simpa using h)]; simp [h]
  · rw [List.getElem?_append_right (by simpa using h)]
    rw [show tab[j]? = none by simp; omega]
    by_cases h2 : j - tab.length < N - tab.length
    · simp [hf, h2]
    · simp [hf, h2]
theorem padL_next (f : Int × Nat → Int) (tab : List (Int × Nat)) (N : Nat) (h : tab.length < N) (x : Int × Nat) : (padL f tab N).set tab.length (f x) = padL f (tab ++ [x]) N := by
  unfold padL
  rw [List.set_append_right _ _ (by simp)]
  simp only [List.length_map, Nat.sub_self, List.map_append, List.length_append, List.length_singleton, List.append_assoc]
  congr 1
  obtain ⟨m, hm⟩ : ∃ m, N - tab.length = m + 1 := ⟨N - tab.length - 1, by omega⟩
  rw [hm, show N - (tab.length + 1) = m by omega, List.replicate_succ]
  simp
def chainF (B : Nat → Nat) : Nat → Nat → List Int
  | 0, _ => []
  | f + 1, a => if a = 0 then [] else ((a : Int) - 1) :: chainF B f (B a)
def befT (R : Int) (W : List Int) (j : Nat) : Nat := (tabAt (tabT R W (W.length + 1)) j).2
/-- The times that the program returns. -/
def timesP (R : Int) (W : List Int) : List Int := (chainF (befT R W) (W.length + 2) (befT R W (W.length + 1))).reverse
theorem chainF_len (B : Nat → Nat) : ∀ f a, (chainF B f a).length ≤ f
  | 0, _ => by simp [chainF]
  | f + 1, a => by
    unfold chainF
    split
    · simp
    · have := chainF_len B f (B a)
      simp; omega
end Go.Proofs.Ytjajdpggoggoiaa

namespace Go.Proofs.Ytjajdpggoggoiaa

theorem pause_one {W : List Int} {a a' b : Nat} (hb : b < W.length) (h : a < b) (h' : a' < b) (p : pauseB W a b = true) (p' : pauseB W a' b = true) : a = a' := by
  unfold pauseB at p p'
  rw [Bool.and_eq_true, decide_eq_true_eq] at p p'
  rw [soleB_iff h hb] at p
  rw [soleB_iff h' hb] at p'
  rcases Nat.lt_trichotomy a a' with g | g | g
  · exact absurd p'.1.symm (p.2 a' g h')
  · exact g
  · exact absurd p.1.symm (p'.2 a g h)
theorem pause_of {W : List Int} {a b : Nat} (hb : b < W.length) (h : a < b) (e : want W b = want W a) (hk : ∀ k, a < k → k < b → want W k ≠ want W b) : pauseB W a b = true := by
  unfold pauseB
  rw [Bool.and_eq_true, decide_eq_true_eq, soleB_iff h hb]; exact ⟨e, hk⟩
theorem again_pause {W : List Int} {b : Nat} (hb : b < W.length) : ∀ j, j < b → want W j = want W b → ∃ a, j ≤ a ∧ a < b ∧ pauseB W a b = true := by
  have key : ∀ d j, b - j ≤ d → j < b → want W j = want W b → ∃ a, j ≤ a ∧ a < b ∧ pauseB W a b = true := by
    intro d
    induction d with
    | zero => intro j h1 h2; omega
    | succ d ih =>
      intro j h1 h2 h3
      by_cases hx : ∃ k, j < k ∧ k < b ∧ want W k = want W b
      · obtain ⟨k, k1, k2, k3⟩ := hx
        obtain ⟨a, a1, a2, a3⟩ := ih k (by omega) k2 k3
        exact ⟨a, by omega, a2, a3⟩
      · exact ⟨j, Nat.le_refl _, h2, pause_of hb h2 h3.symm fun k k1 k2 e => hx ⟨k, k1, k2, e⟩⟩
  intro j h1 h2
  exact key b j (by omega) h1 h2
theorem free_ends {W : List Int} {T : List Nat} {b : Nat} (hb : b < W.length) : Dual.freeB W T b = true ↔ ∃ a, a < b ∧ pauseB W a b = true ∧ freeP (nl T) ((a : Int), (b : Int)) = true := by
  unfold Dual.freeB Dual.againB Dual.holdsB
  simp only [Bool.and_eq_true, decide_eq_true_eq, List.all_eq_true, Bool.not_eq_true', decide_eq_false_iff_not]
  constructor
  · rintro ⟨⟨j, j1, j2⟩, hT⟩
    obtain ⟨a, a1, a2, a3⟩ := again_pause hb j j1 j2
    refine ⟨a, a2, a3, ?_⟩
    unfold freeP
    rw [Bool.not_eq_true', List.any_eq_false]
    intro t ht hin
    obtain ⟨n, hn, rfl⟩ := List.mem_map.1 ht
    unfold inP at hin
    simp only [Bool.and_eq_true, decide_eq_true_eq] at hin
    unfold pauseB at a3
    rw [Bool.and_eq_true, decide_eq_true_eq, soleB_iff a2 hb] at a3
    exact hT n hn ⟨a, by omega, by omega, a3.1.symm, a3.2⟩
  · rintro ⟨a, a1, a2, a3⟩
    have a2' := a2
    unfold pauseB at a2
    rw [Bool.and_eq_true, decide_eq_true_eq, soleB_iff a1 hb] at a2
    refine ⟨⟨a, a1, a2.1.symm⟩, fun t ht hh => ?_⟩
    obtain ⟨j, j1, j2, j3, j4⟩ := hh
    have : j = a := pause_one hb (by omega) a1 (pause_of hb (by omega) j3.symm j4) a2'
    subst this
    unfold freeP at a3
    rw [Bool.not_eq_true', List.any_eq_false] at a3
    have := a3 (t : Int) (List.mem_map.2 ⟨t, ht, rfl⟩)
    apply this
    unfold inP
    simp only [Bool.and_eq_true, decide_eq_true_eq]
    omega
theorem free_cnt {W : List Int} (T : List Nat) : (Dual.cnt W.length (Dual.freeB W T) : Int) = freeN (nl T) (lastL W W.length) := by
  unfold Dual.cnt freeN
  have h1 := nodup_len (((List.range W.length).filter (Dual.freeB W T)).map fun (b : Nat) => (b : Int)) (((lastL W W.length).filter (freeP (nl T))).map (·.2)) (by
    rw [List.Nodup, List.pairwise_map]
    refine List.Pairwise.imp_of_mem ?_ ((List.nodup_range (n := W.length)).filter _)
    intro a b _ _ hab e
    exact hab (by omega)) (by
    rw [List.Nodup, List.pairwise_map]
    refine List.Pairwise.imp_of_mem ?_ ((nodup_lastL W W.length).filter _)
    intro p q hp hq hpq e
    obtain ⟨a, b, h1, h2, h3, rfl⟩ := mem_lastL.1 (List.mem_filter.1 hp).1
    obtain ⟨a', b', h1', h2', h3', rfl⟩ := mem_lastL.1 (List.mem_filter.1 hq).1
    simp only at e
    have : b = b' := by omega
    subst this
    have := pause_one h2 h1 h1' h3 h3'
    subst this
    exact hpq rfl) (fun x => by
    simp only [List.mem_map, List.mem_filter, List.mem_range]
    constructor
    · rintro ⟨b, ⟨hb, hf⟩, rfl⟩
      obtain ⟨a, h1, h2, h3⟩ := (free_ends hb).1 hf
      exact ⟨((a : Int), (b : Int)), ⟨mem_lastL.2 ⟨a, b, h1, hb, h2, rfl⟩, h3⟩, rfl⟩
    · rintro ⟨p, ⟨hp, hf⟩, rfl⟩
      obtain ⟨a, b, h1, h2, h3, rfl⟩ := mem_lastL.1 hp
      exact ⟨b, ⟨h2, (free_ends h2).2 ⟨a, h1, h3, hf⟩⟩, rfl⟩)
  rw [List.length_map, List.length_map] at h1
  rw [h1]
theorem prov_dual {R : Int} {W : List Int} (hR : 1 ≤ R) (hl : W.length ≤ 1000) (T : List Nat) : provN R W (nl T) = Dual.proved R.toNat W T := by
  unfold provN Dual.proved
  rw [free_cnt, free_same hl, nl_len, show ((R.toNat : Nat) : Int) = R by omega]
theorem okT_nat {n : Int} : ∀ {T : List Int} {nx : Int}, 0 ≤ nx → okT n nx T = true → ∃ X : List Nat, T = nl X ∧ X.Pairwise (· < ·) ∧ (∀ t ∈ X, (t : Int) < n) ∧ ∀ t ∈ X, nx ≤ (t : Int)
  | [], _, _, _ => ⟨[], rfl, List.Pairwise.nil, by simp, by simp⟩
  | t :: T, nx, h0, h => by
    unfold okT at h
    rw [Bool.and_eq_true, decide_eq_true_eq] at h
    obtain ⟨X, rfl, h2, h3, h4⟩ := okT_nat (by omega) h.2
    obtain ⟨m, rfl⟩ := Int.eq_ofNat_of_zero_le (show 0 ≤ t by omega)
    refine ⟨m :: X, rfl, List.pairwise_cons.2 ⟨fun x hx => by have := h4 x hx; omega, h2⟩, fun x hx => ?_, fun x hx => ?_⟩
    · rcases List.mem_cons.1 hx with rfl | hx
      · omega
      · exact h3 x hx
    · rcases List.mem_cons.1 hx with rfl | hx
      · omega
      · have := h4 x hx; omega
theorem nat_okT {n : Int} : ∀ {X : List Nat} {nx : Int}, X.Pairwise (· < ·) → (∀ t ∈ X, (t : Int) < n) → (∀ t ∈ X, nx ≤ (t : Int)) → okT n nx (nl X) = true
  | [], _, _, _, _ => rfl
  | t :: X, nx, h1, h2, h3 => by
    rw [List.pairwise_cons] at h1
    have a := h2 t (by simp); have b := h3 t (by simp)
    have ih := nat_okT (X := X) (nx := (t : Int) + 1) h1.2 (fun x hx => h2 x (by simp [hx])) (fun x hx => by have := h1.1 x hx; omega)
    show okT n nx ((t : Int) :: nl X) = true
    unfold okT
    rw [Bool.and_eq_true, decide_eq_true_eq]
    exact ⟨by omega, ih⟩
/-- Some times prove as many as there are fewest fetches; none more. -/
theorem prov_le {R : Int} {W : List Int} (hd : OkD R W) {T : List Int} (h : okT W.length 0 T = true) : provN R W T ≤ aheadD R W W.length 0 := by
  obtain ⟨X, rfl, h2, h3, h4⟩ := okT_nat (by omega) h
  rw [prov_dual hd.r1 (by have := hd.l16; omega)]
  exact times_le hd X fun t ht => by have := h3 t ht; omega
theorem prov_most {R : Int} {W : List Int} (hd : OkD R W) : ∃ X : List Nat, X.Pairwise (· < ·) ∧ (∀ t ∈ X, t < W.length) ∧ provN R W (nl X) = aheadD R W W.length 0 := by
  obtain ⟨X, h1, h2, h3⟩ := few_times hd
  exact ⟨X, h1, h2, by rw [prov_dual hd.r1 (by have := hd.l16; omega)]; exact h3⟩

theorem minT_spec {f : Nat → Int} (h0 : f 0 < 1000) : ∀ {k : Nat}, 0 < k → (minT f k).2 < k ∧ (minT f k).1 = f (minT f k).2 ∧ ∀ j, j < k → (minT f k).1 ≤ f j
  | 0, h => by omega
  | 1, _ => by
    have : minT f 1 = (f 0, 0) := by
      show (if f 0 < (1000 : Int) then (f 0, 0) else ((1000 : Int), 0)) = _
      rw [if_pos h0]
    rw [this]
    exact ⟨by omega, rfl, fun j hj => by have : j = 0 := by omega
                                         subst this; exact Int.le_refl _⟩
  | k + 2, _ => by
    obtain ⟨a, b, c⟩ := minT_spec h0 (k := k + 1) (by omega)
    have e : minT f (k + 2) = if f (k + 1) < (minT f (k + 1)).1 then (f (k + 1), k + 1) else minT f (k + 1) := rfl
    rw [e]
    split
    · rename_i hlt
      refine ⟨by simp, rfl, fun j hj => ?_⟩
      by_cases ej : j = k + 1
      · subst ej; exact Int.le_refl _
      · have := c j (by omega)
        simp only; omega
    · rename_i hlt
      refine ⟨by omega, b, fun j hj => ?_⟩
      by_cases ej : j = k + 1
      · subst ej; omega
      · exact c j (by omega)
theorem minT_congr {f g : Nat → Int} : ∀ {k : Nat}, (∀ j, j < k → f j = g j) → minT f k = minT g k
  | 0, _ => rfl
  | k + 1, h => by
    unfold minT
    rw [minT_congr (k := k) fun j hj => h j (by omega), h k (by omega)]
theorem tabT_low (R : Int) (W : List Int) (j : Nat) : ∀ d, tabAt (tabT R W (j + d)) j = tabAt (tabT R W j) j
  | 0 => rfl
  | d + 1 => by
    have ih := tabT_low R W j d
    have hl := tabT_len R W (j + d)
    rw [← ih]
    show tabAt (tabT R W (j + d) ++ _) j = _
    unfold tabAt
    rw [List.getElem?_append_left (by omega)]
def vT (R : Int) (W : List Int) (k : Nat) : Int := (tabAt (tabT R W k) k).1
def gT (R : Int) (W : List Int) (last old : Nat) : Int := vT R W old + cntP old last (lastL W W.length) + if last ≤ W.length then R - 1 else 0
theorem tabT_at (R : Int) (W : List Int) (k : Nat) : tabAt (tabT R W (k + 1)) (k + 1) = minT (gT R W (k + 1)) (k + 1) := by
  have hl := tabT_len R W k
  show tabAt (tabT R W k ++ [minT (lostT R W (tabT R W k) (k + 1)) (k + 1)]) (k + 1) = _
  unfold tabAt
  rw [List.getElem?_append_right (by omega), hl, Nat.sub_self]
  simp only [List.getElem?_cons_zero, Option.getD_some]
  refine minT_congr fun j hj => ?_
  have := tabT_low R W j (k - j)
  rw [show j + (k - j) = k by omega] at this
  unfold lostT gT vT
  rw [this]
theorem vT_zero (R : Int) (W : List Int) : vT R W 0 = 0 := rfl
theorem lastL_16 {W : List Int} (h : W.length ≤ 16) : ((lastL W W.length).length : Int) ≤ 256 := by
  have := lastL_len W W.length
  have := Nat.mul_le_mul h h
  omega
theorem gT_zero {R : Int} {W : List Int} (hd : OkD R W) (last : Nat) : gT R W last 0 < 1000 := by
  have h1 := (cntP_bd 0 last (lastL W W.length)).2
  have h2 := lastL_16 hd.l16
  have h3 := hd.r6
  unfold gT
  rw [vT_zero]
  split <;> omega
theorem vT_at {R : Int} {W : List Int} (hd : OkD R W) {k : Nat} (hk : 0 < k) (hk2 : k ≤ W.length + 1) : befT R W k < k ∧ vT R W k = gT R W k (befT R W k) ∧ ∀ j, j < k → vT R W k ≤ gT R W k j := by
  obtain ⟨m, rfl⟩ : ∃ m, k = m + 1 := ⟨k - 1, by omega⟩
  have e := tabT_at R W m
  have eb : befT R W (m + 1) = (minT (gT R W (m + 1)) (m + 1)).2 := by
    unfold befT
    have := tabT_low R W (m + 1) (W.length - m)
    rw [show m + 1 + (W.length - m) = W.length + 1 by omega] at this
    rw [this, e]
  have ev : vT R W (m + 1) = (minT (gT R W (m + 1)) (m + 1)).1 := by unfold vT; rw [e]
  rw [eb, ev]
  exact minT_spec (gT_zero hd (m + 1)) (by omega)
/-- The pauses up to a place in which none of the times lies. -/
def upN (W : List Int) (last : Nat) (X : List Nat) : Int := (((lastL W W.length).filter fun p => freeP (nl X) p && decide (p.2 ≤ (last : Int) - 1)).length : Int)
theorem filt_or {α : Type} (A B C : α → Bool) : ∀ l : List α, (∀ x ∈ l, C x = (A x || B x)) → (∀ x ∈ l, A x = true → B x = true → False) → (l.filter C).length = (l.filter A).length + (l.filter B).length
  | [], _, _ => rfl
  | x :: l, h, hd => by
    have ih := filt_or A B C l (fun y hy => h y (by simp [hy])) (fun y hy => hd y (by simp [hy]))
    have h1 := h x (by simp); have h2 := hd x (by simp)
    cases ha : A x <;> cases hb : B x
    · simp [h1, ha, hb, ih]
    · simp [h1, ha, hb, ih]; omega
    · simp [h1, ha, hb, ih]; omega
    · exact (h2 ha hb).elim
theorem freeP_iff {X : List Nat} {a b : Nat} : freeP (nl X) ((a : Int), (b : Int)) = true ↔ ∀ t ∈ X, ¬ (a < t ∧ t < b) := by
  unfold freeP
  rw [Bool.not_eq_true', List.any_eq_false]
  constructor
  · intro h t ht hh
    have := h (t : Int) (List.mem_map.2 ⟨t, ht, rfl⟩)
    apply this
    unfold inP
    simp only [Bool.and_eq_true, decide_eq_true_eq]; omega
  · intro h t ht hin
    obtain ⟨n, hn, rfl⟩ := List.mem_map.1 ht
    unfold inP at hin
    simp only [Bool.and_eq_true, decide_eq_true_eq] at hin
    exact h n hn (by omega)
theorem upN_nil (W : List Int) (last : Nat) : upN W last [] = cntP 0 last (lastL W W.length) := by
  unfold upN cntP
  congr 2
  refine List.filter_congr fun p hp => ?_
  obtain ⟨a, b, h1, h2, h3, rfl⟩ := mem_lastL.1 hp
  have : freeP (nl []) ((a : Int), (b : Int)) = true := freeP_iff.2 (by simp)
  rw [this]
  unfold betwB
  first | (simp; done) | (simp; omega)
theorem upN_snoc (W : List Int) {last t : Nat} {X : List Nat} (hX : ∀ x ∈ X, x < t) (ht : t + 1 < last) : upN W last (X ++ [t]) = upN W (t + 1) X + cntP (t + 1) last (lastL W W.length) := by
  unfold upN cntP
  rw [← Int.natCast_add]
  congr 1
  refine filt_or _ _ _ _ (fun p hp => ?_) (fun p hp h1 h2 => ?_)
  · obtain ⟨a, b, h1, h2, h3, rfl⟩ := mem_lastL.1 hp
    rw [Bool.eq_iff_iff]
    unfold betwB
    simp only [Bool.and_eq_true, Bool.or_eq_true, decide_eq_true_eq, freeP_iff]
    constructor
    · rintro ⟨g1, g2⟩
      have g3 := g1 t (by simp)
      by_cases hc : b ≤ t
      · exact .inl ⟨fun x hx => g1 x (by simp [hx]), by omega⟩
      · exact .inr ⟨by omega, by omega⟩
    · rintro (⟨g1, g2⟩ | ⟨g1, g2⟩)
      · refine ⟨fun x hx => ?_, by omega⟩
        rcases List.mem_append.1 hx with hx | hx
        · exact g1 x hx
        · simp at hx; subst hx; omega
      · refine ⟨fun x hx => ?_, by omega⟩
        rcases List.mem_append.1 hx with hx | hx
        · have := hX x hx; omega
        · simp at hx; subst hx; omega
  · obtain ⟨a, b, g1, g2, g3, rfl⟩ := mem_lastL.1 hp
    unfold betwB at h2
    simp only [Bool.and_eq_true, decide_eq_true_eq] at h1 h2
    omega
theorem upN_all (W : List Int) (X : List Nat) : upN W (W.length + 1) X = freeN (nl X) (lastL W W.length) := by
  unfold upN freeN
  congr 2
  refine List.filter_congr fun p hp => ?_
  obtain ⟨a, b, h1, h2, h3, rfl⟩ := mem_lastL.1 hp
  have : decide ((b : Int) ≤ ((W.length + 1 : Nat) : Int) - 1) = true := decide_eq_true (by omega)
  simp only [this, Bool.and_true]
theorem vT_le {R : Int} {W : List Int} (hd : OkD R W) : ∀ last, 0 < last → last ≤ W.length + 1 → ∀ X : List Nat, X.Pairwise (· < ·) → (∀ t ∈ X, t + 1 < last) → vT R W last ≤ (X.length : Int) * (R - 1) + upN W last X + if last ≤ W.length then R - 1 else 0 := by
  intro last
  induction last using Nat.strongRecOn with
  | ind last ih =>
    intro h0 h1 X hX hlt
    have hv := (vT_at hd h0 h1).2.2
    rcases List.eq_nil_or_concat X with rfl | ⟨Y, t, rfl⟩
    · have := hv 0 h0
      unfold gT at this
      rw [vT_zero] at this
      rw [upN_nil]
      simp only [List.length_nil, Int.natCast_zero, Int.zero_mul]
      omega
    · rw [List.concat_eq_append] at hX hlt ⊢
      have hYt : ∀ x ∈ Y, x < t := fun x hx => (List.pairwise_append.1 hX).2.2 x hx t (by simp)
      have ht := hlt t (by simp)
      have i1 := ih (t + 1) ht (by omega) (by omega) Y (List.pairwise_append.1 hX).1 (fun x hx => by have := hYt x hx; omega)
      rw [if_pos (by omega)] at i1
      have := hv (t + 1) ht
      unfold gT at this
      rw [upN_snoc W hYt ht, List.length_append, List.length_singleton]
      have e : ((Y.length + 1 : Nat) : Int) * (R - 1) = (Y.length : Int) * (R - 1) + (R - 1) := by
        rw [Int.natCast_add, Int.add_mul]; simp
      omega
theorem chain_cost {R : Int} {W : List Int} (hd : OkD R W) : ∀ f a, a ≤ W.length → a < f → ∃ X : List Nat, (chainF (befT R W) f a).reverse = nl X ∧ X.Pairwise (· < ·) ∧ (∀ t ∈ X, t < a) ∧
    ∀ last, a < last → (X.length : Int) * (R - 1) + upN W last X = vT R W a + cntP a last (lastL W W.length)
  | 0, a, _, h => by omega
  | f + 1, a, h1, h2 => by
    unfold chainF
    by_cases ha : a = 0
    · subst ha
      rw [if_pos rfl]
      refine ⟨[], rfl, List.Pairwise.nil, by simp, fun last _ => ?_⟩
      rw [upN_nil, vT_zero]; simp
    · rw [if_neg ha]
      obtain ⟨v1, v2, _⟩ := vT_at hd (show 0 < a by omega) (by omega)
      obtain ⟨X, x1, x2, x3, x4⟩ := chain_cost hd f (befT R W a) (by omega) (by omega)
      obtain ⟨t, rfl⟩ : ∃ t, a = t + 1 := ⟨a - 1, by omega⟩
      have hXt : ∀ x ∈ X, x < t := fun x hx => by have := x3 x hx; omega
      refine ⟨X ++ [t], ?_, ?_, fun x hx => ?_, fun last hl => ?_⟩
      · rw [List.reverse_cons, x1, nl_snoc]
        congr 2
        omega
      · rw [List.pairwise_append]
        exact ⟨x2, by simp, fun x hx y hy => by simp at hy; subst hy; exact hXt x hx⟩
      · rcases List.mem_append.1 hx with hx | hx
        · have := hXt x hx; omega
        · simp at hx; omega
      · have h4 := x4 (t + 1) v1
        unfold gT at v2
        rw [if_pos (by omega)] at v2
        rw [upN_snoc W hXt hl, List.length_append, List.length_singleton]
        have e : ((X.length + 1 : Nat) : Int) * (R - 1) = (X.length : Int) * (R - 1) + (R - 1) := by
          rw [Int.natCast_add, Int.add_mul]; simp
        omega
/-- The times of the program are in order, and prove as many as there are fewest fetches. -/
theorem timesP_ok {R : Int} {W : List Int} (hd : OkD R W) : okT W.length 0 (timesP R W) = true ∧ provN R W (timesP R W) = aheadD R W W.length 0 := by
  have h16 := hd.l16
  obtain ⟨v1, v2, _⟩ := vT_at hd (k := W.length + 1) (by omega) (Nat.le_refl _)
  obtain ⟨X, x1, x2, x3, x4⟩ := chain_cost hd (W.length + 2) (befT R W (W.length + 1)) (by omega) (by omega)
  have h4 := x4 (W.length + 1) v1
  have e : timesP R W = nl X := x1
  rw [e]
  have hok : okT W.length 0 (nl X) = true := nat_okT x2 (fun t ht => by have := x3 t ht; omega) (fun t _ => by omega)
  refine ⟨hok, ?_⟩
  have hle := prov_le hd hok
  obtain ⟨Y, y1, y2, y3⟩ := prov_most hd
  have hv := vT_le hd (W.length + 1) (by omega) (Nat.le_refl _) Y y1 (fun t ht => by have := y2 t ht; omega)
  unfold gT at v2
  rw [if_neg (by omega)] at v2 hv
  have p1 : ∀ Z : List Nat, provN R W (nl Z) = (W.length : Int) - (Z.length : Int) * (R - 1) - upN W (W.length + 1) Z := by
    intro Z
    unfold provN
    rw [upN_all, free_same (by omega), nl_len]
  rw [p1] at y3 hle ⊢
  omega
end Go.Proofs.Ytjajdpggoggoiaa

namespace Go.Proofs.Ytjajdpggoggoiaa

theorem depGo_pause {W : List Int} {a p : Nat} (hap : a < p) (ha : want W a = want W p) (hk : ∀ k, a < k → k < p → want W k ≠ want W p) {m : List Int} (hm : m.Nodup) (hmm : ∀ x, x ∈ m ↔ ∃ k, a < k ∧ k ≤ p ∧ want W k = x) :
    ∀ c seen, a < c → c ≤ p + 1 → seen.Nodup → (∀ x, x ∈ seen ↔ ∃ k, c ≤ k ∧ k ≤ p ∧ want W k = x) → depGo W p c seen = (m.length : Int)
  | 0, _, h, _, _, _ => by omega
  | c + 1, seen, h1, h2, h3, h4 => by
    unfold depGo
    by_cases e : c = a
    · subst e
      rw [if_pos ⟨hap, ha⟩]
      congr 1
      exact nodup_len _ _ h3 hm fun x => by rw [h4, hmm]; exact Iff.rfl
    · rw [if_neg (fun hh => hk c (by omega) hh.1 hh.2)]
      refine depGo_pause hap ha hk hm hmm c _ (by omega) (by omega) ?_ (fun x => ?_)
      · split
        · exact h3
        · rename_i hn
          rw [any_eqB] at hn
          rw [List.nodup_append]
          refine ⟨h3, by simp, fun y hy z hz => ?_⟩
          simp at hz; subst hz
          intro e2; subst e2
          simp at hn; exact hn hy
      · have hx : x ∈ seen ∨ x = want W c ↔ ∃ k, c ≤ k ∧ k ≤ p ∧ want W k = x := by
          rw [h4]
          constructor
          · rintro (⟨k, k1, k2, k3⟩ | rfl)
            · exact ⟨k, by omega, k2, k3⟩
            · exact ⟨c, Nat.le_refl _, by omega, rfl⟩
          · rintro ⟨k, k1, k2, k3⟩
            by_cases e2 : k = c
            · subst e2; exact .inr k3.symm
            · exact .inl ⟨k, by omega, k2, k3⟩
        split
        · rename_i hn
          rw [any_eqB] at hn
          have hn : want W c ∈ seen := by simpa using hn
          rw [← hx]
          constructor
          · exact .inl
          · rintro (h | rfl)
            · exact h
            · exact hn
        · rw [List.mem_append, List.mem_singleton]; exact hx
theorem depGo_none {W : List Int} {p : Nat} (hk : ∀ k, k < p → want W k ≠ want W p) : ∀ c seen, depGo W p c seen = 0
  | 0, _ => rfl
  | c + 1, seen => by
    unfold depGo
    rw [if_neg (fun hh => hk c hh.1 hh.2)]
    exact depGo_none hk c _
theorem depth_none {W : List Int} {p : Nat} (hp : p < W.length) (h : ∀ a, a < p → pauseB W a p = false) : depthD W p = 0 := by
  refine depGo_none (fun k hk e => ?_) _ _
  obtain ⟨a, _, a2, a3⟩ := again_pause hp k hk e
  rw [h a a2] at a3; cases a3
theorem sum_onL_any {l : List Int} (hl : ∀ x ∈ l, 1 ≤ x ∧ x ≤ 8) {m : List Int} (hm : m.Nodup) (h : ∀ x, x ∈ m ↔ x ∈ l) : sumL (onL l) = (m.length : Int) := by
  unfold onL
  rw [sum_ite]
  congr 1
  have := nodup_len (((List.range 9).filter fun i : Nat => decide ((i : Int) ∈ l)).map fun (i : Nat) => (i : Int)) m (by
    rw [List.Nodup, List.pairwise_map]
    refine List.Pairwise.imp_of_mem ?_ ((List.nodup_range (n := 9)).filter _)
    intro a b _ _ hab e
    exact hab (by omega)) hm (fun x => by
    rw [h]
    constructor
    · intro hx
      obtain ⟨i, hi, rfl⟩ := List.mem_map.1 hx
      simp at hi; exact hi.2
    · intro hx
      have := hl x hx
      refine List.mem_map.2 ⟨x.toNat, ?_, by omega⟩
      simp
      refine ⟨by omega, ?_⟩
      rw [show max x 0 = x by omega]; exact hx)
  simpa using this
def dedup : List Int → List Int
  | [] => []
  | x :: l => if x ∈ dedup l then dedup l else x :: dedup l
theorem dedup_ok : ∀ l : List Int, (dedup l).Nodup ∧ ∀ x, x ∈ dedup l ↔ x ∈ l
  | [] => ⟨List.nodup_nil, fun x => Iff.rfl⟩
  | y :: l => by
    obtain ⟨h1, h2⟩ := dedup_ok l
    unfold dedup
    split
    · rename_i hy
      refine ⟨h1, fun x => ?_⟩
      rw [h2, List.mem_cons]
      constructor
      · exact .inr
      · rintro (rfl | h)
        · exact (h2 _).1 hy
        · exact h
    · rename_i hy
      refine ⟨List.nodup_cons.2 ⟨hy, h1⟩, fun x => ?_⟩
      rw [List.mem_cons, List.mem_cons, h2]
/-- The wants from a to p, without p. -/
def subW (W : List Int) (a p : Nat) : List Int := (W.drop a).take (p - a)
theorem subW_len {W : List Int} {a p : Nat} (h : p ≤ W.length) (hap : a ≤ p) : (subW W a p).length = p - a := by simp [subW]; omega
theorem subW_at {W : List Int} {a p j : Nat} (_h : p ≤ W.length) (hj : j < p - a) : (subW W a p)[j]?.getD 0 = want W (a + j) := by
  unfold subW want
  rw [List.getElem?_take, if_pos hj, List.getElem?_drop]
theorem mem_subW {W : List Int} {a p : Nat} (h : p ≤ W.length) (hap : a ≤ p) {x : Int} : x ∈ subW W a p ↔ ∃ k, a ≤ k ∧ k < p ∧ want W k = x := by
  have hl := subW_len h hap
  constructor
  · intro hx
    obtain ⟨j, hj, rfl⟩ := List.getElem_of_mem hx
    refine ⟨a + j, by omega, by omega, ?_⟩
    rw [← subW_at h (by omega)]; simp [hj]
  · rintro ⟨k, k1, k2, rfl⟩
    have e := subW_at (a := a) (j := k - a) h (by omega)
    rw [show a + (k - a) = k by omega] at e
    rw [← e, List.getElem?_eq_getElem (by omega)]
    exact List.getElem_mem _
theorem depth_pause {R : Int} {W : List Int} (hd : OkD R W) {a p : Nat} (hp : p < W.length) (hap : a < p) (h : pauseB W a p = true) : depthD W p = sumL (onL (subW W a p)) := by
  unfold pauseB at h
  rw [Bool.and_eq_true, decide_eq_true_eq, soleB_iff hap hp] at h
  obtain ⟨d1, d2⟩ := dedup_ok (subW W a p)
  have hs : sumL (onL (subW W a p)) = ((dedup (subW W a p)).length : Int) := sum_onL_any (fun x hx => by
    obtain ⟨k, _, k2, rfl⟩ := (mem_subW (by omega) (by omega)).1 hx
    exact hd.at (by omega)) d1 d2
  rw [hs]
  refine depGo_pause hap h.1.symm h.2 d1 (fun x => ?_) (p + 1) [] (by omega) (Nat.le_refl _) List.nodup_nil (fun x => ?_)
  · rw [d2, mem_subW (by omega) (by omega)]
    constructor
    · rintro ⟨k, k1, k2, k3⟩
      by_cases e : k = a
      · subst e; exact ⟨p, hap, Nat.le_refl _, h.1.trans k3⟩
      · exact ⟨k, by omega, by omega, k3⟩
    · rintro ⟨k, k1, k2, k3⟩
      by_cases e : k = p
      · subst e; exact ⟨a, Nat.le_refl _, hap, h.1.symm.trans k3⟩
      · exact ⟨k, by omega, by omega, k3⟩
  · constructor
    · intro hx; simp at hx
    · rintro ⟨k, k1, k2, _⟩; omega
theorem onL_snoc {l : List Int} {v : Nat} (hv : v < 9) : (onL l).set v 1 = onL (l ++ [(v : Int)]) := by
  apply List.ext_getElem
  · simp [onL]
  · intro i h1 h2
    have hi : i < 9 := by rw [onL_len] at h2; exact h2
    have e1 : ∀ (l : List Int) (h : i < l.length), l[i] = l[i]?.getD 0 := fun l h => by simp [h]
    rw [e1 _ h1, e1 _ h2, onL_at _ i hi, set_get _ _ _ _ (by rw [onL_len]; omega), onL_at _ i hi]
    by_cases e : v = i
    · subst e
      rw [if_pos rfl, if_pos (by simp)]
    · rw [if_neg e]
      by_cases hm : (i : Int) ∈ l
      · rw [if_pos hm, if_pos (by simp [hm])]
      · rw [if_neg hm, if_neg]
        intro hc
        rcases List.mem_append.1 hc with h | h
        · exact hm h
        · simp at h; omega
theorem onL_bit (l : List Int) : ∀ y ∈ onL l, 0 ≤ y ∧ y ≤ 1 := by
  intro y hy
  obtain ⟨i, _, rfl⟩ := List.mem_map.1 hy
  split <;> omega
end Go.Proofs.Ytjajdpggoggoiaa

namespace Go.Proofs.Ytjajdpggoggoiaa
open Go.RowKit Go.Shelf

/-- Rows of the call's own that were there before a block hi. -/
structure OwnB (w : World) (base hi : Nat) (rs : List (Value × List Int)) : Prop where
  own : OwnN w base rs
  lt : ∀ r ∈ rs, ∀ k, r.1.ownBlock = some k → k < hi
theorem OwnN.toB {w : World} {base hi : Nat} {rs : List (Value × List Int)} (h : OwnN w base rs) (hs : w.heap.size ≤ hi) : OwnB w base hi rs :=
  ⟨h, fun r hr _ e => Nat.lt_of_lt_of_le ((h.own r hr).lt e).2 hs⟩
theorem OwnB.grown {w w' : World} {base hi : Nat} {rs : List (Value × List Int)} {row : Option Nat} (h : OwnB w base hi rs) (hg : w.grownBy w' row) (hr : ∀ r, row = some r → hi ≤ r) : OwnB w' base hi rs := by
  refine ⟨⟨fun r hm => World.ownsRow.kept (h.own.own r hm) hg ?_, h.own.apart⟩, h.lt⟩
  cases hb : r.1.ownBlock with
  | none => exact .inl rfl
  | some k =>
    refine .inr ?_
    intro e
    have h1 := h.lt r hm k hb
    have h2 := hr k e.symm
    omega
theorem abides_ownB {lo hi base : Nat} {rs : List (Value × List Int)} : Abides1 lo hi (fun W => OwnB W base lo rs) :=
  fun _ _ _ h hg hr => h.grown hg fun r e => (hr r e).1
def rowV (g N : Nat) : Value := .slice (some ⟨g, 0, none⟩) N N
def zeroL (N : Nat) : List Int := List.replicate N 0
theorem OwnN.ownI {w : World} {base : Nat} {A B : List (Value × List Int)} {g N : Nat} {xs : List Int} (h : OwnN w base (A ++ (rowV g N, xs) :: B)) (hl : xs.length = N) : ownI w base g N N xs := by
  have h1 : w.ownsRow base 3 1 (rowV g N) xs.length (xs.map (Value.int .i64)) := h.at
  unfold Ytjajdpggoggoiaa.ownI
  rw [hl] at h1; exact h1
theorem OwnN.geti {w : World} {base : Nat} {A B : List (Value × List Int)} {g N : Nat} {xs : List Int} (h : OwnN w base (A ++ (rowV g N, xs) :: B)) (hl : xs.length = N) {i : Nat} (hi : i < N) :
    w.cell? ⟨g, i, none⟩ = some (.int .i64 (xs[i]?.getD 0)) ∧ w.frozen? ⟨g, i, none⟩ = false ∧ g < w.heap.size ∧ base ≤ g := by
  have h1 := h.ownI hl
  exact ⟨h1.cell hi, World.ownsRow.frozenAt h1 i, h1.lt, h1.bounds.1⟩
theorem OwnN.seti {w : World} {base : Nat} {A B : List (Value × List Int)} {g N : Nat} {xs : List Int} (h : OwnN w base (A ++ (rowV g N, xs) :: B)) (hl : xs.length = N) (i : Nat) (y : Int) :
    OwnN (w.setCell ⟨g, i, none⟩ (.int .i64 y)) base (A ++ (rowV g N, xs.set i y) :: B) := by
  have h1 := h.ownI hl
  refine h.upd (World.ownsRow.stored h1 i (.int .i64 y)).2 ?_ (.inl rfl)
  have h2 := h1.set i y
  unfold rowI
  rw [List.length_set, hl]; exact h2
/-- A block of cells. -/
theorem OwnN.block {w : World} {base : Nat} {A B : List (Value × List Int)} {v : Value} {xs : List Int} (h : OwnN w base (A ++ (v, xs) :: B)) {g : Nat} (hv : v.ownBlock = some g) : ∃ cs t, w.heap[g]? = some (.cells cs t (0, 0)) ∧ base ≤ g := by
  have h1 : w.ownsRow base 3 1 v xs.length (xs.map (Value.int .i64)) := h.at
  rcases h1.2 with ⟨e, _⟩ | ⟨k, cap, cur, rfl, hb, hg, _⟩
  · rw [e] at hv; cases hv
  · simp [Value.ownBlock] at hv; subst hv; exact ⟨cur, 3, hg, hb⟩
/-- Marks of loops over iterators that are over. -/
structure Marks (D : List Deferred) (base hi : Nat) (w : World) : Prop where
  all : ∀ d ∈ D, ∃ r, d = { target := .collected r, args := #[] } ∧ base ≤ r ∧ r < hi ∧ w.heap[r]? = some (.deferred (some []))
  ne : D.Pairwise fun d e => d ≠ e
theorem Marks.nil (base hi : Nat) (w : World) : Marks [] base hi w := ⟨by simp, List.Pairwise.nil⟩
theorem Marks.mono {D : List Deferred} {base hi hi' : Nat} {w : World} (h : Marks D base hi w) (hh : hi ≤ hi') : Marks D base hi' w :=
  ⟨fun d hd => by obtain ⟨r, h1, h2, h3, h4⟩ := h.all d hd; exact ⟨r, h1, h2, by omega, h4⟩, h.ne⟩
theorem Marks.lt {D : List Deferred} {base hi hi' : Nat} {w : World} (h : Marks D base hi w) (hh : w.heap.size ≤ hi') : Marks D base hi' w :=
  ⟨fun d hd => by obtain ⟨r, h1, h2, h3, h4⟩ := h.all d hd; exact ⟨r, h1, h2, Nat.lt_of_lt_of_le (Array.getElem?_eq_some_iff.1 h4).1 hh, h4⟩, h.ne⟩
theorem Marks.grown {D : List Deferred} {base hi : Nat} {w w' : World} {row : Option Nat} (h : Marks D base hi w) (hg : w.grownBy w' row) (hr : ∀ r, row = some r → hi ≤ r ∨ ∃ cs t fr, w.heap[r]? = some (.cells cs t fr)) : Marks D base hi w' := by
  refine ⟨fun d hd => ?_, h.ne⟩
  obtain ⟨r, h1, h2, h3, h4⟩ := h.all d hd
  refine ⟨r, h1, h2, h3, (hg.block r (Array.getElem?_eq_some_iff.1 h4).1 (fun e => ?_)).trans h4⟩
  rcases hr r e.symm with g | ⟨cs, t, fr, g⟩
  · omega
  · rw [h4] at g; cases g
theorem Marks.up {D : List Deferred} {base hi : Nat} {w w' : World} (h : Marks D base hi w) (hb : Below w.heap.size w w') : Marks D base hi w' := h.grown (grown_of hb) fun r e => by cases e
theorem Marks.set {D : List Deferred} {base hi : Nat} {w : World} (h : Marks D base hi w) {g i : Nat} {v u : Value} (hc : w.cell? ⟨g, i, none⟩ = some v) : Marks D base hi (w.setCell ⟨g, i, none⟩ u) := by
  refine ⟨fun d hd => ?_, h.ne⟩
  obtain ⟨r, h1, h2, h3, h4⟩ := h.all d hd
  refine ⟨r, h1, h2, h3, (Go.Deep.blk_setCell_other w ⟨g, i, none⟩ u r (fun e => ?_)).trans h4⟩
  subst e
  simp [World.cell?, h4] at hc
theorem Marks.cons {D : List Deferred} {base hi hi' r : Nat} {w : World} (h : Marks D base hi w) (h1 : hi ≤ r) (h2 : base ≤ r) (h3 : r < hi') (hr : w.heap[r]? = some (.deferred (some []))) : Marks ({ target := .collected r, args := #[] } :: D) base hi' w := by
  refine ⟨fun d hd => ?_, List.pairwise_cons.2 ⟨fun d hd e => ?_, h.ne⟩⟩
  · rcases List.mem_cons.1 hd with rfl | hd
    · exact ⟨r, rfl, h2, h3, hr⟩
    · obtain ⟨q, g1, g2, g3, g4⟩ := h.all d hd
      exact ⟨q, g1, g2, by omega, g4⟩
  · obtain ⟨q, g1, g2, g3, g4⟩ := h.all d hd
    rw [g1] at e
    simp only [Deferred.mk.injEq, Target.collected.injEq, and_true] at e
    omega
theorem abides_marks {lo hi base : Nat} {D : List Deferred} : Abides1 lo hi (fun W => Marks D base lo W) :=
  fun _ _ _ h hg hr => h.grown hg fun r e => .inl (hr r e).1
/-- What the marks leave when they are taken. -/
structure Taken (base : Nat) (w w' : World) : Prop where
  os : w'.os = w.os
  tape : w'.tape = w.tape
  output : w'.output = w.output
  size : w'.heap.size = w.heap.size
  low : ∀ (k : Nat), k < base → w'.heap[k]? = w.heap[k]?
  rows : ∀ (k : Nat) (cs : Array Value) (t : TypeId) (fr : Nat × Nat), w.heap[k]? = some (Obj.cells cs t fr) → w'.heap[k]? = some (Obj.cells cs t fr)
theorem Taken.below {a w w' : World} (h : Taken a.heap.size w w') (hb : Below a.heap.size a w) : Below a.heap.size a w' :=
  ⟨h.os.trans hb.os, h.tape.trans hb.tape, h.output.trans hb.output, by rw [h.size]; exact hb.size, fun k hk => (h.low k hk).trans (hb.block k hk)⟩
theorem Taken.row {base b2 : Nat} {w w' : World} (h : Taken base w w') {v : Value} {xs : List Int} (hr : rowI w b2 v xs) : rowI w' b2 v xs := by
  unfold rowI at hr ⊢
  refine ⟨hr.1, ?_⟩
  rcases hr.2 with h1 | ⟨g, cap, cur, e, hb, hg, h1⟩
  · exact .inl h1
  · exact .inr ⟨g, cap, cur, e, hb, h.rows _ _ _ _ hg, h1⟩
theorem leaves_marks {F : Fence} {n : Nat} {P : Program} {fn : Func} {tmps : Array Value} {R : Ending → World → Prop} {base : Nat} : ∀ (D : List Deferred) (hi : Nat) (w : World), Marks D base hi w →
    (∀ w', Taken base w w' → LeavesIn F n P fn tmps R [] .returning w') → LeavesInM F n P fn tmps R D .returning w
  | [], _, w, _, h => h w ⟨rfl, rfl, rfl, rfl, fun _ _ => rfl, fun _ _ _ _ h => h⟩
  | d :: D, hi, w, hm, h => by
    obtain ⟨r, rfl, h2, h3, h4⟩ := hm.all d (by simp)
    have hne := List.pairwise_cons.1 hm.ne
    refine ⟨by simp, .inl ⟨r, _, rfl, run_takeDeferred h4, ?_⟩⟩
    refine leaves_marks D hi _ ⟨fun e he => ?_, hne.2⟩ fun w' ht => h w' ⟨ht.os, ht.tape, ht.output, ht.size.trans World.putObj_size, fun k hk => (ht.low k hk).trans (World.putObj_heap_other (by omega)), fun k cs t fr hk => ht.rows k cs t fr ((World.putObj_heap_other (fun e => by subst e; rw [h4] at hk; cases hk)).trans hk)⟩
    obtain ⟨q, g1, g2, g3, g4⟩ := hm.all e (by simp [he])
    refine ⟨q, g1, g2, g3, (World.putObj_heap_other (fun e2 => ?_)).trans g4⟩
    subst e2
    exact hne.1 e he g1.symm
/-- The number in the cell to which a pointer leads. -/
def cellM (v : Value) (w : World) : Nat := match v with | .pointer (some ad) => (intOf ((w.cell? ad).getD undef)).toNat | _ => 0
theorem cellM_at {w : World} {ad : Addr} {k : IntKind} {x : Int} (h : w.cell? ad = some (.int k x)) : cellM (.pointer (some ad)) w = x.toNat := by
  simp [cellM, h, intOf]
end Go.Proofs.Ytjajdpggoggoiaa
