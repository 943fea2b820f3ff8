/- Merged texts: works as lists of jobs; checks of a work; days, length, circles of lists; no condition. -/
import Derived.Test.YteknehlkdgamjaaGreatMGA
import Derived.OwnWalk
namespace Go.Proofs.YteknehlkdgamjaaGreat

/-- A job: its days, and the jobs for which it waits. -/
structure Job where
  lo : Int
  hi : Int
  ws : List Int
deriving DecidableEq
def job (J : List Job) (i : Nat) : Job := J[i]?.getD ⟨0, 0, []⟩
theorem job_lt {J : List Job} {i : Nat} (h : i < J.length) : job J i = J[i] := by simp [job, h]
theorem job_mem {J : List Job} {i : Nat} (h : i < J.length) : job J i ∈ J := by rw [job_lt h]; exact List.getElem_mem h
/-- Job k waits for job b. -/
def edg (J : List Job) (b k : Nat) : Bool := decide (k < J.length) && (job J k).ws.contains (b : Int)
theorem edg_lt {J : List Job} {b k : Nat} (h : edg J b k = true) : k < J.length := by
  unfold edg at h; simp only [Bool.and_eq_true, decide_eq_true_eq] at h; exact h.1
/-- Job k comes after job b, by at most m waits. -/
def pth (J : List Job) : Nat → Nat → Nat → Bool
  | 0, _, _ => false
  | m + 1, b, k => edg J b k || (List.range J.length).any (fun i => edg J b i && pth J m i k)
inductive Rch (J : List Job) : Nat → Nat → Prop
  | one {b k : Nat} : edg J b k = true → Rch J b k
  | cons {b i k : Nat} : edg J b i = true → Rch J i k → Rch J b k
theorem Rch.trans {J : List Job} {b i k : Nat} (h : Rch J b i) (h2 : Rch J i k) : Rch J b k := by
  induction h with
  | one h => exact .cons h h2
  | cons h _ ih => exact .cons h (ih h2)
theorem Rch.snoc {J : List Job} {b i k : Nat} (h : Rch J b i) (h2 : edg J i k = true) : Rch J b k := h.trans (.one h2)
theorem Rch.lt {J : List Job} {b k : Nat} (h : Rch J b k) : k < J.length := by
  induction h with
  | one h => exact edg_lt h
  | cons _ _ ih => exact ih
/-- The last wait. -/
theorem Rch.last {J : List Job} {b k : Nat} (h : Rch J b k) : edg J b k = true ∨ ∃ i, Rch J b i ∧ edg J i k = true := by
  induction h with
  | one h => exact .inl h
  | cons h _ ih =>
    rcases ih with h2 | ⟨i, h2, h3⟩
    · exact .inr ⟨_, .one h, h2⟩
    · exact .inr ⟨i, .cons h h2, h3⟩
theorem pth_succ {J : List Job} {m b k : Nat} : pth J (m + 1) b k = true ↔ edg J b k = true ∨ ∃ i, edg J b i = true ∧ pth J m i k = true := by
  rw [show pth J (m + 1) b k = (edg J b k || (List.range J.length).any (fun i => edg J b i && pth J m i k)) from rfl, Bool.or_eq_true, List.any_eq_true]
  constructor
  · rintro (h | ⟨i, _, h⟩)
    · exact .inl h
    · rw [Bool.and_eq_true] at h; exact .inr ⟨i, h⟩
  · rintro (h | ⟨i, h1, h2⟩)
    · exact .inl h
    · exact .inr ⟨i, List.mem_range.2 (edg_lt h1), by rw [h1, h2]; rfl⟩
theorem pth_rch {J : List Job} : ∀ {m b k : Nat}, pth J m b k = true → Rch J b k
  | 0, _, _, h => by simp [pth] at h
  | m + 1, b, k, h => by
    rcases pth_succ.1 h with h | ⟨i, h1, h2⟩
    · exact .one h
    · exact .cons h1 (pth_rch h2)
theorem pth_up {J : List Job} : ∀ {m b k : Nat}, pth J m b k = true → pth J (m + 1) b k = true
  | 0, _, _, h => by simp [pth] at h
  | m + 1, b, k, h => by
    rcases pth_succ.1 h with h | ⟨i, h1, h2⟩
    · exact pth_succ.2 (.inl h)
    · exact pth_succ.2 (.inr ⟨i, h1, pth_up h2⟩)
theorem pth_mono {J : List Job} {m M b k : Nat} (hm : m ≤ M) (h : pth J m b k = true) : pth J M b k = true := by
  induction hm with
  | refl => exact h
  | step _ ih => exact pth_up ih
/-- One more round finds no more. -/
def Stbl (J : List Job) (k m : Nat) : Prop := ∀ b, b < J.length → pth J (m + 1) b k = true → pth J m b k = true
theorem stbl_up {J : List Job} {k m : Nat} (h : Stbl J k m) : Stbl J k (m + 1) := fun b hb h2 => by
  rcases pth_succ.1 h2 with h2 | ⟨i, h3, h4⟩
  · exact pth_succ.2 (.inl h2)
  · exact pth_succ.2 (.inr ⟨i, h3, h i (edg_lt h3) h4⟩)
theorem stbl_mono {J : List Job} {k m M : Nat} (hm : m ≤ M) (h : Stbl J k m) : Stbl J k M := by
  induction hm with
  | refl => exact h
  | step _ ih => exact stbl_up ih
theorem countP_lt {α : Type} {p q : α → Bool} : ∀ {l : List α}, (∀ x ∈ l, p x = true → q x = true) → (∃ x ∈ l, q x = true ∧ p x = false) → l.countP p < l.countP q
  | [], _, ⟨x, hx, _⟩ => by cases hx
  | a :: l, h, ⟨x, hx, h1, h2⟩ => by
    have hle : l.countP p ≤ l.countP q := List.countP_mono_left (fun y hy => h y (List.mem_cons_of_mem _ hy))
    rw [List.countP_cons, List.countP_cons]
    rcases List.mem_cons.1 hx with rfl | hx
    · rw [h1, h2]; simp; omega
    · have := countP_lt (p := p) (q := q) (l := l) (fun y hy => h y (List.mem_cons_of_mem _ hy)) ⟨x, hx, h1, h2⟩
      cases hp : p a with
      | false => cases q a <;> simp <;> omega
      | true => rw [h a (by simp) hp]; simp; omega
theorem stbl_or (J : List Job) (k : Nat) : ∀ m, (∃ m', m' ≤ m ∧ Stbl J k m') ∨ m + 1 ≤ (List.range J.length).countP (fun b => pth J (m + 1) b k)
  | 0 => by
    by_cases h : Stbl J k 0
    · exact .inl ⟨0, Nat.le_refl _, h⟩
    · right
      unfold Stbl at h
      simp only [Classical.not_forall] at h
      obtain ⟨b, hb, h1, _⟩ := h
      exact List.countP_pos_iff.2 ⟨b, List.mem_range.2 hb, h1⟩
  | m + 1 => by
    rcases stbl_or J k m with ⟨m', h1, h2⟩ | hc
    · exact .inl ⟨m', by omega, h2⟩
    · by_cases h : Stbl J k (m + 1)
      · exact .inl ⟨m + 1, Nat.le_refl _, h⟩
      · right
        unfold Stbl at h
        simp only [Classical.not_forall] at h
        obtain ⟨b, hb, h1, h2⟩ := h
        have := countP_lt (p := fun b => pth J (m + 1) b k) (q := fun b => pth J (m + 1 + 1) b k) (l := List.range J.length) (fun x _ hx => pth_up hx) ⟨b, List.mem_range.2 hb, h1, by simpa using h2⟩
        omega
theorem stbl_all (J : List Job) (k : Nat) : Stbl J k J.length := by
  rcases stbl_or J k J.length with ⟨m, h1, h2⟩ | h
  · exact stbl_mono h1 h2
  · have := List.countP_le_length (p := fun b => pth J (J.length + 1) b k) (l := List.range J.length)
    rw [List.length_range] at this
    omega
/-- Job k comes after job b. -/
def aft (J : List Job) (b k : Nat) : Bool := pth J J.length b k
theorem aft_iff {J : List Job} {b k : Nat} (hb : b < J.length) : aft J b k = true ↔ Rch J b k := by
  refine ⟨pth_rch, fun h => ?_⟩
  induction h with
  | one h =>
    unfold aft
    obtain ⟨n, hn⟩ : ∃ n, J.length = n + 1 := ⟨J.length - 1, by omega⟩
    rw [hn]; exact pth_succ.2 (.inl h)
  | cons h _ ih => exact stbl_all J _ _ hb (pth_succ.2 (.inr ⟨_, h, ih (edg_lt h)⟩))
/-- There is a circle: a job comes after itself. -/
def cir (J : List Job) : Bool := (List.range J.length).any fun i => aft J i i
theorem cir_none {J : List Job} (h : cir J = false) {i : Nat} : ¬ Rch J i i := fun hr => by
  have hl := hr.lt
  unfold cir at h
  rw [List.any_eq_false] at h
  exact h i (List.mem_range.2 hl) ((aft_iff hl).2 hr)
end Go.Proofs.YteknehlkdgamjaaGreat

namespace Go.Proofs.YteknehlkdgamjaaGreat
open Go.RowKit Go.Shelf

/-- The slice value v reads the jobs J. -/
def RdJ (w : World) (v : Value) (J : List Job) : Prop :=
  ∃ a cap, v = .slice a J.length cap ∧ J.length ≤ cap ∧ cap ≤ maxLen ∧ (0 < J.length → ∃ b off, a = some ⟨b, off, none⟩ ∧ b < w.heap.size ∧
    ∀ j, j < J.length → w.cell? ⟨b, off + j * 3, none⟩ = some (.int .i64 (job J j).lo) ∧ w.cell? ⟨b, off + j * 3 + 1, none⟩ = some (.int .i64 (job J j).hi) ∧
      ∃ e, w.cell? ⟨b, off + j * 3 + 2, none⟩ = some e ∧ RdI w .i64 e (job J j).ws)
theorem RdJ.mono {w w' : World} {v : Value} {J : List Job} (h : RdJ w v J) (hb : Below w.heap.size w w') : RdJ w' v J := by
  obtain ⟨a, cap, rfl, h1, h2, h⟩ := h
  refine ⟨a, cap, rfl, h1, h2, fun hn => ?_⟩
  obtain ⟨b, off, rfl, h3, h4⟩ := h hn
  refine ⟨b, off, rfl, Nat.lt_of_lt_of_le h3 hb.size, fun j hj => ?_⟩
  obtain ⟨g1, g2, e, g3, g4⟩ := h4 j hj
  exact ⟨(hb.cell (p := ⟨b, _, none⟩) h3).trans g1, (hb.cell (p := ⟨b, _, none⟩) h3).trans g2, e, (hb.cell (p := ⟨b, _, none⟩) h3).trans g3, g4.mono hb⟩
theorem keepJ {w : World} {v : Value} {J : List Job} (h : RdJ w v J) : Keep w (fun w => RdJ w v J) := fun _ hb => h.mono hb
theorem RdJ.sl {w : World} {v : Value} {J : List Job} (h : RdJ w v J) : ∃ a c, v = .slice a J.length c := by
  obtain ⟨a, c, rfl, _⟩ := h; exact ⟨a, c, rfl⟩
theorem RdJ.get {w : World} {a : Option Addr} {n c : Nat} {J : List Job} (h : RdJ w (.slice a n c) J) (i : Nat) (hi : i < J.length) :
    ∃ b off a' c', a = some ⟨b, off, none⟩ ∧ b < w.heap.size ∧ w.cell? ⟨b, off + i * 3, none⟩ = some (.int .i64 (job J i).lo) ∧ w.cell? ⟨b, off + i * 3 + 1, none⟩ = some (.int .i64 (job J i).hi) ∧
      w.cell? ⟨b, off + i * 3 + 2, none⟩ = some (.slice a' (job J i).ws.length c') ∧ RdI w .i64 (.slice a' (job J i).ws.length c') (job J i).ws := by
  obtain ⟨a0, c0, e0, _, _, h⟩ := h
  cases e0
  obtain ⟨b, off, rfl, h3, h4⟩ := h (by omega)
  obtain ⟨g1, g2, e, g3, g4⟩ := h4 i hi
  have g4' := g4
  obtain ⟨a', c', rfl, _⟩ := g4'
  exact ⟨b, off, a', c', rfl, h3, g1, g2, g3, g4⟩
/-- Few jobs, of few waits. -/
def SmJ (J : List Job) : Prop := J.length ≤ 100 ∧ ∀ i, (job J i).ws.length ≤ 100

def oddJ (j : Job) : Bool := decide (j.lo < 0) || decide (j.hi < j.lo) || decide (1000 < j.hi)
set_option maxRecDepth 100000 in
set_option maxHeartbeats 400000 in
theorem odd_any (j : Job) (x : Value) (w : World) (hx : ∃ a n c, x = .slice a n c) :
    Calls Tryz.prog 105 #[.agg #[.int .i64 j.lo, .int .i64 j.hi, x]] w fun e w' => e = .returned (.bool (oddJ j)) ∧ Below w.heap.size w w' := by
  obtain ⟨lo, hi, ws⟩ := j
  obtain ⟨a, n, c, rfl⟩ := hx
  unfold oddJ
  dsimp only
  by_cases h1 : lo < 0
  · have d1 : decide (lo < 0) = true := by simp [h1]
    rw [d1]; clear h1
    go_enter Tryz.func105, Tryz.ntmps105
    go_wp2_with fail
    go_ret
    exact ⟨rfl, bal (bz w) _⟩
  · have d1 : decide (lo < 0) = false := by simp; omega
    by_cases h2 : hi < lo
    · have d2 : decide (hi < lo) = true := by simp [h2]
      rw [d1, d2]; clear h1 h2
      go_enter Tryz.func105, Tryz.ntmps105
      go_wp2_with fail
      go_ret
      exact ⟨rfl, bal (bz w) _⟩
    · have d2 : decide (hi < lo) = false := by simp; omega
      rw [d1, d2]; clear h1 h2
      cases d3 : decide (1000 < hi)
      all_goals
        go_enter Tryz.func105, Tryz.ntmps105
        go_wp2_with fail
        go_ret
        exact ⟨rfl, bal (bz w) _⟩
set_option maxRecDepth 100000 in
set_option maxHeartbeats 400000 in
theorem indexjobs_any (v : Value) (J : List Job) (w : World) (hx0 : RdJ w v J) (hs : SmJ J) :
    Calls Tryz.prog 124 #[v, .func (.func 105) #[] #[]] w fun e w' => e = .returned (.int .i64 (idxOf oddJ J)) ∧ Below w.heap.size w w' := by
  obtain ⟨a, c, rfl⟩ := hx0.sl
  have HX := Lib.hid hx0
  have hl := hs.1
  clear hx0 hs
  go_enter Tryz.func124, Tryz.ntmps124
  go_wp2_with fail
  go_loopw [5, 8] (fun _ i wr => ∃ k : Nat, k ≤ J.length ∧ i = .int .i64 k ∧ (∀ i, i < k → oddJ (J[i]?.getD ⟨0, 0, []⟩) = false) ∧ Below w.heap.size w wr) (fun _ i _ => J.length - (intOf i).toNat)
  case atStart => exact ⟨0, Nat.zero_le _, rfl, by intro i h; omega, bz w⟩
  case round =>
    obtain ⟨k, hk, rfl, ht, hB⟩ := hrel
    have HT := Lib.hid ht; have HB := Lib.hid hB; clear ht hB
    by_cases hlt : k < J.length
    · obtain ⟨b, o, a', c', rfl, hb, g1, g2, g3, hr⟩ := (HX.out.mono HB.out).get k hlt
      have HC := Lib.hid (fun wz => odd_any (job J k) (.slice a' (job J k).ws.length c') wz ⟨_, _, _, rfl⟩)
      have HFS := Lib.hid (fun h => find_none_step (p := oddJ) HT.out hlt h)
      have HNX : Hid (oddJ (job J k) = false → ∀ i, i < k + 1 → oddJ (J[i]?.getD ⟨0, 0, []⟩) = false) := Lib.hid (fun h i hi => by
        by_cases e : i = k
        · subst e; exact h
        · exact HT.out i (by omega))
      have HJ : Hid (job J k = J[k]?.getD ⟨0, 0, []⟩) := Lib.hid rfl
      rw [← HJ.out] at HFS
      clear hr HJ
      generalize oddJ (job J k) = q at *
      generalize job J k = jb at *
      obtain ⟨lo, hi, ws⟩ := jb
      dsimp only at *
      generalize ws.length = m at *
      go_wp2_with fail
      refine (HC.out _).mono ?_
      rintro e w2 ⟨rfl, hB2⟩
      have HB2 := Lib.hid (btr HB.out hB2)
      clear hB2
      cases q with
      | true =>
        have HQ := Lib.hid (HFS.out rfl)
        go_wp2_with fail
        go_ret
        exact ⟨ret_int HQ.out.symm, HB2.out⟩
      | false =>
        have HQ := Lib.hid (HNX.out rfl)
        go_wp2_with fail
        go_roundw
        case rel => exact ⟨k + 1, by omega, by go_num, HQ.out, HB2.out⟩
        case measure => simp [intOf]; omega
    · have HQ := Lib.hid (find_none (p := oddJ) fun i hi => HT.out i (by omega))
      go_wp2_with fail
      go_ret
      exact ⟨ret_int HQ.out.symm, HB.out⟩
set_option maxRecDepth 100000 in
theorem containsjobs_any (v : Value) (J : List Job) (w : World) (hx0 : RdJ w v J) (hs : SmJ J) :
    Calls Tryz.prog 106 #[v, .func (.func 105) #[] #[]] w fun e w' => e = .returned (.bool (J.any oddJ)) ∧ Below w.heap.size w w' := by
  obtain ⟨a, c, rfl⟩ := hx0.sl
  have HI := Lib.hid (indexjobs_any _ J w hx0 hs)
  have HQ := Lib.hid (idxOf_any oddJ J)
  clear hx0
  generalize idxOf oddJ J = q at *
  generalize J.any oddJ = g at *
  go_enter Tryz.func106, Tryz.ntmps106
  go_wp2_with fail
  refine HI.out.mono ?_
  rintro e w2 ⟨rfl, hB⟩
  go_wp2_with fail
  go_ret
  exact ⟨ret_bool HQ.out, hB⟩
end Go.Proofs.YteknehlkdgamjaaGreat

namespace Go.Proofs.YteknehlkdgamjaaGreat
open Go.RowKit Go.Shelf

/-- A job whose waits are no list of other jobs. -/
def badJ (J : List Job) (i : Nat) : Bool := !lisB (job J i).ws J.length || (job J i).ws.contains (i : Int)
def badTo (J : List Job) (k : Nat) : Bool := (List.range k).any (badJ J)
theorem badTo_succ (J : List Job) (k : Nat) : badTo J (k + 1) = (badTo J k || badJ J k) := by unfold badTo; rw [List.range_succ, List.any_append]; simp
/-- The error of work. -/
def workC (J : List Job) : Int := if outB 1 12 J.length then 6 else if J.any oddJ then 3 else if badTo J J.length then 2 else 0
theorem badTo_mono {J : List Job} {k m : Nat} (h : badTo J k = true) (hkm : k ≤ m) : badTo J m = true := by
  unfold badTo at *
  rw [List.any_eq_true] at *
  obtain ⟨x, hx, hb⟩ := h
  rw [List.mem_range] at hx
  exact ⟨x, by rw [List.mem_range]; omega, hb⟩
theorem rdI_oneAt (w : World) (t : Int) (b : Nat) (hb : b = w.heap.size) : RdI (w.alloc (.cells #[.int .i64 t] 3)) .i64 (.slice (some ⟨b, 0, none⟩) 1 1) [t] := by
  subst hb; exact rdI_one w t
set_option maxRecDepth 100000 in
set_option maxHeartbeats 800000 in
theorem pwork_any (v : Value) (J : List Job) (w : World) (hx0 : RdJ w v J) (hs : SmJ J) :
    Calls Tryz.prog 86 #[.agg #[v]] w fun e w' => e = .returned (.int .i64 (workC J)) ∧ Below w.heap.size w w' := by
  obtain ⟨a, c, rfl⟩ := hx0.sl
  have HX := Lib.hid hx0
  have hl := hs.1
  have HS := Lib.hid hs.2
  have HCJ := Lib.hid (fun wz (h : Below w.heap.size w wz) => containsjobs_any _ J wz (HX.out.mono h) hs)
  clear hx0 hs
  cases hm : outB 1 12 J.length with
  | true =>
    have HE : Hid (workC J = 6) := Lib.hid (by unfold workC; rw [hm]; rfl)
    have HM := Lib.hid (show (!([(J.length : Int)].any (outB 1 12))) = false by simp [hm])
    clear hm
    generalize workC J = q at *
    go_enter Tryz.func86, Tryz.ntmps86
    go_wp2_with fail
    have HO := Lib.hid (rdI_oneAt (w.alloc (.cells #[.slice a J.length c] 24)) (J.length : Int) (w.heap.size + 1) (by simp))
    refine (within_any _ [(J.length : Int)] 1 12 _ HO.out (by simp)).mono ?_
    rintro e w2 ⟨rfl, hB⟩
    have HB := Lib.hid (btr (bal (bal (bz w) _) _) hB)
    clear hB
    rw [HM.out]
    go_wp2_with fail
    go_ret
    exact ⟨ret_int HE.out.symm, HB.out⟩
  | false =>
    have HM := Lib.hid (show (!([(J.length : Int)].any (outB 1 12))) = true by simp [hm])
    have HE : Hid (workC J = if J.any oddJ then 3 else if badTo J J.length then 2 else 0) := Lib.hid (by unfold workC; rw [hm]; rfl)
    clear hm
    generalize workC J = q at *
    go_enter Tryz.func86, Tryz.ntmps86
    go_wp2_with fail
    have HO := Lib.hid (rdI_oneAt (w.alloc (.cells #[.slice a J.length c] 24)) (J.length : Int) (w.heap.size + 1) (by simp))
    refine (within_any _ [(J.length : Int)] 1 12 _ HO.out (by simp)).mono ?_
    rintro e w2 ⟨rfl, hB⟩
    have HB1 := Lib.hid (show Below w.heap.size w (w.alloc (.cells #[.slice a J.length c] 24)) from bal (bz w) _)
    have HB := Lib.hid (btr (bal HB1.out _) hB)
    have gJ : w2.cell? ⟨w.heap.size, 0, none⟩ = some (.slice a J.length c) := (hB.cell (p := ⟨w.heap.size, 0, none⟩) (by simp; omega)).trans (by simp)
    have zJ : w.heap.size < w2.heap.size := by have := hB.size; simp at this; omega
    clear hB HO
    rw [HM.out]
    go_wp2_with fail
    refine (HCJ.out _ HB.out).mono ?_
    rintro e w3 ⟨rfl, hB⟩
    have HB3 := Lib.hid (btr HB.out hB)
    have gJ3 := (hB.cell (p := ⟨w.heap.size, 0, none⟩) zJ).trans gJ
    have zJ3 := Nat.lt_of_lt_of_le zJ hB.size
    clear hB gJ zJ HB HB1 HM HCJ
    cases ho : J.any oddJ with
    | true =>
      have HE2 : Hid (q = 3) := Lib.hid (by rw [HE.out, ho]; rfl)
      clear ho
      go_wp2_with fail
      go_ret
      exact ⟨ret_int HE2.out.symm, HB3.out⟩
    | false =>
      have HE2 : Hid (q = if badTo J J.length then 2 else 0) := Lib.hid (by rw [HE.out, ho]; rfl)
      clear ho HE
      have HB := Lib.hid (bz w3)
      go_wp2_with fail
      go_loopw [21] (fun i wr => ∃ k : Nat, k ≤ J.length ∧ i = .int .i64 k ∧ badTo J k = false ∧ Below w3.heap.size w3 wr) (fun i _ => J.length - (intOf i).toNat)
      case atStart => exact ⟨0, Nat.zero_le _, rfl, rfl, HB.out⟩
      case round =>
        clear HB
        obtain ⟨k, hk, rfl, ht, hB⟩ := hrel
        have HB := Lib.hid hB; have HT := Lib.hid ht
        have gJr := (hB.cell (p := ⟨w.heap.size, 0, none⟩) zJ3).trans gJ3
        have zJr := Nat.lt_of_lt_of_le zJ3 hB.size
        clear ht hB
        by_cases hlt : k < J.length
        · obtain ⟨b, o, a', c', rfl, hb, g1, g2, g3, hr⟩ := (HX.out.mono (btr HB3.out HB.out)).get k hlt
          have HR := Lib.hid hr
          have HW := Lib.hid (HS.out k)
          have HNX : Hid (badTo J (k + 1) = (!lisB (job J k).ws J.length || (job J k).ws.contains (k : Int))) := Lib.hid (by rw [badTo_succ, HT.out]; rfl)
          have HMO := Lib.hid (fun h : badTo J (k + 1) = true => badTo_mono h hlt)
          clear hr
          generalize job J k = jb at *
          obtain ⟨lo, hi, ws⟩ := jb
          dsimp only at *
          obtain ⟨m, hm⟩ : ∃ m, m = ws.length := ⟨_, rfl⟩
          rw [← hm] at g3 HR
          clear hm
          go_wp2_with fail
          have hB1 := bal (bz wr) (.cells #[.int .i64 lo, .int .i64 hi, .slice a' m c'] 62)
          have gq : (wr.alloc (.cells #[.int .i64 lo, .int .i64 hi, .slice a' m c'] 62)).cell? ⟨wr.heap.size, 2, none⟩ = some (.slice a' m c') := cnew rfl rfl
          have zq : wr.heap.size < (wr.alloc (.cells #[.int .i64 lo, .int .i64 hi, .slice a' m c'] 62)).heap.size := by simp
          have HB1 := Lib.hid hB1
          clear hB1
          generalize wr.alloc (.cells #[.int .i64 lo, .int .i64 hi, .slice a' m c'] 62) = w4 at *
          refine (prising_any _ ws J.length w4 (HR.out.mono HB1.out) (by have := HW.out; omega) (by omega)).mono ?_
          rintro e w5 ⟨rfl, hB⟩
          have HB5 := Lib.hid (btr HB1.out hB)
          have gq5 := (hB.cell (p := ⟨wr.heap.size, 2, none⟩) zq).trans gq
          have zq5 := Nat.lt_of_lt_of_le zq hB.size
          clear hB gq zq HB1
          cases hli : lisB ws J.length with
          | false =>
            have HN2 : Hid (q = 2) := Lib.hid (by rw [HE2.out, HMO.out (by rw [HNX.out, hli]; rfl)]; rfl)
            clear hli
            go_wp2_with fail
            go_ret
            exact ⟨ret_int HN2.out.symm, btr HB3.out (btr HB.out HB5.out)⟩
          | true =>
            rw [hli] at HNX
            clear hli
            go_wp2_with fail
            refine (contains_any _ ws (k : Int) w5 (HR.out.mono HB5.out) (by have := HW.out; omega)).mono ?_
            rintro e w6 ⟨rfl, rfl⟩
            cases hct : ws.contains (k : Int) with
            | true =>
              have HN2 : Hid (q = 2) := Lib.hid (by rw [HE2.out, HMO.out (by rw [HNX.out, hct]; rfl)]; rfl)
              clear hct
              go_wp2_with fail
              go_ret
              exact ⟨ret_int HN2.out.symm, btr HB3.out (btr HB.out HB5.out)⟩
            | false =>
              have HN2 : Hid (badTo J (k + 1) = false) := Lib.hid (by rw [HNX.out, hct]; rfl)
              clear hct
              go_wp2_with fail
              go_roundw
              case rel => exact ⟨k + 1, by omega, by go_num, HN2.out, btr HB.out HB5.out⟩
              case measure => simp [intOf]; omega
        · go_wp2_with fail
          have hke : k = J.length := by omega
          go_ret
          exact ⟨ret_int (by rw [HE2.out, ← hke, HT.out]; rfl), btr HB3.out HB.out⟩
end Go.Proofs.YteknehlkdgamjaaGreat

namespace Go.Proofs.YteknehlkdgamjaaGreat
open Go.RowKit Go.Shelf

theorem any_mem {J : List Job} {k : Nat} (h : k < J.length) (h2 : oddJ (job J k) = true) : J.any oddJ = true := by
  rw [List.any_eq_true]; exact ⟨job J k, job_mem h, h2⟩
theorem any_none {J : List Job} (h : ∀ i, i < J.length → oddJ (job J i) = false) : J.any oddJ = false := by
  rw [List.any_eq_false]
  intro x hx
  obtain ⟨i, hi, rfl⟩ := List.getElem_of_mem hx
  have := h i hi
  rw [job_lt hi] at this
  simp [this]
set_option maxRecDepth 100000 in
set_option maxHeartbeats 1600000 in
theorem rwork_any (v : Value) (J : List Job) (w : World) (hx0 : RdJ w v J) (hs : SmJ J) :
    Calls Tryz.prog 69 #[.agg #[v]] w fun e w' => e = .returned (.int .i64 (workC J)) ∧ Below w.heap.size w w' := by
  obtain ⟨a, c, rfl⟩ := hx0.sl
  have HX := Lib.hid hx0
  have hl := hs.1
  have HS := Lib.hid hs.2
  clear hx0 hs
  cases hm : outB 1 12 J.length with
  | true =>
    have HE : Hid (workC J = 6) := Lib.hid (by unfold workC; rw [hm]; rfl)
    have hm2 : (J.length : Int) < 1 ∨ 12 < (J.length : Int) := by unfold outB at hm; rwa [decide_eq_true_eq] at hm
    clear hm
    generalize workC J = q at *
    by_cases h1 : (J.length : Int) < 1
    · have d1 : decide ((J.length : Int) < 1) = true := by simp [h1]
      clear hm2
      go_enter Tryz.func69, Tryz.ntmps69
      go_wp2_with fail
      go_ret
      exact ⟨ret_int HE.out.symm, bal (bz w) _⟩
    · have d1 : decide ((J.length : Int) < 1) = false := by simp; omega
      have d2 : decide (12 < (J.length : Int)) = true := by simp; omega
      have d3 : decide (12 < J.length) = true := by simp; omega
      clear hm2 h1
      go_enter Tryz.func69, Tryz.ntmps69
      go_wp2_with fail
      go_ret
      exact ⟨ret_int HE.out.symm, bal (bz w) _⟩
  | false =>
    have HE : Hid (workC J = if J.any oddJ then 3 else if badTo J J.length then 2 else 0) := Lib.hid (by unfold workC; rw [hm]; rfl)
    have hm2 : ¬ ((J.length : Int) < 1 ∨ 12 < (J.length : Int)) := by unfold outB at hm; rwa [decide_eq_false_iff_not] at hm
    have d1 : decide ((J.length : Int) < 1) = false := by simp; omega
    have d2 : decide (12 < (J.length : Int)) = false := by simp; omega
    have d3 : decide (12 < J.length) = false := by simp; omega
    clear hm hm2
    generalize workC J = q at *
    go_enter Tryz.func69, Tryz.ntmps69
    go_wp2_with fail
    have hB0 : Below w.heap.size w (w.alloc (.cells #[.slice a J.length c] 24)) := bal (bz w) _
    have gJ : (w.alloc (.cells #[.slice a J.length c] 24)).cell? ⟨w.heap.size, 0, none⟩ = some (.slice a J.length c) := cnew rfl rfl
    have zJ : w.heap.size < (w.alloc (.cells #[.slice a J.length c] 24)).heap.size := by simp
    have HB0 := Lib.hid hB0
    clear hB0 d1 d2 d3
    generalize w.alloc (.cells #[.slice a J.length c] 24) = w3 at *
    have HBz := Lib.hid (bz w3)
    go_loopw [3] (fun i wr => ∃ k : Nat, k ≤ J.length ∧ i = .int .i64 k ∧ (∀ i, i < k → oddJ (job J i) = false) ∧ Below w3.heap.size w3 wr) (fun i _ => J.length - (intOf i).toNat)
    case atStart => exact ⟨0, Nat.zero_le _, rfl, fun i h => by omega, HBz.out⟩
    case round =>
      clear HBz
      obtain ⟨k, hk, rfl, ht, hB⟩ := hrel
      have HB := Lib.hid hB; have HT := Lib.hid ht
      have gJr := (hB.cell (p := ⟨w.heap.size, 0, none⟩) zJ).trans gJ
      have zJr := Nat.lt_of_lt_of_le zJ hB.size
      clear ht hB
      by_cases hlt : k < J.length
      · obtain ⟨b, o, a', c', rfl, hb, g1, g2, g3, hr⟩ := (HX.out.mono (btr HB0.out HB.out)).get k hlt
        have HYES := Lib.hid (fun h : oddJ (job J k) = true => (by rw [HE.out, any_mem hlt h]; rfl : q = 3))
        have HNO : Hid (oddJ (job J k) = false → ∀ i, i < k + 1 → oddJ (job J i) = false) := Lib.hid (fun h i hi => by
          by_cases e : i = k
          · subst e; exact h
          · exact HT.out i (by omega))
        have HO : Hid (oddJ (job J k) = (decide ((job J k).lo < 0) || decide ((job J k).hi < (job J k).lo) || decide (1000 < (job J k).hi))) := Lib.hid rfl
        clear hr g3
        generalize oddJ (job J k) = ob at *
        generalize job J k = jb at *
        obtain ⟨lo, hi, ws⟩ := jb
        dsimp only at *
        by_cases h1 : lo < 0
        · have d1 : decide (lo < 0) = true := by simp [h1]
          have HQ := Lib.hid (HYES.out (by rw [HO.out, d1]; rfl))
          clear h1
          go_wp2_with fail
          go_ret
          exact ⟨ret_int HQ.out.symm, btr HB0.out (bal HB.out _)⟩
        · have d1 : decide (lo < 0) = false := by simp; omega
          clear h1
          by_cases h2 : hi < lo
          · have d2 : decide (hi < lo) = true := by simp [h2]
            have HQ := Lib.hid (HYES.out (by rw [HO.out, d1, d2]; rfl))
            clear h2
            go_wp2_with fail
            go_ret
            exact ⟨ret_int HQ.out.symm, btr HB0.out (bal HB.out _)⟩
          · have d2 : decide (hi < lo) = false := by simp; omega
            clear h2
            by_cases h3 : 1000 < hi
            · have d3 : decide (1000 < hi) = true := by simp [h3]
              have HQ := Lib.hid (HYES.out (by rw [HO.out, d1, d2, d3]; rfl))
              clear h3
              go_wp2_with fail
              go_ret
              exact ⟨ret_int HQ.out.symm, btr HB0.out (bal HB.out _)⟩
            · have d3 : decide (1000 < hi) = false := by simp; omega
              have HQ := Lib.hid (HNO.out (by rw [HO.out, d1, d2, d3]; rfl))
              clear h3
              go_wp2_with fail
              go_roundw
              case rel => exact ⟨k + 1, by omega, by go_num, HQ.out, bal HB.out _⟩
              case measure => simp [intOf]; omega
      · have HE2 : Hid (q = if badTo J J.length then 2 else 0) := Lib.hid (by rw [HE.out, any_none (fun i hi => HT.out i (by omega))]; rfl)
        have HB3 := Lib.hid (btr HB0.out HB.out)
        clear HE HT HB HB0 gJ zJ
        go_wp2_with fail
        clear hlt hk
        have HBz := Lib.hid (bz wr)
        go_loopw [5] (fun i wv => ∃ k : Nat, k ≤ J.length ∧ i = .int .i64 k ∧ badTo J k = false ∧ Below wr.heap.size wr wv) (fun i _ => J.length - (intOf i).toNat)
        case atStart => exact ⟨0, Nat.zero_le _, rfl, rfl, HBz.out⟩
        case round =>
          clear HBz
          obtain ⟨k, hk, rfl, ht, hB⟩ := hrel
          have HB := Lib.hid hB; have HT := Lib.hid ht
          have gJv := (hB.cell (p := ⟨w.heap.size, 0, none⟩) zJr).trans gJr
          have zJv := Nat.lt_of_lt_of_le zJr hB.size
          clear ht hB
          by_cases hlt : k < J.length
          · obtain ⟨b, o, a', c', rfl, hb, g1, g2, g3, hr⟩ := (HX.out.mono (btr HB3.out HB.out)).get k hlt
            have HR := Lib.hid hr
            have HW := Lib.hid (HS.out k)
            have HNX : Hid (badTo J (k + 1) = (!lisB (job J k).ws J.length || (job J k).ws.contains (k : Int))) := Lib.hid (by rw [badTo_succ, HT.out]; rfl)
            have HMO := Lib.hid (fun h : badTo J (k + 1) = true => badTo_mono h hlt)
            clear hr g1 g2
            generalize job J k = jb at *
            obtain ⟨lo, hi, ws⟩ := jb
            dsimp only at *
            obtain ⟨m, hm⟩ : ∃ m, m = ws.length := ⟨_, rfl⟩
            rw [← hm] at g3 HR
            clear hm
            have H3 := Lib.hid g3; have HJv := Lib.hid gJv
            clear g3
            go_upto_region 12 with fail
            clear gJv
            refine wp_region_flow [] [([0, 1, 2, 3, 4, 5, 6, 7, 8], 9, true), ([10, 11, 12, 13, 14, 15, 16, 17, 18], 19, true)] [20] (by kernel_rfl) (by kernel_rfl) ?_
            intro wc hBc hh
            clear hh
            have HBC := Lib.hid hBc
            have hL := @Later.cell wc
            have g3 := (hBc.cell (p := ⟨b, o + k * 3 + 2, none⟩) hb).trans H3.out
            have gJc := (hBc.cell (p := ⟨w.heap.size, 0, none⟩) zJv).trans HJv.out
            have z1 := Nat.lt_of_lt_of_le hb hBc.size
            have z2 := Nat.lt_of_lt_of_le zJv hBc.size
            clear hBc
            simp only [flowP, flow, pickL, List.getElem?_cons_succ, List.getElem?_cons_zero]
            refine wpQuiet_nil ?_
            repeat (go_big_quiet_step (fail))
            refine wpQuiet_nil ?_
            go_wp2_with fail
            refine (islist_any _ ws J.length wc (HR.out.mono HBC.out) (by have := HW.out; omega)).mono ?_
            rintro e w5 ⟨rfl, hB5⟩
            have HG := Lib.hid hB5
            clear hB5
            cases hli : lisB ws J.length with
            | false =>
              have HN2 : Hid (q = 2) := Lib.hid (by rw [HE2.out, HMO.out (by rw [HNX.out, hli]; rfl)]; rfl)
              clear hli hL g3 gJc z1 z2
              go_wp2
              refine seg_grow ⟨⟨_, HG.out⟩, rfl⟩ ?_
              repeat (go_big_quiet_step (fail))
              refine wpQuiet_nil ?_
              go_wp2
              refine seg_grow ⟨⟨_, HG.out⟩, rfl⟩ ?_
              repeat (go_big_quiet_step (fail))
              refine wpQuiet_nil ?_
              refine only_done ?_
              go_wp2_with fail
              go_ret
              exact ⟨ret_int HN2.out.symm, btr HB3.out (btr HB.out (btr HBC.out HG.out))⟩
            | true =>
              rw [hli] at HNX
              clear hli
              go_wp2
              refine seg_grow ⟨⟨_, HG.out⟩, rfl⟩ ?_
              repeat (go_big_quiet_step (fail))
              refine wpQuiet_nil ?_
              go_wp2_with fail
              refine (has_any _ ws (k : Int) w5 (HR.out.mono (btr HBC.out HG.out)) (by have := HW.out; omega)).mono ?_
              rintro e w6 ⟨rfl, rfl⟩
              clear hL g3 gJc z1 z2
              cases hct : ws.contains (k : Int) with
              | true =>
                have HN2 : Hid (q = 2) := Lib.hid (by rw [HE2.out, HMO.out (by rw [HNX.out, hct]; rfl)]; rfl)
                clear hct
                go_wp2
                refine seg_grow ⟨⟨_, HG.out⟩, rfl⟩ ?_
                repeat (go_big_quiet_step (fail))
                refine wpQuiet_nil ?_
                refine only_done ?_
                go_wp2_with fail
                go_ret
                exact ⟨ret_int HN2.out.symm, btr HB3.out (btr HB.out (btr HBC.out HG.out))⟩
              | false =>
                have HN2 : Hid (badTo J (k + 1) = false) := Lib.hid (by rw [HNX.out, hct]; rfl)
                clear hct
                go_wp2
                refine seg_grow ⟨⟨_, HG.out⟩, rfl⟩ ?_
                repeat (go_big_quiet_step (fail))
                refine wpQuiet_nil ?_
                refine only_done ?_
                go_wp2_with fail
                go_roundw
                case rel => exact ⟨k + 1, by omega, by go_num, HN2.out, btr HB.out (btr HBC.out HG.out)⟩
                case measure => simp [intOf]; omega
          · go_wp2_with fail
            have hke : k = J.length := by omega
            go_ret
            exact ⟨ret_int (by rw [HE2.out, ← hke, HT.out]; rfl), btr HB3.out HB.out⟩
end Go.Proofs.YteknehlkdgamjaaGreat

namespace Go.Proofs.YteknehlkdgamjaaGreat
open Go.RowKit Go.Shelf

def zeros (n : Nat) : List Int := List.replicate n 0
theorem zeros_len (n : Nat) : (zeros n).length = n := by simp [zeros]
theorem zeros_set (n : Nat) (x : Int) (acc : List Int) : (zeros (n + 1) ++ acc).set n x = zeros n ++ x :: acc := by
  unfold zeros
  rw [List.replicate_succ', List.append_assoc, List.set_append_right _ _ (by simp)]
  simp
theorem made_zeros (n : Nat) : (madeCells #[Value.int .i64 0] n).toList = (zeros n).map (Value.int .i64) := by
  apply List.ext_getElem
  · simp [madeCells, zeros]
  · intro i h1 h2
    simp [madeCells, zeros, Nat.mod_one]
theorem wpList_make_ints {w : World} {ops : Array Oper} {rest : List Oper} {o : Oper} {a : Act} {Q : Exit → Act → World → Prop} (hg : o.guard = none) (l c : Operand) (hop : o.op = Op.makeSlice 41 l c) (n : Nat) (hl : a.eval l = .int .i64 (n : Int)) (hc : a.eval c = .int .i64 (n : Int)) (hn : n ≤ 1000)
    (hK : ∀ w', rowI w' w.heap.size (.slice (some ⟨w.heap.size, 0, none⟩) n n) (zeros n) → w.grownBy w' none → wpList Tryz.prog ops Q rest (a.put o.dst (.slice (some ⟨w.heap.size, 0, none⟩) n n)) w') : wpList Tryz.prog ops Q (o :: rest) a w := by
  obtain ⟨i0, hi, hz0, hz1, hz2⟩ := info_parts num3
  refine wpList_make_full _ hg l c 41 hop w.heap.size 3 i0 (.int .i64 0) 1 Tryz.underlying41 hi hz0 hz1 .i64 .i64 _ _ n hl hc rfl rfl (by rw [hz2]; omega) (by simp only [maxLen]; omega) (Nat.le_refl _) ?_
  intro w' h1 h2
  refine hK w' ?_ h2
  unfold rowI
  rw [zeros_len]
  rw [Nat.mul_one] at h1
  have : (Value.int IntKind.i64 0).cells = #[Value.int .i64 0] := rfl
  rw [this, made_zeros] at h1
  exact h1
theorem rowI.stored {w : World} {base g n c : Nat} {xs : List Int} (h : rowI w base (.slice (some ⟨g, 0, none⟩) n c) xs) (k : Nat) (x : Int) : rowI (w.setCell ⟨g, k, none⟩ (.int .i64 x)) base (.slice (some ⟨g, 0, none⟩) n c) (xs.set k x) := by
  obtain ⟨a, c', e⟩ := owns_form h
  have hn : n = xs.length := by simp at e; exact e.2.1
  subst hn
  have := (World.ownsRow.stored h k (.int .i64 x)).1
  unfold rowI
  rw [List.length_set, List.map_set]
  exact this
theorem rowI.len {w : World} {base n c : Nat} {a : Option Addr} {xs : List Int} (h : rowI w base (.slice a n c) xs) : n = xs.length := by
  obtain ⟨a', c', e⟩ := owns_form h
  cases e; rfl
end Go.Proofs.YteknehlkdgamjaaGreat

namespace Go.Proofs.YteknehlkdgamjaaGreat

/-- What valid work is. -/
structure FineJ (J : List Job) : Prop where
  n1 : 1 ≤ J.length
  n12 : J.length ≤ 12
  days : ∀ i, i < J.length → 0 ≤ (job J i).lo ∧ (job J i).lo ≤ (job J i).hi ∧ (job J i).hi ≤ 1000
  lst : ∀ i, i < J.length → LisTo (job J i).ws J.length (job J i).ws.length
  self : ∀ i, i < J.length → (job J i).ws.contains (i : Int) = false
theorem FineJ.wait {J : List Job} (h : FineJ J) {i j : Nat} (hi : i < J.length) (hj : j < (job J i).ws.length) : ∃ b : Nat, elt (job J i).ws j = (b : Int) ∧ b < J.length ∧ edg J b i = true := by
  obtain ⟨h1, h2, _⟩ := h.lst i hi j hj
  obtain ⟨b, hb⟩ := Int.eq_ofNat_of_zero_le h1
  refine ⟨b, hb, by omega, ?_⟩
  unfold edg
  rw [decide_eq_true hi, Bool.true_and, List.contains_iff_mem, ← hb]
  exact elt_mem hj
theorem FineJ.edge {J : List Job} (_ : FineJ J) {b i : Nat} (he : edg J b i = true) : ∃ j, j < (job J i).ws.length ∧ elt (job J i).ws j = (b : Int) := by
  unfold edg at he
  rw [Bool.and_eq_true, List.contains_iff_mem] at he
  obtain ⟨j, hj, e⟩ := List.getElem_of_mem he.2
  exact ⟨j, hj, by rw [elt_lt hj, e]⟩
theorem FineJ.edge_lt {J : List Job} (h : FineJ J) {b i : Nat} (he : edg J b i = true) : b < J.length := by
  obtain ⟨j, hj, e⟩ := h.edge he
  obtain ⟨b', e', hb, _⟩ := h.wait (edg_lt he) hj
  omega
theorem FineJ.ws_le {J : List Job} (h : FineJ J) {i : Nat} (hi : i < J.length) : (job J i).ws.length ≤ 12 := by
  have key : ∀ k, k < (job J i).ws.length → (k : Int) ≤ elt (job J i).ws k := by
    intro k
    induction k with
    | zero => intro hk; exact (h.lst i hi 0 hk).1
    | succ k ih =>
      intro hk
      have h1 := ih (by omega)
      have h2 := (h.lst i hi (k + 1) hk).2.2 (by omega)
      rw [Nat.add_sub_cancel] at h2
      omega
  refine Classical.byContradiction fun hc => ?_
  have h1 := key ((job J i).ws.length - 1) (by omega)
  have h2 := (h.lst i hi ((job J i).ws.length - 1) (by omega)).2.1
  have := h.n12
  omega

def nel (X : List Nat) (b : Nat) : Nat := X[b]?.getD 0
theorem nel_set {X : List Nat} {b c v : Nat} (hb : b < X.length) : nel (X.set b v) c = if c = b then v else nel X c := by
  unfold nel
  rw [List.getElem?_set]
  by_cases h : b = c
  · subst h; simp [hb]
  · rw [if_neg h, if_neg (fun e => h e.symm)]
/-- The bits of those below n that are good. -/
def mskN (f : Nat → Bool) : Nat → Nat
  | 0 => 0
  | n + 1 => mskN f n ||| (if f n then 2 ^ n else 0)
theorem mskN_bit (f : Nat → Bool) (q : Nat) : ∀ n, (mskN f n).testBit q = (decide (q < n) && f q)
  | 0 => by simp [mskN]
  | n + 1 => by
    rw [mskN, Nat.testBit_or, mskN_bit f q n]
    by_cases h : f n = true
    · rw [if_pos h, Nat.testBit_two_pow]
      by_cases e : n = q
      · subst e; simp [h]
      · by_cases h2 : q < n
        · simp [h2, e, show q < n + 1 by omega]
        · simp [h2, e, show ¬ q < n + 1 by omega]
    · rw [if_neg h]
      by_cases e : n = q
      · subst e; simp [h]
      · by_cases h2 : q < n
        · simp [h2, show q < n + 1 by omega]
        · simp [h2, show ¬ q < n + 1 by omega]
/-- Which jobs come after each, by bits. -/
def aftM (J : List Job) : List Nat := (List.range J.length).map fun b => mskN (aft J b) J.length
theorem aftM_len (J : List Job) : (aftM J).length = J.length := by simp [aftM]
theorem aftM_at {J : List Job} {b : Nat} (h : b < J.length) : nel (aftM J) b = mskN (aft J b) J.length := by simp [nel, aftM, h]
theorem mskN_lt (f : Nat → Bool) : ∀ n, mskN f n < 2 ^ n
  | 0 => by simp [mskN]
  | n + 1 => by
    have := mskN_lt f n
    rw [mskN]
    refine Nat.or_lt_two_pow ?_ ?_
    · rw [Nat.pow_succ]; omega
    · split
      · rw [Nat.pow_succ]; have := Nat.two_pow_pos n; omega
      · exact Nat.two_pow_pos _

/-- In the round m, behind the jobs before i, and the first k waits of i. -/
structure AfI (J : List Job) (m i k : Nat) (X : List Nat) : Prop where
  len : X.length = J.length
  lt : ∀ b, b < J.length → nel X b < 4096
  snd : ∀ b q, b < J.length → (nel X b).testBit q = true → Rch J b q
  old : ∀ b q, b < J.length → pth J m b q = true → (nel X b).testBit q = true
  new : ∀ b c, c < i → b < J.length → edg J b c = true → (nel X b).testBit c = true ∧ ∀ q, pth J m c q = true → (nel X b).testBit q = true
  cur : ∀ j, j < k → (nel X (elt (job J i).ws j).toNat).testBit i = true ∧ ∀ q, pth J m i q = true → (nel X (elt (job J i).ws j).toNat).testBit q = true
theorem afI_zero (J : List Job) : AfI J 0 0 0 (List.replicate J.length 0) := by
  have h0 : ∀ b, nel (List.replicate J.length 0) b = 0 := fun b => by
    unfold nel; rw [List.getElem?_replicate]; split <;> rfl
  refine ⟨by simp, fun b _ => by rw [h0]; omega, fun b q _ h => by rw [h0] at h; simp at h, fun b q _ h => by simp [pth] at h, fun _ _ h => by omega, fun _ h => by omega⟩
theorem AfI.wait {J : List Job} {m i k : Nat} {X : List Nat} (h : AfI J m i k X) (hJ : FineJ J) (hi : i < J.length) (hk : k < (job J i).ws.length) {b : Nat} (hb : elt (job J i).ws k = (b : Int)) :
    AfI J m i (k + 1) (X.set b (nel X b ||| (2 ^ i ||| nel X i))) := by
  obtain ⟨b', e', hbn, hed⟩ := hJ.wait hi hk
  obtain rfl : b = b' := by omega
  have hbX : b < X.length := by rw [h.len]; exact hbn
  have h12 := hJ.n12
  have hv : ∀ q, (nel X b ||| (2 ^ i ||| nel X i)).testBit q = ((nel X b).testBit q || (decide (i = q) || (nel X i).testBit q)) := fun q => by
    rw [Nat.testBit_or, Nat.testBit_or, Nat.testBit_two_pow]
  refine ⟨by rw [List.length_set]; exact h.len, fun c hc => ?_, fun c q hc hq => ?_, fun c q hc hq => ?_, fun c d hd hc he => ?_, fun j hj => ?_⟩
  · rw [nel_set hbX]
    split
    · have h1 := h.lt b hbn
      have h2 := h.lt i hi
      have h3 : 2 ^ i < 2 ^ 12 := Nat.pow_lt_pow_right (by omega) (by omega)
      exact Nat.or_lt_two_pow (n := 12) h1 (Nat.or_lt_two_pow (n := 12) h3 h2)
    · exact h.lt c hc
  · rw [nel_set hbX] at hq
    split at hq
    · rename_i e; subst e
      rw [hv, Bool.or_eq_true, Bool.or_eq_true, decide_eq_true_eq] at hq
      rcases hq with hq | rfl | hq
      · exact h.snd c q hc hq
      · exact .one hed
      · exact .cons hed (h.snd i q hi hq)
    · exact h.snd c q hc hq
  · rw [nel_set hbX]
    split
    · rename_i e; subst e; rw [hv, h.old c q hc hq]; rfl
    · exact h.old c q hc hq
  · obtain ⟨g1, g2⟩ := h.new c d hd hc he
    rw [nel_set hbX]
    split
    · rename_i e; subst e
      exact ⟨by rw [hv, g1]; rfl, fun q hq => by rw [hv, g2 q hq]; rfl⟩
    · exact ⟨g1, g2⟩
  · rw [nel_set hbX]
    by_cases e : j = k
    · subst e
      rw [hb, Int.toNat_natCast, if_pos rfl]
      refine ⟨by rw [hv]; simp, fun q hq => ?_⟩
      rw [hv, h.old i q hi hq]; simp
    · obtain ⟨g1, g2⟩ := h.cur j (by omega)
      split
      · rename_i e2
        rw [e2] at g1 g2
        exact ⟨by rw [hv, g1]; rfl, fun q hq => by rw [hv, g2 q hq]; rfl⟩
      · exact ⟨g1, g2⟩
theorem AfI.job {J : List Job} {m i : Nat} {X : List Nat} (hJ : FineJ J) (h : AfI J m i (job J i).ws.length X) : AfI J m (i + 1) 0 X := by
  refine ⟨h.len, h.lt, h.snd, h.old, fun b c hc hb he => ?_, fun _ h => by omega⟩
  by_cases e : c = i
  · subst e
    obtain ⟨j, hj, hje⟩ := hJ.edge he
    have := h.cur j hj
    rwa [hje, Int.toNat_natCast] at this
  · exact h.new b c (by omega) hb he
theorem AfI.round {J : List Job} {m : Nat} {X : List Nat} (h : AfI J m J.length 0 X) : AfI J (m + 1) 0 0 X := by
  refine ⟨h.len, h.lt, h.snd, fun b q hb hq => ?_, fun _ _ h => by omega, fun _ h => by omega⟩
  rcases pth_succ.1 hq with hq | ⟨c, h1, h2⟩
  · exact (h.new b q (edg_lt hq) hb hq).1
  · exact (h.new b c (edg_lt h1) hb h1).2 q h2
theorem AfI.done {J : List Job} {X : List Nat} (h : AfI J J.length 0 0 X) : X = aftM J := by
  apply List.ext_getElem (by rw [h.len, aftM_len])
  intro b h1 h2
  have hb : b < J.length := by rw [← h.len]; exact h1
  have e1 : nel X b = X[b] := by simp [nel, h1]
  have e2 : nel (aftM J) b = (aftM J)[b] := by simp [nel, h2]
  rw [← e1, ← e2, aftM_at hb]
  apply Nat.eq_of_testBit_eq
  intro q
  rw [mskN_bit, Bool.eq_iff_iff, Bool.and_eq_true, decide_eq_true_eq]
  constructor
  · intro hq
    have := h.snd b q hb hq
    exact ⟨this.lt, (aft_iff hb).2 this⟩
  · rintro ⟨_, hq⟩; exact h.old b q hb hq
end Go.Proofs.YteknehlkdgamjaaGreat

namespace Go.Proofs.YteknehlkdgamjaaGreat
open Go.RowKit Go.Shelf

theorem i64_or (a b : Nat) (ha : a < 4096) (hb : b < 4096) : bits .or .i64 (a : Int) (b : Int) = ((a ||| b : Nat) : Int) := by
  have key : (BitVec.ofInt 64 (a : Int) ||| BitVec.ofInt 64 (b : Int)).toNat = a ||| b := by
    rw [BitVec.toNat_or, BitVec.toNat_ofInt, BitVec.toNat_ofInt]
    congr 1 <;> omega
  have hlt : a ||| b < 2 ^ 12 := Nat.or_lt_two_pow ha hb
  show IntKind.i64.wrap ((BitVec.ofInt 64 (a : Int) ||| BitVec.ofInt 64 (b : Int)).toNat : Nat) = ((a ||| b : Nat) : Int)
  rw [key, IntKind.wrap_i64]
  omega
theorem pow_bd {p : Nat} (h : p < 12) : 2 ^ p < 4096 ∧ IntKind.i64.wrap ((2 : Int) ^ p) = ((2 ^ p : Nat) : Int) := by
  have h1 : 2 ^ p < 2 ^ 12 := Nat.pow_lt_pow_right (by omega) h
  rw [show ((2 : Int) ^ p) = ((2 ^ p : Nat) : Int) by simp]
  generalize 2 ^ p = m at *
  exact ⟨by omega, IntWalk.i64_in _ (by omega)⟩
/-- Numbers as they lie in memory. -/
def nlI (X : List Nat) : List Int := X.map Int.ofNat
theorem nlI_len (X : List Nat) : (nlI X).length = X.length := by simp [nlI]
theorem nlI_elt (X : List Nat) (b : Nat) : elt (nlI X) b = (nel X b : Int) := by
  unfold elt nel nlI
  rw [List.getElem?_map]
  cases X[b]? <;> rfl
theorem nlI_set (X : List Nat) (b v : Nat) : nlI (X.set b v) = (nlI X).set b (v : Int) := by simp [nlI, List.map_set]
theorem fineJ_sm {J : List Job} (h : FineJ J) : SmJ J := ⟨by have := h.n12; omega, fun i => by
  by_cases hi : i < J.length
  · have := h.ws_le hi; omega
  · have : job J i = ⟨0, 0, []⟩ := by simp [job, List.getElem?_eq_none (by omega : J.length ≤ i)]
    rw [this]; simp⟩
theorem rowI.at {w : World} {base g n c : Nat} {xs : List Int} (h : rowI w base (.slice (some ⟨g, 0, none⟩) n c) xs) (j : Nat) (hj : j < xs.length) : g < w.heap.size ∧ w.cell? ⟨g, j, none⟩ = some (.int .i64 (elt xs j)) ∧ w.frozen? ⟨g, j, none⟩ = false := by
  obtain ⟨g', c', e, h1, h2, h3⟩ := h.get j hj
  cases e; exact ⟨h1, h2, h3⟩
set_option maxRecDepth 100000 in
set_option maxHeartbeats 1600000 in
theorem after_any (v : Value) (J : List Job) (w : World) (hx0 : RdJ w v J) (hJ : FineJ J) :
    Calls Tryz.prog 83 #[.agg #[v]] w fun e w' => ∃ u, e = .returned u ∧ rowI w' w.heap.size u (nlI (aftM J)) ∧ Below w.heap.size w w' := by
  obtain ⟨a, c, rfl⟩ := hx0.sl
  have HX := Lib.hid hx0
  have HJ := Lib.hid hJ
  have h12 := hJ.n12
  have HAZ := Lib.hid (afI_zero J)
  have HDN := Lib.hid (fun X => AfI.done (J := J) (X := X))
  obtain ⟨n, hn⟩ : ∃ n, n = J.length := ⟨_, rfl⟩
  have HN := Lib.hid hn
  rw [← hn] at h12 HAZ HDN HX
  rw [← hn]
  clear hx0 hJ hn
  have HW : Hid (∀ (m i k : Nat) (X : List Nat), AfI J m i k X → i < n → k < (job J i).ws.length → ∀ b : Nat, elt (job J i).ws k = (b : Int) → AfI J m i (k + 1) (X.set b (nel X b ||| (2 ^ i ||| nel X i)))) :=
    Lib.hid (fun m i k X h hi hk b hb => h.wait HJ.out (by rw [← HN.out]; exact hi) hk hb)
  have HWT : Hid (∀ i j : Nat, i < n → j < (job J i).ws.length → ∃ b : Nat, elt (job J i).ws j = (b : Int) ∧ b < n) := Lib.hid (fun i j hi hj => by
    obtain ⟨b, h1, h2, _⟩ := HJ.out.wait (show i < J.length by rw [← HN.out]; exact hi) hj
    exact ⟨b, h1, by rw [HN.out]; exact h2⟩)
  have HLW := Lib.hid (fun (i : Nat) (hi : i < n) => HJ.out.ws_le (show i < J.length by rw [← HN.out]; exact hi))
  have HNX := Lib.hid (fun (m i : Nat) (X : List Nat) (h : AfI J m i (job J i).ws.length X) => AfI.job HJ.out h)
  have HRD := Lib.hid (fun (m : Nat) (X : List Nat) (h : AfI J m n 0 X) => AfI.round (by rw [← HN.out]; exact h))
  have HLT := Lib.hid (fun (m i k : Nat) (X : List Nat) (h : AfI J m i k X) (b : Nat) (hb : b < n) => h.lt b (by rw [← HN.out]; exact hb))
  have HLE := Lib.hid (fun (m i k : Nat) (X : List Nat) (h : AfI J m i k X) => (h.len.trans HN.out.symm : X.length = n))
  have HGT := Lib.hid (fun (wz : World) (h : RdJ wz (.slice a n c) J) (i : Nat) (hi : i < n) => h.get i (by rw [← HN.out]; exact hi))
  clear HN HJ
  go_enter Tryz.func83, Tryz.ntmps83
  go_upto_region 1 with fail
  have hB0 : Below w.heap.size w (w.alloc (.cells #[.slice a n c] 24)) := bal (bz w) _
  have gJ : (w.alloc (.cells #[.slice a n c] 24)).cell? ⟨w.heap.size, 0, none⟩ = some (.slice a n c) := cnew rfl rfl
  have zJ : w.heap.size < (w.alloc (.cells #[.slice a n c] 24)).heap.size := by simp
  have HB0 := Lib.hid hB0
  clear hB0
  generalize w.alloc (.cells #[.slice a n c] 24) = w3 at *
  go_wp2_with (at_make; refine wpList_make_ints rfl _ _ rfl n rfl rfl (by omega) ?_)
  intro w4 hO4 hg4
  have HB4 := Lib.hid (bgr (bz w3) hg4 (fun k h => by cases h))
  have HO4 : Hid (rowI w4 w3.heap.size (.slice (some ⟨w3.heap.size, 0, none⟩) n n) (nlI (List.replicate n 0))) := Lib.hid (by
    have : zeros n = nlI (List.replicate n 0) := by simp [zeros, nlI]
    rw [← this]; exact hO4)
  clear hO4 hg4
  go_wp2_with fail
  generalize hgo : w3.heap.size = g at HO4
  have HGO := Lib.hid hgo
  clear hgo
  have HZG : Hid (w.heap.size ≤ g) := Lib.hid (by have := HGO.out; omega)
  have HGB : Hid (w3.heap.size ≤ g) := Lib.hid (by have := HGO.out; omega)
  clear HGO
  go_loopw [4] (fun s4 wr => ∃ (m : Nat) (X : List Nat), m ≤ n ∧ s4 = .int .i64 m ∧ AfI J m 0 0 X ∧ rowI wr g (.slice (some ⟨g, 0, none⟩) n n) (nlI X) ∧ Below w3.heap.size w3 wr) (fun s4 _ => n - (intOf s4).toNat)
  case atStart => exact ⟨0, _, Nat.zero_le _, rfl, HAZ.out, HO4.out, HB4.out⟩
  case round =>
    clear HAZ HO4 HB4
    obtain ⟨m, X, hm, rfl, hA, hO, hB⟩ := hrel
    have HA := Lib.hid hA; have HO := Lib.hid hO; have HB := Lib.hid hB
    have gJr := (hB.cell (p := ⟨w.heap.size, 0, none⟩) zJ).trans gJ
    have zJr := Nat.lt_of_lt_of_le zJ hB.size
    clear hA hO hB
    by_cases hlt : m < n
    · go_wp2_with fail
      clear gJr zJr
      go_loopw [5] (fun s5 wv => ∃ (i : Nat) (X : List Nat), i ≤ n ∧ s5 = .int .i64 i ∧ AfI J m i 0 X ∧ rowI wv g (.slice (some ⟨g, 0, none⟩) n n) (nlI X) ∧ Below w3.heap.size w3 wv) (fun s5 _ => n - (intOf s5).toNat)
      case atStart => exact ⟨0, _, Nat.zero_le _, rfl, HA.out, HO.out, HB.out⟩
      case round =>
        clear HA HO HB
        obtain ⟨i, Y, hi, rfl, hA, hO, hB⟩ := hrel
        have HA := Lib.hid hA; have HO := Lib.hid hO; have HB := Lib.hid hB
        have gJv := (hB.cell (p := ⟨w.heap.size, 0, none⟩) zJ).trans gJ
        have zJv := Nat.lt_of_lt_of_le zJ hB.size
        clear hA hO hB
        by_cases hli : i < n
        · obtain ⟨b, o, a', c', rfl, hb, g1, g2, g3, hr⟩ := HGT.out w HX.out i hli
          have HR := Lib.hid hr
          have g3 := ((btr HB0.out HB.out).cell (p := ⟨b, o + i * 3 + 2, none⟩) hb).trans g3
          have hb := Nat.lt_of_lt_of_le hb (btr HB0.out HB.out).size
          have hl12 := HLW.out i hli
          have HWT2 := Lib.hid (fun j => HWT.out i j hli)
          have HW2 := Lib.hid (fun (k : Nat) (X : List Nat) (h : AfI J m i k X) => HW.out m i k X h hli)
          have HNX2 := Lib.hid (fun (X : List Nat) => HNX.out m i X)
          clear hr g1 g2
          obtain ⟨ws, hws⟩ : ∃ ws, ws = (job J i).ws := ⟨_, rfl⟩
          rw [← hws] at g3 HR hl12 HWT2 HW2 HNX2
          obtain ⟨q, hq⟩ : ∃ q, q = ws.length := ⟨_, rfl⟩
          rw [← hq] at g3 HR hl12 HWT2 HW2 HNX2
          clear hws
          have HQ := Lib.hid hq
          clear hq
          go_wp2_with fail
          clear gJv zJv g3 hb
          go_loopw [7] (fun s7 wu => ∃ (k : Nat) (Z : List Nat), k ≤ q ∧ s7 = .int .i64 k ∧ AfI J m i k Z ∧ rowI wu g (.slice (some ⟨g, 0, none⟩) n n) (nlI Z) ∧ Below w3.heap.size w3 wu) (fun s7 _ => q - (intOf s7).toNat)
          case atStart => exact ⟨0, _, Nat.zero_le _, rfl, HA.out, HO.out, HB.out⟩
          case round =>
            clear HA HO HB
            obtain ⟨k, Z, hk, rfl, hA, hO, hB⟩ := hrel
            have HA := Lib.hid hA; have HO := Lib.hid hO; have HB := Lib.hid hB
            have hzl := HLE.out _ _ _ _ hA
            have xi4 := HLT.out _ _ _ _ hA i hli
            by_cases hlk : k < q
            · obtain ⟨b1, hb1, hb1n⟩ := HWT2.out k hlk
              have xb4 := HLT.out _ _ _ _ hA b1 hb1n
              obtain ⟨bl, ol, e, hbl, hcl⟩ := (HR.out.mono (btr HB0.out HB.out)).get (by rw [← HQ.out]; omega)
              subst e
              have gl := hcl k (by rw [← HQ.out]; exact hlk)
              rw [hb1] at gl
              obtain ⟨hgz, gb, fb⟩ := hO.at b1 (by rw [nlI_len, hzl]; exact hb1n)
              obtain ⟨_, gi, _⟩ := hO.at i (by rw [nlI_len, hzl]; exact hli)
              rw [nlI_elt] at gb gi
              have HA2 := Lib.hid (HW2.out k Z hA hlk b1 hb1)
              obtain ⟨hm1, hm2⟩ := pow_bd (show i < 12 by omega)
              have HZ2 : Hid (∀ wz : World, Below wr.heap.size wr wz → rowI (wz.setCell ⟨g, b1, none⟩ (.int .i64 ((nel Z b1 ||| (2 ^ i ||| nel Z i) : Nat) : Int))) g (.slice (some ⟨g, 0, none⟩) n n) (nlI (Z.set b1 (nel Z b1 ||| (2 ^ i ||| nel Z i))))) := Lib.hid (fun wz hz => by
                rw [nlI_set]; exact rowI.stored (owns_kept HO.out hz) b1 _)
              clear hA hO hB hcl hb1
              generalize 2 ^ i = mi at *
              generalize nel Z b1 = xb at *
              generalize nel Z i = xi at *
              have hor1 := i64_or mi xi hm1 xi4
              have hr1 : mi ||| xi < 4096 := Nat.or_lt_two_pow (n := 12) hm1 xi4
              generalize mi ||| xi = r1 at *
              have hor2 := i64_or xb r1 xb4 hr1
              generalize xb ||| r1 = r2 at *
              clear xi4 xb4 hm1 hr1 hzl
              have zl := hbl
              go_upto_region 12 with fail
              refine wp_region_flow [] [([0, 1, 2, 3, 4, 5, 6, 7, 8, 9, 10, 11, 12, 13, 14, 15], 16, false)] [] (by kernel_rfl) (by kernel_rfl) ?_
              intro wc hBc hh
              clear hh
              have HBC := Lib.hid hBc
              have hL := @Later.cell wc
              have k1 := (hBc.cell (p := ⟨bl, ol + k, none⟩) zl).trans gl
              have k2 := (hBc.cell (p := ⟨g, b1, none⟩) hgz).trans gb
              have k3 := (hBc.cell (p := ⟨g, i, none⟩) hgz).trans gi
              have f2 := (hBc.frozen (p := ⟨g, b1, none⟩) hgz).trans fb
              have z1 := Nat.lt_of_lt_of_le zl hBc.size
              have z2 := Nat.lt_of_lt_of_le hgz hBc.size
              have HZ3 := Lib.hid (HZ2.out wc hBc)
              clear hBc gl gb gi fb zl hgz HZ2
              simp only [flowP, flow, pickL, List.getElem?_cons_succ, List.getElem?_cons_zero]
              refine wpQuiet_nil ?_
              repeat (go_big_quiet_step (fail))
              refine wpQuiet_nil ?_
              go_wp2
              refine seg_write ?_
              refine wpQuiet_nil ?_
              refine only_done ?_
              clear hL k1 k2 k3 f2 z1 z2 hor1 hor2
              go_wp2_with fail
              go_roundw
              case rel => exact ⟨k + 1, _, by omega, by go_num, HA2.out, HZ3.out, bset (btr HB.out HBC.out) (p := ⟨g, b1, none⟩) HGB.out _⟩
              case measure => simp [intOf]; omega
            · go_wp2_with fail
              have hke : k = q := by omega
              go_roundw
              case rel => exact ⟨i + 1, Z, by omega, by go_num, HNX2.out Z (by rw [← hke]; exact HA.out), HO.out, HB.out⟩
              case measure => simp [intOf]; omega
        · go_wp2_with fail
          have hie : i = n := by omega
          go_roundw
          case rel => exact ⟨m + 1, Y, by omega, by go_num, HRD.out m Y (by rw [← hie]; exact HA.out), HO.out, HB.out⟩
          case measure => simp [intOf]; omega
    · have HRES : Hid (X = aftM J) := Lib.hid (HDN.out X (by have : m = n := by omega
                                                             rw [← this]; exact HA.out))
      go_wp2_with fail
      go_ret
      exact ⟨_, rfl, by rw [← HRES.out]; exact owns_base HO.out HZG.out, btr HB0.out HB.out⟩
end Go.Proofs.YteknehlkdgamjaaGreat

namespace Go.Proofs.YteknehlkdgamjaaGreat
open Go.RowKit Go.Shelf

theorem i64_and1 (n : Int) : bits .and .i64 n 1 = n % 2 := by
  have h1 : (BitVec.ofInt 64 1).toNat = 2 ^ 1 - 1 := by decide
  have key : (BitVec.ofInt 64 n &&& BitVec.ofInt 64 1).toNat = (n % ((2 ^ 64 : Nat) : Int)).toNat % 2 ^ 1 := by
    rw [BitVec.toNat_and, BitVec.toNat_ofInt, h1, Nat.and_two_pow_sub_one_eq_mod]
  show IntKind.i64.wrap ((BitVec.ofInt 64 n &&& BitVec.ofInt 64 1).toNat : Nat) = n % 2
  rw [key, IntKind.wrap_i64]
  omega
theorem shr_bit (S i : Nat) : (S : Int) / 2 ^ i % 2 = if S.testBit i then 1 else 0 := by
  rw [show (2 : Int) ^ i = ((2 ^ i : Nat) : Int) by simp, ← Int.natCast_ediv, Nat.testBit_eq_decide_div_mod_eq]
  generalize S / 2 ^ i = t
  by_cases h : t % 2 = 1
  · rw [decide_eq_true h, if_pos rfl]; omega
  · rw [decide_eq_false h]; simp; omega
theorem aftM_bit {J : List Job} {b q : Nat} (hb : b < J.length) (hq : q < J.length) : (nel (aftM J) b).testBit q = aft J b q := by
  rw [aftM_at hb, mskN_bit, decide_eq_true hq, Bool.true_and]
theorem cir_yes {J : List Job} {i : Nat} (hi : i < J.length) (h : aft J i i = true) : cir J = true := by
  unfold cir; rw [List.any_eq_true]; exact ⟨i, List.mem_range.2 hi, h⟩
theorem cir_no {J : List Job} (h : ∀ i, i < J.length → aft J i i = false) : cir J = false := by
  unfold cir; rw [List.any_eq_false]; intro i hi; rw [h i (List.mem_range.1 hi)]; simp
set_option maxRecDepth 100000 in
set_option maxHeartbeats 800000 in
theorem hascircle_any (v : Value) (J : List Job) (w : World) (hx0 : RdJ w v J) (hJ : FineJ J) :
    Calls Tryz.prog 70 #[.agg #[v]] w fun e w' => e = .returned (.bool (cir J)) ∧ Below w.heap.size w w' := by
  obtain ⟨a, c, rfl⟩ := hx0.sl
  have HX := Lib.hid hx0
  have h12 := hJ.n12
  have HAF := Lib.hid (fun wz (h : Below w.heap.size w wz) => after_any _ J wz (hx0.mono h) hJ)
  have HY := Lib.hid (fun i (hi : i < J.length) (h : aft J i i = true) => cir_yes hi h)
  have HNO := Lib.hid (cir_no (J := J))
  have HBIT := Lib.hid (fun i (hi : i < J.length) => aftM_bit hi hi)
  have HEL := Lib.hid (nlI_elt (aftM J))
  have HLN : Hid ((nlI (aftM J)).length = J.length) := Lib.hid (by rw [nlI_len, aftM_len])
  clear hx0 hJ
  generalize cir J = g at *
  generalize nlI (aftM J) = L at *
  generalize nel (aftM J) = ne at *
  obtain ⟨n, hn⟩ : ∃ n, n = J.length := ⟨_, rfl⟩
  rw [← hn] at h12 HAF HY HNO HBIT HLN
  rw [← hn]
  clear HX hn
  go_enter Tryz.func70, Tryz.ntmps70
  go_wp2_with fail
  have HB0 := Lib.hid (bal (bz w) (.cells #[.slice a n c] 24))
  have HAF2 := Lib.hid (HAF.out _ HB0.out)
  clear HAF
  generalize w.alloc (.cells #[.slice a n c] 24) = w3 at *
  refine HAF2.out.mono ?_
  rintro e w4 ⟨u, rfl, hu, hB⟩
  obtain ⟨au, cu, rfl⟩ := owns_form hu
  have HU := Lib.hid (RdI.of_owns hu)
  have HB4 := Lib.hid (btr HB0.out hB)
  rw [HLN.out] at HU
  rw [HLN.out]
  clear hu hB HAF2 HB0
  go_wp2_with fail
  go_loopw [4] (fun s4 wr => ∃ i : Nat, i ≤ n ∧ s4 = .int .i64 i ∧ (∀ k, k < i → aft J k k = false) ∧ wr = w4) (fun s4 _ => n - (intOf s4).toNat)
  case atStart => exact ⟨0, Nat.zero_le _, rfl, fun k h => by omega, rfl⟩
  case round =>
    obtain ⟨i, hi, rfl, ht, rfl⟩ := hrel
    have HT := Lib.hid ht
    clear ht
    by_cases hlt : i < n
    · obtain ⟨b, o, e, hb, hc⟩ := HU.out.get (by rw [HLN.out]; omega)
      subst e
      have gx := hc i (by rw [HLN.out]; exact hlt)
      rw [HEL.out] at gx
      have hand := i64_and1 ((ne i : Int) / 2 ^ i)
      rw [shr_bit, HBIT.out i hlt] at hand
      have HYI := Lib.hid (HY.out i hlt)
      have HNX : Hid (aft J i i = false → ∀ k, k < i + 1 → aft J k k = false) := Lib.hid (fun h k hk => by
        by_cases e : k = i
        · subst e; exact h
        · exact HT.out k (by omega))
      clear hc
      generalize ne i = S at *
      cases ha : aft J i i with
      | true =>
        rw [ha] at hand
        simp only [if_true] at hand
        have HG := Lib.hid (HYI.out ha)
        clear ha
        go_wp2_with fail
        go_ret
        exact ⟨ret_bool HG.out.symm, HB4.out⟩
      | false =>
        rw [ha] at hand
        simp only [Bool.false_eq_true, if_false] at hand
        have HG := Lib.hid (HNX.out ha)
        clear ha
        go_wp2_with fail
        go_roundw
        case rel => exact ⟨i + 1, by omega, by go_num, HG.out, trivial⟩
        case measure => simp [intOf]; omega
    · have HG := Lib.hid (HNO.out (fun k hk => HT.out k (by omega)))
      go_wp2_with fail
      go_ret
      exact ⟨ret_bool HG.out.symm, HB4.out⟩
theorem fine_of {J : List Job} (h : workC J = 0) : FineJ J := by
  unfold workC at h
  split at h
  · omega
  · rename_i h1
    split at h
    · omega
    · rename_i h2
      split at h
      · omega
      · rename_i h3
        have hn : ¬ ((J.length : Int) < 1 ∨ 12 < (J.length : Int)) := by unfold outB at h1; rwa [decide_eq_true_eq] at h1
        have hb : ∀ i, i < J.length → badJ J i = false := fun i hi => by
          rw [← Bool.not_eq_true]; intro hc; exact h3 (by unfold badTo; rw [List.any_eq_true]; exact ⟨i, List.mem_range.2 hi, hc⟩)
        refine ⟨by omega, by omega, fun i hi => ?_, fun i hi => ?_, fun i hi => ?_⟩
        · have : oddJ (job J i) = false := by
            rw [← Bool.not_eq_true]; intro hc; exact h2 (any_mem hi hc)
          unfold oddJ at this
          simp only [Bool.or_eq_false_iff, decide_eq_false_iff_not] at this
          omega
        · have := hb i hi
          unfold badJ at this
          simp only [Bool.or_eq_false_iff, Bool.not_eq_false'] at this
          exact (lisB_iff _ _).1 this.1
        · have := hb i hi
          unfold badJ at this
          simp only [Bool.or_eq_false_iff, Bool.not_eq_false'] at this
          exact this.2
/-- The error of work, and ErrPlan; that of Circle. -/
def errC (J : List Job) : Int := if workC J = 0 then (if cir J then 13 else 0) else workC J
def cirC (J : List Job) : Int := if workC J = 0 then (if cir J then 0 else 5) else workC J
set_option maxRecDepth 100000 in
set_option maxHeartbeats 800000 in
theorem error_any (v : Value) (J : List Job) (w : World) (hx0 : RdJ w v J) (hs : SmJ J) :
    Calls Tryz.prog 26 #[.agg #[v]] w fun e w' => e = .returned (.int .i64 (errC J)) ∧ Below w.heap.size w w' := by
  obtain ⟨a, c, rfl⟩ := hx0.sl
  have HC := Lib.hid (fun wz (h : Below w.heap.size w wz) => rwork_any _ J wz (hx0.mono h) hs)
  have HB0 := Lib.hid (bal (bz w) (.cells #[.slice a J.length c] 24))
  by_cases h0 : workC J = 0
  · have HH := Lib.hid (fun wz (h : Below w.heap.size w wz) => hascircle_any _ J wz (hx0.mono h) (fine_of h0))
    have HE : Hid (errC J = if cir J then 13 else 0) := Lib.hid (by unfold errC; rw [if_pos h0])
    rw [h0] at HC
    clear h0 hx0 hs
    generalize errC J = q at *
    generalize J.length = n at *
    generalize hg : cir J = g at *
    clear hg
    go_enter Tryz.func26, Tryz.ntmps26
    go_wp2_with fail
    have gq : (w.alloc (.cells #[.slice a n c] 24)).cell? ⟨w.heap.size, 0, none⟩ = some (.slice a n c) := cnew rfl rfl
    have zq : w.heap.size < (w.alloc (.cells #[.slice a n c] 24)).heap.size := by simp
    generalize w.alloc (.cells #[.slice a n c] 24) = w3 at *
    refine (HC.out _ HB0.out).mono ?_
    rintro e w4 ⟨rfl, hB⟩
    have HB4 := Lib.hid (btr HB0.out hB)
    have gq4 := (hB.cell (p := ⟨w.heap.size, 0, none⟩) zq).trans gq
    clear hB gq zq
    go_wp2_with fail
    refine (HH.out _ HB4.out).mono ?_
    rintro e w5 ⟨rfl, hB⟩
    have HB5 := Lib.hid (btr HB4.out hB)
    clear hB gq4
    cases g
    · go_wp2_with fail
      go_ret
      exact ⟨ret_int HE.out.symm, HB5.out⟩
    · go_wp2_with fail
      go_ret
      exact ⟨ret_int HE.out.symm, HB5.out⟩
  · have HE : Hid (errC J = workC J) := Lib.hid (by unfold errC; rw [if_neg h0])
    have t1 : (workC J != 0) = true := by simp [h0]
    clear h0 hx0 hs
    generalize errC J = q at *
    generalize workC J = p at *
    generalize J.length = n at *
    go_enter Tryz.func26, Tryz.ntmps26
    go_wp2_with fail
    have gq : (w.alloc (.cells #[.slice a n c] 24)).cell? ⟨w.heap.size, 0, none⟩ = some (.slice a n c) := cnew rfl rfl
    have zq : w.heap.size < (w.alloc (.cells #[.slice a n c] 24)).heap.size := by simp
    generalize w.alloc (.cells #[.slice a n c] 24) = w3 at *
    refine (HC.out _ HB0.out).mono ?_
    rintro e w4 ⟨rfl, hB⟩
    have HB4 := Lib.hid (btr HB0.out hB)
    have gq4 := (hB.cell (p := ⟨w.heap.size, 0, none⟩) zq).trans gq
    clear hB gq zq
    go_wp2_with fail
    refine (HC.out _ HB4.out).mono ?_
    rintro e w5 ⟨rfl, hB⟩
    have HB5 := Lib.hid (btr HB4.out hB)
    clear hB gq4
    go_wp2_with fail
    go_ret
    exact ⟨ret_int HE.out.symm, HB5.out⟩
end Go.Proofs.YteknehlkdgamjaaGreat

namespace Go.Proofs.YteknehlkdgamjaaGreat
open Go.RowKit Go.Shelf

def mxTo (J : List Job) : Nat → Nat
  | 0 => 0
  | k + 1 => max (mxTo J k) (job J k).ws.length
def greatJ (J : List Job) : Bool := decide (16 < J.length) || decide (16 < mxTo J J.length)
theorem mxTo_ge (J : List Job) : ∀ {k i : Nat}, i < k → (job J i).ws.length ≤ mxTo J k
  | k + 1, i, h => by
    unfold mxTo
    by_cases e : i = k
    · subst e; omega
    · have := mxTo_ge J (k := k) (i := i) (by omega); omega
theorem great_sm {J : List Job} (h : greatJ J = false) : SmJ J := by
  unfold greatJ at h
  simp only [Bool.or_eq_false_iff, decide_eq_false_iff_not] at h
  refine ⟨by omega, fun i => ?_⟩
  by_cases hi : i < J.length
  · have := mxTo_ge J hi; omega
  · have : job J i = ⟨0, 0, []⟩ := by simp [job, List.getElem?_eq_none (by omega : J.length ≤ i)]
    rw [this]; simp
set_option maxRecDepth 100000 in
set_option maxHeartbeats 800000 in
theorem great_any (v : Value) (J : List Job) (w : World) (hx0 : RdJ w v J) :
    Calls Tryz.prog 13 #[.agg #[v]] w fun e w' => e = .returned (.bool (greatJ J)) ∧ Below w.heap.size w w' := by
  obtain ⟨a, c, rfl⟩ := hx0.sl
  have HX := Lib.hid hx0
  clear hx0
  have HB0 := Lib.hid (bal (bz w) (.cells #[.slice a J.length c] 24))
  have gq : (w.alloc (.cells #[.slice a J.length c] 24)).cell? ⟨w.heap.size, 0, none⟩ = some (.slice a J.length c) := cnew rfl rfl
  by_cases h1 : 16 < J.length
  · have d1 : decide (16 < (J.length : Int)) = true := by simp; omega
    have d2 : decide (16 < J.length) = true := by simp [h1]
    have HE : Hid (greatJ J = true) := Lib.hid (by unfold greatJ; rw [d2]; rfl)
    clear h1
    generalize greatJ J = g at *
    go_enter Tryz.func13, Tryz.ntmps13
    go_wp2_with fail
    go_ret
    exact ⟨ret_bool HE.out.symm, HB0.out⟩
  · have d1 : decide (16 < (J.length : Int)) = false := by simp; omega
    have d2 : decide (16 < J.length) = false := by simp; omega
    have HE : Hid (greatJ J = decide (16 < mxTo J J.length)) := Lib.hid (by unfold greatJ; rw [d2]; rfl)
    have hl : J.length ≤ 16 := by omega
    clear h1
    generalize greatJ J = g at *
    go_enter Tryz.func13, Tryz.ntmps13
    go_wp2_with fail
    clear d1 d2
    generalize w.alloc (.cells #[.slice a J.length c] 24) = w3 at *
    have HM : Hid (∀ k, k < J.length → mxTo J (k + 1) = max (mxTo J k) (job J k).ws.length) := Lib.hid (fun _ _ => rfl)
    go_loopw [3, 4] (fun s3 s4 wr => ∃ k : Nat, k ≤ J.length ∧ s4 = .int .i64 k ∧ s3 = .int .i64 (mxTo J k) ∧ wr = w3) (fun _ s4 _ => J.length - (intOf s4).toNat)
    case atStart => exact ⟨0, Nat.zero_le _, rfl, rfl, rfl⟩
    case round =>
      obtain ⟨k, hk, rfl, rfl, rfl⟩ := hrel
      by_cases hlt : k < J.length
      · obtain ⟨b, o, a', c', rfl, hb, g1, g2, g3, hr⟩ := (HX.out.mono HB0.out).get k hlt
        have HM2 := Lib.hid (HM.out k hlt)
        clear hr g1 g2
        generalize mxTo J k = m at *
        generalize (job J k).ws.length = q at *
        go_wp2_with fail
        go_roundw
        case rel => exact ⟨k + 1, by omega, by go_num, by rw [HM2.out]; congr 1; split <;> omega, trivial⟩
        case measure => simp [intOf]; omega
      · have HE2 : Hid (g = decide (16 < mxTo J k)) := Lib.hid (by rw [HE.out, show k = J.length by omega])
        generalize mxTo J k = m at *
        go_wp2_with fail
        go_ret
        exact ⟨ret_bool (by rw [HE2.out]; first | done | (congr 1; exact propext ⟨fun h => by omega, fun h => by omega⟩)), HB0.out⟩
end Go.Proofs.YteknehlkdgamjaaGreat

namespace Go.Proofs.YteknehlkdgamjaaGreat
open Go.RowKit Go.Shelf

/-- All numbers are jobs. -/
def isJ (n : Nat) (l : List Int) : Bool := !l.any (outB 0 ((n : Int) - 1))
theorem isJ_iff (n : Nat) (l : List Int) : isJ n l = true ↔ ∀ i, i < l.length → 0 ≤ elt l i ∧ elt l i < n := by
  unfold isJ
  rw [Bool.not_eq_true', List.any_eq_false]
  constructor
  · intro h i hi
    have := h _ (elt_mem hi)
    unfold outB at this
    rw [decide_eq_true_eq] at this
    omega
  · intro h x hx
    obtain ⟨i, hi, rfl⟩ := List.getElem_of_mem hx
    have := h i hi
    rw [elt_lt hi] at this
    unfold outB
    rw [decide_eq_true_eq]
    omega
set_option maxRecDepth 100000 in
set_option maxHeartbeats 800000 in
theorem isjobs_any (v x : Value) (J : List Job) (l : List Int) (w : World) (hx0 : RdJ w v J) (hy0 : RdI w .i64 x l) (hl : l.length ≤ 1000) (hs : SmJ J) :
    Calls Tryz.prog 67 #[.agg #[v], x] w fun e w' => e = .returned (.bool (isJ J.length l)) ∧ Below w.heap.size w w' := by
  obtain ⟨a, c, rfl⟩ := hx0.sl
  obtain ⟨ax, cx, rfl, _, hcm, hx⟩ := hy0.form
  have HY := Lib.hid hy0
  have hn := hs.1
  clear hy0 hcm hx hx0 hs
  have HB0 := Lib.hid (bal (bz w) (.cells #[.slice a J.length c] 24))
  have gq : (w.alloc (.cells #[.slice a J.length c] 24)).cell? ⟨w.heap.size, 0, none⟩ = some (.slice a J.length c) := cnew rfl rfl
  have zq : w.heap.size < (w.alloc (.cells #[.slice a J.length c] 24)).heap.size := by simp
  have HS := Lib.hid (isJ_iff J.length l)
  generalize J.length = n at *
  generalize isJ n l = g at *
  go_enter Tryz.func67, Tryz.ntmps67
  go_wp2_with fail
  generalize w.alloc (.cells #[.slice a n c] 24) = w3 at *
  have HBz := Lib.hid (bz w3)
  go_loopw [5] (fun s5 wr => ∃ k : Nat, k ≤ l.length ∧ s5 = .int .i64 k ∧ (∀ i, i < k → 0 ≤ elt l i ∧ elt l i < n) ∧ Below w3.heap.size w3 wr) (fun s5 _ => l.length - (intOf s5).toNat)
  case atStart => exact ⟨0, Nat.zero_le _, rfl, fun i h => by omega, HBz.out⟩
  case round =>
    clear HBz
    obtain ⟨k, hk, rfl, ht, hB⟩ := hrel
    have HT := Lib.hid ht; have HB := Lib.hid hB
    have gr := (hB.cell (p := ⟨w.heap.size, 0, none⟩) zq).trans gq
    have zr := Nat.lt_of_lt_of_le zq hB.size
    clear ht hB
    by_cases hlt : k < l.length
    · obtain ⟨b, o, e, hb, hc⟩ := (HY.out.mono (btr HB0.out HB.out)).get (by omega)
      subst e
      have gx := hc k hlt
      have HNO := Lib.hid (fun hn : ¬ (0 ≤ elt l k ∧ elt l k < n) => (show false = g from by
        cases hsb : g with
        | false => rfl
        | true => exact absurd (HS.out.1 hsb k hlt) hn))
      have HYES := Lib.hid (fun (h1 : 0 ≤ elt l k) (h2 : elt l k < n) => (show ∀ i, i < k + 1 → 0 ≤ elt l i ∧ elt l i < n from fun i hi => by
        by_cases e : i = k
        · subst e; exact ⟨h1, h2⟩
        · exact HT.out i (by omega)))
      clear hc
      by_cases h1 : elt l k < 0
      · have d1 : decide (elt l k < 0) = true := by simp [h1]
        have HN2 := Lib.hid (HNO.out (fun h => by omega))
        clear HNO HYES h1
        generalize elt l k = q at *
        go_upto_region 4 with fail
        go_quiet (fail)
        go_wp2_with fail
        go_ret
        exact ⟨ret_bool HN2.out, btr HB0.out (Below.drewN' _ HB.out)⟩
      · have d1 : decide (elt l k < 0) = false := by simp; omega
        by_cases h2 : (n : Int) ≤ elt l k
        · have d2 : decide ((n : Int) ≤ elt l k) = true := by simp [h2]
          have HN2 := Lib.hid (HNO.out (fun h => by omega))
          clear HNO HYES h1 h2
          generalize elt l k = q at *
          go_upto_region 4 with fail
          go_quiet (fail)
          go_wp2_with fail
          go_ret
          exact ⟨ret_bool HN2.out, btr HB0.out (Below.drewN' _ HB.out)⟩
        · have d2 : decide ((n : Int) ≤ elt l k) = false := by simp; omega
          have HN2 := Lib.hid (HYES.out (by omega) (by omega))
          clear HNO HYES h1 h2
          generalize elt l k = q at *
          go_upto_region 4 with fail
          go_quiet (fail)
          go_wp2_with fail
          go_roundw
          case rel => exact ⟨k + 1, by omega, by go_num, HN2.out, Below.drewN' _ HB.out⟩
          case measure => simp [intOf]; omega
    · have HY2 : Hid (g = true) := Lib.hid (HS.out.2 (fun i hi => HT.out i (by omega)))
      go_wp2_with fail
      go_ret
      exact ⟨ret_bool HY2.out.symm, btr HB0.out HB.out⟩
end Go.Proofs.YteknehlkdgamjaaGreat

namespace Go.Proofs.YteknehlkdgamjaaGreat
open Go.RowKit Go.Shelf

theorem run_cutToI (g o n c i : Nat) (h : i ≤ c) (w : World) : (Instr.slice 41 (.slice (some ⟨g, o, none⟩) n c) none (some (.int .i64 (i : Int))) none).run Tryz.prog w = .ok (.slice (some ⟨g, o, none⟩) i c) w := by
  obtain ⟨i0, hi, hz0, hz1, hz2⟩ := info_parts num3
  have h2 : ¬ ((c : Int) < (i : Int)) := by omega
  simp [Instr.slice, run_underlying Tryz.underlying41, Sem.run_bind, Instr.sliceBounds, Instr.sliceBound, asIntOf, h, sizeOf, typeInfo, hi, Addr.add]
theorem run_cutToL (g o n c i : Nat) (h : i ≤ c) (w : World) : (Instr.slice 70 (.slice (some ⟨g, o, none⟩) n c) none (some (.int .i64 (i : Int))) none).run Tryz.prog w = .ok (.slice (some ⟨g, o, none⟩) i c) w := by
  obtain ⟨i0, hi, hz0, hz1, hz2⟩ := info_parts infoI
  have h2 : ¬ ((c : Int) < (i : Int)) := by omega
  simp [Instr.slice, run_underlying Tryz.underlying70, Sem.run_bind, Instr.sliceBounds, Instr.sliceBound, asIntOf, h, sizeOf, typeInfo, hi, Addr.add]
theorem run_cutFromI (g o n c lo : Nat) (h1 : lo ≤ n) (h2 : n ≤ c) : ∃ ad, (∀ w : World, (Instr.slice 41 (.slice (some ⟨g, o, none⟩) n c) (some (.int .i64 (lo : Int))) none none).run Tryz.prog w = .ok (.slice (some ad) (n - lo) (c - lo)) w) ∧ (lo < n → ad = ⟨g, o + lo, none⟩) := by
  obtain ⟨i0, hi0, hz0, hz1, hz2⟩ := info_parts num3
  have k1 : ¬ ((lo : Int) < 0) := by omega
  have k2 : ¬ ((n : Int) < (lo : Int)) := by omega
  have k3 : ¬ ((c : Int) < (n : Int)) := by omega
  by_cases hq : c = lo
  · have hh : n = lo := by omega
    subst hh; subst hq
    refine ⟨⟨g, o, none⟩, fun w => ?_, fun h => by omega⟩
    simp [Instr.slice, run_underlying Tryz.underlying41, Sem.run_bind, Instr.sliceBounds, Instr.sliceBound, asIntOf, sizeOf, typeInfo, hi0, Addr.add]
  · refine ⟨⟨g, o + lo, none⟩, fun w => ?_, fun _ => rfl⟩
    simp [Instr.slice, run_underlying Tryz.underlying41, Sem.run_bind, Instr.sliceBounds, Instr.sliceBound, asIntOf, sizeOf, typeInfo, hi0, hz1, Addr.add, hq, h1]
theorem run_cutMid (g o n c lo hi : Nat) (h1 : lo ≤ hi) (h2 : hi ≤ c) : ∃ ad, (∀ w : World, (Instr.slice 41 (.slice (some ⟨g, o, none⟩) n c) (some (.int .i64 (lo : Int))) (some (.int .i64 (hi : Int))) none).run Tryz.prog w = .ok (.slice (some ad) (hi - lo) (c - lo)) w) ∧ (lo < hi → ad = ⟨g, o + lo, none⟩) := by
  obtain ⟨i0, hi0, hz0, hz1, hz2⟩ := info_parts num3
  have k1 : ¬ ((lo : Int) < 0) := by omega
  have k2 : ¬ ((hi : Int) < (lo : Int)) := by omega
  have k3 : ¬ ((c : Int) < (hi : Int)) := by omega
  by_cases hq : c = lo
  · have hh : hi = lo := by omega
    subst hh; subst hq
    refine ⟨⟨g, o, none⟩, fun w => ?_, fun h => by omega⟩
    simp [Instr.slice, run_underlying Tryz.underlying41, Sem.run_bind, Instr.sliceBounds, Instr.sliceBound, asIntOf, sizeOf, typeInfo, hi0, Addr.add]
  · refine ⟨⟨g, o + lo, none⟩, fun w => ?_, fun _ => rfl⟩
    simp [Instr.slice, run_underlying Tryz.underlying41, Sem.run_bind, Instr.sliceBounds, Instr.sliceBound, asIntOf, sizeOf, typeInfo, hi0, hz1, Addr.add, hq, h1, h2]
theorem rdI_mid {w : World} {g o n c lo hi : Nat} {ad : Addr} {W : List Int} (hn : n = W.length) (h : RdI w .i64 (.slice (some ⟨g, o, none⟩) n c) W) (h1 : lo ≤ hi) (h2 : hi ≤ n) (had : lo < hi → ad = ⟨g, o + lo, none⟩) : RdI w .i64 (.slice (some ad) (hi - lo) (c - lo)) ((W.drop lo).take (hi - lo)) := by
  subst hn
  obtain ⟨_, _, e, k1, k2, hx⟩ := h.form
  cases e
  have hl : ((W.drop lo).take (hi - lo)).length = hi - lo := by rw [List.length_take, List.length_drop]; omega
  refine ⟨_, _, by rw [hl], by omega, by omega, fun hne => ?_⟩
  have hlt : lo < hi := by
    rcases Nat.lt_or_ge lo hi with h | h
    · exact h
    · rw [show hi - lo = 0 by omega] at hne; simp at hne
  obtain ⟨b, off, e, hb, hc⟩ := hx (by omega)
  cases e
  refine ⟨g, o + lo, by rw [had hlt], hb, fun j u hu => ?_⟩
  have hj : j < hi - lo := by have := (List.getElem?_eq_some_iff.1 hu).1; rw [List.length_map, hl] at this; exact this
  have := hc (lo + j) (by omega)
  rw [show o + lo + j = o + (lo + j) by omega, this, ← hu]
  have hj2 : lo + j < W.length := by omega
  simp [hj, List.getElem?_drop, hj2]

theorem rdI_pre {w : World} {g o n c : Nat} {W : List Int} (h : RdI w .i64 (.slice (some ⟨g, o, none⟩) n c) W) {k : Nat} (hk : k ≤ W.length) : RdI w .i64 (.slice (some ⟨g, o, none⟩) k c) (W.take k) := by
  obtain ⟨a, cap, e, h1, h2, h3⟩ := h
  simp only [Value.slice.injEq] at e
  obtain ⟨rfl, rfl, rfl⟩ := e
  have hl : (W.take k).length = k := by rw [List.length_take]; omega
  refine ⟨_, _, by rw [hl], by omega, h2, fun hne => ?_⟩
  have hw : W.map (Value.int .i64) ≠ [] := by intro e; rw [List.map_take, e] at hne; simp at hne
  obtain ⟨b, o', e, h4, h5⟩ := h3 hw
  refine ⟨b, o', e, h4, fun j v hj => h5 j v ?_⟩
  rw [List.map_take] at hj
  have hjk : j < k := by have := (List.getElem?_eq_some_iff.1 hj).1; simp at this; omega
  rw [List.getElem?_take_of_lt hjk] at hj
  exact hj
theorem rdI_nil (w : World) (k : IntKind) : RdI w k (.slice none 0 0) [] := ⟨none, 0, rfl, Nat.le_refl _, by unfold maxLen; omega, fun h => absurd rfl h⟩
theorem rdI_eq {w : World} {v : Value} {xs ys : List Int} (h : RdI w .i64 v xs) (e : xs = ys) : RdI w .i64 v ys := e ▸ h
end Go.Proofs.YteknehlkdgamjaaGreat

namespace Go.Proofs.YteknehlkdgamjaaGreat
open Go.RowKit Go.Shelf

/-- The one before in a circle. -/
def prevI (n i : Nat) : Nat := if i = 0 then n - 1 else i - 1
def cirAt (J : List Job) (l : List Int) (i : Nat) : Bool := !(l.take i).contains (elt l i) && (job J (elt l i).toNat).ws.contains (elt l (prevI l.length i))
def cirTo (J : List Job) (l : List Int) (k : Nat) : Bool := (List.range k).all (cirAt J l)
theorem cirTo_succ (J : List Job) (l : List Int) (k : Nat) : cirTo J l (k + 1) = (cirTo J l k && cirAt J l k) := by unfold cirTo; rw [List.range_succ, List.all_append]; simp
theorem cirTo_false {J : List Job} {l : List Int} {k m : Nat} (h : cirTo J l k = false) (hkm : k ≤ m) : cirTo J l m = false := by
  induction hkm with
  | refl => exact h
  | step _ ih => rw [cirTo_succ, ih]; rfl
/-- The error of a circle. -/
def circE (J : List Job) (l : List Int) : Int := if workC J = 0 then (if isJ J.length l then (if l.length < 2 then 14 else if cirTo J l l.length then 0 else 14) else 3) else workC J
theorem prev_mod {n i : Nat} (hi : i < n) : ((i : Int) + n - 1).tmod n = (prevI n i : Nat) := by
  unfold prevI
  rw [Int.tmod_eq_emod_of_nonneg (by omega)]
  split
  · rename_i h; subst h
    rw [Int.emod_eq_of_lt (by omega) (by omega)]; omega
  · rw [show (i : Int) + n - 1 = (i - 1 : Nat) + n * 1 by omega, Int.add_mul_emod_self_left, Int.emod_eq_of_lt (by omega) (by omega)]
theorem prev_lt {n i : Nat} (hi : i < n) : prevI n i < n := by unfold prevI; split <;> omega
set_option maxRecDepth 100000 in
set_option maxHeartbeats 1600000 in
theorem rcircle_any (v x : Value) (J : List Job) (l : List Int) (w : World) (hx0 : RdJ w v J) (hy0 : RdI w .i64 x l) (hl : l.length ≤ 1000) (hs : SmJ J) :
    Calls Tryz.prog 55 #[.agg #[v], x] w fun e w' => e = .returned (.int .i64 (circE J l)) ∧ Below w.heap.size w w' := by
  have HC := Lib.hid (fun wz (h : Below w.heap.size w wz) => rwork_any v J wz (hx0.mono h) hs)
  have HI := Lib.hid (fun wz (h : Below w.heap.size w wz) => isjobs_any v x J l wz (hx0.mono h) (hy0.mono h) hl hs)
  obtain ⟨a, c, rfl⟩ := hx0.sl
  obtain ⟨ax, cx, rfl, _, hcm, hx⟩ := hy0.form
  have HX := Lib.hid hx0; have HY := Lib.hid hy0
  have hn := hs.1
  have HS := Lib.hid hs.2
  clear hy0 hcm hx hx0 hs
  have HB0 := Lib.hid (bal (bz w) (.cells #[.slice a J.length c] 24))
  have gq : (w.alloc (.cells #[.slice a J.length c] 24)).cell? ⟨w.heap.size, 0, none⟩ = some (.slice a J.length c) := cnew rfl rfl
  have zq : w.heap.size < (w.alloc (.cells #[.slice a J.length c] 24)).heap.size := by simp
  by_cases h0 : workC J = 0
  · have HE : Hid (circE J l = if isJ J.length l then (if l.length < 2 then 14 else if cirTo J l l.length then 0 else 14) else 3) := Lib.hid (by unfold circE; rw [if_pos h0])
    rw [h0] at HC
    clear h0
    generalize circE J l = q at *
    have HIJ := Lib.hid (isJ_iff J.length l)
    generalize isJ J.length l = ij at *
    go_enter Tryz.func55, Tryz.ntmps55
    go_wp2_with fail
    generalize w.alloc (.cells #[.slice a J.length c] 24) = w3 at *
    refine (HC.out _ HB0.out).mono ?_
    rintro e w4 ⟨rfl, hB⟩
    have HB4 := Lib.hid (btr HB0.out hB)
    have gq4 := (hB.cell (p := ⟨w.heap.size, 0, none⟩) zq).trans gq
    have zq4 := Nat.lt_of_lt_of_le zq hB.size
    clear hB gq zq HB0 HC
    go_wp2_with fail
    refine (HI.out _ HB4.out).mono ?_
    rintro e w5 ⟨rfl, hB⟩
    have HB5 := Lib.hid (btr HB4.out hB)
    have gq5 := (hB.cell (p := ⟨w.heap.size, 0, none⟩) zq4).trans gq4
    have zq5 := Nat.lt_of_lt_of_le zq4 hB.size
    clear hB gq4 zq4 HB4 HI
    cases ij with
    | false =>
      have HQ : Hid (q = 3) := Lib.hid (by rw [HE.out]; rfl)
      go_wp2_with fail
      go_ret
      exact ⟨ret_int HQ.out.symm, HB5.out⟩
    | true =>
      have HJJ := Lib.hid (HIJ.out.1 rfl)
      by_cases h2 : l.length < 2
      · have d1 : decide ((l.length : Int) < 2) = true := by simp; omega
        have HQ : Hid (q = 14) := Lib.hid (by rw [HE.out, if_pos rfl, if_pos h2])
        clear h2
        go_wp2_with fail
        go_ret
        exact ⟨ret_int HQ.out.symm, HB5.out⟩
      · have d1 : decide ((l.length : Int) < 2) = false := by simp; omega
        have HQ : Hid (q = if cirTo J l l.length then 0 else 14) := Lib.hid (by rw [HE.out, if_pos rfl, if_neg h2])
        clear h2 HE HIJ
        go_wp2_with fail
        clear d1
        have HBz := Lib.hid (bz w5)
        have HCX : Hid (l.length ≤ cx) := Lib.hid (by assumption)
        go_loopw [6] (fun s6 wr => ∃ k : Nat, k ≤ l.length ∧ s6 = .int .i64 k ∧ cirTo J l k = true ∧ Below w5.heap.size w5 wr) (fun s6 _ => l.length - (intOf s6).toNat)
        case atStart => exact ⟨0, Nat.zero_le _, rfl, rfl, HBz.out⟩
        case round =>
          clear HBz
          obtain ⟨k, hk, rfl, ht, hB⟩ := hrel
          have HT := Lib.hid ht; have HB := Lib.hid hB
          have gr := (hB.cell (p := ⟨w.heap.size, 0, none⟩) zq5).trans gq5
          have zr := Nat.lt_of_lt_of_le zq5 hB.size
          clear ht hB
          by_cases hlt : k < l.length
          · obtain ⟨bx, ox, e, hbx, hcx⟩ := (HY.out.mono (btr HB5.out HB.out)).get (by omega)
            subst e
            obtain ⟨v1, v2⟩ := HJJ.out k hlt
            obtain ⟨p, hp⟩ := Int.eq_ofNat_of_zero_le v1
            have hpJ : p < J.length := by omega
            have gx := hcx k hlt
            have hpl := prev_lt hlt
            have gy := hcx (prevI l.length k) hpl
            have hmod := prev_mod hlt
            obtain ⟨b, o, a', c', e, hb, g1, g2, g3, hr⟩ := (HX.out.mono (btr HB5.out HB.out)).get p hpJ
            subst e
            have HR := Lib.hid hr
            have HW := Lib.hid (HS.out p)
            have HPRE := Lib.hid (rdI_pre (HY.out.mono (btr HB5.out HB.out)) (k := k) (by omega))
            have HST : Hid (cirTo J l (k + 1) = (!(l.take k).contains (elt l k) && (job J p).ws.contains (elt l (prevI l.length k)))) := Lib.hid (by rw [cirTo_succ, HT.out, Bool.true_and]; unfold cirAt; rw [hp]; rfl)
            have HFA := Lib.hid (fun h : cirTo J l (k + 1) = false => cirTo_false h hlt)
            have htl : Hid ((l.take k).length ≤ 1000) := Lib.hid (by rw [List.length_take]; omega)
            have hs := run_cutToI bx ox l.length cx k (by have := HCX.out; omega)
            rw [hp] at gx HST
            clear hcx hr g1 g2 v1 v2 hp
            generalize l.take k = tk at *
            generalize elt l (prevI l.length k) = y at *
            generalize prevI l.length k = pv at *
            generalize (job J p).ws = ws at *
            obtain ⟨m, hm⟩ : ∃ m, m = ws.length := ⟨_, rfl⟩
            rw [← hm] at g3 HR
            clear hm
            go_upto_region 11 with fail
            refine wp_region_flow [] [([0, 1, 2, 3, 4, 5, 6], 7, true), ([8, 9, 10, 11, 12, 13, 14, 15, 16, 17, 18, 19, 20, 21, 22, 23, 24, 25, 26], 27, true)] [28, 29] (by kernel_rfl) (by kernel_rfl) ?_
            intro wc hBc hh
            clear hh
            have HBC := Lib.hid hBc
            have hL := @Later.cell wc
            have k1 := (hBc.cell (p := ⟨bx, ox + k, none⟩) hbx).trans gx
            have k2 := (hBc.cell (p := ⟨bx, ox + pv, none⟩) hbx).trans gy
            have k3 := (hBc.cell (p := ⟨b, o + p * 3 + 2, none⟩) hb).trans g3
            have k4 := (hBc.cell (p := ⟨w.heap.size, 0, none⟩) zr).trans gr
            have z1 := Nat.lt_of_lt_of_le hbx hBc.size
            have z2 := Nat.lt_of_lt_of_le hb hBc.size
            have z3 := Nat.lt_of_lt_of_le zr hBc.size
            clear hBc gx gy g3 gr hbx hb zr
            simp only [flowP, flow, pickL, List.getElem?_cons_succ, List.getElem?_cons_zero]
            refine wpQuiet_nil ?_
            repeat (go_big_quiet_step (fail))
            refine wpQuiet_nil ?_
            go_wp2_with fail
            refine (has_any _ tk (p : Int) wc (HPRE.out.mono HBC.out) htl.out).mono ?_
            rintro e w6 ⟨rfl, rfl⟩
            cases hct : tk.contains (p : Int) with
            | true =>
              have HN2 : Hid (q = 14) := Lib.hid (by rw [HQ.out, HFA.out (by rw [HST.out, hct]; rfl)]; rfl)
              clear hct hL k1 k2 k3 k4 z1 z2 z3 hs hmod
              go_wp2
              refine seg_grow ⟨⟨_, bz _⟩, rfl⟩ ?_
              repeat (go_big_quiet_step (fail))
              refine wpQuiet_nil ?_
              go_wp2
              refine seg_grow ⟨⟨_, bz _⟩, rfl⟩ ?_
              repeat (go_big_quiet_step (fail))
              refine wpQuiet_nil ?_
              refine only_done ?_
              go_wp2_with fail
              go_ret
              exact ⟨ret_int HN2.out.symm, btr HB5.out (btr HB.out HBC.out)⟩
            | false =>
              rw [hct] at HST
              clear hct
              go_wp2
              refine seg_grow ⟨⟨_, bz _⟩, rfl⟩ ?_
              repeat (go_big_quiet_step (fail))
              refine wpQuiet_nil ?_
              go_wp2_with fail
              refine (has_any _ ws y wc (HR.out.mono HBC.out) (by have := HW.out; omega)).mono ?_
              rintro e w6 ⟨rfl, rfl⟩
              clear hL k1 k2 k3 k4 z1 z2 z3 hs hmod
              cases hct : ws.contains y with
              | false =>
                have HN2 : Hid (q = 14) := Lib.hid (by rw [HQ.out, HFA.out (by rw [HST.out, hct]; rfl)]; rfl)
                clear hct
                go_wp2
                refine seg_grow ⟨⟨_, bz _⟩, rfl⟩ ?_
                repeat (go_big_quiet_step (fail))
                refine wpQuiet_nil ?_
                refine only_done ?_
                go_wp2_with fail
                go_ret
                exact ⟨ret_int HN2.out.symm, btr HB5.out (btr HB.out HBC.out)⟩
              | true =>
                have HN2 : Hid (cirTo J l (k + 1) = true) := Lib.hid (by rw [HST.out, hct]; rfl)
                clear hct
                go_wp2
                refine seg_grow ⟨⟨_, bz _⟩, rfl⟩ ?_
                repeat (go_big_quiet_step (fail))
                refine wpQuiet_nil ?_
                refine only_done ?_
                go_wp2_with fail
                go_roundw
                case rel => exact ⟨k + 1, by omega, by go_num, HN2.out, btr HB.out HBC.out⟩
                case measure => simp [intOf]; omega
          · have hke : k = l.length := by omega
            have HQ2 : Hid (q = 0) := Lib.hid (by rw [HQ.out, ← hke, HT.out]; rfl)
            clear hke
            go_wp2_with fail
            go_ret
            exact ⟨ret_int HQ2.out.symm, btr HB5.out HB.out⟩
  · have HE : Hid (circE J l = workC J) := Lib.hid (by unfold circE; rw [if_neg h0])
    have t1 : (workC J != 0) = true := by simp [h0]
    clear h0 HI
    generalize circE J l = q at *
    generalize workC J = p at *
    go_enter Tryz.func55, Tryz.ntmps55
    go_wp2_with fail
    generalize w.alloc (.cells #[.slice a J.length c] 24) = w3 at *
    refine (HC.out _ HB0.out).mono ?_
    rintro e w4 ⟨rfl, hB⟩
    have HB4 := Lib.hid (btr HB0.out hB)
    have gq4 := (hB.cell (p := ⟨w.heap.size, 0, none⟩) zq).trans gq
    clear hB gq zq
    go_wp2_with fail
    refine (HC.out _ HB4.out).mono ?_
    rintro e w5 ⟨rfl, hB⟩
    have HB5 := Lib.hid (btr HB4.out hB)
    clear hB gq4
    go_wp2_with fail
    go_ret
    exact ⟨ret_int HE.out.symm, HB5.out⟩
end Go.Proofs.YteknehlkdgamjaaGreat

namespace Go.Proofs.YteknehlkdgamjaaGreat
open Go.RowKit Go.Shelf

theorem prevI_succ (n k : Nat) : prevI n (k + 1) = k := by unfold prevI; rw [if_neg (by omega)]; omega
set_option maxRecDepth 100000 in
set_option maxHeartbeats 1600000 in
theorem pcircle_any (v x : Value) (J : List Job) (l : List Int) (w : World) (hx0 : RdJ w v J) (hy0 : RdI w .i64 x l) (hl : l.length ≤ 1000) (hs : SmJ J) :
    Calls Tryz.prog 53 #[.agg #[v], x] w fun e w' => e = .returned (.int .i64 (circE J l)) ∧ Below w.heap.size w w' := by
  have HC := Lib.hid (fun wz (h : Below w.heap.size w wz) => pwork_any v J wz (hx0.mono h) hs)
  have HI := Lib.hid (fun wz (h : Below w.heap.size w wz) => within_any x l 0 ((J.length : Int) - 1) wz (hy0.mono h) hl)
  obtain ⟨a, c, rfl⟩ := hx0.sl
  obtain ⟨ax, cx, rfl, hcx0, hcm, hx⟩ := hy0.form
  have HX := Lib.hid hx0; have HY := Lib.hid hy0
  have hn := hs.1
  have HS := Lib.hid hs.2
  have HCX := Lib.hid hcx0
  clear hy0 hcm hx hx0 hs hcx0
  have HB0 := Lib.hid (bal (bz w) (.cells #[.slice a J.length c] 24))
  have gq : (w.alloc (.cells #[.slice a J.length c] 24)).cell? ⟨w.heap.size, 0, none⟩ = some (.slice a J.length c) := cnew rfl rfl
  have zq : w.heap.size < (w.alloc (.cells #[.slice a J.length c] 24)).heap.size := by simp
  have HIE : Hid ((!l.any (outB 0 ((J.length : Int) - 1))) = isJ J.length l) := Lib.hid rfl
  rw [HIE.out] at HI
  clear HIE
  by_cases h0 : workC J = 0
  · have HE : Hid (circE J l = if isJ J.length l then (if l.length < 2 then 14 else if cirTo J l l.length then 0 else 14) else 3) := Lib.hid (by unfold circE; rw [if_pos h0])
    rw [h0] at HC
    clear h0
    generalize circE J l = q at *
    have HIJ := Lib.hid (isJ_iff J.length l)
    generalize isJ J.length l = ij at *
    go_enter Tryz.func53, Tryz.ntmps53
    go_wp2_with fail
    generalize w.alloc (.cells #[.slice a J.length c] 24) = w3 at *
    refine (HC.out _ HB0.out).mono ?_
    rintro e w4 ⟨rfl, hB⟩
    have HB4 := Lib.hid (btr HB0.out hB)
    have gq4 := (hB.cell (p := ⟨w.heap.size, 0, none⟩) zq).trans gq
    have zq4 := Nat.lt_of_lt_of_le zq hB.size
    clear hB gq zq HB0 HC
    go_wp2_with fail
    refine (HI.out _ HB4.out).mono ?_
    rintro e w5 ⟨rfl, hB⟩
    have HB5 := Lib.hid (btr HB4.out hB)
    have gq5 := (hB.cell (p := ⟨w.heap.size, 0, none⟩) zq4).trans gq4
    have zq5 := Nat.lt_of_lt_of_le zq4 hB.size
    clear hB gq4 zq4 HB4 HI
    cases ij with
    | false =>
      have HQ : Hid (q = 3) := Lib.hid (by rw [HE.out]; rfl)
      go_wp2_with fail
      go_ret
      exact ⟨ret_int HQ.out.symm, HB5.out⟩
    | true =>
      have HJJ := Lib.hid (HIJ.out.1 rfl)
      by_cases h2 : l.length < 2
      · have d1 : decide ((l.length : Int) < 2) = true := by simp; omega
        have HQ : Hid (q = 14) := Lib.hid (by rw [HE.out, if_pos rfl, if_pos h2])
        clear h2
        go_wp2_with fail
        go_ret
        exact ⟨ret_int HQ.out.symm, HB5.out⟩
      · have d1 : decide ((l.length : Int) < 2) = false := by simp; omega
        have HQ : Hid (q = if cirTo J l l.length then 0 else 14) := Lib.hid (by rw [HE.out, if_pos rfl, if_neg h2])
        obtain ⟨b0, o0, e, hb0, hc0⟩ := (HY.out.mono HB5.out).get (by omega)
        subst e
        obtain ⟨n1, hn1⟩ : ∃ n1, n1 = l.length - 1 := ⟨_, rfl⟩
        have g0 := hc0 n1 (by omega)
        have hn2 : (l.length : Int) - 1 = (n1 : Int) := by omega
        have HPV : Hid (prevI l.length 0 = n1) := Lib.hid (by unfold prevI; rw [if_pos rfl]; exact hn1.symm)
        have hlt1 : n1 < l.length := by omega
        clear h2 HE HIJ hc0 hn1
        go_wp2_with fail
        clear d1 g0 hn2 hlt1 hb0
        have HBz := Lib.hid (bz w5)
        go_loopw [6, 35] (fun s6 s35 wr => ∃ k : Nat, k ≤ l.length ∧ s35 = .int .i64 k ∧ s6 = .int .i64 (elt l (prevI l.length k)) ∧ cirTo J l k = true ∧ Below w5.heap.size w5 wr) (fun _ s35 _ => l.length - (intOf s35).toNat)
        case atStart => exact ⟨0, Nat.zero_le _, rfl, by rw [HPV.out], rfl, HBz.out⟩
        case round =>
          clear HBz
          obtain ⟨k, hk, rfl, rfl, ht, hB⟩ := hrel
          have HT := Lib.hid ht; have HB := Lib.hid hB
          have gr := (hB.cell (p := ⟨w.heap.size, 0, none⟩) zq5).trans gq5
          have zr := Nat.lt_of_lt_of_le zq5 hB.size
          clear ht hB
          by_cases hlt : k < l.length
          · obtain ⟨bx, ox, e, hbx, hcx⟩ := (HY.out.mono (btr HB5.out HB.out)).get (by omega)
            cases e
            obtain ⟨v1, v2⟩ := HJJ.out k hlt
            obtain ⟨p, hp⟩ := Int.eq_ofNat_of_zero_le v1
            have hpJ : p < J.length := by omega
            have gx := hcx k hlt
            obtain ⟨b, o, a', c', e, hb, g1, g2, g3, hr⟩ := (HX.out.mono (btr HB5.out HB.out)).get p hpJ
            subst e
            have HR := Lib.hid hr
            have HW := Lib.hid (HS.out p)
            have HPRE := Lib.hid (rdI_pre (HY.out.mono (btr HB5.out HB.out)) (k := k) (by omega))
            have HST : Hid (cirTo J l (k + 1) = (!(l.take k).contains (elt l k) && (job J p).ws.contains (elt l (prevI l.length k)))) := Lib.hid (by rw [cirTo_succ, HT.out, Bool.true_and]; unfold cirAt; rw [hp]; rfl)
            have HFA := Lib.hid (fun h : cirTo J l (k + 1) = false => cirTo_false h hlt)
            have htl : Hid ((l.take k).length ≤ 1000) := Lib.hid (by rw [List.length_take]; omega)
            have hs := run_cutToI b0 o0 l.length cx k (by have := HCX.out; omega)
            have HPS : Hid (elt l (prevI l.length (k + 1)) = (p : Int)) := Lib.hid (by rw [prevI_succ, hp])
            rw [hp] at gx HST
            clear hcx hr g1 g2 v1 v2 hp
            generalize l.take k = tk at *
            generalize elt l (prevI l.length k) = y at *
            generalize (job J p).ws = ws at *
            obtain ⟨m, hm⟩ : ∃ m, m = ws.length := ⟨_, rfl⟩
            rw [← hm] at g3 HR
            clear hm
            go_wp2_with fail
            refine (contains_any _ tk (p : Int) _ HPRE.out htl.out).mono ?_
            rintro e w6 ⟨rfl, rfl⟩
            cases hct : tk.contains (p : Int) with
            | true =>
              have HN2 : Hid (q = 14) := Lib.hid (by rw [HQ.out, HFA.out (by rw [HST.out, hct]; rfl)]; rfl)
              clear hct
              go_wp2_with fail
              go_ret
              exact ⟨ret_int HN2.out.symm, btr HB5.out HB.out⟩
            | false =>
              rw [hct] at HST
              clear hct
              go_wp2_with fail
              refine (contains_any _ ws y _ HR.out (by have := HW.out; omega)).mono ?_
              rintro e w6 ⟨rfl, rfl⟩
              cases hct : ws.contains y with
              | false =>
                have HN2 : Hid (q = 14) := Lib.hid (by rw [HQ.out, HFA.out (by rw [HST.out, hct]; rfl)]; rfl)
                clear hct
                go_wp2_with fail
                go_ret
                exact ⟨ret_int HN2.out.symm, btr HB5.out HB.out⟩
              | true =>
                have HN2 : Hid (cirTo J l (k + 1) = true) := Lib.hid (by rw [HST.out, hct]; rfl)
                clear hct
                go_wp2_with fail
                go_roundw
                case rel => exact ⟨k + 1, by omega, by go_num, by rw [HPS.out], HN2.out, HB.out⟩
                case measure => simp [intOf]; omega
          · have hke : k = l.length := by omega
            have HQ2 : Hid (q = 0) := Lib.hid (by rw [HQ.out, ← hke, HT.out]; rfl)
            clear hke
            go_wp2_with fail
            go_ret
            exact ⟨ret_int HQ2.out.symm, btr HB5.out HB.out⟩
  · have HE : Hid (circE J l = workC J) := Lib.hid (by unfold circE; rw [if_neg h0])
    have t1 : (workC J != 0) = true := by simp [h0]
    clear h0 HI
    generalize circE J l = q at *
    generalize workC J = p at *
    go_enter Tryz.func53, Tryz.ntmps53
    go_wp2_with fail
    generalize w.alloc (.cells #[.slice a J.length c] 24) = w3 at *
    refine (HC.out _ HB0.out).mono ?_
    rintro e w4 ⟨rfl, hB⟩
    have HB4 := Lib.hid (btr HB0.out hB)
    have gq4 := (hB.cell (p := ⟨w.heap.size, 0, none⟩) zq).trans gq
    clear hB gq zq
    go_wp2_with fail
    go_ret
    exact ⟨ret_int HE.out.symm, HB4.out⟩
end Go.Proofs.YteknehlkdgamjaaGreat
