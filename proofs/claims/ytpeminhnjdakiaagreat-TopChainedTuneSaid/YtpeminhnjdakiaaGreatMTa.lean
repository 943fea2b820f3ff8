/- Merged texts: pieces of times; the head of the law; the end; no condition. -/
import Derived.Test.YtpeminhnjdakiaaGreatMBa
import Derived.Test.YtpeminhnjdakiaaGreatMEd
import Derived.ProofKit
import Derived.OpenShut
import Derived.Lib.SmallJoins
import Derived.Deep.Slices
section
namespace Go.Proofs.YtpeminhnjdakiaaGreat
open Go.RowKit Go.Ev

noncomputable def numA (l : List Nat) : List AV := l.map fun x : Nat => AV.int .i64 (.ofNat x)
def dayW : List Nat := [1, 2, 3, 4, 1, 2, 5, 1, 2, 3, 4, 5]
noncomputable def mapR : AObj := .map ([(0, 4, 1, 0), (1, 5, 2, 1), (4, 7, 1, 3), (5, 8, 2, 5), (2, 9, 3, 6), (3, 10, 4, 7), (6, 11, 5, 8)].map fun q : Nat × Nat × Nat × Nat => (AV.agg [.int .i64 (.ofNat q.1), .int .i64 (.ofNat q.2.1)], AV.int .i64 (.ofNat q.2.2.1), q.2.2.2)) 9
noncomputable def benchR : AObj := .row 197 [.int .i64 3, .slice 1 0 12 12 false, .int .i64 0, .int .i64 0, .int .i64 0, .int .i64 0, .int .i64 0, .int .i64 0, .int .i64 0, .int .i64 0, .int .i64 0, .map 2] true none
noncomputable def wantsR : AObj := .row 3 (numA dayW) true none
noncomputable def conT : Con := ⟨162, [.ptr 0 0], [benchR, wantsR, mapR], .slice 3 0 1 0 true, [.row 3 [.int .i64 6] false none]⟩
def unSeq : Nat → Code → List Code
  | 0, c => [c]
  | n + 1, .seq a b => a :: unSeq n b
  | _, c => [c]
def dropSeq : Nat → Code → Code
  | 0, c => c
  | n + 1, .seq _ b => dropSeq n b
  | _, c => c
def fstC : Code → Code
  | .seq a _ => a
  | c => c
def sndC : Code → Code
  | .seq _ b => b
  | c => c
def loopB : Code → Code
  | .block _ (.loop c) => c
  | c => c
def bodyC (f : Func) : Code := match f.body with | some c => c | none => .skip
noncomputable def cT : Code := bodyC Tryz.f162
noncomputable def cTa (i : Nat) : Code := fstC (dropSeq i cT)
noncomputable def cTl : Code := loopB (sndC (cTa 3))
noncomputable def cTr : Code := dropSeq 4 cT
theorem cT_eq : cT = seqs [cTa 0, cTa 1, cTa 2] (.seq (.seq (fstC (cTa 3)) (.block 0 (.loop cTl))) cTr) := by kernel_rfl
noncomputable def topsT (n : Nat) : Tr AV := Nat.rec .nil (fun i t => Tr.set t i (some .top)) n
noncomputable def setsT (t : Tr AV) : List (Nat × AV) → Tr AV := List.rec t (fun p _ ih => Tr.set ih p.1 (some p.2))
noncomputable def frL (n : Nat) (vals : List (Nat × AV)) (marks : List Nat) : Fr := { tmps := setsT (topsT n) vals, nt := n, marks }
noncomputable def stV : List (Nat × AV) := [(0, .ptr 0 0), (2, .nils), (3, .int .i64 12), (4, .slice 3 0 14 14 false), (5, .slice 4 0 14 14 false)]
noncomputable def stF (box : Nat) (marks : List Nat) : Fr := frL 113 ((6, .ptr box 0) :: stV) marks
noncomputable def stE (marks : List Nat) (least before : List Nat) : List (Nat × AObj) := [(0, benchR), (1, wantsR), (2, mapR), (3, .row 3 (numA least) true none), (4, .row 3 (numA before) true none)] ++ marks.map fun m => (m, .defd)
noncomputable def stL (box last : Nat) (marks : List Nat) (least before : List Nat) : List (Nat × AObj) := (box, .row 3 [.int .i64 (.ofNat last)] true none) :: stE marks least before
noncomputable def RT : Rec := recN Tryz.prog orc0 100000
theorem okT : Ok Tryz.prog RT := eval_ok mixed plain orc0_ok 100000
noncomputable def aT : Fr := { tmps := argsT [.ptr 0 0] 0 .nil, nt := max (sizeL [AV.ptr 0 0]) Tryz.f162.ntmps, marks := [] }
end Go.Proofs.YtpeminhnjdakiaaGreat
end

section
namespace Go.Proofs.YtpeminhnjdakiaaGreat
open Go.RowKit Go.Ev

noncomputable def ints7 (l : List Nat) : List AV := l.map fun x : Nat => AV.int .i64 (.ofNat x)
end Go.Proofs.YtpeminhnjdakiaaGreat
end

section
namespace Go.Proofs.YtpeminhnjdakiaaGreat
open Go.RowKit Go.Ev

theorem setsT_get (t : Tr AV) : ∀ (l : List (Nat × AV)) (i : Nat), (setsT t l).get i = t.get i ∨ ∃ p ∈ l, p.1 = i ∧ (setsT t l).get i = some p.2
  | [], i => .inl rfl
  | p :: l, i => by
    change (Tr.set (setsT t l) p.1 (some p.2)).get i = t.get i ∨ ∃ q ∈ p :: l, q.1 = i ∧ (Tr.set (setsT t l) p.1 (some p.2)).get i = some q.2
    rw [Tr.get_set]
    by_cases h : i = p.1
    · rw [if_pos h]; exact .inr ⟨p, List.mem_cons_self .., h.symm, rfl⟩
    · rw [if_neg h]
      rcases setsT_get t l i with h1 | ⟨q, h1, h2, h3⟩
      · exact .inl h1
      · exact .inr ⟨q, List.mem_cons_of_mem _ h1, h2, h3⟩
theorem topsT_get : ∀ (n i : Nat), (topsT n).get i = if i < n then some .top else none
  | 0, i => by rw [if_neg (by omega)]; rfl
  | n + 1, i => by
    change (Tr.set (topsT n) n (some .top)).get i = _
    rw [Tr.get_set, topsT_get n i]
    by_cases h : i = n
    · rw [if_pos h, if_pos (by omega)]
    · rw [if_neg h]
      by_cases h2 : i < n
      · rw [if_pos h2, if_pos (by omega)]
      · rw [if_neg h2, if_neg (by omega)]
theorem frL_rel {ρ : Rn} {n : Nat} {vals : List (Nat × AV)} {marks : List Nat} {tm : Array Value} (hsz : tm.size = n) (hv : ∀ p ∈ vals, VR ρ p.2 (tm.getD p.1 Go.undef)) : FrR ρ (frL n vals marks) tm := by
  refine ⟨hsz, fun t => ?_⟩
  rw [Fr.get_eq]
  change VT ρ (match (setsT (topsT n) vals).get t with | some v => v | none => .undef) _
  rcases setsT_get (topsT n) vals t with h | ⟨p, h1, h2, h3⟩
  · rw [h, topsT_get]
    by_cases ht : t < n
    · rw [if_pos ht]; exact .inl rfl
    · rw [if_neg ht]
      have : tm.getD t Go.undef = Go.undef := by
        have hn : ¬ t < tm.size := by omega
        simp [Array.getD, hn]
      rw [this]
      exact .inr (VR.undef ρ)
  · rw [h3]
    subst h2
    exact .inr (hv p h1)
noncomputable def cC : Code := bodyC Tryz.f3
noncomputable def cCa (i : Nat) : Code := fstC (dropSeq i cC)
noncomputable def cCr : Code := dropSeq 3 cC
theorem cC_eq : cC = .seq (cCa 0) (.seq (cCa 1) (.seq (cCa 2) cCr)) := by kernel_rfl
noncomputable def RH : Rec := recN Tryz.prog orc0 100000
theorem okH : Ok Tryz.prog RH := eval_ok mixed plain orc0_ok 100000
noncomputable def aC (o s : Int) : Fr := { tmps := argsT [.int .u8 o, .int .u8 s] 0 .nil, nt := max (sizeL [AV.int .u8 o, AV.int .u8 s]) Tryz.f3.ntmps, marks := [] }
noncomputable def frO (r : Res) : Fr := match r with | .ok _ a _ => a | .bad => ⟨.nil, 0, []⟩
noncomputable def F1 (o s : Int) : Fr := frO (listV RH 0 [cCa 0, cCa 1] (aC o s) hp0)
theorem run1 (o s : Int) : listV RH 0 [cCa 0, cCa 1] (aC o s) hp0 = .ok .norm (F1 o s) hp0 := by kernel_rfl
theorem F1_5 (o s : Int) : (F1 o s).get 5 = .int .i64 (wrapF .i64 (iadd 1 (irem (wrapF .i64 o) 8))) := by kernel_rfl
theorem F1_1 (o s : Int) : (F1 o s).get 1 = .int .u8 s := by kernel_rfl
theorem F1_4 (o s : Int) : (F1 o s).get 4 = .bool false := by kernel_rfl
theorem F1_n (o s : Int) : (F1 o s).nt = 197 := by kernel_rfl
theorem F1_m (o s : Int) : (F1 o s).marks = [] := by kernel_rfl
end Go.Proofs.YtpeminhnjdakiaaGreat
end

section
namespace Go.Proofs.YtpeminhnjdakiaaGreat
open Go.RowKit Go.Ev

theorem seg_frL {P : Program} {m : Nat} {d : Code} {a a' : Fr} {h h' : Hp} {o : Out} {n : Nat} {vals : List (Nat × AV)} (hnt : a.nt = n) (hmk : a.marks = []) (hv : ∀ p ∈ vals, a.get p.1 = p.2 ∧ p.2.isTop = false) (s : SegC P m d (frL n vals []) h o a' h') : SegC P m d a h o a' h' := by
  intro ρ base x w hs
  refine s ρ base x w ⟨hs.heap, hs.base, hs.mark, frL_rel (hs.frame.size.trans hnt) fun p hp => ?_, ?_⟩
  · obtain ⟨h1, h2⟩ := hv p hp
    have := hs.frame.get p.1
    rw [h1] at this
    exact this.known h2
  · have := hs.defers
    rw [hmk] at this
    exact this
noncomputable def a2 (m : Nat) (s : Int) : Fr := frL 197 [(1, .int .u8 s), (4, .bool false), (5, .int .i64 (.ofNat (m + 1)))] []
noncomputable def F2 (m : Nat) (s : Int) : Fr := frO (RH.code 0 none (cCa 2) (a2 m s) hp0)
theorem run2 (m : Nat) (s : Int) : RH.code 0 none (cCa 2) (a2 m s) hp0 = .ok .norm (F2 m s) hp0 := by kernel_rfl
theorem F2_6 (m : Nat) (s : Int) : (F2 m s).get 6 = .int .i64 (irem (wrapF .i64 s) (.ofNat (m + 1))) := by kernel_rfl
theorem F2_5 (m : Nat) (s : Int) : (F2 m s).get 5 = .int .i64 (.ofNat (m + 1)) := by kernel_rfl
theorem F2_4 (m : Nat) (s : Int) : (F2 m s).get 4 = .bool false := by kernel_rfl
theorem F2_n (m : Nat) (s : Int) : (F2 m s).nt = 197 := by kernel_rfl
theorem F2_m (m : Nat) (s : Int) : (F2 m s).marks = [] := by kernel_rfl
noncomputable def a3 (m k : Nat) : Fr := frL 197 [(4, .bool false), (5, .int .i64 (.ofNat (m + 1))), (6, .int .i64 (.ofNat k))] []
noncomputable def restOk (O : Orc) (m k : Nat) : Bool := saysB true (endCall Tryz.prog 0 Tryz.f3 ((recN Tryz.prog O 100000).code 0 none cCr (a3 m k) hp0))
theorem body_C : Tryz.f3.body = some cC := by kernel_rfl
theorem chained_any {O : Orc} (hO : OrcOk Tryz.prog O) (hall : ∀ m k, m < 8 → k ≤ m → restOk O m k = true) (o s : Int) (ho : 0 ≤ o ∧ o < 256) (hs : 0 ≤ s ∧ s < 256) (w : World) :
    Calls Tryz.prog 3 #[.int .u8 o, .int .u8 s] w fun e w' => e = .returned (.bool true) ∧ Below w.heap.size w w' := by
  obtain ⟨o', rfl⟩ : ∃ o' : Nat, o = (o' : Int) := ⟨o.toNat, by omega⟩
  obtain ⟨s', rfl⟩ : ∃ s' : Nat, s = (s' : Int) := ⟨s.toNat, by omega⟩
  have hn : wrapF .i64 (iadd 1 (irem (wrapF .i64 (o' : Int)) 8)) = .ofNat (o' % 8 + 1) := by
    have h1 : wrapF .i64 (o' : Int) = (o' : Int) := by rw [wrapF_eq, wrap_in _ (by omega) (by omega)]
    rw [h1, irem_eq, iadd_eq, Int.tmod_eq_emod_of_nonneg (by omega), wrapF_eq, wrap_in _ (by omega) (by omega)]
    change (1 : Int) + (o' : Int) % 8 = ((o' % 8 + 1 : Nat) : Int)
    omega
  have hk : irem (wrapF .i64 (s' : Int)) (.ofNat (o' % 8 + 1)) = .ofNat (s' % (o' % 8 + 1)) := by
    rw [wrapF_eq, wrap_in _ (by omega) (by omega), irem_eq, Int.tmod_eq_emod_of_nonneg (by omega)]
    rfl
  have hm : o' % 8 < 8 := Nat.mod_lt _ (by omega)
  have hkm : s' % (o' % 8 + 1) ≤ o' % 8 := by have := Nat.mod_lt s' (show 0 < o' % 8 + 1 by omega); omega
  have hrest := hall _ _ hm hkm
  unfold restOk at hrest
  obtain ⟨h', he⟩ := saysB_ok hrest
  have hcall : CallS Tryz.prog 0 3 [.int .u8 (o' : Int), .int .u8 (s' : Int)] hp0 (.bool true) h' := by
    refine seg_end (eval_ok mixed plain hO 100000) Tryz.func3 body_C (d := cCr) he fun out a' h1 sg => ?_
    rw [cC_eq]
    have s3 : SegC Tryz.prog 0 cCr (F2 (o' % 8) s') hp0 out a' h1 := by
      refine seg_frL (F2_n _ _) (F2_m _ _) (fun p hp => ?_) sg
      simp only [List.mem_cons, List.not_mem_nil, or_false] at hp
      rcases hp with rfl | rfl | rfl
      · exact ⟨F2_4 _ _, rfl⟩
      · exact ⟨F2_5 _ _, rfl⟩
      · exact ⟨by rw [F2_6, hk], rfl⟩
    have s2 : SegC Tryz.prog 0 (.seq (cCa 2) cCr) (F1 o' s') hp0 out a' h1 := by
      refine seg_frL (F1_n _ _) (F1_m _ _) (fun p hp => ?_) (seg_seq (seg_run okH (run2 (o' % 8) s')) s3)
      simp only [List.mem_cons, List.not_mem_nil, or_false] at hp
      rcases hp with rfl | rfl | rfl
      · exact ⟨F1_1 _ _, rfl⟩
      · exact ⟨F1_4 _ _, rfl⟩
      · exact ⟨by rw [F1_5, hn], rfl⟩
    exact seg_list (l := [cCa 0, cCa 1]) okH (run1 o' s') s2
  refine (hcall rn0 w.heap.size w [.int .u8 (o' : Int), .int .u8 (s' : Int)] (relH0 w) (Nat.le_refl _) (Nat.zero_le _) (.cons (.int _ _) (.cons (.int _ _) .nil))).mono ?_
  rintro e w' ⟨u, ρ', rfl, h1, _, h2⟩
  cases h1
  exact ⟨rfl, h2.below (relH0 (P := Tryz.prog) w) (Nat.le_refl _)⟩
end Go.Proofs.YtpeminhnjdakiaaGreat
end

section
namespace Go.Proofs.YtpeminhnjdakiaaGreat
open Go.ChangeShapes Go.WideShapes Go.ChangeAt Go.RowKit Go.Deep Go.Joins

theorem Tryz.own : ownKnob Tryz.prog.godebug = none := by kernel_rfl
theorem Tryz.laidOut : laidOutB Tryz.prog = true := by kernel_rfl

section
variable {H : Type} {enc : TypeId × Value → H} {P : Program} {W W' : World}
theorem trodAll_later (hl : laidOutB P = true) (hb : Below W.heap.size W W') : ∀ (ts : List TypeId) (vs : List Value) (ds : List (DataW H)) (ps : List MemPlace), ts.all (fun t => P.readableRec t && decide (t < P.types.size)) = true →
    DataW.TrodAll enc P W 0 (fun _ => true) true ts vs ds ps → (∀ x ∈ ps, x.block < W.heap.size) → DataW.TrodAll enc P W' 0 (fun b => decide (b < W.heap.size)) true ts vs ds ps
  | [], [], [], _, _, h, _ => h
  | t :: ts, v :: vs, d :: ds, ps, hr, ⟨p, q, h1, h2, he⟩, hlt => by
    subst he
    simp only [List.all_cons, Bool.and_eq_true, decide_eq_true_eq] at hr
    exact ⟨p, q, Below.trod hl hr.1.1 hr.1.2 h1 hb (fun x hx => hlt x (List.mem_append_left _ hx)), trodAll_later hl hb ts vs ds q hr.2 h2 (fun x hx => hlt x (List.mem_append_right _ hx)), rfl⟩
  | [], _ :: _, _, _, _, h, _ => h.elim
  | [], [], _ :: _, _, _, h, _ => h.elim
  | _ :: _, [], _, _, _, h, _ => h.elim
  | _ :: _, _ :: _, [], _, _, h, _ => h.elim

theorem law_post {f : Func} {s : ChangeSpec} {args : Array Value} {ds : List (DataW H)} {before : List MemPlace} {b4 : TypeId} (hl : laidOutB P = true) (h4 : P.underlying b4 = some .bool)
    (hW : DataW.Whole enc P f.params.toList s.vars false W args.toList ds [] before) (hA : DataW.TrodAll enc P W 0 (fun _ => true) true f.params.toList args.toList ds before) (hrt : f.resultTypes = #[b4]) (hr : (s.fn H (ds ++ [])).results = [.lit (.bool true)]) (ha : (s.fn H (ds ++ [])).args = ds)
    (hv : s.vars = []) (hvv : (s.fn H (ds ++ [])).vars = []) (hread : f.params.toList.all (fun t => P.readableRec t && decide (t < P.types.size)) = true) (hb : Below W.heap.size W W') :
    s.post enc P f false true false false W args (.bool true) W' := by
  refine ⟨ds, [], before, [], before, [], hW, ?_, ?_, ?_, hb.frame _, fun h => by cases h⟩
  · rw [hr, hrt]
    exact trodAll_cons_mk (shut_bool h4 _) trodAll_mk0
  · rw [ha]
    exact trodAll_later hl hb _ _ _ _ hread hA hW.lt
  · rw [hv, hvv]; rfl
end

end Go.Proofs.YtpeminhnjdakiaaGreat
end

