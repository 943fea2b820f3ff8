/- Merged texts: plain facts of racks; walks of the laws that compare; values of the examples. -/
import Derived.Test.YtnnfahdhmodejaaMGC
import Derived.Test.YtnnfahdhmodejaaMGI
namespace Go.Proofs.Ytnnfahdhmodejaa

/-- A row with one more taper, and what comes out of it. -/
def rowB (l : List Int) (t : Int) : List Int × List Int :=
  if ins l t = l.length then (l ++ [t], []) else (l.set (ins l t) t, [elt l (ins l t)])
def rowV : List Int → List Int → List Int × List Int
  | l, [] => (l, [])
  | l, t :: u => ((rowV (rowB l t).1 u).1, (rowB l t).2 ++ (rowV (rowB l t).1 u).2)
def putW : List (List Int) → List Int → List (List Int)
  | R, [] => R
  | R, t :: u => putW (putR R t).1 u
abbrev Srt (l : List Int) : Prop := l.Pairwise (· ≤ ·)

theorem up_srt {l : List Int} (h : Up l) : Srt l := by
  refine List.pairwise_iff_getElem.2 fun i j hi hj hij => ?_
  have := h i j (by omega) hj
  rwa [elt_lt hi, elt_lt hj] at this
theorem srt_up {l : List Int} (h : Srt l) : Up l := by
  intro i j hij hj
  rcases Nat.lt_or_ge i j with h1 | h1
  · rw [elt_lt (by omega), elt_lt hj]
    exact List.pairwise_iff_getElem.1 h i j (by omega) hj h1
  · obtain rfl : i = j := by omega
    exact Int.le_refl _
theorem srt_split {l : List Int} (h : Srt l) (t : Int) : ∃ A B, l = A ++ B ∧ (∀ a ∈ A, a ≤ t) ∧ ∀ b ∈ B, t < b := by
  induction l with
  | nil => exact ⟨[], [], rfl, by simp, by simp⟩
  | cons a l ih =>
    rw [Srt, List.pairwise_cons] at h
    by_cases hat : a ≤ t
    · obtain ⟨A, B, rfl, hA, hB⟩ := ih h.2
      exact ⟨a :: A, B, rfl, by simpa using ⟨hat, hA⟩, hB⟩
    · exact ⟨[], a :: l, rfl, by simp, fun b hb => by
        rcases List.mem_cons.1 hb with rfl | hb
        · omega
        · have := h.1 b hb; omega⟩
theorem ins_split {A B : List Int} {t : Int} (hA : ∀ a ∈ A, a ≤ t) (hB : ∀ b ∈ B, t < b) : ins (A ++ B) t = A.length := by
  refine ins_eq (by simp) (fun i hi => ?_) (fun h => ?_)
  · have : elt (A ++ B) i = A[i] := by unfold elt; rw [List.getElem?_append_left hi]; simp [hi]
    rw [this]; exact hA _ (List.getElem_mem _)
  · have hB1 : 0 < B.length := by simp at h; omega
    have : elt (A ++ B) A.length = B[0] := by unfold elt; rw [List.getElem?_append_right (Nat.le_refl _)]; simp [hB1]
    rw [this]; exact hB _ (List.getElem_mem _)
theorem rowB_split {A B : List Int} {t : Int} (hA : ∀ a ∈ A, a ≤ t) (hB : ∀ b ∈ B, t < b) : rowB (A ++ B) t = (A ++ t :: B.tail, B.take 1) := by
  unfold rowB
  rw [ins_split hA hB]
  cases B with
  | nil => simp
  | cons b B =>
    rw [if_neg (by simp)]
    have : elt (A ++ b :: B) A.length = b := by unfold elt; simp
    rw [this]
    simp
/-- The moves. -/
inductive Kn : List Int → List Int → Prop
  | a (x y z : Int) : x ≤ y → y < z → Kn [x, z, y] [z, x, y]
  | b (x y z : Int) : x < y → y ≤ z → Kn [y, z, x] [y, x, z]
def Kq (u v : List Int) : Prop := u = v ∨ Kn u v ∨ Kn v u
theorem row_three (l : List Int) (a b c : Int) {l1 l2 l3 b1 b2 b3 : List Int} (h1 : rowB l a = (l1, b1)) (h2 : rowB l1 b = (l2, b2)) (h3 : rowB l2 c = (l3, b3)) : rowV l [a, b, c] = (l3, b1 ++ (b2 ++ b3)) := by
  simp [rowV, h1, h2, h3]
theorem row_kb {l : List Int} (h : Srt l) {x y z : Int} (hxy : x < y) (hyz : y ≤ z) :
    (rowV l [y, z, x]).1 = (rowV l [y, x, z]).1 ∧ Kq (rowV l [y, z, x]).2 (rowV l [y, x, z]).2 := by
  obtain ⟨AB, C, rfl, hAB, hC⟩ := srt_split h y
  obtain ⟨sAB, sC, _⟩ := List.pairwise_append.1 h
  obtain ⟨A, B, rfl, hA, hB⟩ := srt_split sAB x
  have sCt : Srt C.tail := sC.tail
  obtain ⟨D, E, hDE, hD, hE⟩ := srt_split sCt z
  have hBy : ∀ b ∈ B, b ≤ y := fun b hb => hAB b (by simp [hb])
  have hDC : ∀ d ∈ D, y < d := fun d hd => hC d (List.mem_of_mem_tail (by rw [hDE]; simp [hd]))
  have hEC : ∀ d ∈ E, y < d := fun d hd => hC d (List.mem_of_mem_tail (by rw [hDE]; simp [hd]))
  have hET : ∀ d ∈ E.tail, z < d := fun d hd => hE d (List.mem_of_mem_tail hd)
  have e1 : rowB (A ++ B ++ C) y = ((A ++ B ++ [y] ++ D) ++ E, C.take 1) := by
    rw [rowB_split hAB hC, hDE]; simp
  have e2 : rowB ((A ++ B ++ [y] ++ D) ++ E) z = (A ++ (B ++ [y] ++ D ++ z :: E.tail), E.take 1) := by
    rw [rowB_split (fun a ha => by
      simp only [List.mem_append, List.mem_singleton] at ha
      rcases ha with ((ha | ha) | rfl) | ha
      · have := hA a ha; omega
      · have := hBy a ha; omega
      · exact hyz
      · exact hD a ha) hE]
    simp
  have e3 : rowB (A ++ (B ++ [y] ++ D ++ z :: E.tail)) x = (A ++ x :: (B ++ [y] ++ D ++ z :: E.tail).tail, (B ++ [y] ++ D ++ z :: E.tail).take 1) :=
    rowB_split hA (fun a ha => by
      simp only [List.mem_append, List.mem_cons, List.not_mem_nil, or_false] at ha
      rcases ha with ((ha | rfl) | ha) | rfl | ha
      · exact hB a ha
      · exact hxy
      · have := hDC a ha; omega
      · omega
      · have := hET a ha; omega)
  have e2' : rowB ((A ++ B ++ [y] ++ D) ++ E) x = (A ++ x :: (B ++ [y] ++ D ++ E).tail, (B ++ [y] ++ D ++ E).take 1) := by
    have := rowB_split (A := A) (B := B ++ [y] ++ D ++ E) hA (fun a ha => by
      simp only [List.mem_append, List.mem_singleton] at ha
      rcases ha with ((ha | rfl) | ha) | ha
      · exact hB a ha
      · exact hxy
      · have := hDC a ha; omega
      · have := hEC a ha; omega)
    simpa using this
  have e3' : rowB (A ++ x :: (B ++ [y] ++ D ++ E).tail) z = (A ++ x :: ((B ++ [y] ++ D).tail ++ z :: E.tail), E.take 1) := by
    have e : A ++ x :: (B ++ [y] ++ D ++ E).tail = (A ++ x :: (B ++ [y] ++ D).tail) ++ E := by cases B <;> simp
    rw [e, rowB_split (fun a ha => by
      simp only [List.mem_append, List.mem_cons] at ha
      rcases ha with ha | rfl | ha
      · have := hA a ha; omega
      · omega
      · have ha := List.mem_of_mem_tail ha
        simp only [List.mem_append, List.mem_singleton] at ha
        rcases ha with (ha | rfl) | ha
        · have := hBy a ha; omega
        · exact hyz
        · exact hD a ha) hE]
    simp
  rw [row_three _ _ _ _ e1 e2 e3, row_three _ _ _ _ e1 e2' e3']
  refine ⟨by cases B <;> simp, ?_⟩
  cases E with
  | nil => left; cases B <;> simp
  | cons e E =>
    cases C with
    | nil => simp at hDE
    | cons c C =>
      right; left
      have hc := hC c (by simp)
      have hce : c ≤ e := by
        have := (List.pairwise_cons.1 sC).1 e
        simp only [List.tail_cons] at hDE
        exact this (by rw [hDE]; simp)
      cases B with
      | nil => exact Kn.b y c e (by omega) hce
      | cons b B =>
        have := hBy b (by simp)
        exact Kn.b b c e (by omega) hce
theorem row_ka {l : List Int} (h : Srt l) {x y z : Int} (hxy : x ≤ y) (hyz : y < z) :
    (rowV l [x, z, y]).1 = (rowV l [z, x, y]).1 ∧ Kq (rowV l [x, z, y]).2 (rowV l [z, x, y]).2 := by
  obtain ⟨AB, C, rfl, hAB, hC⟩ := srt_split h z
  obtain ⟨sAB, sC, _⟩ := List.pairwise_append.1 h
  obtain ⟨A, B, rfl, hA, hB⟩ := srt_split sAB x
  have hBz : ∀ b ∈ B, b ≤ z := fun b hb => hAB b (by simp [hb])
  have hCt : ∀ c ∈ C.tail, z < c := fun c hc => hC c (List.mem_of_mem_tail hc)
  cases B with
  | nil =>
    simp only [List.append_nil] at *
    have e1 : rowB (A ++ C) x = ((A ++ [x]) ++ C.tail, C.take 1) := by
      rw [rowB_split hA (fun c hc => by have := hC c hc; omega)]; simp
    have e2 : rowB ((A ++ [x]) ++ C.tail) z = ((A ++ [x]) ++ (z :: C.tail.tail), C.tail.take 1) :=
      rowB_split (fun a ha => by
        simp only [List.mem_append, List.mem_singleton] at ha
        rcases ha with ha | rfl
        · exact hAB a ha
        · omega) hCt
    have e3 : rowB ((A ++ [x]) ++ (z :: C.tail.tail)) y = ((A ++ [x]) ++ y :: C.tail.tail, [z]) := by
      rw [rowB_split (fun a ha => by
        simp only [List.mem_append, List.mem_singleton] at ha
        rcases ha with ha | rfl
        · have := hA a ha; omega
        · exact hxy) (fun c hc => by
        rcases List.mem_cons.1 hc with rfl | hc
        · exact hyz
        · have := hCt c (List.mem_of_mem_tail hc); omega)]
      simp
    have e1' : rowB (A ++ C) z = (A ++ z :: C.tail, C.take 1) := rowB_split hAB hC
    have e2' : rowB (A ++ z :: C.tail) x = ((A ++ [x]) ++ C.tail, [z]) := by
      rw [rowB_split hA (fun c hc => by
        rcases List.mem_cons.1 hc with rfl | hc
        · omega
        · have := hCt c hc; omega)]
      simp
    have e3' : rowB ((A ++ [x]) ++ C.tail) y = ((A ++ [x]) ++ y :: C.tail.tail, C.tail.take 1) :=
      rowB_split (fun a ha => by
        simp only [List.mem_append, List.mem_singleton] at ha
        rcases ha with ha | rfl
        · have := hA a ha; omega
        · exact hxy) (fun c hc => by have := hCt c hc; omega)
    rw [row_three _ _ _ _ e1 e2 e3, row_three _ _ _ _ e1' e2' e3']
    refine ⟨rfl, ?_⟩
    cases C with
    | nil => left; simp
    | cons c C =>
      cases C with
      | nil => left; simp
      | cons d C =>
        right; left
        have hc := hC c (by simp)
        have hcd : c ≤ d := (List.pairwise_cons.1 sC).1 d (by simp)
        exact Kn.b z c d hc hcd
  | cons b B =>
    have hb := hB b (by simp)
    have hbz := hBz b (by simp)
    have sB : Srt (b :: B) := (List.pairwise_append.1 sAB).2.1
    have hbB := (List.pairwise_cons.1 sB).1
    have e1 : rowB (A ++ b :: B ++ C) x = ((A ++ [x] ++ B) ++ C, [b]) := by
      have := rowB_split (A := A) (B := b :: B ++ C) hA (fun c hc => by
        simp only [List.mem_append] at hc
        rcases hc with hc | hc
        · exact hB c hc
        · have := hC c hc; omega)
      simpa using this
    have e2 : rowB ((A ++ [x] ++ B) ++ C) z = ((A ++ [x] ++ B) ++ z :: C.tail, C.take 1) :=
      rowB_split (fun a ha => by
        simp only [List.mem_append, List.mem_singleton] at ha
        rcases ha with (ha | rfl) | ha
        · exact hAB a (by simp [ha])
        · omega
        · exact hBz a (by simp [ha])) hC
    have e1' : rowB (A ++ b :: B ++ C) z = (A ++ b :: B ++ z :: C.tail, C.take 1) := rowB_split hAB hC
    have e2' : rowB (A ++ b :: B ++ z :: C.tail) x = ((A ++ [x] ++ B) ++ z :: C.tail, [b]) := by
      have := rowB_split (A := A) (B := b :: B ++ z :: C.tail) hA (fun c hc => by
        simp only [List.mem_append, List.mem_cons] at hc
        rcases hc with hc | rfl | hc
        · exact hB c (by simpa using hc)
        · omega
        · have := hCt c hc; omega)
      simpa using this
    have sBz : Srt (B ++ [z]) := by
      refine List.pairwise_append.2 ⟨(List.pairwise_cons.1 sB).2, by simp, fun a ha c hc => ?_⟩
      rw [List.mem_singleton.1 hc]; exact hBz a (by simp [ha])
    obtain ⟨D, E, hDE, hD, hE⟩ := srt_split sBz y
    have hEne : E ≠ [] := by
      rintro rfl
      have : z ∈ D := by rw [List.append_nil] at hDE; rw [← hDE]; simp
      have := hD z this; omega
    obtain ⟨e, E, rfl⟩ : ∃ e E', E = e :: E' := by cases E with | nil => exact absurd rfl hEne | cons e E => exact ⟨e, E, rfl⟩
    have e3 : rowB ((A ++ [x] ++ B) ++ z :: C.tail) y = (A ++ [x] ++ D ++ y :: (E ++ C.tail), [e]) := by
      have e0 : (A ++ [x] ++ B) ++ z :: C.tail = (A ++ [x] ++ D) ++ (e :: E ++ C.tail) := by
        have : (A ++ [x] ++ B) ++ z :: C.tail = (A ++ [x]) ++ (B ++ [z]) ++ C.tail := by simp
        rw [this, hDE]; simp
      rw [e0, rowB_split (fun a ha => by
        simp only [List.mem_append, List.mem_singleton] at ha
        rcases ha with (ha | rfl) | ha
        · have := hA a ha; omega
        · exact hxy
        · exact hD a ha) (fun c hc => by
        simp only [List.mem_append] at hc
        rcases hc with hc | hc
        · exact hE c hc
        · have := hCt c hc; omega)]
      simp
    rw [row_three _ _ _ _ e1 e2 e3, row_three _ _ _ _ e1' e2' e3]
    refine ⟨rfl, ?_⟩
    have heB : e ∈ B ++ [z] := by rw [hDE]; simp
    have hbe : b ≤ e ∧ e ≤ z := by
      rcases List.mem_append.1 heB with h1 | h1
      · exact ⟨hbB e h1, hBz e (by simp [h1])⟩
      · rw [List.mem_singleton.1 h1]; exact ⟨hbz, Int.le_refl _⟩
    cases C with
    | nil => left; simp
    | cons c C =>
      right; left
      have hc := hC c (by simp)
      exact Kn.a b e c hbe.1 (by omega)
theorem row_kn {l u v : List Int} (h : Srt l) (k : Kn u v) : (rowV l u).1 = (rowV l v).1 ∧ Kq (rowV l u).2 (rowV l v).2 := by
  cases k with
  | a x y z h1 h2 => exact row_ka h h1 h2
  | b x y z h1 h2 => exact row_kb h h1 h2
theorem rowB_len (l : List Int) (t : Int) : (rowB l t).1.length + (rowB l t).2.length = l.length + 1 ∧ 0 < (rowB l t).1.length := by
  unfold rowB
  have := ins_le l t
  split <;> simp <;> omega
theorem rowV_len : ∀ (u l : List Int), (rowV l u).1.length + (rowV l u).2.length = l.length + u.length ∧ l.length ≤ (rowV l u).1.length
  | [], l => by simp [rowV]
  | t :: u, l => by
    obtain ⟨h1, h2⟩ := rowV_len u (rowB l t).1
    have h3 := rowB_len l t
    have h4 : l.length ≤ (rowB l t).1.length := by unfold rowB; split <;> simp
    simp only [rowV, List.length_append, List.length_cons]
    omega
theorem putR_row (l : List Int) (R : List (List Int)) (t : Int) : (putR (l :: R) t).1 = (rowB l t).1 :: putW R (rowB l t).2 := by
  unfold rowB putR
  split <;> simp [putW]
theorem putW_append : ∀ (u v : List Int) (R : List (List Int)), putW R (u ++ v) = putW (putW R u) v
  | [], _, _ => rfl
  | t :: u, v, R => by simp only [List.cons_append, putW]; exact putW_append u v _
theorem putW_row : ∀ (u : List Int) (l : List Int) (R : List (List Int)), putW (l :: R) u = (rowV l u).1 :: putW R (rowV l u).2
  | [], l, R => rfl
  | t :: u, l, R => by
    simp only [putW, rowV]
    rw [putR_row, putW_row u, putW_append]
theorem putR_nil (t : Int) : putR [[]] t = putR [] t := by simp [putR, ins]
theorem putW_nil {u : List Int} (h : u ≠ []) : putW [] u = (rowV [] u).1 :: putW [] (rowV [] u).2 := by
  cases u with
  | nil => exact absurd rfl h
  | cons t u =>
    rw [← putW_row]
    simp only [putW, putR_nil]
theorem kn_len {u v : List Int} (k : Kn u v) : u.length = 3 ∧ v.length = 3 := by cases k <;> simp
theorem putW_kn {u v : List Int} (k : Kn u v) : ∀ {R : List (List Int)}, Tab R → putW R u = putW R v
  | [], _ => by
    have hl := kn_len k
    rw [putW_nil (u := u) (by intro e; rw [e] at hl; simp at hl), putW_nil (u := v) (by intro e; rw [e] at hl; simp at hl)]
    obtain ⟨h1, h2⟩ := row_kn (l := []) List.Pairwise.nil k
    rw [h1]
    have hb : ∀ t : Int, ∀ w : List Int, (rowV [] (t :: w)).2.length ≤ w.length := fun t w => by
      have h3 := rowV_len w (rowB [] t).1
      have h4 := rowV_len (t :: w) []
      have h5 := rowB_len [] t
      have h6 : (rowV [] (t :: w)).1 = (rowV (rowB [] t).1 w).1 := rfl
      rw [h6] at h4
      simp only [List.length_cons, List.length_nil] at h4 h5
      omega
    rcases h2 with h2 | h2 | h2
    · rw [h2]
    · exfalso
      have := (kn_len h2).1
      cases u with
      | nil => simp at hl
      | cons t u => have := hb t u; simp at hl; omega
    · exfalso
      have := (kn_len h2).2
      cases u with
      | nil => simp at hl
      | cons t u => have := hb t u; simp at hl; omega
  | l :: R, ⟨_, h2, _, h4⟩ => by
    rw [putW_row, putW_row]
    obtain ⟨e1, e2⟩ := row_kn (up_srt h2) k
    rw [e1]
    congr 1
    rcases e2 with e2 | e2 | e2
    · rw [e2]
    · exact putW_kn e2 h4
    · exact (putW_kn e2 h4).symm
termination_by R => R.length
theorem tab_putW : ∀ (u : List Int) {R : List (List Int)}, Tab R → Tab (putW R u)
  | [], _, h => h
  | t :: u, R, h => tab_putW u (tab_put R t h)
/-- Moves, one after another. -/
inductive KE : List Int → List Int → Prop
  | refl (u : List Int) : KE u u
  | step (p q : List Int) {u v : List Int} : Kn u v → KE (p ++ u ++ q) (p ++ v ++ q)
  | symm {u v : List Int} : KE u v → KE v u
  | trans {u v w : List Int} : KE u v → KE v w → KE u w
theorem KE.put {u v : List Int} (h : KE u v) : ∀ {R : List (List Int)}, Tab R → putW R u = putW R v := by
  induction h with
  | refl u => intro R _; rfl
  | step p q k => intro R hR; rw [putW_append, putW_append, putW_append, putW_append, putW_kn k (tab_putW p hR)]
  | symm _ ih => intro R hR; exact (ih hR).symm
  | trans _ _ i1 i2 => intro R hR; rw [i1 hR, i2 hR]
theorem KE.ctx {u v : List Int} (h : KE u v) (p q : List Int) : KE (p ++ u ++ q) (p ++ v ++ q) := by
  induction h with
  | refl u => exact KE.refl _
  | step p' q' k =>
    have := KE.step (p ++ p') (q' ++ q) k
    simpa using this
  | symm _ ih => exact ih.symm
  | trans _ _ i1 i2 => exact i1.trans i2
theorem KE.perm {u v : List Int} (h : KE u v) : u.Perm v := by
  induction h with
  | refl u => exact List.Perm.refl _
  | step p q k =>
    refine List.Perm.append_right _ (List.Perm.append_left _ ?_)
    cases k with
    | a x y z => exact List.Perm.swap _ _ _
    | b x y z => exact List.Perm.cons _ (List.Perm.swap _ _ _)
  | symm _ ih => exact ih.symm
  | trans _ _ i1 i2 => exact i1.trans i2
theorem bld_putW (s : List Int) : ∀ k, k ≤ s.length → (bldR s k).1 = putW [] (s.take k)
  | 0, _ => rfl
  | k + 1, h => by
    rw [List.take_succ_eq_append_getElem (by omega), putW_append, ← bld_putW s k (by omega)]
    simp only [bldR, putW]
    rw [elt_lt (by omega)]
theorem bld_all (s : List Int) : (bldR s s.length).1 = putW [] s := by
  rw [bld_putW s s.length (Nat.le_refl _), List.take_length]
end Go.Proofs.Ytnnfahdhmodejaa

namespace Go.Proofs.Ytnnfahdhmodejaa

/-- The rows of a rack, the last one first. -/
def rdT : List (List Int) → List Int
  | [] => []
  | l :: R => rdT R ++ l
theorem move_left {t : Int} : ∀ {b : Int} {B : List Int}, Srt (b :: B) → t < b → KE (b :: B ++ [t]) (b :: t :: B)
  | b, [], _, _ => KE.refl _
  | b, c :: B, h, ht => by
    have hb := (List.pairwise_cons.1 h)
    have hbc : b ≤ c := hb.1 c (by simp)
    have ih := move_left (t := t) hb.2 (by omega)
    have h1 := ih.ctx [b] []
    have h2 := KE.step [] B (Kn.b t b c ht hbc)
    simp only [List.append_nil, List.nil_append, List.cons_append] at h1 h2 ⊢
    exact h1.trans h2
theorem move_over {t b : Int} (htb : t < b) : ∀ {A : List Int}, Srt A → (∀ a ∈ A, a ≤ t) → KE (A ++ [b, t]) (b :: A ++ [t])
  | [], _, _ => KE.refl _
  | a :: A, h, hA => by
    have ih := move_over htb (List.pairwise_cons.1 h).2 (fun x hx => hA x (by simp [hx]))
    have h1 := ih.ctx [a] []
    have h2 : KE (a :: b :: (A ++ [t])) (b :: a :: (A ++ [t])) := by
      have hat := hA a (by simp)
      cases A with
      | nil =>
        have := KE.step [] [] (Kn.a a t b hat htb)
        simpa using this
      | cons n A =>
        have han : a ≤ n := (List.pairwise_cons.1 h).1 n (by simp)
        have hnt := hA n (by simp)
        have := KE.step [] (A ++ [t]) (Kn.a a n b han (by omega))
        simpa using this
    simp only [List.append_nil, List.cons_append, List.nil_append] at h1 h2 ⊢
    exact h1.trans h2
theorem rdT_put : ∀ {R : List (List Int)} (t : Int), Tab R → KE (rdT R ++ [t]) (rdT (putR R t).1)
  | [], t, _ => by simpa [putR, rdT] using KE.refl [t]
  | l :: R, t, ⟨h1, h2, h3, h4⟩ => by
    have hs := up_srt h2
    obtain ⟨A, B, rfl, hA, hB⟩ := srt_split hs t
    rw [putR_row, rowB_split hA hB]
    cases B with
    | nil => simpa [putW, rdT] using KE.refl _
    | cons b B =>
      obtain ⟨sA, sB, sAB⟩ := List.pairwise_append.1 hs
      have hb := hB b (by simp)
      have m1 := (move_left sB hb).ctx (rdT R ++ A) []
      have m2 := (move_over hb sA hA).ctx (rdT R) B
      have m3 := (rdT_put b h4).ctx [] (A ++ t :: B)
      simp only [putW, rdT, List.append_assoc, List.append_nil, List.nil_append, List.cons_append, List.tail_cons, List.take_succ_cons, List.take_zero] at m1 m2 m3 ⊢
      exact m1.trans (m2.trans m3)
theorem rdT_putW : ∀ (u : List Int) {R : List (List Int)}, Tab R → KE (rdT R ++ u) (rdT (putW R u))
  | [], R, _ => by simpa [putW] using KE.refl _
  | t :: u, R, h => by
    have h1 := (rdT_put t h).ctx [] u
    have h2 := rdT_putW u (tab_put R t h)
    simp only [List.nil_append, List.append_assoc, List.cons_append, List.nil_append] at h1
    exact h1.trans h2
theorem word_read (s : List Int) : KE s (rdT (bldR s s.length).1) := by
  rw [bld_all]
  simpa [rdT] using rdT_putW s (R := []) trivial
/-- The racks of two words are equal if moves lead from one to the other one. -/
theorem KE.bld {s t : List Int} (h : KE s t) : (bldR s s.length).1 = (bldR t t.length).1 := by
  rw [bld_all, bld_all]
  exact h.put (R := []) trivial

/-! Words of different numbers, read from the end. -/
theorem Kn.reverse {u v : List Int} (h : Kn u v) (hn : u.Nodup) : Kn u.reverse v.reverse ∨ Kn v.reverse u.reverse := by
  cases h with
  | a x y z h1 h2 =>
    have : x ≠ y := by intro e; simp [e] at hn
    exact .inl (Kn.b x y z (by omega) (by omega))
  | b x y z h1 h2 =>
    have : y ≠ z := by intro e; simp [e] at hn
    exact .inl (Kn.a x y z (by omega) (by omega))
theorem KE.reverse {u v : List Int} (h : KE u v) (hn : u.Nodup) : KE u.reverse v.reverse := by
  induction h with
  | refl u => exact KE.refl _
  | step p q k =>
    have hk := (List.nodup_append.1 (List.nodup_append.1 hn).1).2.1
    simp only [List.reverse_append]
    rw [← List.append_assoc, ← List.append_assoc]
    rcases k.reverse hk with h | h
    · exact KE.step _ _ h
    · exact (KE.step _ _ h).symm
  | symm h ih => exact (ih (h.perm.nodup_iff.2 hn)).symm
  | trans h1 _ i1 i2 => exact (i1 hn).trans (i2 (h1.perm.nodup_iff.1 hn))
/-- A column at the end of the rows. -/
def snocs : List (List Int) → List Int → List (List Int)
  | R, [] => R
  | [], s :: m => [s] :: snocs [] m
  | l :: R, s :: m => (l ++ [s]) :: snocs R m
def Fits : List (List Int) → List Int → Prop
  | _, [] => True
  | [], s :: m => (∀ x ∈ m.head?, s < x) ∧ Fits [] m
  | l :: R, s :: m => (∀ x ∈ l, x ≤ s) ∧ (∀ x ∈ m.head?, s < x) ∧ Fits R m
theorem rowB_snoc {l : List Int} {s t : Int} (h : ∀ x ∈ l, x ≤ s) (hst : s < t) : rowB (l ++ [t]) s = (l ++ [s], [t]) := by
  rw [rowB_split h (by simpa using hst)]; simp
theorem rowB_end {l : List Int} {s : Int} (h : ∀ x ∈ l, x ≤ s) : rowB l s = (l ++ [s], []) := by
  have := rowB_split (A := l) (B := []) h (by simp)
  simpa using this
theorem put_snocs : ∀ (R : List (List Int)) (s : Int) (m : List Int), Fits R (s :: m) → (putR (snocs R m) s).1 = snocs R (s :: m)
  | [], s, [], _ => by simp [snocs, putR]
  | [], s, t :: m, h => by
    have hst : s < t := h.1 t (by simp)
    have ih := put_snocs [] t m h.2
    simp only [snocs] at ih ⊢
    rw [putR_row, show ([t] : List Int) = [] ++ [t] from rfl, rowB_snoc (by simp) hst]
    simp only [putW, List.nil_append]
    rw [ih]
  | l :: R, s, [], h => by
    simp only [snocs]
    rw [putR_row, rowB_end h.1]
    simp only [putW]
  | l :: R, s, t :: m, h => by
    have hst : s < t := h.2.1 t (by simp)
    have ih := put_snocs R t m h.2.2
    simp only [snocs]
    rw [putR_row, rowB_snoc h.1 hst]
    simp only [putW]
    rw [ih]
theorem fits_tail : ∀ (R : List (List Int)) (s : Int) (m : List Int), Fits R (s :: m) → Fits R m
  | [], _, [], _ => trivial
  | [], _, _ :: _, h => h.2
  | _ :: _, _, [], _ => trivial
  | l :: R, s, t :: m, h => by
    have hst : s < t := h.2.1 t (by simp)
    refine ⟨fun x hx => by have := h.1 x hx; omega, ?_, fits_tail R t m h.2.2⟩
    intro x hx
    cases R with
    | nil => exact h.2.2.1 x hx
    | cons _ _ => exact h.2.2.2.1 x hx
theorem putW_rev : ∀ (m : List Int) (R : List (List Int)), Fits R m → putW R m.reverse = snocs R m
  | [], R, _ => by simp [putW]; cases R <;> rfl
  | s :: m, R, h => by
    rw [List.reverse_cons, putW_append, putW_rev m R (fits_tail R s m h)]
    exact put_snocs R s m h
theorem row_snocs : ∀ (R : List (List Int)) (m : List Int) (j : Nat), row (snocs R m) j = if j < m.length then row R j ++ [elt m j] else row R j
  | R, [], j => by cases R <;> simp [snocs]
  | [], s :: m, 0 => by simp [snocs, row, elt]
  | [], s :: m, j + 1 => by
    simp only [snocs, row_cons_succ, List.length_cons]
    rw [row_snocs [] m j]
    simp [row, elt]
  | l :: R, s :: m, 0 => by simp [snocs, row, elt]
  | l :: R, s :: m, j + 1 => by
    simp only [snocs, row_cons_succ, List.length_cons]
    rw [row_snocs R m j]
    simp [elt]
theorem len_snocs : ∀ (R : List (List Int)) (m : List Int), (snocs R m).length = max R.length m.length
  | R, [] => by cases R <;> simp [snocs]
  | [], s :: m => by simp [snocs, len_snocs [] m]
  | l :: R, s :: m => by simp [snocs, len_snocs R m]
theorem fits_of : ∀ (m : List Int) (R : List (List Int)), m.Pairwise (· < ·) → (∀ j, j < m.length → ∀ x ∈ row R j, x ≤ elt m j) → Fits R m
  | [], R, _, _ => by cases R <;> trivial
  | s :: m, R, h, hx => by
    have h1 := List.pairwise_cons.1 h
    have hh : ∀ x ∈ m.head?, s < x := fun x hx => h1.1 x (List.mem_of_mem_head? hx)
    cases R with
    | nil => exact ⟨hh, fits_of m [] h1.2 fun j hj x hx => by simp [row] at hx⟩
    | cons l R =>
      refine ⟨fun x hm => by have := hx 0 (by simp) x hm; simpa [elt] using this, hh, fits_of m R h1.2 fun j hj x hm => ?_⟩
      have := hx (j + 1) (by simpa using hj) x (by rw [row_cons_succ]; exact hm)
      simpa [elt] using this
/-- Rows and columns are exchanged. -/
def turnT (P : List (List Int)) : List (List Int) := P.foldl snocs []
theorem putW_cols : ∀ (P acc : List (List Int)), Tab P → (∀ l ∈ P, l.Pairwise (· < ·)) → (∀ j, j < (hd P).length → ∀ x ∈ row acc j, x ≤ elt (hd P) j) → putW acc (rdT P).reverse = P.foldl snocs acc
  | [], acc, _, _, _ => rfl
  | l :: R, acc, ⟨h1, h2, h3, h4⟩, hs, hx => by
    simp only [rdT, List.reverse_append, List.foldl_cons]
    rw [putW_append, putW_rev l acc (fits_of l acc (hs l (by simp)) hx)]
    refine putW_cols R _ h4 (fun m hm => hs m (by simp [hm])) fun j hj x hm => ?_
    have hlt := h3.2 j hj
    have hle := h3.1
    rw [row_snocs, if_pos (by omega)] at hm
    rcases List.mem_append.1 hm with hm | hm
    · have := hx j (by simp only [hd]; omega) x hm
      simp only [hd] at this
      omega
    · rw [List.mem_singleton.1 hm]; omega
theorem row_fold : ∀ (P acc : List (List Int)) (j : Nat), row (P.foldl snocs acc) j = row acc j ++ (P.filter fun l => decide (j < l.length)).map (fun l => elt l j)
  | [], acc, j => by simp
  | l :: R, acc, j => by
    rw [List.foldl_cons, row_fold R, row_snocs, List.filter_cons]
    by_cases h : j < l.length
    · rw [if_pos h, if_pos (by simpa using h)]; simp
    · rw [if_neg h, if_neg (by simpa using h)]
theorem tab_filter : ∀ {P : List (List Int)} (j : Nat), Tab P → (P.filter fun l => decide (j < l.length)) = P.take (P.filter fun l => decide (j < l.length)).length ∧ ((hd P).length ≤ j → (P.filter fun l => decide (j < l.length)) = [])
  | [], _, _ => by simp
  | l :: R, j, ⟨_, _, h3, h4⟩ => by
    obtain ⟨i1, i2⟩ := tab_filter j h4
    rw [List.filter_cons]
    by_cases h : j < l.length
    · rw [if_pos (by simpa using h)]
      refine ⟨?_, fun h' => by simp only [hd] at h'; omega⟩
      rw [List.length_cons, List.take_succ_cons, ← i1]
    · rw [if_neg (by simpa using h)]
      have := h3.1
      have e := i2 (by omega)
      rw [e]
      exact ⟨rfl, fun _ => rfl⟩
/-- The numbers of exchanged rows and columns. -/
theorem elt_turn {P : List (List Int)} (h : Tab P) {i k : Nat} (hk : k < (row (turnT P) i).length) : elt (row (turnT P) i) k = elt (row P k) i := by
  unfold turnT at hk ⊢
  rw [row_fold] at hk ⊢
  simp only [row, List.getElem?_nil, Option.getD_none, List.nil_append, List.length_map] at hk ⊢
  rw [(tab_filter i h).1] at hk ⊢
  simp only [List.length_take] at hk
  unfold elt
  rw [List.getElem?_map, List.getElem?_take, if_pos (by omega)]
  rw [List.getElem?_eq_getElem (by omega)]
  rfl
theorem len_fold : ∀ (P acc : List (List Int)), Tab P → (P.foldl snocs acc).length = max acc.length (hd P).length
  | [], acc, _ => by simp [hd]
  | l :: R, acc, ⟨_, _, h3, h4⟩ => by
    have := h3.1
    rw [List.foldl_cons, len_fold R _ h4, len_snocs]
    change _ = max acc.length l.length
    omega
/-- A word of different numbers, read from its end: rows and columns of the rack are exchanged. -/
theorem bld_reverse {s : List Int} (hn : s.Nodup) : (bldR s.reverse s.reverse.length).1 = turnT (bldR s s.length).1 := by
  have hT : Tab (bldR s s.length).1 := (bld_pair s s.length).tab
  have hK := word_read s
  rw [(hK.reverse hn).bld, bld_all]
  have hnr : (rdT (bldR s s.length).1).Nodup := hK.perm.nodup_iff.1 hn
  have hrow : ∀ {P : List (List Int)}, Tab P → (rdT P).Nodup → ∀ l ∈ P, l.Pairwise (· < ·) := by
    intro P
    induction P with
    | nil => intro _ _ l hl; cases hl
    | cons m R ih =>
      rintro ⟨_, h2, _, h4⟩ hnd l hl
      obtain ⟨n1, n2, _⟩ := List.nodup_append.1 hnd
      rcases List.mem_cons.1 hl with rfl | hl
      · refine (List.pairwise_and_iff.2 ⟨up_srt h2, n2⟩).imp ?_
        rintro a b ⟨h5, h6⟩
        omega
      · exact ih h4 n1 l hl
  exact putW_cols _ [] hT (hrow hT hnr) (fun j _ x hx => by simp [row] at hx)
end Go.Proofs.Ytnnfahdhmodejaa

namespace Go.Proofs.Ytnnfahdhmodejaa

/-- The row in which a place comes among the numbers up to j. -/
def cjR (j : Int) : List (List Int) → Int → Option Nat
  | [], t => if t ≤ j then some 0 else none
  | l :: R, t => if j < t then none else if ins l t = l.length then some 0 else if j < elt l (ins l t) then some 0 else (cjR j R (elt l (ins l t))).map (· + 1)
/-- The row that has a number. -/
def rjR (j : Int) : List (List Int) → Option Nat
  | [] => none
  | l :: R => if j ∈ l then some 0 else (rjR j R).map (· + 1)
def ruleR (c r : Option Nat) : Option Nat × Option Nat := if c = r then (c.map (· + 1), r.map (· + 1)) else (c, r)

theorem cjR_big {j : Int} : ∀ {R : List (List Int)} {t : Int}, j < t → cjR j R t = none
  | [], t, h => by simp [cjR]; omega
  | l :: R, t, h => by simp [cjR, h]
theorem cjR_same {R : List (List Int)} {t : Int} : cjR t R t = some 0 := by
  cases R with
  | nil => simp [cjR]
  | cons l R =>
    unfold cjR
    rw [if_neg (by omega)]
    split
    · rfl
    · rename_i h
      rw [if_pos (ins_at (by have := ins_le l t; omega))]
theorem rjR_same {R : List (List Int)} {t : Int} : rjR t (putR R t).1 = some 0 := by
  cases R with
  | nil => simp [putR, rjR]
  | cons l R =>
    rw [putR_row]
    unfold rowB
    split
    · simp [rjR]
    · rename_i h
      have hk : ins l t < l.length := by have := ins_le l t; omega
      simp only [rjR]
      rw [if_pos (List.mem_iff_getElem.2 ⟨ins l t, by simpa using hk, by simp⟩)]
theorem mem_set_iff {l : List Int} {k : Nat} {t j : Int} (hn : l.Nodup) (hk : k < l.length) (h1 : j ≠ t) : j ∈ l.set k t ↔ j ∈ l ∧ j ≠ elt l k := by
  constructor
  · intro h
    obtain ⟨i, hi, e⟩ := List.mem_iff_getElem.1 h
    rw [List.getElem_set] at e
    simp only [List.length_set] at hi
    split at e
    · exact absurd e.symm h1
    · rename_i hne
      refine ⟨e ▸ List.getElem_mem _, fun e2 => hne ?_⟩
      rw [elt_lt hk, ← e] at e2
      have hp := List.pairwise_iff_getElem.1 hn
      rcases Nat.lt_trichotomy k i with h3 | h3 | h3
      · exact absurd e2.symm (hp k i hk hi h3)
      · exact h3
      · exact absurd e2 (hp i k hi hk h3)
  · rintro ⟨h2, h3⟩
    obtain ⟨i, hi, e⟩ := List.mem_iff_getElem.1 h2
    have : k ≠ i := fun e2 => h3 (by subst e2; rw [elt_lt hk, e])
    exact List.mem_iff_getElem.2 ⟨i, by simpa using hi, by rw [List.getElem_set, if_neg this, e]⟩
theorem map_ne (o : Option Nat) : o.map (· + 1) ≠ some 0 := by cases o <;> simp
theorem map_inj {a b : Option Nat} (h : a.map (· + 1) = b.map (· + 1)) : a = b := by
  cases a <;> cases b <;> simp at h ⊢ <;> exact h
theorem rule_map (a b : Option Nat) : ruleR (a.map (· + 1)) (b.map (· + 1)) = ((ruleR a b).1.map (· + 1), (ruleR a b).2.map (· + 1)) := by
  unfold ruleR
  by_cases h : a = b
  · rw [if_pos h, if_pos (by rw [h])]
  · rw [if_neg h, if_neg (fun e => h (map_inj e))]
/-- How the row of a number changes, and where a place comes. -/
theorem rule_put (j : Int) : ∀ (R : List (List Int)) (t : Int), Tab R → R.flatten.Nodup → t ∉ R.flatten → t ≠ j →
    (cjR j R t, rjR j (putR R t).1) = ruleR (cjR (j - 1) R t) (rjR j R)
  | [], t, _, _, _, htj => by
    by_cases h : t ≤ j - 1
    · simp [cjR, rjR, putR, ruleR, h, show t ≤ j by omega]
      omega
    · simp [cjR, rjR, putR, ruleR, h, show ¬ t ≤ j by omega]
      omega
  | l :: R, t, ⟨_, h2, _, h4⟩, hn, ht, htj => by
    simp only [List.flatten_cons] at hn ht
    obtain ⟨nl, nR, nlR⟩ := List.nodup_append.1 hn
    have htl : t ∉ l := fun h => ht (by simp [h])
    have htR : t ∉ R.flatten := fun h => ht (by simp [h])
    rw [putR_row]
    by_cases hin : ins l t = l.length
    · -- the taper stands at the end
      have hr : rowB l t = (l ++ [t], []) := by unfold rowB; rw [if_pos hin]
      rw [hr]
      simp only [putW, cjR, rjR, hin, if_true]
      have hm : (j ∈ l ++ [t]) ↔ j ∈ l := by simp; intro e; exact absurd e.symm htj
      by_cases hjt : j < t
      · rw [if_pos hjt, if_pos (show j - 1 < t by omega)]
        simp only [hm]
        unfold ruleR
        by_cases e : (none : Option Nat) = if j ∈ l then some 0 else Option.map (fun x => x + 1) (rjR j R)
        · rw [if_pos e, ← e]; rfl
        · rw [if_neg e]
      · have hjl : j ∉ l := by
          intro hj
          obtain ⟨i, hi, e⟩ := mem_row_elt hj
          have := ins_lo (l := l) (t := t) (i := i) (by omega)
          omega
        rw [if_neg hjt, if_neg (show ¬ j - 1 < t by omega), if_neg (by rw [hm]; exact hjl), if_neg hjl]
        unfold ruleR
        rw [if_neg (map_ne _).symm]
    · have hk : ins l t < l.length := by have := ins_le l t; omega
      have hr : rowB l t = (l.set (ins l t) t, [elt l (ins l t)]) := by unfold rowB; rw [if_neg hin]
      rw [hr]
      have hb := ins_at hk
      have hbl : elt l (ins l t) ∈ l := elt_mem hk
      have hbR : elt l (ins l t) ∉ R.flatten := fun h => nlR _ hbl _ h rfl
      have hge : ∀ x ∈ l, t < x → elt l (ins l t) ≤ x := by
        intro x hx htx
        obtain ⟨i, hi, e⟩ := mem_row_elt hx
        rcases Nat.lt_or_ge i (ins l t) with h | h
        · have := ins_lo h; omega
        · rw [← e]; exact h2 _ _ h hi
      have hms := mem_set_iff (j := j) nl hk (fun e => htj e.symm)
      simp only [putW, cjR, rjR, hin, if_false, hms]
      generalize hbe : elt l (ins l t) = b at *
      by_cases hjt : j < t
      · have hjb : j ≠ b := by omega
        rw [if_pos hjt, if_pos (show j - 1 < t by omega)]
        have ih := rule_put j R b h4 nR hbR (by omega)
        rw [cjR_big (show j < b by omega), cjR_big (show j - 1 < b by omega)] at ih
        have hih : rjR j (putR R b).1 = rjR j R := by
          unfold ruleR at ih
          by_cases e : (none : Option Nat) = rjR j R
          · rw [if_pos e, ← e] at ih; simp at ih; rw [ih, ← e]
          · rw [if_neg e] at ih; exact (Prod.mk.inj ih).2
        rw [hih]
        simp only [hjb, ne_eq, not_false_eq_true, and_true]
        unfold ruleR
        by_cases e : (none : Option Nat) = if j ∈ l then some 0 else Option.map (fun x => x + 1) (rjR j R)
        · rw [if_pos e, ← e]; rfl
        · rw [if_neg e]
      · rw [if_neg hjt, if_neg (show ¬ j - 1 < t by omega)]
        by_cases hjb : j = b
        · -- the number comes out of the row
          subst hjb
          rw [if_neg (Int.lt_irrefl j), if_pos (show j - 1 < j by omega), if_pos hbl, if_neg (by simp), cjR_same, rjR_same]
          unfold ruleR
          rw [if_pos rfl]
        · by_cases hjb2 : j < b
          · have hjl : j ∉ l := fun h => by have := hge j h (by omega); omega
            rw [if_pos hjb2, if_pos (show j - 1 < b by omega), if_neg (by simp [hjl]), if_neg hjl]
            have ih := rule_put j R b h4 nR hbR (fun e => hjb e.symm)
            rw [cjR_big hjb2, cjR_big (show j - 1 < b by omega)] at ih
            have hih : rjR j (putR R b).1 = rjR j R := by
              unfold ruleR at ih
              by_cases e : (none : Option Nat) = rjR j R
              · rw [if_pos e, ← e] at ih; simp at ih; rw [ih, ← e]
              · rw [if_neg e] at ih; exact (Prod.mk.inj ih).2
            rw [hih]
            unfold ruleR
            rw [if_neg (map_ne _).symm]
          · rw [if_neg hjb2, if_neg (show ¬ j - 1 < b by omega)]
            have ih := rule_put j R b h4 nR hbR (fun e => hjb e.symm)
            by_cases hjl : j ∈ l
            · rw [if_pos ⟨hjl, hjb⟩, if_pos hjl]
              have hjR : rjR j R = none := by
                have : ∀ S : List (List Int), j ∉ S.flatten → rjR j S = none := by
                  intro S
                  induction S with
                  | nil => intro _; rfl
                  | cons m S ihS => intro h; simp at h; simp [rjR, h.1]; exact ihS (by simp; exact h.2)
                exact this R fun h => nlR _ hjl _ h rfl
              rw [hjR] at ih
              have hih : cjR j R b = cjR (j - 1) R b := by
                unfold ruleR at ih
                by_cases e : cjR (j - 1) R b = none
                · rw [if_pos e, e] at ih; rw [(Prod.mk.inj ih).1, e]; rfl
                · rw [if_neg e] at ih; exact (Prod.mk.inj ih).1
              rw [hih]
              unfold ruleR
              rw [if_neg (map_ne _)]
            · rw [if_neg (by simp [hjl]), if_neg hjl, rule_map, ← ih]
/-- Both sides of the rule change places. -/
theorem rule_swap (a b : Option Nat) : (ruleR b a).1 = (ruleR a b).2 ∧ (ruleR b a).2 = (ruleR a b).1 := by
  unfold ruleR
  by_cases h : a = b
  · rw [if_pos h, if_pos h.symm]; exact ⟨rfl, rfl⟩
  · rw [if_neg h, if_neg (fun e => h e.symm)]; exact ⟨rfl, rfl⟩
/-- Two diagrams that follow the rule, the one turned, are alike. -/
structure Grow (n : Nat) (M : Nat → Nat → Prop) (h v : Nat → Nat → Option Nat) : Prop where
  h0 : ∀ i, i < n → h i 0 = none
  v0 : ∀ j, j < n → v 0 j = none
  yes : ∀ i j, i < n → j < n → M i j → h i (j + 1) = some 0 ∧ v (i + 1) j = some 0
  no : ∀ i j, i < n → j < n → ¬ M i j → h i (j + 1) = (ruleR (h i j) (v i j)).1 ∧ v (i + 1) j = (ruleR (h i j) (v i j)).2
theorem grow_same {n : Nat} {M N : Nat → Nat → Prop} {h v h' v' : Nat → Nat → Option Nat} (g : Grow n M h v) (g' : Grow n N h' v') (hMN : ∀ i j, i < n → j < n → (M i j ↔ N j i)) :
    ∀ i, i ≤ n → (∀ j, j < n → v i j = h' j i) ∧ (i < n → ∀ j, j ≤ n → h i j = v' j i)
  | 0, _ => by
    have hv : ∀ j, j < n → v 0 j = h' j 0 := fun j hj => by rw [g.v0 j hj, g'.h0 j hj]
    refine ⟨hv, fun hi j hj => ?_⟩
    induction j with
    | zero => rw [g.h0 0 hi, g'.v0 0 hi]
    | succ j ih =>
      have ih := ih (by omega)
      by_cases hm : M 0 j
      · rw [(g.yes 0 j hi hj hm).1, (g'.yes j 0 hj hi ((hMN 0 j hi hj).1 hm)).2]
      · rw [(g.no 0 j hi hj hm).1, (g'.no j 0 hj hi fun h => hm ((hMN 0 j hi hj).2 h)).2, ih, hv j hj, (rule_swap _ _).1]
  | i + 1, hi => by
    obtain ⟨i1, i2⟩ := grow_same g g' hMN i (by omega)
    have i2 := i2 (by omega)
    have hv : ∀ j, j < n → v (i + 1) j = h' j (i + 1) := fun j hj => by
      by_cases hm : M i j
      · rw [(g.yes i j hi hj hm).2, (g'.yes j i hj hi ((hMN i j hi hj).1 hm)).1]
      · rw [(g.no i j hi hj hm).2, (g'.no j i hj hi fun h => hm ((hMN i j hi hj).2 h)).1, i2 j (by omega), i1 j hj, (rule_swap _ _).2]
    refine ⟨hv, fun hi2 j hj => ?_⟩
    induction j with
    | zero => rw [g.h0 _ hi2, g'.v0 _ hi2]
    | succ j ih =>
      have ih := ih (by omega)
      by_cases hm : M (i + 1) j
      · rw [(g.yes _ j hi2 hj hm).1, (g'.yes j _ hj hi2 ((hMN _ j hi2 hj).1 hm)).2]
      · rw [(g.no _ j hi2 hj hm).1, (g'.no j _ hj hi2 fun h => hm ((hMN _ j hi2 hj).2 h)).2, ih, hv j hj, (rule_swap _ _).1]
/-- The diagram of a sequence. -/
theorem bld_flat (s : List Int) : ∀ k, k ≤ s.length → (bldR s k).1.flatten.Perm (s.take k)
  | 0, _ => by simp [bldR]
  | k + 1, h => by
    have hp : ∀ (R : List (List Int)) (t : Int), (putR R t).1.flatten.Perm (t :: R.flatten) := by
      intro R
      induction R with
      | nil => intro t; simp [putR]
      | cons l R ih =>
        intro t
        rw [putR_row]
        unfold rowB
        split
        · simp only [putW, List.flatten_cons]
          exact (List.Perm.append_right _ (List.perm_append_singleton t l))
        · rename_i hk
          have hk : ins l t < l.length := by have := ins_le l t; omega
          simp only [putW, List.flatten_cons]
          have h1 : (l.set (ins l t) t).Perm (t :: l.eraseIdx (ins l t)) := by
            rw [List.set_eq_take_append_cons_drop, if_pos hk, List.eraseIdx_eq_take_drop_succ]
            exact List.perm_middle
          have h2 : l.Perm (elt l (ins l t) :: l.eraseIdx (ins l t)) := by
            rw [elt_lt hk, List.eraseIdx_eq_take_drop_succ]
            conv => lhs; rw [← List.take_append_drop (ins l t) l, List.drop_eq_getElem_cons hk]
            exact List.perm_middle
          refine (h1.append (ih _)).trans ?_
          refine List.Perm.cons _ ?_
          refine (List.perm_middle).trans ?_
          exact (h2.symm.append_right R.flatten)
    rw [List.take_succ_eq_append_getElem (by omega)]
    simp only [bldR]
    refine (hp _ _).trans ?_
    rw [elt_lt (by omega)]
    exact ((bld_flat s k (by omega)).cons _).trans (List.perm_append_singleton _ _).symm
theorem bld_grow {s : List Int} (hn : s.Nodup) (h1 : ∀ x ∈ s, 1 ≤ x) :
    Grow s.length (fun i j => elt s i = (j : Int) + 1) (fun i j => cjR j (bldR s i).1 (elt s i)) (fun i j => rjR ((j : Int) + 1) (bldR s i).1) := by
  have hnot : ∀ i, i < s.length → (bldR s i).1.flatten.Nodup ∧ elt s i ∉ (bldR s i).1.flatten := by
    intro i hi
    have hp := bld_flat s i (by omega)
    have hd : s.take i ++ s.drop i = s := List.take_append_drop i s
    rw [← hd] at hn
    obtain ⟨n1, _, n3⟩ := List.nodup_append.1 hn
    refine ⟨hp.nodup_iff.2 n1, fun hm => ?_⟩
    have hm := hp.mem_iff.1 hm
    refine n3 _ hm (elt s i) ?_ rfl
    rw [List.drop_eq_getElem_cons hi, elt_lt hi]
    exact List.mem_cons_self
  refine ⟨fun i hi => ?_, fun j _ => rfl, fun i j hi hj hm => ?_, fun i j hi hj hm => ?_⟩
  · exact cjR_big (by have := h1 _ (elt_mem hi); push_cast; omega)
  · refine ⟨?_, ?_⟩
    · push_cast; rw [hm]; exact cjR_same
    · simp only [bldR]; rw [hm]; exact rjR_same
  · obtain ⟨n1, n2⟩ := hnot i hi
    have hr := rule_put ((j : Int) + 1) (bldR s i).1 (elt s i) (bld_pair s i).tab n1 n2 hm
    rw [show (j : Int) + 1 - 1 = j by omega] at hr
    refine ⟨?_, ?_⟩
    · push_cast; rw [← hr]
    · simp only [bldR]; rw [← hr]
theorem cjR_put (n : Int) : ∀ (R : List (List Int)) (t : Int), t ≤ n → (∀ x ∈ R.flatten, x ≤ n) → cjR n R t = some (putR R t).2
  | [], t, h, _ => by simp [cjR, putR, h]
  | l :: R, t, h, hR => by
    simp only [List.flatten_cons, List.mem_append] at hR
    unfold cjR putR
    rw [if_neg (by omega)]
    by_cases hk : ins l t = l.length
    · rw [if_pos hk, if_pos hk]
    · have hk' : ins l t < l.length := by have := ins_le l t; omega
      have hb := hR _ (.inl (elt_mem hk'))
      rw [if_neg hk, if_neg hk, if_neg (by omega), cjR_put n R _ hb (fun x hx => hR x (.inr hx))]
      rfl
theorem rjR_some {j : Int} : ∀ {R : List (List Int)} {k : Nat}, rjR j R = some k → j ∈ row R k
  | [], k, h => by simp [rjR] at h
  | l :: R, k, h => by
    unfold rjR at h
    split at h
    · rename_i hj
      cases h; exact hj
    · obtain ⟨m, hm, rfl⟩ := Option.map_eq_some_iff.1 h
      rw [row_cons_succ]; exact rjR_some hm
theorem rjR_of {j : Int} : ∀ {R : List (List Int)} {k : Nat}, R.flatten.Nodup → j ∈ row R k → rjR j R = some k
  | [], k, _, h => by simp [row] at h
  | l :: R, 0, hn, h => by
    rw [row_cons_zero] at h
    simp [rjR, h]
  | l :: R, k + 1, hn, h => by
    rw [row_cons_succ] at h
    simp only [List.flatten_cons] at hn
    obtain ⟨_, n2, n3⟩ := List.nodup_append.1 hn
    have hm : j ∈ R.flatten := List.mem_flatten.2 ⟨_, by rw [row_lt (row_mem_lt h)]; exact List.getElem_mem _, h⟩
    have hl : j ∉ l := fun hj => n3 j hj j hm rfl
    simp [rjR, hl, rjR_of n2 h]
end Go.Proofs.Ytnnfahdhmodejaa

namespace Go.Proofs.Ytnnfahdhmodejaa

/-- One letter: left out, or at the end of the one or the other run. -/
def stp (x : Int) (f : Int → Int → Nat) (a b : Int) : Nat :=
  max (f a b) (max (if a ≤ x then f x b + 1 else 0) (if b ≤ x then f a x + 1 else 0))
/-- The most letters of two runs whose last ones are a and b. -/
def twoF : List Int → (Int → Int → Nat) → Int → Int → Nat
  | [], f => f
  | x :: w, f => stp x (twoF w f)
structure Fine (f : Int → Int → Nat) : Prop where
  sym : ∀ a b, f a b = f b a
  anti : ∀ a a' b b', a ≤ a' → b ≤ b' → f a' b' ≤ f a b
theorem Fine.stp {f : Int → Int → Nat} (h : Fine f) (x : Int) : Fine (stp x f) := by
  refine ⟨fun a b => ?_, fun a a' b b' ha hb => ?_⟩
  · unfold Proofs.Ytnnfahdhmodejaa.stp
    rw [h.sym a b, h.sym x b, h.sym a x, Nat.max_comm (if a ≤ x then _ else _)]
  · unfold Proofs.Ytnnfahdhmodejaa.stp
    have h1 := h.anti a a' b b' ha hb
    have h2 := h.anti x x b b' (by omega) hb
    have h3 := h.anti a a' x x ha (by omega)
    by_cases e1 : a' ≤ x
    · rw [if_pos e1, if_pos (show a ≤ x by omega)]
      by_cases e2 : b' ≤ x
      · rw [if_pos e2, if_pos (show b ≤ x by omega)]; omega
      · rw [if_neg e2]; omega
    · rw [if_neg e1]
      by_cases e2 : b' ≤ x
      · rw [if_pos e2, if_pos (show b ≤ x by omega)]; omega
      · rw [if_neg e2]; omega
theorem Fine.two {f : Int → Int → Nat} (h : Fine f) : ∀ w, Fine (twoF w f)
  | [] => h
  | x :: w => (h.two w).stp x
theorem twoF_append (f : Int → Int → Nat) : ∀ u v, twoF (u ++ v) f = twoF u (twoF v f)
  | [], _ => rfl
  | x :: u, v => by simp only [List.cons_append, twoF]; rw [twoF_append f u v]
theorem stp_le {f : Int → Int → Nat} {x a b : Int} (k : Nat) {N : Nat} (h0 : f a b + k ≤ N) (h1 : a ≤ x → f x b + (k + 1) ≤ N) (h2 : b ≤ x → f a x + (k + 1) ≤ N) : stp x f a b + k ≤ N := by
  unfold stp
  split <;> split <;> rename_i e1 e2
  · have := h1 e1; have := h2 e2; omega
  · have := h1 e1; omega
  · have := h2 e2; omega
  · omega
theorem stp_0 (f : Int → Int → Nat) (x a b : Int) : f a b ≤ stp x f a b := by unfold stp; omega
theorem stp_1 (f : Int → Int → Nat) {x a : Int} (b : Int) (h : a ≤ x) : f x b + 1 ≤ stp x f a b := by unfold stp; rw [if_pos h]; omega
theorem stp_2 (f : Int → Int → Nat) {x b : Int} (a : Int) (h : b ≤ x) : f a x + 1 ≤ stp x f a b := by unfold stp; rw [if_pos h]; omega
/-- Two letters change places, but for runs that take both. -/
theorem stp_swap {g : Int → Int → Nat} {x z a b : Int} {N : Nat} (hN : stp z (stp x g) a b ≤ N) (h1 : a ≤ x → x ≤ z → g z b + 2 ≤ N) (h2 : b ≤ x → x ≤ z → g a z + 2 ≤ N) : stp x (stp z g) a b ≤ N := by
  have A0 := stp_0 (stp x g) z a b
  have A1 := fun h => stp_1 (stp x g) (x := z) (a := a) b h
  have A2 := fun h => stp_2 (stp x g) (x := z) (b := b) a h
  refine stp_le 0 (stp_le 0 ?_ (fun h => ?_) (fun h => ?_)) (fun h => stp_le 1 ?_ (fun h' => ?_) (fun h' => ?_)) (fun h => stp_le 1 ?_ (fun h' => ?_) (fun h' => ?_))
  · have := stp_0 g x a b; omega
  · have := A1 h; have := stp_0 g x z b; omega
  · have := A2 h; have := stp_0 g x a z; omega
  · have := stp_1 g b h; omega
  · exact h1 h h'
  · have := A2 h'; have := stp_1 g z h; omega
  · have := stp_2 g a h; omega
  · have := A1 h'; have := stp_2 g z h; omega
  · exact h2 h h'
theorem stp_ka {f : Int → Int → Nat} (h : Fine f) {x y z : Int} (h1 : x ≤ y) (h2 : y < z) (a b : Int) : stp x (stp z (stp y f)) a b = stp z (stp x (stp y f)) a b := by
  have key : ∀ (f : Int → Int → Nat), Fine f → ∀ a b, a ≤ x → stp y f z b + 2 ≤ stp z (stp x (stp y f)) a b := fun f h a b ha => by
    have A0 := stp_0 (stp x (stp y f)) z a b
    refine stp_le 2 ?_ (fun h' => by omega) (fun h' => ?_)
    · have i1 := stp_1 (stp y f) b ha
      have i2 := stp_1 f b h1
      have := h.anti y z b b (by omega) (by omega)
      omega
    · have A2 := stp_2 (stp x (stp y f)) a (show b ≤ z by omega)
      have i1 := stp_1 (stp y f) z ha
      have i2 := stp_1 f z h1
      have := h.sym z y
      omega
  refine Nat.le_antisymm (stp_swap (Nat.le_refl _) (fun ha _ => key f h a b ha) (fun hb _ => ?_)) (stp_swap (Nat.le_refl _) (fun _ h' => by omega) (fun _ h' => by omega))
  have h3 := (h.stp y)
  have h4 := ((h3.stp x).stp z).sym a b
  have h5 := h3.sym a z
  have := key f h b a hb
  omega
theorem stp_kb {f : Int → Int → Nat} (h : Fine f) {x y z : Int} (h1 : x < y) (h2 : y ≤ z) (a b : Int) : stp y (stp z (stp x f)) a b = stp y (stp x (stp z f)) a b := by
  have key : ∀ a b, a ≤ x → f z b + 3 ≤ stp y (stp z (stp x f)) a b → f z b + 3 ≤ stp y (stp z (stp x f)) a b := fun _ _ _ h => h
  have one : ∀ a b, stp y (stp z (stp x f)) a b ≤ stp y (stp x (stp z f)) a b := fun a b => by
    have e : ∀ a b, stp z (stp x f) a b ≤ stp x (stp z f) a b := fun a b => stp_swap (Nat.le_refl _) (fun _ h' => by omega) (fun _ h' => by omega)
    have A1 := fun h => stp_1 (stp x (stp z f)) (x := y) (a := a) b h
    have A2 := fun h => stp_2 (stp x (stp z f)) (x := y) (b := b) a h
    refine stp_le 0 ?_ (fun h' => ?_) (fun h' => ?_)
    · have := stp_0 (stp x (stp z f)) y a b; have := e a b; omega
    · have := A1 h'; have := e y b; omega
    · have := A2 h'; have := e a y; omega
  have both : ∀ a b, a ≤ x → f z b + 2 ≤ stp y (stp z (stp x f)) a b := fun a b ha => by
    have i1 := stp_1 (stp z (stp x f)) b (show a ≤ y by omega)
    have i2 := stp_1 (stp x f) b h2
    have i3 := stp_0 f x z b
    omega
  have more : ∀ a b, b ≤ y → a ≤ x → f z y + 3 ≤ stp y (stp z (stp x f)) a b := fun a b hb ha => by
    have i1 := stp_2 (stp z (stp x f)) a hb
    have i2 := stp_2 (stp x f) a h2
    have i3 := stp_1 f z ha
    have := h.sym z y
    have := h.anti x y z z (by omega) (by omega)
    omega
  have two : ∀ a b, stp y (stp x (stp z f)) a b ≤ stp y (stp z (stp x f)) a b := fun a b => by
    have hs := ((h.stp x).stp z).stp y
    have A0 := stp_0 (stp z (stp x f)) y a b
    have A1 := fun h => stp_1 (stp z (stp x f)) (x := y) (a := a) b h
    have A2 := fun h => stp_2 (stp z (stp x f)) (x := y) (b := b) a h
    refine stp_le 0 ?_ (fun h' => ?_) (fun h' => ?_)
    · refine stp_swap (by omega) (fun ha _ => both a b ha) (fun hb _ => ?_)
      have := both b a hb
      rw [hs.sym b a, h.sym z a] at this
      exact this
    · have hc := A1 h'
      have := stp_swap (g := f) (x := x) (z := z) (a := y) (b := b) (N := stp y (stp z (stp x f)) a b - 1) (by omega) (fun ha _ => by omega) (fun hb _ => by
        have := more b a h' hb
        rw [hs.sym b a, h.sym z y] at this
        omega)
      omega
    · have hc := A2 h'
      have := stp_swap (g := f) (x := x) (z := z) (a := a) (b := y) (N := stp y (stp z (stp x f)) a b - 1) (by omega) (fun ha _ => by
        have := more a b h' ha
        omega) (fun hb _ => by omega)
      omega
  exact Nat.le_antisymm (one a b) (two a b)
theorem KE.two {u v : List Int} (k : KE u v) : ∀ {f : Int → Int → Nat}, Fine f → twoF u f = twoF v f := by
  induction k with
  | refl u => intro f _; rfl
  | step p q k =>
    intro f hf
    rw [twoF_append, twoF_append, twoF_append, twoF_append]
    congr 1
    have hq := hf.two q
    generalize twoF q f = g at hq
    cases k with
    | a x y z h1 h2 => funext a b; exact stp_ka hq h1 h2 a b
    | b x y z h1 h2 => funext a b; exact stp_kb hq h1 h2 a b
  | symm _ ih => intro f hf; exact (ih hf).symm
  | trans _ _ i1 i2 => intro f hf; rw [i1 hf, i2 hf]
theorem two_row (l : List Int) (hl : Up l) (N : Nat) (f : Int → Int → Nat)
    (hf : ∀ a b p q, p ≤ l.length → q ≤ l.length → (∀ c, c < p → elt l c ≤ a) → (∀ c, c < q → elt l c ≤ b) → f a b + p + q ≤ N) :
    ∀ (d k : Nat), k + d = l.length → ∀ a b p q, p ≤ l.length → q ≤ l.length → (∀ c, c < p → elt l c ≤ a) → (∀ c, c < q → elt l c ≤ b) → (∀ c, k ≤ c → c < p → elt l c < a) → (∀ c, k ≤ c → c < q → elt l c < b) →
      twoF (l.drop k) f a b + p + q ≤ N
  | 0, k, h, a, b, p, q, hp, hq, ha, hb, _, _ => by
    rw [List.drop_eq_nil_of_le (by omega)]
    exact hf a b p q hp hq ha hb
  | d + 1, k, h, a, b, p, q, hp, hq, ha, hb, ha2, hb2 => by
    have hk : k < l.length := by omega
    rw [List.drop_eq_getElem_cons hk]
    simp only [twoF, stp]
    have ex : l[k] = elt l k := (elt_lt hk).symm
    rw [ex]
    have i1 := two_row l hl N f hf d (k + 1) (by omega) a b p q hp hq ha hb (fun c h1 h2 => ha2 c (by omega) h2) (fun c h1 h2 => hb2 c (by omega) h2)
    have i2 : a ≤ elt l k → twoF (l.drop (k + 1)) f (elt l k) b + (p + 1) + q ≤ N := fun hak => by
      have hpk : p ≤ k := by
        rcases Nat.lt_or_ge k p with h3 | h3
        · have := ha2 k (Nat.le_refl _) h3; omega
        · exact h3
      exact two_row l hl N f hf d (k + 1) (by omega) (elt l k) b (p + 1) q (by omega) hq (fun c hc => hl c k (by omega) hk) hb (fun c h1 h2 => by omega) (fun c h1 h2 => hb2 c (by omega) h2)
    have i3 : b ≤ elt l k → twoF (l.drop (k + 1)) f a (elt l k) + p + (q + 1) ≤ N := fun hbk => by
      have hqk : q ≤ k := by
        rcases Nat.lt_or_ge k q with h3 | h3
        · have := hb2 k (Nat.le_refl _) h3; omega
        · exact h3
      exact two_row l hl N f hf d (k + 1) (by omega) a (elt l k) p (q + 1) hp (by omega) ha (fun c hc => hl c k (by omega) hk) (fun c h1 h2 => ha2 c (by omega) h2) (fun c h1 h2 => by omega)
    split <;> split <;> rename_i e1 e2
    · have := i2 e1; have := i3 e2; omega
    · have := i2 e1; omega
    · have := i3 e2; omega
    · omega
theorem two_rows : ∀ (R : List (List Int)), Tab R → ∀ (N : Nat) (f : Int → Int → Nat),
    (∀ a b p q, p ≤ (hd R).length → q ≤ (hd R).length → (∀ c, c < p → elt (hd R) c ≤ a) → (∀ c, c < q → elt (hd R) c ≤ b) → f a b + p + q ≤ N) → twoF (rdT R) f 0 0 ≤ N
  | [], _, N, f, hf => by
    have := hf 0 0 0 0 (by simp) (by simp) (by simp) (by simp)
    simpa [rdT, twoF] using this
  | l :: R, ⟨_, h2, h3, h4⟩, N, f, hf => by
    simp only [rdT]
    rw [twoF_append]
    refine two_rows R h4 N _ fun a b p q hp hq ha hb => ?_
    have hlen := h3.1
    have e : ∀ p' a', p' ≤ (hd R).length → (∀ c, c < p' → elt (hd R) c ≤ a') → ∀ c, c < p' → elt l c < a' := fun p' a' hp' ha' c hc => by
      have := h3.2 c (by omega); have := ha' c hc; omega
    have := two_row l h2 N f hf l.length 0 (by omega) a b p q (by omega) (by omega) (fun c hc => by have := e p a hp ha c hc; omega) (fun c hc => by have := e q b hq hb c hc; omega) (fun c _ hc => e p a hp ha c hc) (fun c _ hc => e q b hq hb c hc)
    simpa using this
theorem two_short : ∀ (w : List Int) (a b : Int), twoF w (fun _ _ => 0) a b ≤ w.length
  | [], _, _ => by simp [twoF]
  | x :: w, a, b => by
    have h1 := two_short w a b
    have h2 := two_short w x b
    have h3 := two_short w a x
    simp only [twoF, stp, List.length_cons]
    split <;> split <;> omega
theorem two_first : ∀ (l : List Int) (a b : Int) (p q : Nat), (∀ c, c < p → c < l.length → elt l c < a) → (∀ c, c < q → c < l.length → elt l c < b) → twoF l (fun _ _ => 0) a b ≤ l.length - min p q
  | [], _, _, _, _, _, _ => by simp [twoF]
  | x :: l, a, b, p, q, ha, hb => by
    by_cases h : p = 0 ∨ q = 0
    · have := two_short (x :: l) a b
      rw [show min p q = 0 by omega]; exact this
    · have h1 := ha 0 (by omega) (by simp)
      have h2 := hb 0 (by omega) (by simp)
      simp only [elt, List.getElem?_cons_zero, Option.getD_some] at h1 h2
      have ih := two_first l a b (p - 1) (q - 1) (fun c h3 h4 => by have := ha (c + 1) (by omega) (by simpa using h4); simpa [elt] using this) (fun c h3 h4 => by have := hb (c + 1) (by omega) (by simpa using h4); simpa [elt] using this)
      simp only [twoF, stp, List.length_cons]
      rw [if_neg (by omega), if_neg (by omega)]
      omega
/-- No more than the first two rows. -/
theorem two_most (s : List Int) : twoF s (fun _ _ => 0) 0 0 ≤ (row (bldR s s.length).1 0).length + (row (bldR s s.length).1 1).length := by
  have hfine : Fine (fun _ _ => 0) := ⟨fun _ _ => rfl, fun _ _ _ _ _ _ => Nat.le_refl _⟩
  rw [(word_read s).two hfine]
  have hT := (bld_pair s s.length).tab
  generalize (bldR s s.length).1 = R at *
  cases R with
  | nil => simp [rdT, twoF]
  | cons l R =>
    obtain ⟨_, h2, h3, h4⟩ := hT
    simp only [rdT]
    rw [twoF_append, row_cons_zero, row_cons_succ]
    have e : row R 0 = hd R := by cases R <;> rfl
    rw [e]
    refine two_rows R h4 _ _ fun a b p q hp hq ha hb => ?_
    have hlen := h3.1
    have := two_first l a b p q (fun c hc _ => by have := h3.2 c (by omega); have := ha c hc; omega) (fun c hc _ => by have := h3.2 c (by omega); have := hb c hc; omega)
    omega
end Go.Proofs.Ytnnfahdhmodejaa

namespace Go.Proofs.Ytnnfahdhmodejaa

theorem strict_of {l : List Int} (h : l.Pairwise (· < ·)) (a b : Nat) (hab : a < b) (hb : b < l.length) : elt l a < elt l b := by
  rw [elt_lt (by omega), elt_lt hb]; exact List.pairwise_iff_getElem.1 h a b (by omega) hb hab
theorem strict_pw {l : List Int} (h : ∀ a b, a < b → b < l.length → elt l a < elt l b) : l.Pairwise (· < ·) := by
  refine List.pairwise_iff_getElem.2 fun a b ha hb hab => ?_
  have := h a b hab hb
  rwa [elt_lt ha, elt_lt hb] at this
/-- The order of a sequence. -/
theorem bld_std (s : List Int) : ∀ k, Std (bldR s k).2 k
  | 0 => ⟨trivial, fun i a b _ h => by simp [bldR, row] at h, fun i x h => by simp [bldR, row] at h, fun i j x h => by simp [bldR, row] at h, fun x h1 h2 => by push_cast at h2; omega⟩
  | k + 1 => by
    have ih := bld_std s k
    have hP := bld_pair s k
    have hP1 := bld_pair s (k + 1)
    have hpr := put_row (bldR s k).1 (elt s k)
    have hro : ∀ i, row (bldR s (k + 1)).2 i = if i = (putR (bldR s k).1 (elt s k)).2 then row (bldR s k).2 i ++ [(k : Int) + 1] else row (bldR s k).2 i := fun i => by
      simp only [bldR]
      rw [row_addO (by rw [hP.len]; exact hpr.1)]
      split
      · rename_i h; rw [h]
      · rfl
    generalize (putR (bldR s k).1 (elt s k)).2 = r at *
    have hlen : ∀ i, (row (bldR s (k + 1)).2 (i + 1)).length ≤ (row (bldR s (k + 1)).2 i).length := fun i => by
      rw [hP1.rows, hP1.rows]; exact ((tab_row hP1.tab) i).2.1.1
    have hne : ∀ i, i < (bldR s (k + 1)).2.length → row (bldR s (k + 1)).2 i ≠ [] := fun i hi e => by
      have h1 := hP1.rows i
      rw [e] at h1
      exact ((tab_row hP1.tab) i).2.2 (by rw [← hP1.len]; exact hi) (List.eq_nil_of_length_eq_zero h1.symm)
    have hstr : ∀ i a b, a < b → b < (row (bldR s (k + 1)).2 i).length → elt (row (bldR s (k + 1)).2 i) a < elt (row (bldR s (k + 1)).2 i) b := fun i a b hab hb => by
      rw [hro] at hb ⊢
      split at hb
      · rename_i e
        rw [if_pos e]
        simp only [List.length_append, List.length_cons, List.length_nil] at hb
        rw [elt_snoc, elt_snoc, if_neg (by omega)]
        split
        · have := (ih.mem i _ (elt_mem (l := row (bldR s k).2 i) (j := a) (by omega))).2; omega
        · exact ih.strict i a b hab (by omega)
      · rename_i e
        rw [if_neg e]; exact ih.strict i a b hab hb
    refine ⟨tab_of fun i => ⟨?_, ⟨hlen i, fun j hj => ?_⟩, hne i⟩, hstr, fun i x hx => ?_, fun i j x hi hj => ?_, fun x h1 h2 => ?_⟩
    · intro a b hab hb
      rcases Nat.lt_or_ge a b with h | h
      · exact Int.le_of_lt (hstr i a b h hb)
      · obtain rfl : a = b := by omega
        exact Int.le_refl _
    · have hl := hlen i
      have hU := ((tab_row ih.tab) i).2.1
      rw [hro, hro] at hl ⊢
      rw [hro] at hj
      by_cases e1 : i + 1 = r
      · have e2 : ¬ i = r := by omega
        rw [if_pos e1] at hj ⊢ hl
        rw [if_neg e2] at hl ⊢
        simp only [List.length_append, List.length_cons, List.length_nil] at hj hl
        rw [elt_snoc]
        split
        · have := (ih.mem i _ (elt_mem (l := row (bldR s k).2 i) (j := j) (by omega))).2; omega
        · exact hU.2 j (by omega)
      · rw [if_neg e1] at hj ⊢ hl
        have h3 := hU.2 j hj
        have h4 := hU.1
        split
        · rw [elt_snoc, if_neg (by omega)]; exact h3
        · exact h3
    · rw [hro] at hx
      split at hx
      · rcases List.mem_append.1 hx with hx | hx
        · have := ih.mem i x hx; push_cast; omega
        · rw [List.mem_singleton.1 hx]; push_cast; omega
      · have := ih.mem i x hx; push_cast; omega
    · have hm : ∀ i, x ∈ row (bldR s (k + 1)).2 i → (x = (k : Int) + 1 ∧ i = r) ∨ (x ∈ row (bldR s k).2 i ∧ x ≤ k) := fun i hx => by
        rw [hro] at hx
        split at hx
        · rename_i e
          rcases List.mem_append.1 hx with hx | hx
          · exact .inr ⟨hx, (ih.mem i x hx).2⟩
          · exact .inl ⟨List.mem_singleton.1 hx, e⟩
        · exact .inr ⟨hx, (ih.mem i x hx).2⟩
      rcases hm i hi with ⟨a1, a2⟩ | ⟨a1, a2⟩ <;> rcases hm j hj with ⟨b1, b2⟩ | ⟨b1, b2⟩
      · omega
      · omega
      · omega
      · exact ih.uniq i j x a1 b1
    · rcases Int.lt_or_le (k : Int) x with h3 | h3
      · refine ⟨r, ?_⟩
        rw [hro, if_pos rfl]
        push_cast at h2
        rw [show x = (k : Int) + 1 by omega]
        simp
      · obtain ⟨i, hi⟩ := ih.ex x h1 h3
        refine ⟨i, ?_⟩
        rw [hro]
        split
        · simp [hi]
        · exact hi
theorem shTo_tab {R : List (List Int)} (h : Tab R) : ShTo R R.length := fun i hi => by
  refine ⟨fun e => (tab_row h i).2.2 hi (List.eq_nil_of_length_eq_zero e), fun h0 => ?_⟩
  have := (tab_row h (i - 1)).2.1.1
  rwa [show i - 1 + 1 = i by omega] at this
theorem inc_tab {R : List (List Int)} (h : Tab R) (b : Int) (hb : ∀ i a, a + 1 < (row R i).length → elt (row R i) a + b ≤ elt (row R i) (a + 1)) : Inc R b := fun p hp q hq => by
  refine ⟨fun h0 => ?_, fun h0 => ?_⟩
  · have := hb p (q - 1) (by omega)
    rwa [show q - 1 + 1 = q by omega] at this
  · have := (tab_row h (p - 1)).2.1.2 q (by rwa [show p - 1 + 1 = p by omega])
    rwa [show p - 1 + 1 = p by omega] at this
theorem rackC_of {R : List (List Int)} (h1 : R.flatten.length ≤ 12) (h2 : R.flatten.any (outB 1 99) = false) (h3 : Tab R) : rackC R = 0 := by
  unfold rackC
  rw [if_neg (by omega), h2, if_neg (by simp), (shapedB_iff R).2 (shTo_tab h3), (incB_iff R 0).2 (inc_tab h3 0 fun i a h => by have := (tab_row h3 i).1 a (a + 1) (by omega) h; omega)]
  rfl
theorem flat_nodup : ∀ {O : List (List Int)}, (∀ i, (row O i).Nodup) → (∀ i j x, x ∈ row O i → x ∈ row O j → i = j) → O.flatten.Nodup
  | [], _, _ => by simp
  | l :: O, h1, h2 => by
    rw [List.flatten_cons]
    refine List.nodup_append.2 ⟨h1 0, flat_nodup (fun i => by have := h1 (i + 1); rwa [row_cons_succ] at this) (fun i j x hi hj => by have := h2 (i + 1) (j + 1) x (by rwa [row_cons_succ]) (by rwa [row_cons_succ]); omega), fun a ha b hb e => ?_⟩
    subst e
    obtain ⟨m, hm, hb⟩ := List.mem_flatten.1 hb
    obtain ⟨j, hj, e⟩ := List.getElem_of_mem hm
    have := h2 0 (j + 1) a ha (by rw [row_cons_succ, row_lt hj, e]; exact hb)
    omega
theorem orderC_of {O : List (List Int)} {n : Nat} (h1 : n ≤ 12) (h2 : O.flatten.length = n) (h3 : Std O n) : orderC O = 0 := by
  have hb : O.flatten.any (outB 1 O.flatten.length) = false := by
    rw [List.any_eq_false]
    intro x hx
    obtain ⟨m, hm, hb⟩ := List.mem_flatten.1 hx
    obtain ⟨j, hj, e⟩ := List.getElem_of_mem hm
    have := h3.mem j x (by rw [row_lt hj, e]; exact hb)
    rw [h2]
    simp [outB]; omega
  have hnd : O.flatten.Nodup := flat_nodup (fun i => (strict_pw (h3.strict i)).imp (fun h => by omega)) h3.uniq
  unfold orderC
  rw [if_neg (by omega), hb, if_neg (by simp), show decide O.flatten.Nodup = true by simpa using hnd, (shapedB_iff O).2 (shTo_tab h3.tab), (incB_iff O 1).2 (inc_tab h3.tab 1 fun i a h => by have := h3.strict i a (a + 1) (by omega) h; omega)]
  rfl
theorem flat_len2 : ∀ {R O : List (List Int)}, O.length = R.length → (∀ i, (row O i).length = (row R i).length) → O.flatten.length = R.flatten.length
  | [], [], _, _ => rfl
  | l :: R, m :: O, h1, h2 => by
    have h3 := h2 0
    have h4 := flat_len2 (R := R) (O := O) (by simpa using h1) (fun i => by have := h2 (i + 1); rwa [row_cons_succ, row_cons_succ] at this)
    simp only [row_cons_zero] at h3
    simp [h3, h4]
/-- What Build returns is a rack and an order of one shape. -/
theorem built_ok {s : List Int} (h : seqC s = 0) : rackC (bldR s s.length).1 = 0 ∧ orderC (bldR s s.length).2 = 0 ∧ shpI (bldR s s.length).1 = shpI (bldR s s.length).2 ∧ (bldR s s.length).1.flatten.length = s.length := by
  have hp := bld_flat s s.length (Nat.le_refl _)
  rw [List.take_length] at hp
  have hP := bld_pair s s.length
  have hl := hp.length_eq
  have hs : s.length ≤ 12 ∧ s.any (outB 1 99) = false := by
    unfold seqC at h
    split at h
    · omega
    · split at h
      · omega
      · rename_i h1 h2
        exact ⟨by omega, by simpa using h2⟩
  refine ⟨rackC_of (by omega) ?_ hP.tab, orderC_of hs.1 (by rw [flat_len2 hP.len hP.rows, hl]) (bld_std s _), ?_, hl⟩
  · rw [List.any_eq_false] at hs ⊢
    intro x hx
    exact hs.2 x (hp.mem_iff.1 hx)
  · unfold shpI
    apply List.ext_getElem (by simp [hP.len])
    intro i h1 h2
    simp only [List.length_map] at h1 h2
    have := hP.rows i
    rw [row_lt h1, row_lt h2] at this
    simp [this]
/-- Two lists of rows whose rows rise and have the same numbers. -/
theorem rows_same {R O : List (List Int)} (hR : ∀ i, (row R i).Pairwise (· < ·)) (hO : ∀ i, (row O i).Pairwise (· < ·)) (h1 : ∀ i, i < R.length → row R i ≠ []) (h2 : ∀ i, i < O.length → row O i ≠ [])
    (hm : ∀ i x, x ∈ row R i ↔ x ∈ row O i) : R = O := by
  have hpw : ∀ {l m : List Int}, l.Pairwise (· < ·) → m.Pairwise (· < ·) → (∀ x, x ∈ l ↔ x ∈ m) → l = m := by
    intro l
    induction l with
    | nil =>
      intro m _ _ h
      cases m with
      | nil => rfl
      | cons b m => have := (h b).2 (by simp); simp at this
    | cons a l ih =>
      intro m hl hm h
      cases m with
      | nil => have := (h a).1 (by simp); simp at this
      | cons b m =>
        obtain ⟨l1, l2⟩ := List.pairwise_cons.1 hl
        obtain ⟨m1, m2⟩ := List.pairwise_cons.1 hm
        have hab : a = b := by
          rcases List.mem_cons.1 ((h a).1 (by simp)) with e | e
          · exact e
          · rcases List.mem_cons.1 ((h b).2 (by simp)) with e2 | e2
            · exact e2.symm
            · have := m1 a e; have := l1 b e2; omega
        subst hab
        congr 1
        refine ih l2 m2 fun x => ⟨fun hx => ?_, fun hx => ?_⟩
        · rcases List.mem_cons.1 ((h x).1 (by simp [hx])) with e | e
          · have := l1 x hx; omega
          · exact e
        · rcases List.mem_cons.1 ((h x).2 (by simp [hx])) with e | e
          · have := m1 x hx; omega
          · exact e
  have hrow : ∀ i, row R i = row O i := fun i => hpw (hR i) (hO i) (hm i)
  refine rows_ext ?_ fun i _ => hrow i
  rcases Nat.lt_trichotomy R.length O.length with h | h | h
  · exact absurd (by rw [← hrow, row_ge (Nat.le_refl _)]) (h2 R.length h)
  · exact h
  · exact absurd (by rw [hrow, row_ge (Nat.le_refl _)]) (h1 O.length h)
/-- The rack of the turned sequence is the order. -/
theorem turned_rack {s t : List Int} (hs : s.Nodup) (ht : t.Nodup) (hl : t.length = s.length) (hsb : ∀ x ∈ s, 1 ≤ x ∧ x ≤ (s.length : Int)) (htb : ∀ x ∈ t, 1 ≤ x ∧ x ≤ (s.length : Int))
    (hM : ∀ i j, i < s.length → j < s.length → (elt s i = (j : Int) + 1 ↔ elt t j = (i : Int) + 1)) : (bldR t t.length).1 = (bldR s s.length).2 := by
  have g := bld_grow ht (fun x hx => (htb x hx).1)
  have g' := bld_grow hs (fun x hx => (hsb x hx).1)
  rw [hl] at g ⊢
  have hG := (grow_same g g' (fun i j hi hj => (hM j i hj hi).symm) s.length (Nat.le_refl _)).1
  have hS := bld_std s s.length
  have hfl := bld_flat t s.length (by omega)
  rw [← hl, List.take_length, hl] at hfl
  have hTn : (bldR t s.length).1.flatten.Nodup := hfl.nodup_iff.2 ht
  have hT := (bld_pair t s.length).tab
  have hmemT : ∀ i x, x ∈ row (bldR t s.length).1 i → x ∈ t := fun i x hx => by
    refine hfl.mem_iff.1 (List.mem_flatten.2 ⟨row (bldR t s.length).1 i, ?_, hx⟩)
    have := row_mem_lt hx
    rw [row_lt this]; exact List.getElem_mem _
  refine rows_same (fun i => ?_) (fun i => strict_pw (hS.strict i)) (fun i hi => (tab_row hT i).2.2 hi) (fun i hi => (tab_row hS.tab i).2.2 hi) fun k x => ?_
  · rcases Nat.lt_or_ge i (bldR t s.length).1.length with h | h
    · have hn : (row (bldR t s.length).1 i).Nodup := by
        rw [row_lt h]
        exact (List.pairwise_flatten.1 hTn).1 _ (List.getElem_mem _)
      refine ((up_srt (tab_row hT i).1).and hn).imp ?_
      rintro a b ⟨h1, h2⟩
      omega
    · rw [row_ge h]; exact List.Pairwise.nil
  · have key : ∀ j : Nat, j < s.length → (((j : Int) + 1) ∈ row (bldR t s.length).1 k ↔ ((j : Int) + 1) ∈ row (bldR s s.length).2 k) := fun j hj => by
      have h1 := hG j hj
      rw [cjR_put (s.length : Int) _ _ (by have := (hsb _ (elt_mem hj)).2; exact this) (fun x hx => by
        have hx := (bld_flat s j (by omega)).mem_iff.1 hx
        exact (hsb x (List.mem_of_mem_take hx)).2)] at h1
      have h2 := (bld_row s j s.length hj).2 k
      rw [h2]
      constructor
      · intro h3
        have h4 := rjR_of hTn h3
        rw [h4] at h1
        exact Option.some.inj h1
      · intro h3
        rw [← h3] at h1
        exact rjR_some h1
    constructor
    · intro hx
      have h1 := htb x (hmemT k x hx)
      have := (key (x - 1).toNat (by omega)).1
      rw [show (((x - 1).toNat : Nat) : Int) + 1 = x by omega] at this
      exact this hx
    · intro hx
      have h1 := hS.mem k x hx
      have := (key (x - 1).toNat (by omega)).2
      rw [show (((x - 1).toNat : Nat) : Int) + 1 = x by omega] at this
      exact this hx
end Go.Proofs.Ytnnfahdhmodejaa

namespace Go.Proofs.Ytnnfahdhmodejaa
open Go.RowKit Go.Shelf

/-- Works answers yes. -/
def WorksSaid : Prop := ∀ w, Calls Try.prog 17 #[] w fun e w' => e = .returned (.bool true) ∧ Below w.heap.size w w'
set_option maxRecDepth 100000 in
set_option maxHeartbeats 800000 in
theorem rackrows_core (hwk : WorksSaid) (v : Value) (R : List (List Int)) (w : World) (hx0 : RdLL w v R) :
    Calls Try.prog 3 #[v] w fun e w' => e = .returned (.bool true) ∧ Below w.heap.size w w' := by
  have HX := Lib.hid hx0
  have HG := Lib.hid (great_any v R w hx0)
  have HWK := Lib.hid hwk
  unfold WorksSaid at HWK
  have HC1 := Lib.hid (fun hs wz h => rack_any v R wz h hs)
  have HC2 := Lib.hid (fun hs wz h => rrack_any v R wz h hs)
  have HC3 := Lib.hid (fun hs wz h => order_any v R wz h hs)
  have HC4 := Lib.hid (fun hs wz h => rorder_any v R wz h hs)
  have HSM := Lib.hid (fun h => great_sml (R := R) h)
  obtain ⟨a, ca, rfl⟩ := hx0.sl
  clear hx0 hwk
  generalize greatB R = gr at *
  generalize rackC R = c1 at *
  generalize orderC R = c2 at *
  go_enter Try.func3, Try.ntmps3
  go_wp2_with fail
  refine HG.out.mono ?_
  rintro e w2 ⟨rfl, rfl⟩
  cases hgr : gr with
  | true =>
    go_wp2_with fail
    refine (HWK.out _).mono ?_
    rintro e w3 ⟨rfl, hB⟩
    have HB := Lib.hid hB; clear hB
    go_wp2_with fail
    go_ret
    exact ⟨rfl, HB.out⟩
  | false =>
    have HS := Lib.hid (HSM.out hgr)
    have e1 : (c1 == c1) = true := by simp
    have e2 : (c2 == c2) = true := by simp
    go_wp2_with fail
    refine (HC1.out HS.out _ HX.out).mono ?_
    rintro e w3 ⟨rfl, hB⟩
    have HB3 := Lib.hid hB; clear hB
    go_wp2_with fail
    refine (HC2.out HS.out _ (HX.out.mono HB3.out)).mono ?_
    rintro e w4 ⟨rfl, hB⟩
    have HB4 := Lib.hid (btr HB3.out hB); clear hB
    go_wp2_with fail
    all_goals first | (rename_i h _; simp [undef] at h; done) | skip
    refine (HC3.out HS.out _ (HX.out.mono HB4.out)).mono ?_
    rintro e w5 ⟨rfl, hB⟩
    have HB5 := Lib.hid (btr HB4.out hB); clear hB
    go_wp2_with fail
    refine (HC4.out HS.out _ (HX.out.mono HB5.out)).mono ?_
    rintro e w6 ⟨rfl, hB⟩
    have HB6 := Lib.hid (btr HB5.out hB); clear hB
    go_wp2_with fail
    all_goals first | (rename_i h _; simp [undef] at h; done) | skip
    refine (HWK.out _).mono ?_
    rintro e w7 ⟨rfl, hB⟩
    have HB7 := Lib.hid (btr HB6.out hB); clear hB
    go_wp2_with fail
    go_ret
    exact ⟨rfl, HB7.out⟩
end Go.Proofs.Ytnnfahdhmodejaa

namespace Go.Proofs.Ytnnfahdhmodejaa
open Go.RowKit Go.Shelf

theorem row_flat {R : List (List Int)} (i : Nat) : (row R i).length ≤ R.flatten.length := by
  rcases Nat.lt_or_ge i R.length with h | h
  · rw [row_lt h]
    exact (List.sublist_flatten_of_mem (List.getElem_mem h)).length_le
  · rw [row_ge h]; simp
theorem putE_sml (R : List (List Int)) (t : Int) : Sml (putE R t).1 := by
  unfold putE
  split
  · exact ⟨by simp, fun i => by simp [row]⟩
  · rename_i h
    split
    · exact ⟨by simp, fun i => by simp [row]⟩
    · split
      · exact ⟨by simp, fun i => by simp [row]⟩
      · have h0 : rackC R = 0 := by simpa using h
        have h1 := (rackC_zero h0).1
        have h2 := sh_len (rackC_sh h0)
        obtain ⟨p1, p2, p3⟩ := put_row R t
        refine ⟨by simp only; rw [p2]; split <;> omega, fun i => ?_⟩
        have h3 := p3 i
        have h4 := row_flat (R := R) i
        simp only
        split at h3 <;> omega
theorem takeE_sml (R : List (List Int)) (r : Int) (hs : Sml R) : Sml (takeE R r).1 := by
  unfold takeE
  split
  · exact ⟨by simp, fun i => by simp [row]⟩
  · rename_i h
    split
    · exact ⟨by simp, fun i => by simp [row]⟩
    · rename_i h2
      split
      · rename_i h3
        have h0 : rackC R = 0 := by simpa using h
        have ht := (rackC_zero h0).2.2
        have hr : r.toNat < R.length := by
          unfold outB at h2
          rw [decide_eq_true_eq] at h2
          omega
        obtain ⟨h4, h5⟩ := take_size ht ((canB_iff ht hr).1 h3)
        exact ⟨Nat.le_trans h4 hs.1, fun i => Nat.le_trans (h5 i) (hs.2 i)⟩
      · exact ⟨by simp, fun i => by simp [row]⟩
set_option maxRecDepth 100000 in
set_option maxHeartbeats 1600000 in
theorem rackputs_core (hwk : WorksSaid) (v : Value) (R : List (List Int)) (t r : Int) (w : World) (hx0 : RdLL w v R) :
    Calls Try.prog 4 #[v, .int .i64 t, .int .i64 r] w fun e w' => e = .returned (.bool true) ∧ Below w.heap.size w w' := by
  have HX := Lib.hid hx0
  have HG := Lib.hid (great_any v R w hx0)
  have HWK := Lib.hid hwk
  unfold WorksSaid at HWK
  have HSM := Lib.hid (fun h => great_sml (R := R) h)
  obtain ⟨a, ca, rfl⟩ := hx0.sl
  clear hx0 hwk
  have HC1 := Lib.hid (fun hs wz h => pput_any (.slice a R.length ca) R t wz h hs)
  have HC2 := Lib.hid (fun hs wz h => rput_any (.slice a R.length ca) R t wz h hs)
  have HC3 := Lib.hid (fun hs wz h => ptake_any (.slice a R.length ca) R r wz h hs)
  have HC4 := Lib.hid (fun hs wz h => rtake_any (.slice a R.length ca) R r wz h hs)
  have HSA := Lib.hid (putE_sml R t)
  have HSB := Lib.hid (fun hs => takeE_sml R r hs)
  generalize greatB R = gr at *
  generalize putE R t = A at *
  generalize takeE R r = C at *
  obtain ⟨A1, A2, A3⟩ := A
  obtain ⟨C1, C2, C3⟩ := C
  unfold Post3 at HC1 HC2 HC3 HC4
  simp only at HC1 HC2 HC3 HC4 HSA HSB
  go_enter Try.func4, Try.ntmps4
  go_wp2_with fail
  refine HG.out.mono ?_
  rintro e w2 ⟨rfl, rfl⟩
  cases hgr : gr with
  | true =>
    go_wp2_with fail
    refine (HWK.out _).mono ?_
    rintro e w3 ⟨rfl, hB⟩
    have HB := Lib.hid hB; clear hB
    go_wp2_with fail
    go_ret
    exact ⟨rfl, HB.out⟩
  | false =>
    have HS := Lib.hid (HSM.out hgr)
    have HSC := Lib.hid (HSB.out HS.out)
    have e1 : (A2 == A2) = true := by simp
    have e2 : (A3 == A3) = true := by simp
    have e3 : (C2 == C2) = true := by simp
    have e4 : (C3 == C3) = true := by simp
    go_wp2_with fail
    refine (HC1.out HS.out w HX.out).mono ?_
    rintro e w2 ⟨u, rfl, hu, hB⟩
    obtain ⟨au, cu, rfl⟩ := hu.sl
    have HU := Lib.hid hu; have HB2 := Lib.hid hB; clear hu hB
    go_wp2_with fail
    refine (HC2.out HS.out w2 (HX.out.mono HB2.out)).mono ?_
    rintro e w3 ⟨v, rfl, hv, hB⟩
    obtain ⟨av, cv, rfl⟩ := hv.sl
    have HV := Lib.hid hv; have HU3 := Lib.hid (HU.out.mono hB); have HB3 := Lib.hid (btr HB2.out hB); clear hv hB
    go_wp2_with fail
    refine (HC3.out HS.out w3 (HX.out.mono HB3.out)).mono ?_
    rintro e w4 ⟨x, rfl, hx, hB⟩
    obtain ⟨ax, cx, rfl⟩ := hx.sl
    have HX4 := Lib.hid hx; have HV4 := Lib.hid (HV.out.mono hB); have HU4 := Lib.hid (HU3.out.mono hB); have HB4 := Lib.hid (btr HB3.out hB); clear hx hB
    go_wp2_with fail
    refine (HC4.out HS.out w4 (HX.out.mono HB4.out)).mono ?_
    rintro e w5 ⟨y, rfl, hy, hB⟩
    obtain ⟨ay, cy, rfl⟩ := hy.sl
    have HY5 := Lib.hid hy; have HX5 := Lib.hid (HX4.out.mono hB); have HV5 := Lib.hid (HV4.out.mono hB); have HU5 := Lib.hid (HU4.out.mono hB); have HB5 := Lib.hid (btr HB4.out hB); clear hy hB
    go_wp2_with fail
    refine (same_any _ _ A1 A1 w5 HU5.out HV5.out HSA.out HSA.out).mono ?_
    rintro e w6 ⟨rfl, hB⟩
    have HB6 := Lib.hid (btr HB5.out hB); have HX6 := Lib.hid (HX5.out.mono hB); have HY6 := Lib.hid (HY5.out.mono hB); clear hB
    rw [show decide (A1 = A1) = true by simp]
    go_wp2_with fail
    all_goals first | (rename_i h _; simp [undef] at h; done) | skip
    refine (same_any _ _ C1 C1 w6 HX6.out HY6.out HSC.out HSC.out).mono ?_
    rintro e w7 ⟨rfl, hB⟩
    have HB7 := Lib.hid (btr HB6.out hB); clear hB
    rw [show decide (C1 = C1) = true by simp]
    go_wp2_with fail
    all_goals first | (rename_i h _; simp [undef] at h; done) | skip
    refine (HWK.out _).mono ?_
    rintro e w8 ⟨rfl, hB⟩
    have HB8 := Lib.hid (btr HB7.out hB); clear hB
    go_wp2_with fail
    go_ret
    exact ⟨rfl, HB8.out⟩
end Go.Proofs.Ytnnfahdhmodejaa

namespace Go.Proofs.Ytnnfahdhmodejaa
open Go.RowKit Go.Shelf

theorem buildE_sml (s : List Int) : Sml (buildE s).1 ∧ Sml (buildE s).2.1 := by
  unfold buildE
  split
  · exact ⟨⟨by simp, fun i => by simp [row]⟩, ⟨by simp, fun i => by simp [row]⟩⟩
  · rename_i h
    have h12 := seqC_len (by simpa using h)
    have h1 := bld_size s s.length
    have h2 := bld_size2 s s.length
    exact ⟨⟨by have := h1.1; simp only; omega, fun i => by have := h1.2 i; simp only; omega⟩, ⟨by have := h2.1; simp only; omega, fun i => by have := h2.2 i; simp only; omega⟩⟩
theorem readR_len5 (O : List (List Int)) : ∀ (n : Nat) (R : List (List Int)) (acc : List Int), (readR O n R acc).length = n + acc.length
  | 0, R, acc => by simp [readR]
  | n + 1, R, acc => by
    unfold readR
    rw [readR_len5 O n]
    simp
    omega
theorem readE_len (R O : List (List Int)) : (readE R O).1.length ≤ 1000 := by
  unfold readE
  split
  · simp
  · rename_i h
    split
    · simp
    · split
      · simp only
        rw [readR_len5]
        have := (rackC_zero (R := R) (by simpa using h)).1
        rw [List.length_nil]
        omega
      · simp
set_option maxRecDepth 100000 in
set_option maxHeartbeats 3200000 in
theorem rackbuilds_core (hwk : WorksSaid) (x y z : Value) (s : List Int) (R O : List (List Int)) (w : World) (hx0 : RdI w .i64 x s) (hy0 : RdLL w y R) (hz0 : RdLL w z O) :
    Calls Try.prog 5 #[x, y, z] w fun e w' => e = .returned (.bool true) ∧ Below w.heap.size w w' := by
  have HX := Lib.hid hx0; have HY := Lib.hid hy0; have HZ := Lib.hid hz0
  have HG1 := Lib.hid (great_any y R w hy0)
  have HG2 := Lib.hid (great_any z O w hz0)
  have HWK := Lib.hid hwk
  unfold WorksSaid at HWK
  have HS1 := Lib.hid (fun h => great_sml (R := R) h)
  have HS2 := Lib.hid (fun h => great_sml (R := O) h)
  obtain ⟨a, ca, rfl, _, _, _⟩ := hx0.form
  obtain ⟨b, cb, rfl⟩ := hy0.sl
  obtain ⟨c, cc, rfl⟩ := hz0.sl
  clear hx0 hy0 hz0 hwk
  have HBP := Lib.hid (bz w)
  generalize greatB R = g1 at *
  generalize greatB O = g2 at *
  by_cases h20 : 20 < s.length
  · have t2 : (20 : Int) < (s.length : Int) := by omega
    go_enter Try.func5, Try.ntmps5
    go_wp2_with fail
    all_goals first | (rename_i h _; simp [undef] at h; done) | skip
    refine (HWK.out _).mono ?_
    rintro e w9 ⟨rfl, hB⟩
    have HB9 := Lib.hid (btr HBP.out hB); clear hB
    go_wp2_with fail
    go_ret
    exact ⟨rfl, HB9.out⟩
  · have t2 : ¬ (20 : Int) < (s.length : Int) := by omega
    go_enter Try.func5, Try.ntmps5
    go_wp2_with fail
    all_goals first | (rename_i h _; simp [undef] at h; done) | skip
    refine HG1.out.mono ?_
    rintro e w2 ⟨rfl, rfl⟩
    cases hg1 : g1 with
    | true =>
      go_wp2_with fail
      all_goals first | (rename_i h _; simp [undef] at h; done) | skip
      refine (HWK.out _).mono ?_
      rintro e w9 ⟨rfl, hB⟩
      have HB9 := Lib.hid (btr HBP.out hB); clear hB
      go_wp2_with fail
      go_ret
      exact ⟨rfl, HB9.out⟩
    | false =>
      have HSR := Lib.hid (HS1.out hg1)
      go_wp2_with fail
      all_goals first | (rename_i h _; simp [undef] at h; done) | skip
      refine HG2.out.mono ?_
      rintro e w2 ⟨rfl, rfl⟩
      cases hg2 : g2 with
      | true =>
        go_wp2_with fail
        all_goals first | (rename_i h _; simp [undef] at h; done) | skip
        refine (HWK.out _).mono ?_
        rintro e w9 ⟨rfl, hB⟩
        have HB9 := Lib.hid (btr HBP.out hB); clear hB
        go_wp2_with fail
        go_ret
        exact ⟨rfl, HB9.out⟩
      | false =>
        have HSO := Lib.hid (HS2.out hg2)
        have hl : s.length ≤ 1000 := by omega
        have HC1 := Lib.hid (fun wz h => pbuild_any (.slice a s.length ca) s wz h hl)
        have HC2 := Lib.hid (fun wz h => rbuild_any (.slice a s.length ca) s wz h hl)
        have HC3 := Lib.hid (fun wz h1 h2 => pread_any (.slice b R.length cb) (.slice c O.length cc) R O wz h1 h2 HSR.out HSO.out)
        have HC4 := Lib.hid (fun wz h1 h2 => rread_any (.slice b R.length cb) (.slice c O.length cc) R O wz h1 h2 HSR.out HSO.out)
        have HC5 := Lib.hid (fun wz h => pseq_any (.slice a s.length ca) s wz h hl)
        have HC6 := Lib.hid (fun wz h => rseq_any (.slice a s.length ca) s wz h hl)
        have HSA := Lib.hid (buildE_sml s)
        have HLB := Lib.hid (readE_len R O)
        generalize buildE s = A at *
        generalize readE R O = C at *
        generalize seqC s = q at *
        obtain ⟨A1, A2, A3⟩ := A
        obtain ⟨C1, C2⟩ := C
        unfold Post3L at HC1 HC2
        unfold Post2I at HC3 HC4
        simp only at HC1 HC2 HC3 HC4 HSA HLB
        have e1 : (q == q) = true := by simp
        have e2 : (A3 == A3) = true := by simp
        have e3 : (C2 == C2) = true := by simp
        go_wp2_with fail
        all_goals first | (rename_i h _; simp [undef] at h; done) | skip
        refine (HC1.out w HX.out).mono ?_
        rintro e w2 ⟨u, v, rfl, hu, hv, hB⟩
        obtain ⟨au, cu, rfl⟩ := hu.sl
        obtain ⟨av, cv, rfl⟩ := hv.sl
        have KU := Lib.hid (keepL hu); have KV := Lib.hid (keepL hv); have B2 := Lib.hid hB; clear hu hv hB
        go_wp2_with fail
        refine (HC2.out w2 (HX.out.mono B2.out)).mono ?_
        rintro e w3 ⟨u', v', rfl, hu, hv, hB⟩
        obtain ⟨au', cu', rfl⟩ := hu.sl
        obtain ⟨av', cv', rfl⟩ := hv.sl
        have KU' := Lib.hid (keepL hu); have KV' := Lib.hid (keepL hv); have D3 := Lib.hid hB; have B3 := Lib.hid (btr B2.out hB); clear hu hv hB
        go_wp2_with fail
        refine (HC3.out w3 (HY.out.mono B3.out) (HZ.out.mono B3.out)).mono ?_
        rintro e w4 ⟨x', rfl, hx, hB⟩
        obtain ⟨ax, cx, rfl, _, _, _⟩ := hx.form
        have KX := Lib.hid (keepI hx); have D4 := Lib.hid hB; have B4 := Lib.hid (btr B3.out hB); clear hx hB
        go_wp2_with fail
        refine (HC4.out w4 (HY.out.mono B4.out) (HZ.out.mono B4.out)).mono ?_
        rintro e w5 ⟨y', rfl, hx, hB⟩
        obtain ⟨ay, cy, rfl, _, _, _⟩ := hx.form
        have KY := Lib.hid (keepI hx); have D5 := Lib.hid hB; have B5 := Lib.hid (btr B4.out hB); clear hx hB
        go_wp2_with fail
        refine (HC5.out w5 (HX.out.mono B5.out)).mono ?_
        rintro e w6 ⟨rfl, hB⟩
        have D6 := Lib.hid hB; have B6 := Lib.hid (btr B5.out hB); clear hB
        go_wp2_with fail
        refine (HC6.out w6 (HX.out.mono B6.out)).mono ?_
        rintro e w7 ⟨rfl, rfl⟩
        go_wp2_with fail
        all_goals first | (rename_i h _; simp [undef] at h; done) | skip
        have E3 := Lib.hid (btr (btr (btr D4.out D5.out) D6.out) (bz w6))
        refine (same_any _ _ A1 A1 w6 (KU.out w6 (btr D3.out E3.out)) (KU'.out w6 E3.out) HSA.out.1 HSA.out.1).mono ?_
        rintro e w8 ⟨rfl, hB⟩
        have E4 := Lib.hid (btr E3.out hB); have E5 := Lib.hid (btr (btr (btr D5.out D6.out) (bz w6)) hB); have E6 := Lib.hid (btr D6.out hB); have B8 := Lib.hid (btr B6.out hB); clear hB
        rw [show decide (A1 = A1) = true by simp]
        go_wp2_with fail
        all_goals first | (rename_i h _; simp [undef] at h; done) | skip
        refine (same_any _ _ A2 A2 w8 (KV.out w8 (btr D3.out E4.out)) (KV'.out w8 E4.out) HSA.out.2 HSA.out.2).mono ?_
        rintro e w9 ⟨rfl, hB⟩
        have F5 := Lib.hid (btr E5.out hB); have F6 := Lib.hid (btr E6.out hB); have B9 := Lib.hid (btr B8.out hB); clear hB
        rw [show decide (A2 = A2) = true by simp]
        go_wp2_with fail
        all_goals first | (rename_i h _; simp [undef] at h; done) | skip
        refine (lints_any _ _ C1 C1 w9 (KX.out w9 F5.out) (KY.out w9 F6.out) HLB.out HLB.out).mono ?_
        rintro e wa ⟨rfl, hB⟩
        have Ba := Lib.hid (btr B9.out hB); clear hB
        rw [show decide (C1 = C1) = true by simp]
        go_wp2_with fail
        all_goals first | (rename_i h _; simp [undef] at h; done) | skip
        refine (HWK.out _).mono ?_
        rintro e wb ⟨rfl, hB⟩
        have Bb := Lib.hid (btr Ba.out hB); clear hB
        go_wp2_with fail
        go_ret
        exact ⟨rfl, Bb.out⟩
end Go.Proofs.Ytnnfahdhmodejaa

namespace Go.Proofs.Ytnnfahdhmodejaa
open Go.RowKit Go.Shelf

theorem hooksE_sml (l : List Int) : Sml (hooksE l).1 := by
  unfold hooksE
  split
  · exact ⟨by simp, fun i => by simp [row]⟩
  · rename_i h
    exact hooks_sml (shapeC_zero (by simpa using h))
set_option maxRecDepth 100000 in
set_option maxHeartbeats 1600000 in
theorem rackhooks_core (hwk : WorksSaid) (x : Value) (l : List Int) (w : World) (hx0 : RdI w .i64 x l) :
    Calls Try.prog 6 #[x] w fun e w' => e = .returned (.bool true) ∧ Below w.heap.size w w' := by
  have HX := Lib.hid hx0
  have HWK := Lib.hid hwk
  unfold WorksSaid at HWK
  obtain ⟨a, ca, rfl, _, _, _⟩ := hx0.form
  clear hx0 hwk
  by_cases h20 : 20 < l.length
  · have t1 : decide ((20 : Int) < (l.length : Int)) = true := decide_eq_true (by omega)
    have t2 : (20 : Int) < (l.length : Int) := by omega
    go_enter Try.func6, Try.ntmps6
    go_wp2_with fail
    refine (HWK.out _).mono ?_
    rintro e w3 ⟨rfl, hB⟩
    have HB := Lib.hid hB; clear hB
    go_wp2_with fail
    go_ret
    exact ⟨rfl, HB.out⟩
  · have t1 : ¬ (20 : Int) < (l.length : Int) := by omega
    have hl : l.length ≤ 1000 := by omega
    have HC1 := Lib.hid (fun wz h => phooks_any (.slice a l.length ca) l wz h hl)
    have HC2 := Lib.hid (fun wz h => rhooks_any (.slice a l.length ca) l wz h hl)
    have HC3 := Lib.hid (fun wz h => pcount_any (.slice a l.length ca) l wz h hl)
    have HC4 := Lib.hid (fun wz h => rcount_any (.slice a l.length ca) l wz h hl)
    have HS := Lib.hid (hooksE_sml l)
    clear hl
    generalize hooksE l = H at *
    generalize countE l = C at *
    obtain ⟨H1, H2⟩ := H
    obtain ⟨C1, C2⟩ := C
    unfold Post2LL at HC1 HC2
    unfold Post2N at HC3 HC4
    simp only at HC1 HC2 HC3 HC4 HS
    have e1 : (H2 == H2) = true := by simp
    have e2 : (C1 == C1) = true := by simp
    have e3 : (C2 == C2) = true := by simp
    go_enter Try.func6, Try.ntmps6
    go_wp2_with fail
    refine (HC1.out w HX.out).mono ?_
    rintro e w2 ⟨u, rfl, hu, hB⟩
    obtain ⟨au, cu, rfl⟩ := hu.sl
    have HU := Lib.hid hu; have HB2 := Lib.hid hB; clear hu hB
    go_wp2_with fail
    refine (HC2.out w2 (HX.out.mono HB2.out)).mono ?_
    rintro e w3 ⟨v, rfl, hv, hB⟩
    obtain ⟨av, cv, rfl⟩ := hv.sl
    have HV := Lib.hid hv; have HU3 := Lib.hid (HU.out.mono hB); have HB3 := Lib.hid (btr HB2.out hB); clear hv hB
    go_wp2_with fail
    refine (HC3.out w3 (HX.out.mono HB3.out)).mono ?_
    rintro e w4 ⟨rfl, hB⟩
    have HV4 := Lib.hid (HV.out.mono hB); have HU4 := Lib.hid (HU3.out.mono hB); have HB4 := Lib.hid (btr HB3.out hB); clear hB
    go_wp2_with fail
    refine (HC4.out w4 (HX.out.mono HB4.out)).mono ?_
    rintro e w5 ⟨rfl, hB⟩
    have HV5 := Lib.hid (HV4.out.mono hB); have HU5 := Lib.hid (HU4.out.mono hB); have HB5 := Lib.hid (btr HB4.out hB); clear hB
    go_wp2_with fail
    refine (same_any _ _ H1 H1 w5 HU5.out HV5.out HS.out HS.out).mono ?_
    rintro e w6 ⟨rfl, hB⟩
    have HB6 := Lib.hid (btr HB5.out hB); clear hB
    have e4 : decide (H1 = H1) = true := by simp
    rw [e4]
    clear e4
    go_wp2_with fail
    all_goals first | (rename_i h _; simp [undef] at h; done) | skip
    refine (HWK.out _).mono ?_
    rintro e w7 ⟨rfl, hB⟩
    have HB7 := Lib.hid (btr HB6.out hB); clear hB
    go_wp2_with fail
    go_ret
    exact ⟨rfl, HB7.out⟩
end Go.Proofs.Ytnnfahdhmodejaa

namespace Go.Proofs.Ytnnfahdhmodejaa
open Go.RowKit Go.Shelf

abbrev exS : List Int := [3, 1, 2, 1]
abbrev exR : List (List Int) := [[1, 1], [2], [3]]
abbrev exO : List (List Int) := [[1, 3], [2], [4]]
theorem exBuild : buildE exS = (exR, exO, 0) := by decide +kernel
theorem rackC_built {s : List Int} {R : List (List Int)} (hs : seqC s = 0) (h : (bldR s s.length).1 = R) : rackC R = 0 := by rw [← h]; exact (built_ok hs).1
theorem orderC_built {s : List Int} {R : List (List Int)} (hs : seqC s = 0) (h : (bldR s s.length).2 = R) : orderC R = 0 := by rw [← h]; exact (built_ok hs).2.1
theorem exRack : rackC exR = 0 := rackC_built (s := exS) (by decide +kernel) (by decide +kernel)
theorem exOrder : orderC exO = 0 := orderC_built (s := exS) (by decide +kernel) (by decide +kernel)
theorem exOrder2 : orderC [[1, 2, 3], [4]] = 0 := orderC_built (s := [2, 3, 4, 1]) (by decide +kernel) (by decide +kernel)
theorem exRead : readE exR exO = (exS, 0) := by
  unfold readE
  rw [exRack, exOrder, if_neg (by simp), if_neg (by simp), if_pos (by decide +kernel)]
  decide +kernel
theorem exRead2 : readE exR [[1, 2, 3], [4]] = ([], 15) := by
  unfold readE
  rw [exRack, exOrder2, if_neg (by simp), if_neg (by simp), if_neg (by decide +kernel)]
theorem exPut (t : Int) (R : List (List Int)) (i : Int) (h1 : outB 1 99 t = false) (h2 : ((putR exR t).1, ((putR exR t).2 : Int)) = (R, i)) : putE exR t = (R, i, 0) := by
  unfold putE
  rw [exRack, if_neg (by simp), h1, if_neg (by simp), if_neg (by decide +kernel)]
  cases h2; rfl
theorem exPut3 : putE exR 100 = ([], 0, 3) := by
  unfold putE
  rw [exRack, if_neg (by simp), if_pos (by decide +kernel)]
theorem exTake : takeE exR 2 = ([[1, 2], [3]], 1, 0) := by
  unfold takeE
  rw [exRack, if_neg (by simp), if_neg (by decide +kernel), if_pos (by decide +kernel)]
  decide +kernel
theorem exTake1 : takeE exR 1 = ([], 0, 22) := by
  unfold takeE
  rw [exRack, if_neg (by simp), if_neg (by decide +kernel), if_neg (by decide +kernel)]
theorem exTake3 : takeE exR 3 = ([], 0, 2) := by
  unfold takeE
  rw [exRack, if_neg (by simp), if_pos (by decide +kernel)]
theorem incB_no {R : List (List Int)} {b : Int} (h : ¬ Inc R b) : incB R b = false := by
  cases e : incB R b
  · rfl
  · exact absurd ((incB_iff R b).1 e) h
theorem shB_no {R : List (List Int)} (h : ¬ ShTo R R.length) : shapedB R = false := by
  cases e : shapedB R
  · rfl
  · exact absurd ((shapedB_iff R).1 e) h
theorem rackC_no {R : List (List Int)} (h1 : R.flatten.length ≤ 12) (h2 : R.flatten.any (outB 1 99) = false) (h3 : shapedB R = false ∨ incB R 0 = false) : rackC R = 22 := by
  unfold rackC
  rw [if_neg (by omega), h2, if_neg (by simp), if_neg (by rcases h3 with h | h <;> simp [h])]
theorem exCr1 : rackC [[1, 1], [1]] = 22 := rackC_no (by decide +kernel) (by decide +kernel) (.inr (incB_no fun h => by have := (h 1 (by decide) 0 (by decide)).2 (by decide); revert this; decide +kernel))
theorem exCr2 : rackC [[2, 1]] = 22 := rackC_no (by decide +kernel) (by decide +kernel) (.inr (incB_no fun h => by have := (h 0 (by decide) 1 (by decide)).1 (by decide); revert this; decide +kernel))
theorem exCr3 : rackC [[1], [2, 2]] = 22 := rackC_no (by decide +kernel) (by decide +kernel) (.inl (shB_no fun h => by have := (h 1 (by decide)).2 (by decide); revert this; decide +kernel))
theorem exCo1 : orderC [[1, 3], [3]] = 11 := by
  unfold orderC
  rw [if_neg (by decide +kernel), if_neg (by decide +kernel), if_pos (by decide +kernel)]
theorem exCo2 : orderC [[1, 2], [3]] = 0 := orderC_built (s := [2, 3, 1]) (by decide +kernel) (by decide +kernel)
instance (l : List Int) (n : Int) (k : Nat) : Decidable (LisTo l n k) := by unfold LisTo; exact inferInstance
instance (s l : List Int) (k : Nat) : Decidable (RisTo s l k) := by
  unfold RisTo
  exact decidable_of_iff (∀ i, i < k → 0 < i → elt s (elt l (i - 1)).toNat ≤ elt s (elt l i).toNat) ⟨fun h i h0 hk => h i hk h0, fun h i hk h0 => h i h0 hk⟩
instance (R : List (List Int)) (k : Nat) : Decidable (NilTo R k) := by unfold NilTo; exact inferInstance
instance (s : List Int) (R : List (List Int)) : Decidable (Fal s R) := by unfold Fal FalAt; exact inferInstance
instance (l : List Int) (k : Nat) : Decidable (DecTo l k) := by
  unfold DecTo
  exact decidable_of_iff (∀ i, i < k → 0 < i → elt l i ≤ elt l (i - 1)) ⟨fun h i h0 hk => h i hk h0, fun h i hk h0 => h i h0 hk⟩
theorem bool_no {b : Bool} {p : Prop} (h : b = true ↔ p) (hp : ¬ p) : b = false := by cases e : b <;> simp_all
theorem exRis (run : List Int) (h1 : LisTo run 4 run.length) (h2 : RisTo exS run run.length) : risE exS run = ((run.length : Int), 0) := by
  unfold risE
  rw [if_neg (by decide +kernel), show lisB run ((exS.length : Nat) : Int) = true from (lisB_iff run _).2 h1, if_neg (by simp), if_pos ((risB_iff exS run).2 h2)]
theorem exRis2 : risE exS [0, 1] = (0, 22) := by
  unfold risE
  rw [if_neg (by decide +kernel), show lisB [0, 1] ((exS.length : Nat) : Int) = true from (lisB_iff [0, 1] _).2 (by decide +kernel), if_neg (by simp), bool_no (risB_iff exS [0, 1]) (by decide +kernel), if_neg (by simp)]
theorem exFal (R : List (List Int)) (h0 : R.flatten.any (outB 0 3) = false) (h1 : NilTo R R.length) (h2 : R.flatten.Nodup) (h3 : R.flatten.length = 4) (h4 : Fal exS R) : falE exS R = ((R.length : Int), 0) := by
  unfold falE
  rw [if_neg (by decide +kernel), show ((exS.length : Int) - 1) = 3 from rfl, h0, if_neg (by simp), (fullB_iff R).2 h1, (falB_iff exS R).2 h4, if_pos (by simp [h2, h3])]
  rfl
theorem exFal2 : falE exS [[0, 1], [2]] = (0, 15) := by
  unfold falE
  rw [if_neg (by decide +kernel), if_neg (by decide +kernel), show decide (([[0, 1], [2]] : List (List Int)).flatten.length = exS.length) = false by decide +kernel, Bool.and_false, if_neg (by simp)]
theorem exFal3 : falE exS [[0, 1, 2], [3]] = (0, 22) := by
  unfold falE
  rw [if_neg (by decide +kernel), if_neg (by decide +kernel), (fullB_iff [[0, 1, 2], [3]]).2 (by decide +kernel), if_pos (by decide +kernel), bool_no (falB_iff exS [[0, 1, 2], [3]]) (by decide +kernel), if_neg (by simp)]
theorem exRising : risingE exS = ([1, 2], 0) := by decide +kernel
theorem exFalls : fallsE exS = ([[0, 1], [2, 3]], 0) := by decide +kernel
theorem shapeC_yes {l : List Int} (h1 : l.any (outB 1 12) = false) (h2 : sumL l ≤ 12) (h3 : DecTo l l.length) : shapeC l = 0 := by
  unfold shapeC
  rw [h1, if_neg (by simp), if_neg (by omega), if_pos ((decB_iff l).2 h3)]
theorem exHooks : hooksE [3, 1] = ([[4, 2, 1], [1]], 0) := by
  unfold hooksE
  rw [shapeC_yes (by decide +kernel) (by decide +kernel) (by decide +kernel), if_neg (by simp)]
  decide +kernel
theorem exCount (l : List Int) (n : Int) (h1 : l.any (outB 1 12) = false) (h2 : sumL l ≤ 12) (h3 : DecTo l l.length) (h4 : pC l = n) : countE l = (n, 0) := by
  unfold countE
  rw [shapeC_yes h1 h2 h3, if_neg (by simp), h4]
theorem exCount1 : countE [3, 1] = (3, 0) := exCount _ _ (by decide +kernel) (by decide +kernel) (by decide +kernel) (by decide +kernel)
theorem exCount2 : countE [1, 2] = (0, 22) := by
  have : shapeC [1, 2] = 22 := by
    unfold shapeC
    rw [if_neg (by decide +kernel), if_neg (by decide +kernel), bool_no (decB_iff [1, 2]) (by decide +kernel), if_neg (by simp)]
  unfold countE
  rw [this, if_pos (by simp)]
theorem exCount3 : countE [2, 2] = (2, 0) := exCount _ _ (by decide +kernel) (by decide +kernel) (by decide +kernel) (by decide +kernel)
theorem exCount4 : countE [] = (1, 0) := exCount _ _ (by decide +kernel) (by decide +kernel) (by decide +kernel) (by decide +kernel)
theorem exCount5 : countE [12, 1] = (0, 6) := by
  have : shapeC [12, 1] = 6 := by
    unfold shapeC
    rw [if_neg (by decide +kernel), if_pos (by decide +kernel)]
  unfold countE
  rw [this, if_pos (by simp)]
/-- Rows that are written out, two or three of them. -/
theorem rows_two (w : World) (x y : List Int) (hx : x.length ≤ 1000) (hy : y.length ≤ 1000) : ∃ w', ((w.alloc (.cells (arrI x) 3)).alloc (.cells (arrI y) 3)).alloc (.cells #[.slice (some ⟨w.heap.size, 0, none⟩) x.length x.length, .slice (some ⟨w.heap.size + 1, 0, none⟩) y.length y.length] 31) = w' ∧
    RdLL w' (.slice (some ⟨w.heap.size + 1 + 1, 0, none⟩) 2 2) [x, y] ∧ Below w.heap.size w w' := by
  refine ⟨_, rfl, ?_, bal (bal (bal (bz w) _) _) _⟩
  have r1 := rdI_at w x 3 w.heap.size rfl hx
  have r2 := rdI_at (w.alloc (.cells (arrI x) 3)) y 3 (w.heap.size + 1) (by simp) hy
  exact rdLL_at _ [_, _] [x, y] (w.heap.size + 1 + 1) (by simp) rfl (by simp) (fun i e he => by
    match i with
    | 0 => simp at he; subst he; exact r1.mono (bal (bz _) _)
    | 1 => simp at he; subst he; exact r2
    | n + 2 => simp at he)
theorem rows_three (w : World) (x y z : List Int) (hx : x.length ≤ 1000) (hy : y.length ≤ 1000) (hz : z.length ≤ 1000) : ∃ w', (((w.alloc (.cells (arrI x) 3)).alloc (.cells (arrI y) 3)).alloc (.cells (arrI z) 3)).alloc (.cells #[.slice (some ⟨w.heap.size, 0, none⟩) x.length x.length, .slice (some ⟨w.heap.size + 1, 0, none⟩) y.length y.length, .slice (some ⟨w.heap.size + 1 + 1, 0, none⟩) z.length z.length] 31) = w' ∧
    RdLL w' (.slice (some ⟨w.heap.size + 1 + 1 + 1, 0, none⟩) 3 3) [x, y, z] ∧ Below w.heap.size w w' := by
  refine ⟨_, rfl, ?_, bal (bal (bal (bal (bz w) _) _) _) _⟩
  have r1 := rdI_at w x 3 w.heap.size rfl hx
  have r2 := rdI_at (w.alloc (.cells (arrI x) 3)) y 3 (w.heap.size + 1) (by simp) hy
  have r3 := rdI_at ((w.alloc (.cells (arrI x) 3)).alloc (.cells (arrI y) 3)) z 3 (w.heap.size + 1 + 1) (by simp) hz
  exact rdLL_at _ [_, _, _] [x, y, z] (w.heap.size + 1 + 1 + 1) (by simp) rfl (by simp) (fun i e he => by
    match i with
    | 0 => simp at he; subst he; exact (r1.mono (bal (bz _) _)).mono (bal (bz _) _)
    | 1 => simp at he; subst he; exact r2.mono (bal (bz _) _)
    | 2 => simp at he; subst he; exact r3
    | n + 3 => simp at he)
theorem rows_one (w : World) (x : List Int) (hx : x.length ≤ 1000) : ∃ w', (w.alloc (.cells (arrI x) 3)).alloc (.cells #[.slice (some ⟨w.heap.size, 0, none⟩) x.length x.length] 31) = w' ∧
    RdLL w' (.slice (some ⟨w.heap.size + 1, 0, none⟩) 1 1) [x] ∧ Below w.heap.size w w' := by
  refine ⟨_, rfl, ?_, bal (bal (bz w) _) _⟩
  have r1 := rdI_at w x 3 w.heap.size rfl hx
  exact rdLL_at _ [_] [x] (w.heap.size + 1) (by simp) rfl (by simp) (fun i e he => by
    match i with
    | 0 => simp at he; subst he; exact r1
    | n + 1 => simp at he)
theorem ints_one (w : World) (x : List Int) (hx : x.length ≤ 1000) : ∃ w', w.alloc (.cells (arrI x) 3) = w' ∧ RdI w' .i64 (.slice (some ⟨w.heap.size, 0, none⟩) x.length x.length) x ∧ Below w.heap.size w w' :=
  ⟨_, rfl, rdI_at w x 3 w.heap.size rfl hx, bal (bz w) _⟩
end Go.Proofs.Ytnnfahdhmodejaa
