/- Plain: the wants in the other order; reamers with other numbers. -/
import Derived.Test.YtjajdpggoggoiaaH5
namespace Go.Proofs.Ytjajdpggoggoiaa
open Go.RowKit Go.Shelf
theorem pause_iff {W : List Int} {a b : Nat} (hab : a < b) (hb : b < W.length) : pauseB W a b = true ↔ want W b = want W a ∧ ∀ k, a < k → k < b → want W k ≠ want W b := by
  unfold pauseB
  rw [Bool.and_eq_true, decide_eq_true_eq, soleB_iff hab hb]
theorem prov_last {R : Int} {W : List Int} (hl : W.length ≤ 1000) (T : List Int) : provN R W T = (W.length : Int) - (T.length : Int) * (R - 1) - freeN T (lastL W W.length) := by
  unfold provN; rw [free_same hl]
/-- Fewest is no greater where times prove as much. -/
theorem few_of_prov {R : Int} {W V : List Int} (hd : OkD R W) (hv : OkD R V)
    (h : ∀ X : List Nat, X.Pairwise (· < ·) → (∀ t ∈ X, t < W.length) → ∃ Y : List Nat, Y.Pairwise (· < ·) ∧ (∀ t ∈ Y, t < V.length) ∧ provN R V (nl Y) = provN R W (nl X)) : fewN R W ≤ fewN R V := by
  obtain ⟨X, x1, x2, x3⟩ := prov_most hd
  obtain ⟨Y, y1, y2, y3⟩ := h X x1 x2
  have := prov_le hv (nat_okT (n := V.length) y1 (fun t ht => by have := y2 t ht; omega) (fun t _ => by omega))
  unfold fewN
  omega
/-- Pauses that a map carries over. -/
theorem free_map {W V : List Int} {X Y : List Nat} (f : Int × Int → Int × Int) (hf : ∀ p ∈ lastL W W.length, ∀ q ∈ lastL W W.length, f p = f q → p = q)
    (h1 : ∀ p, p ∈ lastL W W.length → freeP (nl X) p = true → f p ∈ lastL V V.length ∧ freeP (nl Y) (f p) = true)
    (h2 : ∀ q, q ∈ lastL V V.length → freeP (nl Y) q = true → ∃ p, p ∈ lastL W W.length ∧ freeP (nl X) p = true ∧ f p = q) : freeN (nl Y) (lastL V V.length) = freeN (nl X) (lastL W W.length) := by
  unfold freeN
  congr 1
  have el : (((lastL W W.length).filter (freeP (nl X))).map f).length = ((lastL W W.length).filter (freeP (nl X))).length := List.length_map _
  rw [← el]
  refine nodup_len _ _ ((nodup_lastL V _).filter _) ?_ fun q => ?_
  · have hn := (nodup_lastL W W.length).filter (freeP (nl X))
    rw [List.Nodup, List.pairwise_map]
    refine (List.Pairwise.and_mem.1 hn).imp fun {p q} h e => h.2.2 (hf p (List.mem_filter.1 h.1).1 q (List.mem_filter.1 h.2.1).1 e)
  · simp only [List.mem_filter, List.mem_map]
    constructor
    · rintro ⟨g1, g2⟩
      obtain ⟨p, p1, p2, p3⟩ := h2 q g1 g2
      exact ⟨p, ⟨p1, p2⟩, p3⟩
    · rintro ⟨p, ⟨p1, p2⟩, rfl⟩
      exact h1 p p1 p2
theorem want_rev {W : List Int} {i : Nat} (hi : i < W.length) : want W.reverse i = want W (W.length - 1 - i) := by
  unfold want
  rw [List.getElem?_reverse hi]
theorem pause_rev {W : List Int} {a b : Nat} (hab : a < b) (hb : b < W.length) : pauseB W a b = true ↔ pauseB W.reverse (W.length - 1 - b) (W.length - 1 - a) = true := by
  have hl : W.reverse.length = W.length := List.length_reverse
  rw [pause_iff hab hb, pause_iff (by omega) (by omega), want_rev (by omega), want_rev (by omega), show W.length - 1 - (W.length - 1 - a) = a by omega, show W.length - 1 - (W.length - 1 - b) = b by omega]
  constructor
  · rintro ⟨h1, h2⟩
    refine ⟨h1.symm, fun k k1 k2 => ?_⟩
    rw [want_rev (by omega), ← h1]
    exact h2 _ (by omega) (by omega)
  · rintro ⟨h1, h2⟩
    refine ⟨h1.symm, fun k k1 k2 => ?_⟩
    have := h2 (W.length - 1 - k) (by omega) (by omega)
    rw [want_rev (by omega), show W.length - 1 - (W.length - 1 - k) = k by omega, h1] at this
    exact this
theorem okD_rev {R : Int} {W : List Int} (hd : OkD R W) : OkD R W.reverse := ⟨hd.r1, hd.r6, by rw [List.length_reverse]; exact hd.l16, fun x hx => hd.ok x (List.mem_reverse.1 hx)⟩
theorem few_rev_le {R : Int} {W : List Int} (hd : OkD R W) : fewN R W ≤ fewN R W.reverse := by
  have h16 := hd.l16
  have hl : W.reverse.length = W.length := List.length_reverse
  refine few_of_prov hd (okD_rev hd) fun X x1 x2 => ⟨(X.map fun t => W.length - 1 - t).reverse, ?_, fun t ht => ?_, ?_⟩
  · rw [List.pairwise_reverse, List.pairwise_map]
    exact (List.Pairwise.and_mem.1 x1).imp fun {p q} h => by have := x2 p h.1; have := x2 q h.2.1; have := h.2.2; omega
  · obtain ⟨s, hs, rfl⟩ := List.mem_map.1 (List.mem_reverse.1 ht)
    have := x2 s hs
    omega
  · rw [prov_last (by omega), prov_last (by omega), hl, nl_len, nl_len, List.length_reverse, List.length_map]
    congr 1
    have e : freeN (nl (X.map fun t => W.length - 1 - t).reverse) (lastL W.reverse W.reverse.length) = freeN (nl X) (lastL W W.length) := by
      refine free_map (fun p => ((W.length : Int) - 1 - p.2, (W.length : Int) - 1 - p.1)) (fun p _ q _ e => ?_) (fun p hp hf => ?_) (fun q hq hf => ?_)
      · simp only [Prod.mk.injEq] at e
        exact Prod.ext (by omega) (by omega)
      · obtain ⟨a, b, g1, g2, g3, rfl⟩ := mem_lastL.1 hp
        have e1 : ((W.length : Int) - 1 - (b : Int), (W.length : Int) - 1 - (a : Int)) = (((W.length - 1 - b : Nat) : Int), ((W.length - 1 - a : Nat) : Int)) := by
          congr 1 <;> omega
        simp only
        rw [e1]
        refine ⟨mem_lastL.2 ⟨_, _, by omega, by omega, (pause_rev g1 g2).1 g3, rfl⟩, freeP_iff.2 fun t ht => ?_⟩
        obtain ⟨s, hs, rfl⟩ := List.mem_map.1 (List.mem_reverse.1 ht)
        have := freeP_iff.1 hf s hs
        have := x2 s hs
        omega
      · obtain ⟨a, b, g1, g2, g3, rfl⟩ := mem_lastL.1 hq
        rw [hl] at g2
        refine ⟨(((W.length - 1 - b : Nat) : Int), ((W.length - 1 - a : Nat) : Int)), mem_lastL.2 ⟨_, _, by omega, by omega, ?_, rfl⟩, freeP_iff.2 fun t ht => ?_, ?_⟩
        · rw [pause_rev (by omega) (by omega), show W.length - 1 - (W.length - 1 - a) = a by omega, show W.length - 1 - (W.length - 1 - b) = b by omega]; exact g3
        · have := x2 t ht
          have := freeP_iff.1 hf (W.length - 1 - t) (List.mem_reverse.2 (List.mem_map.2 ⟨t, ht, rfl⟩))
          omega
        · simp only [Prod.mk.injEq]; omega
    rw [hl] at e
    exact e
theorem few_rev {R : Int} {W : List Int} (hd : OkD R W) : fewN R W.reverse = fewN R W := by
  refine Int.le_antisymm ?_ (few_rev_le hd)
  have := few_rev_le (okD_rev hd)
  rwa [List.reverse_reverse] at this
/-- The next number, round 8. -/
def rot1 (x : Int) : Int := 1 + x % 8
def rotL (W : List Int) : List Int := W.map rot1
theorem rotL_len (W : List Int) : (rotL W).length = W.length := List.length_map _
theorem rot_inj {x y : Int} (hx : 1 ≤ x ∧ x ≤ 8) (hy : 1 ≤ y ∧ y ≤ 8) : rot1 x = rot1 y ↔ x = y := by unfold rot1; omega
theorem rot_bd (x : Int) : 1 ≤ rot1 x ∧ rot1 x ≤ 8 := by unfold rot1; omega
theorem want_rot {W : List Int} {i : Nat} (hi : i < W.length) : want (rotL W) i = rot1 (want W i) := by unfold want rotL; simp [hi]
theorem okD_rot {R : Int} {W : List Int} (hd : OkD R W) : OkD R (rotL W) := ⟨hd.r1, hd.r6, by rw [rotL_len]; exact hd.l16, fun x hx => by
  obtain ⟨y, _, rfl⟩ := List.mem_map.1 hx; exact rot_bd y⟩
theorem want_same {R : Int} {W : List Int} (hd : OkD R W) {i j : Nat} (hi : i < W.length) (hj : j < W.length) : want (rotL W) i = want (rotL W) j ↔ want W i = want W j := by
  rw [want_rot hi, want_rot hj, rot_inj (hd.at hi) (hd.at hj)]
theorem pause_rot {R : Int} {W : List Int} (hd : OkD R W) {a b : Nat} (hab : a < b) (hb : b < W.length) : pauseB (rotL W) a b = true ↔ pauseB W a b = true := by
  rw [pause_iff hab hb, pause_iff hab (by rw [rotL_len]; exact hb), want_same hd hb (by omega)]
  constructor
  · rintro ⟨h1, h2⟩
    exact ⟨h1, fun k k1 k2 e => h2 k k1 k2 ((want_same hd (by omega) hb).2 e)⟩
  · rintro ⟨h1, h2⟩
    exact ⟨h1, fun k k1 k2 e => h2 k k1 k2 ((want_same hd (by omega) hb).1 e)⟩
theorem prov_rot {R : Int} {W : List Int} (hd : OkD R W) (X : List Nat) : provN R (rotL W) (nl X) = provN R W (nl X) := by
  have h16 := hd.l16
  rw [prov_last (by rw [rotL_len]; omega), prov_last (by omega), rotL_len]
  congr 1
  have e : freeN (nl X) (lastL (rotL W) (rotL W).length) = freeN (nl X) (lastL W W.length) := by
    refine free_map id (fun p _ q _ e => e) (fun p hp hf => ⟨?_, hf⟩) (fun q hq hf => ⟨q, ?_, hf, rfl⟩)
    · obtain ⟨a, b, g1, g2, g3, rfl⟩ := mem_lastL.1 hp
      exact mem_lastL.2 ⟨a, b, g1, by rw [rotL_len]; exact g2, (pause_rot hd g1 g2).2 g3, rfl⟩
    · obtain ⟨a, b, g1, g2, g3, rfl⟩ := mem_lastL.1 hq
      rw [rotL_len] at g2
      exact mem_lastL.2 ⟨a, b, g1, g2, (pause_rot hd g1 g2).1 g3, rfl⟩
  rw [rotL_len] at e
  exact e
theorem few_rot {R : Int} {W : List Int} (hd : OkD R W) : fewN R (rotL W) = fewN R W := by
  refine Int.le_antisymm (few_of_prov (okD_rot hd) hd fun X x1 x2 => ⟨X, x1, fun t ht => by have := x2 t ht; rwa [rotL_len] at this, (prov_rot hd X).symm⟩) (few_of_prov hd (okD_rot hd) fun X x1 x2 => ⟨X, x1, fun t ht => by rw [rotL_len]; exact x2 t ht, prov_rot hd X⟩)
theorem mem_rot {l : List Int} (hl : ∀ x ∈ l, 1 ≤ x ∧ x ≤ 8) {q : Int} (hq : 1 ≤ q ∧ q ≤ 8) : rot1 q ∈ l.map rot1 ↔ q ∈ l := by
  rw [List.mem_map]
  constructor
  · rintro ⟨x, hx, e⟩; rw [← (rot_inj (hl x hx) hq).1 e]; exact hx
  · intro h; exact ⟨q, h, rfl⟩
theorem without_rot {l : List Int} (hl : ∀ x ∈ l, 1 ≤ x ∧ x ≤ 8) {q : Int} (hq : 1 ≤ q ∧ q ≤ 8) : withoutL (l.map rot1) (rot1 q) = (withoutL l q).map rot1 := by
  unfold withoutL
  rw [List.filter_map]
  congr 1
  refine List.filter_congr fun x hx => ?_
  have := rot_inj (hl x hx) hq
  simp only [Function.comp]
  by_cases h : x = q
  · simp [h]
  · have h2 : rot1 x ≠ rot1 q := fun e => h (this.1 e)
    exact (bne_iff_ne.2 h2).trans (bne_iff_ne.2 h).symm
theorem run_rot {R rule : Int} {W : List Int} (hd : OkD R W) (hr : rule ≠ 3) : ∀ k, k ≤ W.length → (runK R rule (rotL W) k).list = (runK R rule W k).list.map rot1 ∧ (runK R rule (rotL W) k).fet = (runK R rule W k).fet
  | 0, _ => ⟨rfl, rfl⟩
  | k + 1, hk => by
    obtain ⟨i1, i2⟩ := run_rot hd hr k (by omega)
    have hok := run_ok (rule := rule) hd k (by omega)
    have hw := hd.at (show k < W.length by omega)
    have eL : runL R rule (rotL W) k = (runL R rule W k).map rot1 := i1
    have eW := want_rot (W := W) (i := k) (by omega)
    rw [runK_succ, runK_succ, eL, eW, List.length_map]
    by_cases h1 : want W k ∈ runL R rule W k
    · rw [if_pos h1, if_pos ((mem_rot hok.bd hw).2 h1)]
      refine ⟨?_, i2⟩
      by_cases h2 : rule = 2
      · simp only [h2, if_true]
        rw [h2] at hok
        rw [without_rot hok.bd hw, List.map_append]; rfl
      · simp only [h2, if_false]
    · rw [if_neg h1, if_neg fun h => h1 ((mem_rot hok.bd hw).1 h)]
      by_cases h2 : ((runL R rule W k).length : Int) = R
      · rw [if_pos h2, if_pos h2]
        refine ⟨?_, by simp only [i2]⟩
        have hp : 0 < (runL R rule W k).length := by have := hd.r1; omega
        have ea : awayD (rotL W) rule ((runL R rule W k).map rot1) k = rot1 (awayD W rule (runL R rule W k) k) := by
          unfold awayD
          rw [if_neg hr, if_neg hr]
          simp [hp]
        have hm : awayD W rule (runL R rule W k) k ∈ runL R rule W k := by
          unfold awayD
          rw [if_neg hr, List.getElem?_eq_getElem hp]; exact List.getElem_mem hp
        simp only
        rw [ea, without_rot hok.bd (hok.bd _ hm), List.map_append]; rfl
      · rw [if_neg h2, if_neg h2]
        refine ⟨?_, by simp only [i2]⟩
        simp only
        rw [List.map_append]; rfl
theorem fet_rot {R rule : Int} {W : List Int} (hd : OkD R W) (hr : rule ≠ 3) : fetR R rule (rotL W) = fetR R rule W := by
  unfold fetR
  rw [rotL_len]
  exact (run_rot hd hr _ (Nat.le_refl _)).2
def rotS (S : Nat) : Nat := S % 256 * 2 + S / 256 * 2
theorem rs_set : ∀ S, S < 512 → bitN S 0 = 0 → rotS S < 512 ∧ bitN (rotS S) 0 = 0 ∧ sumL (onOf (rotS S)) = sumL (onOf S) := by decide +kernel
theorem rs_bit : ∀ S, S < 512 → ∀ q, q < 9 → (1 ≤ q ∧ bitN S 0 = 0) → bitN (rotS S) (1 + q % 8) = bitN S q := by decide +kernel
theorem rs_or : ∀ S, S < 512 → ∀ q, q < 9 → (1 ≤ q ∧ bitN S 0 = 0) → rotS (S ||| 2 ^ q) = rotS S ||| 2 ^ (1 + q % 8) := by decide +kernel
theorem rs_sub : ∀ S, S < 512 → ∀ q, q < 9 → (1 ≤ q ∧ bitN S 0 = 0 ∧ bitN S q = 1) → rotS (S - 2 ^ q) = rotS S - 2 ^ (1 + q % 8) ∧ S - 2 ^ q < 512 ∧ bitN (S - 2 ^ q) 0 = 0 := by decide +kernel
theorem after_rot {R : Int} {S q l : Nat} (h : SetR R S) (q1 : 1 ≤ q) (q9 : q < 9) (hl : l ∈ afterN R S q) : rotS l ∈ afterN R (rotS S) (1 + q % 8) := by
  obtain ⟨_, _, s3⟩ := rs_set S h.lt h.none
  unfold afterN at hl ⊢
  rw [rs_bit S h.lt q q9 ⟨q1, h.none⟩, s3]
  by_cases hb : bitN S q = 1
  · rw [if_pos hb] at hl ⊢
    simp at hl ⊢; rw [hl]
  · rw [if_neg hb] at hl ⊢
    by_cases hs : sumL (onOf S) < R
    · rw [if_pos hs] at hl ⊢
      simp at hl ⊢; rw [hl, rs_or S h.lt q q9 ⟨q1, h.none⟩]
    · rw [if_neg hs] at hl ⊢
      rw [mem_swapK] at hl ⊢
      obtain ⟨p, p1, p9, pb, rfl⟩ := hl
      obtain ⟨e1, e2, e3⟩ := rs_sub S h.lt p p9 ⟨p1, h.none, pb⟩
      exact ⟨1 + p % 8, by omega, by omega, by rw [rs_bit S h.lt p p9 ⟨p1, h.none⟩]; exact pb, by rw [rs_or _ e2 q q9 ⟨q1, e3⟩, e1]⟩
theorem rot_nat {x : Int} (hx : 1 ≤ x ∧ x ≤ 8) : (rot1 x).toNat = 1 + x.toNat % 8 := by unfold rot1; omega
theorem may_rot {R : Int} {W : List Int} (hd : OkD R W) {p b : Nat} (hp : p < W.length) (h : MayB R W p b) : MayB R (rotL W) p b := by
  obtain ⟨T, hT, hc, hb⟩ := h
  have hbit : ∀ i, i < W.length → bitN (rotS (T i)) (want (rotL W) i).toNat = bitN (T i) (want W i).toNat := fun i hi => by
    have hs := hT.set hd i (by omega)
    have hw := hd.at hi
    rw [want_rot hi, rot_nat hw, rs_bit _ hs.lt _ (by omega) ⟨by omega, hs.none⟩]
  have hcost : ∀ k, k ≤ W.length → costS (rotL W) (fun i => rotS (T i)) k = costS W T k := by
    intro k
    induction k with
    | zero => intro _; rfl
    | succ k ih =>
      intro hk
      unfold costS
      rw [ih (by omega), hbit k (by omega)]
  refine ⟨fun i => rotS (T i), ⟨by simp only [hT.zero]; rfl, fun i hi => ?_⟩, ?_, ?_⟩
  · rw [rotL_len] at hi
    have hs := hT.set hd i (by omega)
    have hw := hd.at hi
    rw [want_rot hi, rot_nat hw]
    exact after_rot hs (by omega) (by omega) (hT.next i hi)
  · rw [rotL_len, hcost _ (Nat.le_refl _), hc]
    have := few_rot hd
    unfold fewN at this
    rw [rotL_len] at this
    exact this.symm
  · rw [hbit p hp]; exact hb
def rotK : Nat → List Int → List Int
  | 0, W => W
  | k + 1, W => rotL (rotK k W)
theorem rotK_len (W : List Int) : ∀ k, (rotK k W).length = W.length
  | 0 => rfl
  | k + 1 => by unfold rotK; rw [rotL_len, rotK_len W k]
theorem rotK_ok {R : Int} {W : List Int} (hd : OkD R W) : ∀ k, OkD R (rotK k W)
  | 0 => hd
  | k + 1 => okD_rot (rotK_ok hd k)
theorem rotK_add (W : List Int) (a : Nat) : ∀ b, rotK b (rotK a W) = rotK (a + b) W
  | 0 => rfl
  | b + 1 => by show rotL (rotK b (rotK a W)) = rotL (rotK (a + b) W); rw [rotK_add W a b]
theorem rotK_map {R : Int} {W : List Int} (hd : OkD R W) : ∀ k, rotK k W = W.map fun x => 1 + (x - 1 + (k : Int)) % 8
  | 0 => by
    show W = _
    refine (List.map_id W).symm.trans (List.map_congr_left fun x hx => ?_)
    have := hd.ok x hx
    show x = _
    omega
  | k + 1 => by
    show rotL (rotK k W) = _
    rw [rotK_map hd k]
    unfold rotL
    rw [List.map_map]
    refine List.map_congr_left fun x hx => ?_
    show rot1 (1 + (x - 1 + (k : Int)) % 8) = _
    unfold rot1
    omega
theorem rotK_8 {R : Int} {W : List Int} (hd : OkD R W) : rotK 8 W = W := by
  rw [rotK_map hd]
  refine (List.map_congr_left fun x hx => ?_).trans (List.map_id W)
  have := hd.ok x hx
  show _ = x
  omega
theorem may_rotK {R : Int} {W : List Int} (hd : OkD R W) {p b : Nat} (hp : p < W.length) (h : MayB R W p b) : ∀ k, MayB R (rotK k W) p b
  | 0 => h
  | k + 1 => may_rot (rotK_ok hd k) (by rw [rotK_len]; exact hp) (may_rotK hd hp h k)
theorem may_iff {R : Int} {W : List Int} (hd : OkD R W) {p b k : Nat} (hp : p < W.length) (hk : k ≤ 8) : MayB R (rotK k W) p b ↔ MayB R W p b := by
  refine ⟨fun h => ?_, fun h => may_rotK hd hp h k⟩
  have := may_rotK (rotK_ok hd k) (by rw [rotK_len]; exact hp) h (8 - k)
  rw [rotK_add, show k + (8 - k) = 8 by omega, rotK_8 hd] at this
  exact this
theorem kind_rotK {R : Int} {W : List Int} (hd : OkD R W) {p k : Nat} (hp : p < W.length) (hk : k ≤ 8) : kindD R (rotK k W) p = kindD R W p := by
  have h1 := kindD_is (rotK_ok hd k) (p := p) (by rw [rotK_len]; exact hp)
  have h2 := kindD_is hd hp
  refine KindIs.one (R := R) (W := W) (p := p) ?_ h2
  unfold KindIs at h1 ⊢
  simpa only [may_iff hd hp hk] using h1
theorem few_rotK {R : Int} {W : List Int} (hd : OkD R W) : ∀ k, fewN R (rotK k W) = fewN R W
  | 0 => rfl
  | k + 1 => (few_rot (rotK_ok hd k)).trans (few_rotK hd k)
theorem fet_rotK {R rule : Int} {W : List Int} (hd : OkD R W) (hr : rule ≠ 3) : ∀ k, fetR R rule (rotK k W) = fetR R rule W
  | 0 => rfl
  | k + 1 => (fet_rot (rotK_ok hd k) hr).trans (fet_rotK hd hr k)
end Go.Proofs.Ytjajdpggoggoiaa
