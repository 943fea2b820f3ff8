/- Plain facts: the mirror of a row has as many images, the same needless valves and rounds. -/
import Derived.Test.YtdnaipiiponhpaaP6
import Derived.Test.YtdnaipiiponhpaaP8
namespace Go.Proofs.Ytdnaipiiponhpaa

/-- A pattern from its other end, with 0 and 1 exchanged. -/
def flipB (l : List Int) : List Int := (oppL l).map fun x => x + 1
theorem flipB_len (l : List Int) : (flipB l).length = l.length := by simp [flipB, oppL_len]
theorem flipB_get (l : List Int) (j : Nat) (h : j < l.length) : (flipB l)[j]?.getD 0 = 1 - l[l.length - 1 - j]?.getD 0 := by
  unfold flipB
  rw [getD_map _ _ _ (by rw [oppL_len]; exact h), oppL_get l j h]; omega
theorem flipB_bits {l : List Int} (h : Bits l) : Bits (flipB l) := by
  intro x hx
  unfold flipB oppL at hx
  simp only [List.mem_map, List.mem_reverse] at hx
  obtain ⟨y, ⟨z, hz, rfl⟩, rfl⟩ := hx
  rcases h z hz with rfl | rfl <;> simp
theorem flipB_flip (l : List Int) : flipB (flipB l) = l := by
  refine ext_getD (by rw [flipB_len, flipB_len]) fun i hi => ?_
  rw [flipB_len, flipB_len] at hi
  rw [flipB_get _ _ (by rw [flipB_len]; exact hi), flipB_len, flipB_get _ _ (by omega), show l.length - 1 - (l.length - 1 - i) = i by omega]
  omega
theorem run_flip (V : List (Int × Int)) (l : List Int) (h : OkV l.length V) (hM : OkV l.length (V.map (mirrorOne l.length))) : runV (V.map (mirrorOne l.length)) (flipB l) = flipB (runV V l) := by
  unfold flipB
  rw [runV_map _ (fun x y h => by simpa using h) _ _ (by rw [oppL_len]; exact hM), run_mirror V l h]
theorem mirror_ok {n : Nat} {V : List (Int × Int)} (h : OkV n V) : OkV n (V.map (mirrorOne n)) := by
  intro v hv
  obtain ⟨u, hu, rfl⟩ := List.mem_map.1 hv
  obtain ⟨h1, h2, h3⟩ := h u hu
  simp only [mirrorOne]; omega
theorem mirror_twice (n : Int) (V : List (Int × Int)) : (V.map (mirrorOne n)).map (mirrorOne n) = V := by
  rw [List.map_map]
  have : (mirrorOne n ∘ mirrorOne n) = id := by
    funext v; obtain ⟨a, b⟩ := v; simp only [Function.comp, mirrorOne, id]; ext <;> simp only <;> omega
  rw [this, List.map_id]
theorem sorted_of_le {l : List Int} (h : ∀ i, i + 1 < l.length → l[i]?.getD 0 ≤ l[i + 1]?.getD 0) : sortedB l = true := by
  match l with
  | [] => rfl
  | [_] => rfl
  | x :: y :: l =>
    have h0 := h 0 (by simp)
    simp only [List.getElem?_cons_zero, List.getElem?_cons_succ, Option.getD_some] at h0
    unfold sortedB
    rw [Bool.and_eq_true]
    exact ⟨by simpa using h0, sorted_of_le fun i hi => by have := h (i + 1) (by simpa using hi); simpa using this⟩
theorem sorted_flip {l : List Int} (h : sortedB l = true) : sortedB (flipB l) = true := by
  refine sorted_of_le fun i hi => ?_
  rw [flipB_len] at hi
  rw [flipB_get l _ (by omega), flipB_get l _ hi]
  have := sorted_le h (l.length - 1 - (i + 1)) (l.length - 1 - i) (by omega) (by omega)
  omega
theorem mirror_sorts1 {n : Nat} {V : List (Int × Int)} (h : OkV n V) (hs : patOf n V = none) : patOf n (V.map (mirrorOne n)) = none := by
  rw [patOf_none] at hs ⊢
  intro t ht
  have hl : (bitsOf n t).length = n := bitsOf_len n t
  have e := flipB_flip (bitsOf n t)
  have hf : (flipB (bitsOf n t)).length = n := by rw [flipB_len, hl]
  have hr := run_flip V (flipB (bitsOf n t)) (by rw [hf]; exact h) (by rw [hf]; exact mirror_ok h)
  rw [hf, e] at hr
  rw [hr]
  refine sorted_flip ?_
  exact zero_one h hs _ hf
theorem mirror_sorts {n : Nat} {V : List (Int × Int)} (h : OkV n V) : (patOf n (V.map (mirrorOne n))).isSome = (patOf n V).isSome := by
  cases h1 : patOf n V with
  | none => rw [mirror_sorts1 h h1]
  | some t =>
    cases h2 : patOf n (V.map (mirrorOne n)) with
    | some s => rfl
    | none =>
      have := mirror_sorts1 (mirror_ok h) h2
      rw [mirror_twice, h1] at this
      cases this
theorem mirror_img1 {n : Nat} {V : List (Int × Int)} (h : OkV n V) : (rimgs n (V.map (mirrorOne n)) (2 ^ n)).length ≤ (rimgs n V (2 ^ n)).length := by
  have := nodup_le (rimgs n (V.map (mirrorOne n)) (2 ^ n)) ((rimgs n V (2 ^ n)).map flipB) (by unfold rimgs; exact nodup_once _) fun x hx => by
    obtain ⟨l, h1, h2, rfl⟩ := (mem_rimgs x).1 hx
    have hf : (flipB l).length = n := by rw [flipB_len, h1]
    have hr := run_flip V (flipB l) (by rw [hf]; exact h) (by rw [hf]; exact mirror_ok h)
    rw [hf, flipB_flip] at hr
    rw [hr]
    exact List.mem_map.2 ⟨_, (mem_rimgs _).2 ⟨flipB l, hf, flipB_bits h2, rfl⟩, rfl⟩
  simpa using this
theorem mirror_img {n : Nat} (hn : n ≤ 8) {V : List (Int × Int)} (h : OkV n V) : imagesN n (V.map (mirrorOne n)) = imagesN n V := by
  rw [images_count hn h, images_count hn (mirror_ok h)]
  have h1 := mirror_img1 h
  have h2 := mirror_img1 (mirror_ok h)
  rw [mirror_twice] at h2
  omega
theorem rneed_iff {n : Nat} {V : List (Int × Int)} {k : Nat} : rneedB n V k = true ↔ ∀ l : List Int, l.length = n → Bits l → ¬ (runV (V.take k) l)[(V[k]?.getD (0, 0)).2.toNat]?.getD 0 < (runV (V.take k) l)[(V[k]?.getD (0, 0)).1.toNat]?.getD 0 := by
  unfold rneedB
  rw [List.all_eq_true]
  constructor
  · intro h l hl hb
    have e := bits_is l hb
    have := h (valN l) (List.mem_range.2 (by have := valN_lt l hb; rwa [hl] at this))
    unfold meetsB at this
    rw [← hl, ← e] at this
    simpa using this
  · intro h t _
    have := h (bitsOf n t) (bitsOf_len n t) (bitsOf_bits n t)
    unfold meetsB
    simpa using this
theorem mirror_need1 {n : Nat} {V : List (Int × Int)} (h : OkV n V) {k : Nat} (hk : k < V.length) (hs : rneedB n V k = true) : rneedB n (V.map (mirrorOne n)) k = true := by
  rw [rneed_iff] at hs ⊢
  intro l hl hb
  have hf : (flipB l).length = n := by rw [flipB_len, hl]
  have hr := run_flip (V.take k) (flipB l) (by rw [hf]; exact h.take k) (by rw [hf]; exact mirror_ok (h.take k))
  rw [hf, flipB_flip] at hr
  have hrl : (runV (V.take k) (flipB l)).length = n := by rw [runV_length, hf]
  rw [← List.map_take, hr]
  have hm : V[k] ∈ V := List.getElem_mem hk
  obtain ⟨h1, h2, h3⟩ := h _ hm
  have hs' := hs (flipB l) hf (flipB_bits hb)
  have e1 : V[k]?.getD (0, 0) = V[k] := by simp [hk]
  have e2 : (V.map (mirrorOne n))[k]?.getD (0, 0) = mirrorOne n V[k] := by simp [hk]
  rw [e1] at hs'
  rw [e2]
  have e3 : (mirrorOne n V[k]).1.toNat = n - 1 - (V[k]).2.toNat := by simp only [mirrorOne]; omega
  have e4 : (mirrorOne n V[k]).2.toNat = n - 1 - (V[k]).1.toNat := by simp only [mirrorOne]; omega
  rw [e3, e4, flipB_get _ _ (by omega), flipB_get _ _ (by omega), hrl, show n - 1 - (n - 1 - (V[k]).1.toNat) = (V[k]).1.toNat by omega, show n - 1 - (n - 1 - (V[k]).2.toNat) = (V[k]).2.toNat by omega]
  omega
theorem mirror_need {n : Nat} {V : List (Int × Int)} (h : OkV n V) {k : Nat} (hk : k < V.length) : rneedB n (V.map (mirrorOne n)) k = rneedB n V k := by
  cases h1 : rneedB n V k with
  | true => exact mirror_need1 h hk h1
  | false =>
    cases h2 : rneedB n (V.map (mirrorOne n)) k with
    | false => rfl
    | true =>
      have := mirror_need1 (mirror_ok h) (by simpa using hk) h2
      rw [mirror_twice, h1] at this
      cases this
theorem mirror_needL {n : Nat} {V : List (Int × Int)} (h : OkV n V) : rneedL n (V.map (mirrorOne n)) V.length = rneedL n V V.length := by
  unfold rneedL
  congr 1
  refine List.filter_congr fun k hk => mirror_need h (List.mem_range.1 hk)
theorem meet_mirror (n : Int) (a b : Int × Int) : meetB (mirrorOne n a) (mirrorOne n b) = meetB a b := by
  unfold meetB mirrorOne
  simp only
  rw [Bool.eq_iff_iff]
  simp only [decide_eq_true_eq]
  omega
theorem mirror_rstep (n : Int) (V : List (Int × Int)) (out : List Int) (i : Nat) (hi : i < V.length) : ∀ k, k ≤ V.length → rstep (V.map (mirrorOne n)) out i k = rstep V out i k
  | 0, _ => rfl
  | k + 1, hk => by
    have e1 : (V.map (mirrorOne n))[k]?.getD (0, 0) = mirrorOne n (V[k]?.getD (0, 0)) := by simp [show k < V.length by omega]
    have e2 : (V.map (mirrorOne n))[i]?.getD (0, 0) = mirrorOne n (V[i]?.getD (0, 0)) := by simp [hi]
    rw [rstep_succ, rstep_succ, mirror_rstep n V out i hi k (by omega), e1, e2, meet_mirror]
theorem mirror_rounds (n : Int) (V : List (Int × Int)) : ∀ k, k ≤ V.length → rrL (V.map (mirrorOne n)) k = rrL V k
  | 0, _ => rfl
  | k + 1, hk => by
    rw [rrL, rrL, mirror_rounds n V k (by omega), mirror_rstep n V _ k (by omega) k (by omega)]
end Go.Proofs.Ytdnaipiiponhpaa
