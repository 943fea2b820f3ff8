/- Merged texts: plain facts of begins, ends, longest chains, free sets, covers, circles; no condition. -/
import Derived.Test.YteknehlkdgamjaaGreatMGB
import Derived.Test.YteknehlkdgamjaaGreatMGA
namespace Go.Proofs.YteknehlkdgamjaaGreat

/-- A mark for each job that comes after job i. -/
def mrk (J : List Job) (i : Nat) : List Int := (List.range 12).map fun k => if aft J i k then 1 else 0
theorem mrk_len (J : List Job) (i : Nat) : (mrk J i).length = 12 := by simp [mrk]
theorem mrk_at (J : List Job) (i : Nat) {k : Nat} (h : k < 12) : elt (mrk J i) k = if aft J i k then 1 else 0 := by simp [mrk, elt, h]
/-- Row i in the making, behind the waits of jobs before k, and the first q waits of k: W is what it was. -/
structure RwI (J : List Job) (i k q : Nat) (W R : List Int) : Prop where
  len : R.length = 12
  wlen : W.length = 12
  bit : ∀ c, c < 12 → elt R c = 0 ∨ elt R c = 1
  snd : ∀ c, c < 12 → elt R c = 1 → Rch J i c
  wsnd : ∀ c, c < 12 → elt W c = 1 → elt R c = 1
  wbit : ∀ c, c < 12 → elt W c = 0 ∨ elt W c = 1
  done : ∀ c, c < k → ∀ b, edg J b c = true → (b = i ∨ elt W b = 1) → elt R c = 1
  cur : ∀ j, j < q → ((elt (job J k).ws j).toNat = i ∨ elt W (elt (job J k).ws j).toNat = 1) → elt R k = 1
theorem RwI.start {J : List Job} {i : Nat} {R : List Int} (h1 : R.length = 12) (h2 : ∀ c, c < 12 → elt R c = 0 ∨ elt R c = 1) (h3 : ∀ c, c < 12 → elt R c = 1 → Rch J i c) : RwI J i 0 0 R R :=
  ⟨h1, h1, h2, h3, fun _ _ h => h, h2, fun _ h => by omega, fun _ h => by omega⟩
theorem closed_all {J : List Job} {R : List Int} {i : Nat} (h : ∀ c, ∀ b, edg J b c = true → (b = i ∨ elt R b = 1) → elt R c = 1) {b c : Nat} (hr : Rch J b c) : (b = i ∨ elt R b = 1) → elt R c = 1 := by
  induction hr with
  | one he => exact h _ _ he
  | cons he _ ih => exact fun hb => ih (.inr (h _ _ he hb))
theorem RwI.fin {J : List Job} {i : Nat} {R : List Int} (hi : i < J.length) (h : RwI J i J.length 0 R R) : R = mrk J i := by
  refine list_ext (by rw [h.len, mrk_len]) fun c hc => ?_
  rw [h.len] at hc
  rw [mrk_at J i hc]
  have hcl := closed_all (J := J) (R := R) (i := i) (fun c b he hb => h.done c (edg_lt he) b he hb) (b := i) (c := c)
  rcases h.bit c hc with e | e
  · rw [e, if_neg]
    intro ha
    have := hcl ((aft_iff hi).1 ha) (.inl rfl)
    omega
  · rw [e, if_pos ((aft_iff hi).2 (h.snd c hc e))]
theorem RwI.next {J : List Job} {i k : Nat} {W R : List Int} (hJ : FineJ J) (h : RwI J i k (job J k).ws.length W R) : RwI J i (k + 1) 0 W R := by
  refine ⟨h.len, h.wlen, h.bit, h.snd, h.wsnd, h.wbit, fun c hc b he hb => ?_, fun _ h => by omega⟩
  by_cases e : c = k
  · subst e
    obtain ⟨j, hj, hje⟩ := hJ.edge he
    refine h.cur j hj ?_
    rw [hje, Int.toNat_natCast]; exact hb
  · exact h.done c (by omega) b he hb
theorem RwI.skip {J : List Job} {i k q : Nat} {W R : List Int} (h : RwI J i k q W R) (hn : ¬ ((elt (job J k).ws q).toNat = i ∨ elt W (elt (job J k).ws q).toNat = 1)) : RwI J i k (q + 1) W R := by
  refine ⟨h.len, h.wlen, h.bit, h.snd, h.wsnd, h.wbit, h.done, fun j hj hb => ?_⟩
  by_cases e : j = q
  · subst e; exact absurd hb hn
  · exact h.cur j (by omega) hb
theorem RwI.mark {J : List Job} {i k q : Nat} {W R : List Int} (hJ : FineJ J) (hk : k < J.length) (hq : q < (job J k).ws.length) (h : RwI J i k q W R) (hy : (elt (job J k).ws q).toNat = i ∨ elt W (elt (job J k).ws q).toNat = 1) : RwI J i k (q + 1) W (R.set k 1) := by
  have h12 := hJ.n12
  have hkR : k < R.length := by rw [h.len]; omega
  obtain ⟨b, hb, hbn, hed⟩ := hJ.wait hk hq
  rw [hb, Int.toNat_natCast] at hy
  have hrk : Rch J i k := by
    rcases hy with rfl | hy
    · exact .one hed
    · exact (h.snd b (by omega) (h.wsnd b (by omega) hy)).snoc hed
  refine ⟨by rw [List.length_set]; exact h.len, h.wlen, fun c hc => ?_, fun c hc hc1 => ?_, fun c hc hw => ?_, h.wbit, fun c hc b' he hb' => ?_, fun j hj hb' => ?_⟩
  · rw [elt_set hkR]; split
    · exact .inr rfl
    · exact h.bit c hc
  · rw [elt_set hkR] at hc1
    split at hc1
    · rename_i e; subst e; exact hrk
    · exact h.snd c hc hc1
  · rw [elt_set hkR]; split
    · rfl
    · exact h.wsnd c hc hw
  · rw [elt_set hkR]; split
    · rfl
    · exact h.done c hc b' he hb'
  · rw [elt_set hkR, if_pos rfl]
end Go.Proofs.YteknehlkdgamjaaGreat

namespace Go.Proofs.YteknehlkdgamjaaGreat

/-- The array C holds the rows. -/
structure MrkC (n : Nat) (C : Array Value) (rows : Nat → List Int) : Prop where
  size : C.size = n * 12
  at' : ∀ j k, j < n → k < 12 → C[j * 12 + k]? = some (.int .i64 (elt (rows j) k))
theorem MrkC.zero (n : Nat) : MrkC n (Array.replicate (n * 12) (.int .i64 0)) (fun _ => List.replicate 12 0) := by
  refine ⟨by simp, fun j k hj hk => ?_⟩
  have h : j * 12 + k < n * 12 := by omega
  have h2 : elt (List.replicate 12 0) k = 0 := by unfold elt; rw [List.getElem?_replicate, if_pos hk]; rfl
  rw [h2]
  simp [h]
theorem MrkC.set {n : Nat} {C : Array Value} {rows : Nat → List Int} (h : MrkC n C rows) {i k : Nat} (hi : i < n) (hk : k < 12) (x : Int) (hl : (rows i).length = 12) :
    MrkC n (C.setIfInBounds (i * 12 + k) (.int .i64 x)) (fun j => if j = i then (rows i).set k x else rows j) := by
  refine ⟨by simp [h.size], fun j m hj hm => ?_⟩
  have hb : i * 12 + k < C.size := by rw [h.size]; omega
  rw [Array.getElem?_setIfInBounds]
  by_cases e : i * 12 + k = j * 12 + m
  · have e1 : i = j := by omega
    have e2 : k = m := by omega
    subst e1; subst e2
    simp only [if_true]
    rw [elt_set (by omega), if_pos rfl]
    simp [hb]
  · rw [if_neg e, h.at' j m hj hm]
    by_cases e1 : j = i
    · subst e1
      rw [if_pos rfl, elt_set (by omega), if_neg (by omega)]
    · rw [if_neg e1]
end Go.Proofs.YteknehlkdgamjaaGreat

namespace Go.Proofs.YteknehlkdgamjaaGreat

/-- How many jobs come before job i. -/
def prd (J : List Job) (i : Nat) : Nat := (List.range J.length).countP (fun b => aft J b i)
theorem prd_lt {J : List Job} (hc : cir J = false) {k i : Nat} (he : edg J k i = true) (hk : k < J.length) : prd J k < prd J i := by
  refine countP_lt (fun b hb h => ?_) ⟨k, List.mem_range.2 hk, (aft_iff hk).2 (.one he), ?_⟩
  · have hb := List.mem_range.1 hb
    exact (aft_iff hb).2 (((aft_iff hb).1 h).snoc he)
  · cases h : aft J k k with
    | false => rfl
    | true => exact absurd ((aft_iff hk).1 h) (cir_none hc)
theorem prd_le {J : List Job} (hc : cir J = false) {i : Nat} (hi : i < J.length) : prd J i < J.length := by
  have h : (List.range J.length).countP (fun b => aft J b i) < (List.range J.length).countP (fun _ => true) := by
    refine countP_lt (fun _ _ _ => rfl) ⟨i, List.mem_range.2 hi, rfl, ?_⟩
    cases h : aft J i i with
    | false => rfl
    | true => exact absurd ((aft_iff hi).1 h) (cir_none hc)
  rw [List.countP_true, List.length_range] at h
  exact h
/-- The greatest of numbers, and of 0. -/
def mx0 : List Int → Int
  | [] => 0
  | x :: l => max x (mx0 l)
theorem mx0_nn : ∀ l : List Int, 0 ≤ mx0 l
  | [] => Int.le_refl _
  | x :: l => by have := mx0_nn l; unfold mx0; omega
theorem mx0_ge : ∀ {l : List Int} {x : Int}, x ∈ l → x ≤ mx0 l
  | y :: l, x, h => by
    unfold mx0
    rcases List.mem_cons.1 h with rfl | h
    · omega
    · have := mx0_ge h; omega
theorem mx0_le : ∀ {l : List Int} {c : Int}, 0 ≤ c → (∀ x ∈ l, x ≤ c) → mx0 l ≤ c
  | [], c, h, _ => h
  | x :: l, c, h, h2 => by
    have h3 := mx0_le (l := l) h (fun y hy => h2 y (List.mem_cons_of_mem _ hy))
    have h4 := h2 x (by simp)
    unfold mx0; omega
/-- When jobs begin, by paths of at most m waits. -/
def begF (J : List Job) (D : Nat → Int) : Nat → Nat → Int
  | 0, _ => 0
  | m + 1, i => mx0 ((job J i).ws.map fun k => begF J D m k.toNat + D k.toNat)
theorem begF_nn (J : List Job) (D : Nat → Int) (m i : Nat) : 0 ≤ begF J D m i := by
  cases m with
  | zero => exact Int.le_refl _
  | succ m => exact mx0_nn _
theorem begF_ge {J : List Job} (hJ : FineJ J) (D : Nat → Int) (m : Nat) {k i : Nat} (he : edg J k i = true) : begF J D m k + D k ≤ begF J D (m + 1) i := by
  obtain ⟨j, hj, e⟩ := hJ.edge he
  refine mx0_ge (List.mem_map.2 ⟨elt (job J i).ws j, elt_mem hj, ?_⟩)
  rw [e, Int.toNat_natCast]
theorem begF_le {J : List Job} (hJ : FineJ J) (D : Nat → Int) (m : Nat) {i : Nat} (hi : i < J.length) {c : Int} (h0 : 0 ≤ c) (h : ∀ k, edg J k i = true → begF J D m k + D k ≤ c) : begF J D (m + 1) i ≤ c := by
  refine mx0_le h0 fun x hx => ?_
  obtain ⟨y, hy, rfl⟩ := List.mem_map.1 hx
  obtain ⟨j, hj, rfl⟩ := List.getElem_of_mem hy
  obtain ⟨b, e, _, hed⟩ := hJ.wait hi hj
  rw [elt_lt hj] at e
  rw [e, Int.toNat_natCast]
  exact h b hed
theorem begF_up {J : List Job} (hJ : FineJ J) (D : Nat → Int) : ∀ (m : Nat) {i : Nat}, i < J.length → begF J D m i ≤ begF J D (m + 1) i
  | 0, _, _ => begF_nn _ _ _ _
  | m + 1, i, hi => begF_le hJ D m hi (begF_nn _ _ _ _) fun k he => by
    have h1 := begF_up hJ D m (hJ.edge_lt he)
    have h2 := begF_ge hJ D (m + 1) he
    omega
theorem begF_mono {J : List Job} (hJ : FineJ J) (D : Nat → Int) {m M i : Nat} (hm : m ≤ M) (hi : i < J.length) : begF J D m i ≤ begF J D M i := by
  induction hm with
  | refl => exact Int.le_refl _
  | step _ ih => exact Int.le_trans ih (begF_up hJ D _ hi)
theorem begF_bd {J : List Job} (hJ : FineJ J) (D : Nat → Int) (hD : ∀ i, i < J.length → D i ≤ 1000) : ∀ (m : Nat) {i : Nat}, i < J.length → begF J D m i ≤ 1000 * m
  | 0, _, _ => by simp [begF]
  | m + 1, i, hi => begF_le hJ D m hi (by omega) fun k he => by
    have h1 := begF_bd hJ D hD m (hJ.edge_lt he)
    have h2 := hD k (hJ.edge_lt he)
    omega
theorem begF_stable {J : List Job} (hJ : FineJ J) (hc : cir J = false) (D : Nat → Int) : ∀ (m : Nat) {i : Nat}, i < J.length → prd J i ≤ m → begF J D (m + 1) i ≤ begF J D m i
  | 0, i, hi, hp => begF_le hJ D 0 hi (begF_nn _ _ _ _) fun k he => by
    have := prd_lt hc he (hJ.edge_lt he); omega
  | m + 1, i, hi, hp => begF_le hJ D (m + 1) hi (begF_nn _ _ _ _) fun k he => by
    have h1 := prd_lt hc he (hJ.edge_lt he)
    have h2 := begF_stable hJ hc D m (hJ.edge_lt he) (by omega)
    have h3 := begF_ge hJ D m he
    omega
/-- When a job begins, by the days that jobs take. -/
def beg (J : List Job) (D : Nat → Int) (i : Nat) : Int := begF J D J.length i
theorem beg_nn (J : List Job) (D : Nat → Int) (i : Nat) : 0 ≤ beg J D i := begF_nn _ _ _ _
theorem beg_bd {J : List Job} (hJ : FineJ J) {D : Nat → Int} (hD : ∀ i, i < J.length → D i ≤ 1000) {i : Nat} (hi : i < J.length) : beg J D i ≤ 12000 := by
  have h1 := begF_bd hJ D hD J.length hi
  have := hJ.n12
  unfold beg; omega
theorem beg_ge {J : List Job} (hJ : FineJ J) (hc : cir J = false) (D : Nat → Int) {k i : Nat} (he : edg J k i = true) : beg J D k + D k ≤ beg J D i := by
  have h1 := begF_ge hJ D J.length he
  have h2 := begF_stable hJ hc D J.length (edg_lt he) (Nat.le_of_lt (prd_le hc (edg_lt he)))
  unfold beg; omega
theorem beg_le {J : List Job} (hJ : FineJ J) (D : Nat → Int) {i : Nat} (hi : i < J.length) {c : Int} (h0 : 0 ≤ c) (h : ∀ k, edg J k i = true → beg J D k + D k ≤ c) : beg J D i ≤ c := by
  have h1 := begF_up hJ D J.length hi
  have h2 := begF_le hJ D J.length hi h0 h
  unfold beg; omega
/-- The least one of all that keep the waits. -/
theorem begF_least {J : List Job} (hJ : FineJ J) (D : Nat → Int) (f : Nat → Int) (h0 : ∀ i, i < J.length → 0 ≤ f i) (h : ∀ k i, edg J k i = true → f k + D k ≤ f i) : ∀ (m : Nat) {i : Nat}, i < J.length → begF J D m i ≤ f i
  | 0, _, hi => h0 _ hi
  | m + 1, i, hi => begF_le hJ D m hi (h0 i hi) fun k he => by
    have h1 := begF_least hJ D f h0 h m (hJ.edge_lt he)
    have h2 := h k i he
    omega
theorem beg_least {J : List Job} (hJ : FineJ J) (D : Nat → Int) (f : Nat → Int) (h0 : ∀ i, i < J.length → 0 ≤ f i) (h : ∀ k i, edg J k i = true → f k + D k ≤ f i) {i : Nat} (hi : i < J.length) : beg J D i ≤ f i := begF_least hJ D f h0 h _ hi
/-- A job that does not begin at once begins when one ends for which it waits. -/
theorem beg_wit {J : List Job} (hJ : FineJ J) (hc : cir J = false) (D : Nat → Int) {i : Nat} (hi : i < J.length) : beg J D i = 0 ∨ ∃ k, edg J k i = true ∧ beg J D i = beg J D k + D k := by
  by_cases h : ∃ k, edg J k i = true ∧ beg J D i ≤ beg J D k + D k
  · obtain ⟨k, h1, h2⟩ := h
    have := beg_ge hJ hc D h1
    exact .inr ⟨k, h1, by omega⟩
  · left
    have h1 := beg_nn J D i
    refine Classical.byContradiction fun hne => ?_
    have h2 := beg_le hJ D hi (c := beg J D i - 1) (by omega) (fun k he => by
      refine Classical.byContradiction fun hk => h ⟨k, he, by omega⟩)
    omega

/-- Numbers by index: rows of numbers as functions. -/
def fnL (f : Nat → Int) (n : Nat) : List Int := (List.range n).map f
theorem fnL_len (f : Nat → Int) (n : Nat) : (fnL f n).length = n := by simp [fnL]
theorem fnL_at (f : Nat → Int) {n i : Nat} (h : i < n) : elt (fnL f n) i = f i := by simp [fnL, elt, h]
/-- In the round m of the document, behind the jobs before i, and the first k waits of i. -/
structure BgI (J : List Job) (D : Nat → Int) (m i k : Nat) (X : List Int) : Prop where
  len : X.length = J.length
  lo : ∀ b, b < J.length → begF J D m b ≤ elt X b
  hi : ∀ b, b < J.length → elt X b ≤ beg J D b
  new : ∀ b, b < i → b < J.length → begF J D (m + 1) b ≤ elt X b
  cur : ∀ j, j < k → begF J D m (elt (job J i).ws j).toNat + D (elt (job J i).ws j).toNat ≤ elt X i
theorem bgI_zero (J : List Job) (D : Nat → Int) : BgI J D 0 0 0 (List.replicate J.length 0) := by
  have h0 : ∀ b, elt (List.replicate J.length 0) b = 0 := fun b => by
    unfold elt; rw [List.getElem?_replicate]; split <;> rfl
  exact ⟨by simp, fun b _ => by rw [h0]; exact Int.le_refl _, fun b _ => by rw [h0]; exact beg_nn _ _ _, fun _ h => by omega, fun _ h => by omega⟩
theorem BgI.wait {J : List Job} {D : Nat → Int} {m i k : Nat} {X : List Int} (h : BgI J D m i k X) (hJ : FineJ J) (hc : cir J = false) (hi : i < J.length) (hk : k < (job J i).ws.length) {b : Nat} (hb : elt (job J i).ws k = (b : Int)) :
    BgI J D m i (k + 1) (X.set i (max (elt X i) (elt X b + D b))) := by
  obtain ⟨b', e', hbn, hed⟩ := hJ.wait hi hk
  obtain rfl : b = b' := by omega
  have hiX : i < X.length := by rw [h.len]; exact hi
  refine ⟨by rw [List.length_set]; exact h.len, fun c hc => ?_, fun c hc' => ?_, fun c hc hc2 => ?_, fun j hj => ?_⟩
  · have := h.lo c hc
    rw [elt_set hiX]; split
    · rename_i e; subst e; omega
    · exact this
  · have h1 := h.hi c hc'
    rw [elt_set hiX]; split
    · rename_i e; subst e
      have h2 := h.hi b hbn
      have h3 := beg_ge hJ hc D hed
      omega
    · exact h1
  · have := h.new c hc hc2
    rw [elt_set hiX]; split
    · rename_i e; subst e; omega
    · exact this
  · rw [elt_set hiX, if_pos rfl]
    by_cases e : j = k
    · subst e
      rw [hb, Int.toNat_natCast]
      have := h.lo b hbn
      omega
    · have := h.cur j (by omega); omega
theorem BgI.job {J : List Job} {D : Nat → Int} {m i : Nat} {X : List Int} (hJ : FineJ J) (hi : i < J.length) (h : BgI J D m i (job J i).ws.length X) : BgI J D m (i + 1) 0 X := by
  refine ⟨h.len, h.lo, h.hi, fun b hb hbn => ?_, fun _ h => by omega⟩
  by_cases e : b = i
  · subst e
    refine begF_le hJ D m hi ?_ fun k he => ?_
    · have := h.lo b hi; have := begF_nn J D m b; omega
    · obtain ⟨j, hj, hje⟩ := hJ.edge he
      have := h.cur j hj
      rwa [hje, Int.toNat_natCast] at this
  · exact h.new b (by omega) hbn
theorem BgI.round {J : List Job} {D : Nat → Int} {m : Nat} {X : List Int} (h : BgI J D m J.length 0 X) : BgI J D (m + 1) 0 0 X :=
  ⟨h.len, fun b hb => h.new b hb hb, h.hi, fun _ h => by omega, fun _ h => by omega⟩
theorem BgI.done {J : List Job} {D : Nat → Int} {X : List Int} (h : BgI J D J.length 0 0 X) : X = fnL (beg J D) J.length := by
  refine list_ext (by rw [h.len, fnL_len]) fun i hi => ?_
  rw [h.len] at hi
  have h1 := h.lo i hi
  have h2 := h.hi i hi
  rw [fnL_at _ hi]
  unfold beg at *
  omega

/-- How long the work takes. -/
def takes (J : List Job) (D : Nat → Int) : Int := mx0 (fnL (fun i => beg J D i + D i) J.length)
def takTo (J : List Job) (D : Nat → Int) : Nat → Int
  | 0 => 0
  | k + 1 => max (takTo J D k) (beg J D k + D k)
theorem takes_ge {J : List Job} (D : Nat → Int) {i : Nat} (hi : i < J.length) : beg J D i + D i ≤ takes J D := by
  unfold takes
  refine mx0_ge ?_
  have := elt_mem (l := fnL (fun i => beg J D i + D i) J.length) (j := i) (by rw [fnL_len]; exact hi)
  rwa [fnL_at _ hi] at this
theorem takes_le {J : List Job} {D : Nat → Int} {c : Int} (h0 : 0 ≤ c) (h : ∀ i, i < J.length → beg J D i + D i ≤ c) : takes J D ≤ c := by
  refine mx0_le h0 fun x hx => ?_
  obtain ⟨i, hi, rfl⟩ := List.getElem_of_mem hx
  rw [fnL_len] at hi
  rw [← elt_lt, fnL_at _ hi]
  exact h i hi
theorem takes_nn (J : List Job) (D : Nat → Int) : 0 ≤ takes J D := mx0_nn _
theorem takes_wit {J : List Job} (D : Nat → Int) (hJ : FineJ J) (hD : ∀ i, i < J.length → 0 ≤ D i) : ∃ i, i < J.length ∧ takes J D = beg J D i + D i := by
  refine Classical.byContradiction fun hc => ?_
  have h1 : ∀ i, i < J.length → beg J D i + D i ≤ takes J D - 1 := fun i hi => by
    have := takes_ge D hi
    refine Classical.byContradiction fun hk => hc ⟨i, hi, by omega⟩
  have h2 := hJ.n1
  have h3 := h1 0 (by omega)
  have h4 := beg_nn J D 0
  have h5 := hD 0 (by omega)
  have := takes_le (J := J) (D := D) (c := takes J D - 1) (by omega) h1
  omega
theorem takTo_ge (J : List Job) (D : Nat → Int) : ∀ {k i : Nat}, i < k → beg J D i + D i ≤ takTo J D k
  | k + 1, i, h => by
    unfold takTo
    by_cases e : i = k
    · subst e; omega
    · have := takTo_ge J D (k := k) (i := i) (by omega); omega
theorem takTo_le (J : List Job) (D : Nat → Int) : ∀ {k : Nat}, k ≤ J.length → takTo J D k ≤ takes J D
  | 0, _ => takes_nn J D
  | k + 1, h => by
    have h1 := takTo_le J D (k := k) (by omega)
    have h2 := takes_ge D (J := J) (i := k) (by omega)
    unfold takTo; omega
theorem takTo_nn (J : List Job) (D : Nat → Int) : ∀ k, 0 ≤ takTo J D k
  | 0 => Int.le_refl _
  | k + 1 => by have := takTo_nn J D k; unfold takTo; omega
theorem takTo_all (J : List Job) (D : Nat → Int) : takTo J D J.length = takes J D := by
  have h1 := takTo_le J D (Nat.le_refl J.length)
  have h2 := takes_le (J := J) (D := D) (takTo_nn J D _) (fun i hi => takTo_ge J D hi)
  omega
theorem takes_bd {J : List Job} (hJ : FineJ J) {D : Nat → Int} (hD : ∀ i, i < J.length → D i ≤ 1000) : takes J D ≤ 13000 :=
  takes_le (by omega) fun i hi => by have := beg_bd hJ hD hi; have := hD i hi; omega
theorem takTo_bd {J : List Job} (hJ : FineJ J) {D : Nat → Int} (hD : ∀ i, i < J.length → D i ≤ 1000) {k : Nat} (hk : k ≤ J.length) : takTo J D k ≤ 13000 := by
  have := takes_bd hJ hD; have := takTo_le J D hk; omega
end Go.Proofs.YteknehlkdgamjaaGreat

namespace Go.Proofs.YteknehlkdgamjaaGreat

/-- As many at most, if each has one of its own. -/
theorem inj_len {α β : Type} [DecidableEq β] (f : α → β) : ∀ (l : List α) (m : List β), l.Nodup → (∀ x ∈ l, ∀ y ∈ l, f x = f y → x = y) → (∀ x ∈ l, f x ∈ m) → l.length ≤ m.length
  | [], _, _, _, _ => Nat.zero_le _
  | a :: l, m, hn, hi, hm => by
    have hn' := List.nodup_cons.1 hn
    have h1 := inj_len f l (m.erase (f a)) hn'.2 (fun x hx y hy => hi x (List.mem_cons_of_mem _ hx) y (List.mem_cons_of_mem _ hy)) (fun x hx => by
      refine (List.mem_erase_of_ne (fun e => ?_)).2 (hm x (List.mem_cons_of_mem _ hx))
      have := hi x (List.mem_cons_of_mem _ hx) a (by simp) e
      subst this; exact hn'.1 hx)
    have h2 := hm a (by simp)
    rw [List.length_erase_of_mem h2] at h1
    have h3 := List.length_pos_of_mem h2
    rw [List.length_cons]; omega
theorem sub_len {l : List Nat} {n : Nat} (h : l.Nodup) (h2 : ∀ x ∈ l, x < n) : l.length ≤ n := by
  have := inj_len id l (List.range n) h (fun _ _ _ _ e => e) (fun x hx => List.mem_range.2 (h2 x hx))
  rwa [List.length_range] at this
/-- The jobs that wait for job i. -/
def nxt (J : List Job) (i : Nat) : List Nat := (List.range J.length).filter (fun k => edg J i k)
theorem nxt_mem {J : List Job} {i k : Nat} : k ∈ nxt J i ↔ edg J i k = true := by
  unfold nxt
  rw [List.mem_filter, List.mem_range]
  exact ⟨fun h => h.2, fun h => ⟨edg_lt h, h⟩⟩
def ints (l : List Nat) : List Int := l.map fun n : Nat => (n : Int)
theorem ints_len (l : List Nat) : (ints l).length = l.length := by simp [ints]
theorem ints_at {l : List Nat} {j : Nat} (h : j < l.length) : elt (ints l) j = (l[j] : Int) := by simp [ints, elt, h]
theorem ints_mem {l : List Nat} {k : Nat} : (k : Int) ∈ ints l ↔ k ∈ l := by
  unfold ints
  rw [List.mem_map]
  constructor
  · rintro ⟨n, hn, e⟩
    rwa [show n = k by omega] at hn
  · intro h; exact ⟨k, h, rfl⟩
theorem ints_snoc (l : List Nat) (k : Nat) : ints (l ++ [k]) = ints l ++ [(k : Int)] := by simp [ints]
theorem ints_inj {l m : List Nat} (h : ints l = ints m) : l = m := by
  unfold ints at h
  exact List.map_inj_right (fun a b h => by omega) |>.1 h
def nxtTo (J : List Job) (i k : Nat) : List Nat := (List.range k).filter (fun k => edg J i k)
theorem nxtTo_succ (J : List Job) (i k : Nat) : nxtTo J i (k + 1) = if edg J i k then nxtTo J i k ++ [k] else nxtTo J i k := by
  unfold nxtTo
  rw [List.range_succ, List.filter_append]
  by_cases h : edg J i k = true
  · rw [if_pos h]; simp [h]
  · rw [if_neg h]; simp [h]
theorem nxtTo_le (J : List Job) (i k : Nat) : (nxtTo J i k).length ≤ k := by
  have := List.length_filter_le (fun k => edg J i k) (List.range k)
  rw [List.length_range] at this
  exact this
theorem nxt_to (J : List Job) (i : Nat) : nxt J i = nxtTo J i J.length := rfl
theorem nxtTo_lis (J : List Job) (i : Nat) : ∀ k, LisTo (ints (nxtTo J i k)) k (ints (nxtTo J i k)).length
  | 0 => fun j h => by simp [nxtTo, ints] at h
  | k + 1 => by
    have ih := nxtTo_lis J i k
    rw [nxtTo_succ]
    by_cases h : edg J i k = true
    · rw [if_pos h, ints_snoc, List.length_append, List.length_singleton]
      intro j hj
      rw [elt_snoc]
      by_cases e : j = (ints (nxtTo J i k)).length
      · rw [if_pos e]
        refine ⟨by omega, by omega, fun h0 => ?_⟩
        rw [elt_snoc, if_neg (by omega)]
        exact (ih (j - 1) (by omega)).2.1
      · rw [if_neg e]
        obtain ⟨a1, a2, a3⟩ := ih j (by omega)
        refine ⟨a1, by omega, fun h0 => ?_⟩
        rw [elt_snoc, if_neg (by omega)]
        exact a3 h0
    · rw [if_neg h]
      intro j hj
      obtain ⟨a1, a2, a3⟩ := ih j hj
      exact ⟨a1, by omega, a3⟩
def turnA (J : List Job) (i : Nat) : Job := ⟨(job J i).lo, (job J i).hi, ints (nxt J i)⟩
/-- The turned work. -/
def turnJ (J : List Job) : List Job := (List.range J.length).map (turnA J)
theorem turn_len (J : List Job) : (turnJ J).length = J.length := by simp [turnJ]
theorem turn_at {J : List Job} {i : Nat} (h : i < J.length) : job (turnJ J) i = turnA J i := by simp [job, turnJ, h]
theorem turn_edg {J : List Job} {b k : Nat} (hb : k < J.length) : edg (turnJ J) b k = edg J k b := by
  rw [Bool.eq_iff_iff]
  unfold edg
  rw [turn_len, turn_at hb, decide_eq_true hb, Bool.true_and]
  show (ints (nxt J k)).contains (b : Int) = true ↔ _
  rw [List.contains_iff_mem, ints_mem, nxt_mem]
  unfold edg
  exact Iff.rfl
theorem turn_edge {J : List Job} (hJ : FineJ J) {b k : Nat} : edg (turnJ J) b k = true ↔ edg J k b = true := by
  constructor
  · intro h
    have := edg_lt h
    rw [turn_len] at this
    rwa [turn_edg this] at h
  · intro h
    rw [turn_edg (hJ.edge_lt h)]; exact h
theorem turn_fine {J : List Job} (hJ : FineJ J) : FineJ (turnJ J) := by
  refine ⟨by rw [turn_len]; exact hJ.n1, by rw [turn_len]; exact hJ.n12, fun i hi => ?_, fun i hi => ?_, fun i hi => ?_⟩
  · rw [turn_len] at hi; rw [turn_at hi]; exact hJ.days i hi
  · rw [turn_len] at hi; rw [turn_at hi, turn_len]; exact nxtTo_lis J i J.length
  · rw [turn_len] at hi; rw [turn_at hi]
    show (ints (nxt J i)).contains (i : Int) = false
    cases h : (ints (nxt J i)).contains (i : Int) with
    | false => rfl
    | true =>
      rw [List.contains_iff_mem, ints_mem, nxt_mem] at h
      unfold edg at h
      rw [Bool.and_eq_true, hJ.self i hi] at h
      exact absurd h.2 (by simp)
theorem turn_rch {J : List Job} (hJ : FineJ J) {b k : Nat} (h : Rch (turnJ J) b k) : Rch J k b := by
  induction h with
  | one h => exact .one ((turn_edge hJ).1 h)
  | cons h _ ih => exact ih.snoc ((turn_edge hJ).1 h)
theorem rch_turn {J : List Job} (hJ : FineJ J) {b k : Nat} (h : Rch J b k) : Rch (turnJ J) k b := by
  induction h with
  | one h => exact .one ((turn_edge hJ).2 h)
  | cons h _ ih => exact ih.snoc ((turn_edge hJ).2 h)
theorem turn_cir {J : List Job} (hJ : FineJ J) (hc : cir J = false) : cir (turnJ J) = false := by
  cases h : cir (turnJ J) with
  | false => rfl
  | true =>
    unfold cir at h
    rw [List.any_eq_true] at h
    obtain ⟨i, hi, h⟩ := h
    exact absurd (turn_rch hJ (pth_rch h)) (cir_none hc)
/-- How many days are left behind a job. -/
def tl (J : List Job) (D : Nat → Int) (i : Nat) : Int := beg (turnJ J) D i
theorem tl_nn (J : List Job) (D : Nat → Int) (i : Nat) : 0 ≤ tl J D i := beg_nn _ _ _
theorem tl_ge {J : List Job} (hJ : FineJ J) (hc : cir J = false) (D : Nat → Int) {k i : Nat} (he : edg J k i = true) : tl J D i + D i ≤ tl J D k :=
  beg_ge (turn_fine hJ) (turn_cir hJ hc) D ((turn_edge hJ).2 he)
theorem tl_le {J : List Job} (hJ : FineJ J) (D : Nat → Int) {k : Nat} (hk : k < J.length) {c : Int} (h0 : 0 ≤ c) (h : ∀ i, edg J k i = true → tl J D i + D i ≤ c) : tl J D k ≤ c :=
  beg_le (turn_fine hJ) D (by rw [turn_len]; exact hk) h0 fun i he => h i ((turn_edge hJ).1 he)
theorem tl_bd {J : List Job} (hJ : FineJ J) {D : Nat → Int} (hD : ∀ i, i < J.length → D i ≤ 1000) {i : Nat} (hi : i < J.length) : tl J D i ≤ 12000 :=
  beg_bd (turn_fine hJ) (fun i hi => hD i (by rwa [turn_len] at hi)) (by rw [turn_len]; exact hi)
theorem tl_wit {J : List Job} (hJ : FineJ J) (hc : cir J = false) (D : Nat → Int) {i : Nat} (hi : i < J.length) : tl J D i = 0 ∨ ∃ k, edg J i k = true ∧ tl J D i = tl J D k + D k := by
  rcases beg_wit (turn_fine hJ) (turn_cir hJ hc) D (i := i) (by rw [turn_len]; exact hi) with h | ⟨k, h1, h2⟩
  · exact .inl h
  · exact .inr ⟨k, (turn_edge hJ).1 h1, h2⟩

/-- An order of jobs, each behind those for which it waits: its first jobs. -/
structure OrdI (J : List Job) (L : List Nat) : Prop where
  lt : ∀ i, i ∈ L → i < J.length
  nodup : L.Nodup
  clo : ∀ p i k, p < L.length → L[p]? = some i → edg J k i = true → k ∈ L.take p
theorem OrdI.nil (J : List Job) : OrdI J [] := ⟨fun _ h => (nomatch h), List.nodup_nil, fun _ _ _ h => (nomatch h)⟩
theorem OrdI.len {J : List Job} {L : List Nat} (h : OrdI J L) : L.length ≤ J.length := sub_len h.nodup h.lt
theorem OrdI.add {J : List Job} {L : List Nat} (h : OrdI J L) {i : Nat} (hi : i < J.length) (hn : i ∉ L) (hw : ∀ k, edg J k i = true → k ∈ L) : OrdI J (L ++ [i]) := by
  refine ⟨fun k hk => ?_, ?_, fun p k b hp hk he => ?_⟩
  · rcases List.mem_append.1 hk with hk | hk
    · exact h.lt k hk
    · rw [List.mem_singleton] at hk; subst hk; exact hi
  · rw [List.nodup_append]
    refine ⟨h.nodup, by simp, fun a ha b hb => ?_⟩
    rw [List.mem_singleton] at hb; subst hb
    intro e; subst e; exact hn ha
  · rw [List.length_append, List.length_singleton] at hp
    by_cases e : p = L.length
    · subst e
      rw [List.getElem?_append_right (Nat.le_refl _), Nat.sub_self] at hk
      simp at hk; subst hk
      rw [List.take_append_of_le_length (Nat.le_refl _), List.take_length]
      exact hw b he
    · rw [List.getElem?_append_left (by omega)] at hk
      rw [List.take_append_of_le_length (by omega)]
      exact h.clo p k b (by omega) hk he
/-- While jobs are left, there is one that waits for none of them. -/
theorem ready_ex {J : List Job} (hJ : FineJ J) (hc : cir J = false) {L : List Nat} (h : ∃ i, i < J.length ∧ i ∉ L) : ∃ i, i < J.length ∧ i ∉ L ∧ ∀ k, edg J k i = true → k ∈ L := by
  obtain ⟨i, hi, hn⟩ := h
  have key : ∀ m i, prd J i ≤ m → i < J.length → i ∉ L → ∃ i, i < J.length ∧ i ∉ L ∧ ∀ k, edg J k i = true → k ∈ L := by
    intro m
    induction m with
    | zero =>
      intro i hp hi hn
      exact ⟨i, hi, hn, fun k he => by have := prd_lt hc he (hJ.edge_lt he); omega⟩
    | succ m ih =>
      intro i hp hi hn
      by_cases hx : ∃ k, edg J k i = true ∧ k ∉ L
      · obtain ⟨k, he, hk⟩ := hx
        have := prd_lt hc he (hJ.edge_lt he)
        exact ih k (by omega) (hJ.edge_lt he) hk
      · exact ⟨i, hi, hn, fun k he => Classical.byContradiction fun hk => hx ⟨k, he, hk⟩⟩
  exact key _ i (Nat.le_refl _) hi hn
end Go.Proofs.YteknehlkdgamjaaGreat

namespace Go.Proofs.YteknehlkdgamjaaGreat

/-- Each job of a list waits for the one before it. -/
def IsCh (J : List Job) : List Nat → Prop
  | [] => True
  | [i] => i < J.length
  | i :: k :: l => edg J i k = true ∧ IsCh J (k :: l)
def sumN (D : Nat → Int) (l : List Nat) : Int := (l.map D).sum
theorem sumN_nil (D : Nat → Int) : sumN D [] = 0 := rfl
theorem sumN_cons (D : Nat → Int) (i : Nat) (l : List Nat) : sumN D (i :: l) = D i + sumN D l := by simp [sumN]
theorem sumN_append (D : Nat → Int) (l m : List Nat) : sumN D (l ++ m) = sumN D l + sumN D m := by simp [sumN]
theorem IsCh.tail {J : List Job} {i : Nat} {l : List Nat} (h : IsCh J (i :: l)) : IsCh J l := by
  cases l with
  | nil => trivial
  | cons k l => exact h.2
theorem IsCh.lt {J : List Job} (hJ : FineJ J) : ∀ {l : List Nat}, IsCh J l → ∀ i ∈ l, i < J.length
  | [i], h, k, hk => by rw [List.mem_singleton] at hk; subst hk; exact h
  | i :: k :: l, h, x, hx => by
    rcases List.mem_cons.1 hx with rfl | hx
    · exact hJ.edge_lt h.1
    · exact IsCh.lt hJ h.2 x hx
theorem IsCh.rch {J : List Job} : ∀ {l : List Nat} {i : Nat}, IsCh J (i :: l) → ∀ k ∈ l, Rch J i k
  | k :: l, i, h, x, hx => by
    rcases List.mem_cons.1 hx with rfl | hx
    · exact .one h.1
    · exact .cons h.1 (IsCh.rch h.2 x hx)
theorem IsCh.nodup {J : List Job} (hc : cir J = false) : ∀ {l : List Nat}, IsCh J l → l.Nodup
  | [], _ => List.nodup_nil
  | i :: _, h => List.nodup_cons.2 ⟨fun hi => cir_none hc (h.rch i hi), IsCh.nodup hc h.tail⟩
theorem IsCh.length {J : List Job} (hJ : FineJ J) (hc : cir J = false) {l : List Nat} (h : IsCh J l) : l.length ≤ J.length := sub_len (h.nodup hc) (h.lt hJ)
theorem IsCh.snoc {J : List Job} : ∀ {l : List Nat} {i k : Nat}, IsCh J (l ++ [i]) → edg J i k = true → IsCh J (l ++ [i] ++ [k])
  | [], _, _, _, h2 => ⟨h2, edg_lt h2⟩
  | [_], _, _, h, h2 => ⟨h.1, h2, edg_lt h2⟩
  | _ :: b :: l, _, _, h, h2 => ⟨h.1, IsCh.snoc (l := b :: l) h.2 h2⟩
/-- A chain that begins with job i and ends with one for which none waits. -/
def Up (J : List Job) (i : Nat) (l : List Nat) : Prop := l.head? = some i ∧ IsCh J l ∧ ∀ k, l.getLast? = some k → nxt J k = []
theorem sum_up {J : List Job} (hJ : FineJ J) (hc : cir J = false) {D : Nat → Int} : ∀ {l : List Nat} {i : Nat}, IsCh J (i :: l) → sumN D (i :: l) ≤ D i + tl J D i
  | [], i, _ => by have := tl_nn J D i; rw [sumN_cons, sumN_nil]; omega
  | k :: l, i, h => by
    have h1 := sum_up hJ hc (D := D) h.2
    have h2 := tl_ge hJ hc D h.1
    rw [sumN_cons]; omega
/-- The number of jobs after job i. -/
def suc (J : List Job) (i : Nat) : Nat := prd (turnJ J) i
theorem suc_lt {J : List Job} (hJ : FineJ J) (hc : cir J = false) {k i : Nat} (he : edg J k i = true) : suc J i < suc J k :=
  prd_lt (turn_cir hJ hc) ((turn_edge hJ).2 he) (by rw [turn_len]; exact edg_lt he)
theorem suc_le {J : List Job} (hJ : FineJ J) (hc : cir J = false) {i : Nat} (hi : i < J.length) : suc J i < J.length := by
  have := prd_le (turn_cir hJ hc) (i := i) (by rw [turn_len]; exact hi)
  rwa [turn_len] at this
theorem nxt_nil {J : List Job} {i k : Nat} (h : nxt J i = []) : edg J i k = false := by
  cases he : edg J i k with
  | false => rfl
  | true => rw [← nxt_mem, h] at he; cases he
/-- There is a chain up from each job that takes as long as is left. -/
theorem up_ex {J : List Job} (hJ : FineJ J) (hc : cir J = false) {D : Nat → Int} (hD : ∀ i, i < J.length → 0 ≤ D i) : ∀ (m : Nat) {i : Nat}, i < J.length → suc J i ≤ m → ∃ l, Up J i (i :: l) ∧ sumN D (i :: l) = D i + tl J D i := by
  intro m
  induction m with
  | zero =>
    intro i hi hm
    have hn : nxt J i = [] := by
      rw [List.eq_nil_iff_forall_not_mem]
      intro k hk
      have := suc_lt hJ hc (nxt_mem.1 hk)
      omega
    refine ⟨[], ⟨rfl, hi, fun k hk => by simp at hk; subst hk; exact hn⟩, ?_⟩
    rcases tl_wit hJ hc D hi with h | ⟨k, h, _⟩
    · rw [sumN_cons, sumN_nil, h]
    · rw [nxt_nil hn] at h; cases h
  | succ m ih =>
    intro i hi hm
    by_cases hn : nxt J i = []
    · refine ⟨[], ⟨rfl, hi, fun k hk => by simp at hk; subst hk; exact hn⟩, ?_⟩
      rcases tl_wit hJ hc D hi with h | ⟨k, h, _⟩
      · rw [sumN_cons, sumN_nil, h]
      · rw [nxt_nil hn] at h; cases h
    · have hk : ∃ k, edg J i k = true ∧ tl J D i = tl J D k + D k := by
        rcases tl_wit hJ hc D hi with h | h
        · obtain ⟨k, hk⟩ := List.exists_mem_of_ne_nil _ hn
          have hk := nxt_mem.1 hk
          have h1 := tl_ge hJ hc D hk
          have h2 := tl_nn J D k
          have h3 := hD k (edg_lt hk)
          exact ⟨k, hk, by omega⟩
        · exact h
      obtain ⟨k, he, ht⟩ := hk
      obtain ⟨l, ⟨h1, h2, h3⟩, h4⟩ := ih (edg_lt he) (by have := suc_lt hJ hc he; omega)
      refine ⟨k :: l, ⟨rfl, ⟨he, h2⟩, fun q hq => h3 q (by rwa [List.getLast?_cons_cons] at hq)⟩, ?_⟩
      rw [sumN_cons, h4, ht]; omega
/-- A chain down to a job from one that waits for none. -/
def src (J : List Job) (i : Nat) : Prop := i < J.length ∧ ∀ k, edg J k i = false
theorem down_ex {J : List Job} (hJ : FineJ J) (hc : cir J = false) {D : Nat → Int} (hD : ∀ i, i < J.length → 0 ≤ D i) : ∀ (m : Nat) {i : Nat}, i < J.length → prd J i ≤ m → ∃ l, (∃ s, (l ++ [i]).head? = some s ∧ src J s) ∧ IsCh J (l ++ [i]) ∧ sumN D (l ++ [i]) = D i + beg J D i := by
  have base : ∀ {i : Nat}, i < J.length → (∀ k, edg J k i = false) → ∃ l, (∃ s, (l ++ [i]).head? = some s ∧ src J s) ∧ IsCh J (l ++ [i]) ∧ sumN D (l ++ [i]) = D i + beg J D i := by
    intro i hi hn
    refine ⟨[], ⟨i, rfl, hi, hn⟩, hi, ?_⟩
    rcases beg_wit hJ hc D hi with h | ⟨k, h, _⟩
    · rw [List.nil_append, sumN_cons, sumN_nil, h]
    · rw [hn k] at h; cases h
  intro m
  induction m with
  | zero =>
    intro i hi hm
    refine base hi fun k => ?_
    cases he : edg J k i with
    | false => rfl
    | true => have := prd_lt hc he (hJ.edge_lt he); omega
  | succ m ih =>
    intro i hi hm
    by_cases hn : ∀ k, edg J k i = false
    · exact base hi hn
    · have hk : ∃ k, edg J k i = true ∧ beg J D i = beg J D k + D k := by
        rcases beg_wit hJ hc D hi with h | h
        · simp only [Classical.not_forall, Bool.not_eq_false] at hn
          obtain ⟨k, hk⟩ := hn
          have h1 := beg_ge hJ hc D hk
          have h2 := beg_nn J D k
          have h3 := hD k (hJ.edge_lt hk)
          exact ⟨k, hk, by omega⟩
        · exact h
      obtain ⟨k, he, ht⟩ := hk
      obtain ⟨l, ⟨s, h1, h1'⟩, h2, h4⟩ := ih (hJ.edge_lt he) (by have := prd_lt hc he (hJ.edge_lt he); omega)
      refine ⟨l ++ [k], ⟨s, ?_, h1'⟩, h2.snoc he, ?_⟩
      · cases l with
        | nil => exact h1
        | cons a l => exact h1
      · rw [sumN_append, h4, ht, sumN_cons, sumN_nil]; omega
/-- Two chains, one behind the other. -/
theorem IsCh.join {J : List Job} : ∀ {l : List Nat} {i : Nat} {m : List Nat}, IsCh J (l ++ [i]) → IsCh J (i :: m) → IsCh J (l ++ i :: m)
  | [], _, _, _, h => h
  | [_], _, _, h, h2 => ⟨h.1, h2⟩
  | _ :: b :: l, _, _, h, h2 => ⟨h.1, IsCh.join (l := b :: l) h.2 h2⟩
theorem IsCh.left {J : List Job} (hJ : FineJ J) : ∀ {l : List Nat} {i : Nat} {m : List Nat}, IsCh J (l ++ i :: m) → IsCh J (l ++ [i]) ∧ IsCh J (i :: m)
  | [], i, m, h => ⟨h.lt hJ i (by simp), h⟩
  | [a], i, m, h => ⟨⟨h.1, h.2.lt hJ i (by simp)⟩, h.2⟩
  | a :: b :: l, i, m, h => by
    obtain ⟨h1, h2⟩ := IsCh.left hJ (l := b :: l) h.2
    exact ⟨⟨h.1, h1⟩, h2⟩
/-- A chain from a job that waits for none to one for which none waits. -/
def Full (J : List Job) (l : List Nat) : Prop := (∃ s, l.head? = some s ∧ src J s) ∧ IsCh J l ∧ ∀ k, l.getLast? = some k → nxt J k = []
theorem sum_down {J : List Job} (hJ : FineJ J) (hc : cir J = false) {D : Nat → Int} : ∀ {l : List Nat} {i : Nat}, i < J.length → IsCh J (l ++ [i]) → ∀ {c : Int}, c ≤ beg J D i → c ≥ 0 → sumN D (l ++ [i]) ≤ D i + beg J D i := by
  intro l
  have key : ∀ (l : List Nat) (i k : Nat), IsCh J (k :: l ++ [i]) → beg J D k + sumN D (k :: l) ≤ beg J D i := by
    intro l
    induction l with
    | nil =>
      intro i k h
      rw [sumN_cons, sumN_nil]
      have := beg_ge hJ hc D h.1; omega
    | cons a l ih =>
      intro i k h
      have h1 := ih i a h.2
      have h2 := beg_ge hJ hc D h.1
      rw [sumN_cons]; omega
  intro i hi h c _ _
  cases l with
  | nil => have := beg_nn J D i; rw [List.nil_append, sumN_cons, sumN_nil]; omega
  | cons k l =>
    have h1 := key l i k h
    have h2 := beg_nn J D k
    rw [sumN_append, sumN_cons D i, sumN_nil]; omega
theorem sum_thru {J : List Job} (hJ : FineJ J) (hc : cir J = false) {D : Nat → Int} {c : List Nat} (h : IsCh J c) {j : Nat} (hj : j ∈ c) : sumN D c ≤ beg J D j + D j + tl J D j := by
  obtain ⟨l, m, rfl⟩ := List.append_of_mem hj
  obtain ⟨h1, h2⟩ := h.left hJ
  have hjl := h2.lt hJ j (by simp)
  have h3 := sum_down hJ hc (D := D) hjl h1 (c := 0) (beg_nn _ _ _) (by omega)
  have h4 := sum_up hJ hc (D := D) h2
  rw [sumN_append, sumN_cons, sumN_nil] at h3
  rw [sumN_cons] at h4
  rw [sumN_append, sumN_cons]; omega
/-- A full chain that goes through a job and takes as long as can be. -/
theorem thru_ex {J : List Job} (hJ : FineJ J) (hc : cir J = false) {D : Nat → Int} (hD : ∀ i, i < J.length → 0 ≤ D i) {j : Nat} (hj : j < J.length) : ∃ c, Full J c ∧ j ∈ c ∧ sumN D c = beg J D j + D j + tl J D j := by
  obtain ⟨l, ⟨s, h1, h1'⟩, h2, h3⟩ := down_ex hJ hc hD _ hj (Nat.le_refl _)
  obtain ⟨m, ⟨_, g2, g3⟩, g4⟩ := up_ex hJ hc hD _ hj (Nat.le_refl _)
  refine ⟨l ++ j :: m, ⟨⟨s, ?_, h1'⟩, h2.join g2, fun k hk => g3 k ?_⟩, by simp, ?_⟩
  · cases l with
    | nil => exact h1
    | cons a l => exact h1
  · rw [List.getLast?_append] at hk
    rw [List.getLast?_cons] at hk ⊢
    simpa using hk
  · rw [sumN_append, sumN_cons, sumN_nil] at h3
    rw [sumN_cons] at g4
    rw [sumN_append, sumN_cons]; omega
theorem ch_takes {J : List Job} (hJ : FineJ J) (hc : cir J = false) {D : Nat → Int} {c : List Nat} (h : IsCh J c) : sumN D c ≤ takes J D := by
  by_cases hn : c = []
  · subst hn; exact takes_nn J D
  · obtain ⟨l, i, rfl⟩ : ∃ l i, c = l ++ [i] := ⟨c.dropLast, c.getLast hn, (List.dropLast_concat_getLast hn).symm⟩
    have hi := h.lt hJ i (by simp)
    have h1 := sum_down hJ hc (D := D) hi h (c := 0) (beg_nn _ _ _) (by omega)
    have h2 := takes_ge D hi
    omega
theorem through_le {J : List Job} (hJ : FineJ J) (hc : cir J = false) {D : Nat → Int} (hD : ∀ i, i < J.length → 0 ≤ D i) {j : Nat} (hj : j < J.length) : beg J D j + D j + tl J D j ≤ takes J D := by
  obtain ⟨c, h1, _, h2⟩ := thru_ex hJ hc hD hj
  have := ch_takes hJ hc (D := D) h1.2.1
  omega
/-- A full chain that takes as long as the work. -/
theorem long_ex {J : List Job} (hJ : FineJ J) (hc : cir J = false) {D : Nat → Int} (hD : ∀ i, i < J.length → 0 ≤ D i) : ∃ c, Full J c ∧ sumN D c = takes J D := by
  obtain ⟨i, hi, ht⟩ := takes_wit D hJ hD
  obtain ⟨c, h1, _, h2⟩ := thru_ex hJ hc hD hi
  have h3 := ch_takes hJ hc (D := D) h1.2.1
  have h4 := tl_nn J D i
  exact ⟨c, h1, by omega⟩
/-- A job is on a longest chain. -/
theorem on_iff {J : List Job} (hJ : FineJ J) (hc : cir J = false) {D : Nat → Int} (hD : ∀ i, i < J.length → 0 ≤ D i) {j : Nat} (hj : j < J.length) : beg J D j + D j + tl J D j = takes J D ↔ ∃ c, Full J c ∧ j ∈ c ∧ sumN D c = takes J D := by
  constructor
  · intro h
    obtain ⟨c, h1, h2, h3⟩ := thru_ex hJ hc hD hj
    exact ⟨c, h1, h2, by omega⟩
  · rintro ⟨c, h1, h2, h3⟩
    have h4 := sum_thru hJ hc (D := D) h1.2.1 h2
    have h5 := through_le hJ hc hD hj
    omega

theorem flatMap_same {α β : Type} {f g : α → List β} : ∀ {l : List α}, (∀ x ∈ l, f x = g x) → l.flatMap f = l.flatMap g
  | [], _ => rfl
  | a :: l, h => by
    rw [List.flatMap_cons, List.flatMap_cons, h a (by simp), flatMap_same (l := l) fun x hx => h x (List.mem_cons_of_mem _ hx)]
/-- All chains up from a job, as the document goes through them. -/
def chnF (J : List Job) : Nat → Nat → List (List Nat)
  | 0, _ => []
  | m + 1, i => if nxt J i = [] then [[i]] else (nxt J i).flatMap fun k => (chnF J m k).map fun l => i :: l
theorem chnF_up {J : List Job} (hJ : FineJ J) (hc : cir J = false) : ∀ (m : Nat) {i : Nat}, i < J.length → suc J i < m → chnF J (m + 1) i = chnF J m i
  | 0, _, _, h => by omega
  | m + 1, i, hi, h => by
    rw [chnF, chnF.eq_2 J i m]
    split
    · rfl
    · refine flatMap_same fun k hk => ?_
      have he := nxt_mem.1 hk
      rw [chnF_up hJ hc m (edg_lt he) (by have := suc_lt hJ hc he; omega)]
def chn (J : List Job) (i : Nat) : List (List Nat) := chnF J J.length i
theorem chn_eq {J : List Job} (hJ : FineJ J) (hc : cir J = false) {i : Nat} (hi : i < J.length) : chn J i = if nxt J i = [] then [[i]] else (nxt J i).flatMap fun k => (chn J k).map fun l => i :: l := by
  show chnF J J.length i = _
  rw [← chnF_up hJ hc J.length hi (suc_le hJ hc hi), chnF]
  rfl
theorem chn_step {J : List Job} (hJ : FineJ J) (hc : cir J = false) {i : Nat} (hi : i < J.length) (ih : ∀ k, edg J i k = true → ∀ l, l ∈ chn J k ↔ Up J k l) (l : List Nat) : l ∈ chn J i ↔ Up J i l := by
  rw [chn_eq hJ hc hi]
  by_cases hn : nxt J i = []
  · rw [if_pos hn, List.mem_singleton]
    constructor
    · rintro rfl
      exact ⟨rfl, hi, fun k hk => by simp at hk; subst hk; exact hn⟩
    · rintro ⟨h1, h2, h3⟩
      match l, h1, h2 with
      | [a], h1, _ => simp at h1; subst h1; rfl
      | a :: b :: l, h1, h2 =>
        simp at h1; subst h1
        have h4 : edg J a b = true := h2.1
        rw [nxt_nil hn] at h4; cases h4
  · rw [if_neg hn, List.mem_flatMap]
    constructor
    · rintro ⟨k, hk, hl⟩
      have he := nxt_mem.1 hk
      obtain ⟨l', hl', rfl⟩ := List.mem_map.1 hl
      obtain ⟨h1, h2, h3⟩ := (ih k he l').1 hl'
      match l', h1, h2, h3 with
      | a :: l', h1, h2, h3 =>
        simp at h1; subst h1
        exact ⟨rfl, ⟨he, h2⟩, fun q hq => h3 q (by rwa [List.getLast?_cons_cons] at hq)⟩
    · rintro ⟨h1, h2, h3⟩
      match l, h1, h2, h3 with
      | [a], h1, h2, h3 => simp at h1; subst h1; exact absurd (h3 a rfl) hn
      | a :: b :: l, h1, h2, h3 =>
        simp at h1; subst h1
        refine ⟨b, nxt_mem.2 h2.1, List.mem_map.2 ⟨b :: l, ?_, rfl⟩⟩
        exact (ih b h2.1 _).2 ⟨rfl, h2.2, fun q hq => h3 q (by rwa [List.getLast?_cons_cons])⟩
theorem chn_mem {J : List Job} (hJ : FineJ J) (hc : cir J = false) : ∀ (m : Nat) {i : Nat}, i < J.length → suc J i ≤ m → ∀ l, l ∈ chn J i ↔ Up J i l
  | 0, i, hi, hm, l => chn_step hJ hc hi (fun k he => by have := suc_lt hJ hc he; omega) l
  | m + 1, i, hi, hm, l => chn_step hJ hc hi (fun k he => chn_mem hJ hc m (edg_lt he) (by have := suc_lt hJ hc he; omega)) l
/-- A job that waits for none. -/
def srcB (J : List Job) (i : Nat) : Bool := (job J i).ws.length == 0
theorem src_iff {J : List Job} (hJ : FineJ J) {i : Nat} (hi : i < J.length) : srcB J i = true ↔ src J i := by
  unfold srcB
  rw [beq_iff_eq]
  constructor
  · intro h
    refine ⟨hi, fun k => ?_⟩
    cases he : edg J k i with
    | false => rfl
    | true => obtain ⟨j, hj, _⟩ := hJ.edge he; omega
  · rintro ⟨_, h⟩
    refine Classical.byContradiction fun hn => ?_
    obtain ⟨b, _, _, he⟩ := hJ.wait hi (j := 0) (by omega)
    rw [h b] at he; cases he
def chsTo (J : List Job) (k : Nat) : List (List Nat) := ((List.range k).filter (srcB J)).flatMap (chn J)
/-- All full chains. -/
def chs (J : List Job) : List (List Nat) := chsTo J J.length
theorem chsTo_succ (J : List Job) (k : Nat) : chsTo J (k + 1) = chsTo J k ++ if srcB J k then chn J k else [] := by
  unfold chsTo
  rw [List.range_succ, List.filter_append, List.flatMap_append]
  congr 1
  cases h : srcB J k <;> simp [h]
theorem chs_mem {J : List Job} (hJ : FineJ J) (hc : cir J = false) (l : List Nat) : l ∈ chs J ↔ Full J l := by
  unfold chs chsTo
  rw [List.mem_flatMap]
  constructor
  · rintro ⟨i, hi, hl⟩
    rw [List.mem_filter, List.mem_range] at hi
    obtain ⟨h1, h2, h3⟩ := (chn_mem hJ hc _ hi.1 (Nat.le_refl _) l).1 hl
    exact ⟨⟨i, h1, (src_iff hJ hi.1).1 hi.2⟩, h2, h3⟩
  · rintro ⟨⟨s, h1, h1'⟩, h2, h3⟩
    refine ⟨s, ?_, (chn_mem hJ hc _ h1'.1 (Nat.le_refl _) l).2 ⟨h1, h2, h3⟩⟩
    rw [List.mem_filter, List.mem_range]
    exact ⟨h1'.1, (src_iff hJ h1'.1).2 h1'⟩
end Go.Proofs.YteknehlkdgamjaaGreat

namespace Go.Proofs.YteknehlkdgamjaaGreat

/-- A match: of job i the job elt nx i comes after it in its list, of job k the job elt bf k before it; st: the one whose mark is stale (-1: none). -/
structure Mat (J : List Job) (nx bf : List Int) (st : Int) : Prop where
  ln : nx.length = J.length
  lb : bf.length = J.length
  left : ∀ i, i < J.length → elt nx i = -1 ∨ ∃ k : Nat, k < J.length ∧ elt nx i = (k : Int) ∧ (k : Int) ≠ st ∧ aft J i k = true ∧ elt bf k = (i : Int)
  right : ∀ k, k < J.length → elt bf k = -1 ∨ ∃ i : Nat, i < J.length ∧ elt bf k = (i : Int) ∧ aft J i k = true ∧ ((k : Int) ≠ st → elt nx i = (k : Int))
theorem elt_rep (n i : Nat) (x : Int) (h : i < n) : elt (List.replicate n x) i = x := by
  unfold elt; rw [List.getElem?_replicate, if_pos h]; rfl
theorem Mat.start (J : List Job) : Mat J (List.replicate J.length (-1)) (List.replicate J.length (-1)) (-1) :=
  ⟨by simp, by simp, fun i hi => .inl (elt_rep _ _ _ hi), fun k hk => .inl (elt_rep _ _ _ hk)⟩
/-- A set of jobs that are behind others, and all that come after those. -/
def Clo (J : List Job) (bf : List Int) (S : Nat → Prop) : Prop := ∀ k, k < J.length → S k → ∃ i : Nat, i < J.length ∧ elt bf k = (i : Int) ∧ ∀ q, q < J.length → aft J i q = true → S q
/-- Marks: each is 0 or 1. -/
def Marks01 (n : Nat) (S : List Int) : Prop := S.length = n ∧ ∀ k, k < n → elt S k = 0 ∨ elt S k = 1
def zer (n : Nat) (S : List Int) : Nat := (List.range n).countP fun k => elt S k == 0
theorem Marks01.zero (n : Nat) : Marks01 n (List.replicate n 0) := ⟨by simp, fun k hk => .inl (elt_rep _ _ _ hk)⟩
theorem Marks01.set {n : Nat} {S : List Int} (h : Marks01 n S) (k : Nat) : Marks01 n (S.set k 1) := by
  refine ⟨by rw [List.length_set]; exact h.1, fun c hc => ?_⟩
  by_cases hk : k < S.length
  · rw [elt_set hk]; split
    · exact .inr rfl
    · exact h.2 c hc
  · rw [List.set_eq_of_length_le (by omega)]; exact h.2 c hc
theorem zer_set {n : Nat} {S : List Int} (h : Marks01 n S) {k : Nat} (hk : k < n) (h0 : elt S k = 0) : zer n (S.set k 1) < zer n S := by
  have hkS : k < S.length := by rw [h.1]; exact hk
  refine countP_lt (fun c hc hz => ?_) ⟨k, List.mem_range.2 hk, by rw [h0]; rfl, by rw [elt_set hkS, if_pos rfl]; rfl⟩
  rw [beq_iff_eq, elt_set hkS] at hz
  split at hz
  · omega
  · rw [beq_iff_eq]; exact hz
theorem zer_le (n : Nat) (S : List Int) : zer n S ≤ n := by
  have := List.countP_le_length (p := fun k => elt S k == 0) (l := List.range n)
  rwa [List.length_range] at this
theorem zer_mono {n : Nat} {S T : List Int} (h : Marks01 n S) (_hT : Marks01 n T) (hst : ∀ c, c < n → elt S c = 1 → elt T c = 1) : zer n T ≤ zer n S := by
  refine List.countP_mono_left fun c hc hz => ?_
  rw [List.mem_range] at hc
  rw [beq_iff_eq] at hz ⊢
  rcases h.2 c hc with h1 | h1
  · exact h1
  · have := hst c hc h1; omega
/-- extend comes to nothing: seen were S, seen are T. -/
structure ExNo (J : List Job) (bf : List Int) (i : Nat) (S T : List Int) : Prop where
  m : Marks01 J.length T
  up : ∀ c, c < J.length → elt S c = 1 → elt T c = 1
  all : ∀ c, c < J.length → aft J i c = true → elt T c = 1
  clo : ∀ c, c < J.length → elt T c = 1 → elt S c = 1 ∨ ∃ b : Nat, b < J.length ∧ elt bf c = (b : Int) ∧ ∀ q, q < J.length → aft J b q = true → elt T q = 1
/-- extend goes on: behind job k. -/
structure ExI (J : List Job) (bf : List Int) (i k : Nat) (S T : List Int) : Prop where
  m : Marks01 J.length T
  up : ∀ c, c < J.length → elt S c = 1 → elt T c = 1
  all : ∀ c, c < k → c < J.length → aft J i c = true → elt T c = 1
  clo : ∀ c, c < J.length → elt T c = 1 → elt S c = 1 ∨ ∃ b : Nat, b < J.length ∧ elt bf c = (b : Int) ∧ ∀ q, q < J.length → aft J b q = true → elt T q = 1
theorem ExI.start {J : List Job} {bf : List Int} {i : Nat} {S : List Int} (h : Marks01 J.length S) : ExI J bf i 0 S S := ⟨h, fun _ _ h => h, fun _ h => by omega, fun _ _ h => .inl h⟩
theorem ExI.fin {J : List Job} {bf : List Int} {i : Nat} {S T : List Int} (h : ExI J bf i J.length S T) : ExNo J bf i S T := ⟨h.m, h.up, fun c hc => h.all c hc hc, h.clo⟩
theorem ExI.skip {J : List Job} {bf : List Int} {i k : Nat} {S T : List Int} (h : ExI J bf i k S T) (hk : aft J i k = false ∨ elt T k = 1) : ExI J bf i (k + 1) S T := by
  refine ⟨h.m, h.up, fun c hc hcn ha => ?_, h.clo⟩
  by_cases e : c = k
  · subst e
    rcases hk with hk | hk
    · rw [hk] at ha; cases ha
    · exact hk
  · exact h.all c (by omega) hcn ha
theorem ExI.fail {J : List Job} {bf : List Int} {i k b : Nat} {S T U : List Int} (h : ExI J bf i k S T) (hk : k < J.length) (hb : b < J.length) (he : elt bf k = (b : Int)) (hf : ExNo J bf b (T.set k 1) U) : ExI J bf i (k + 1) S U := by
  have hkT : k < T.length := by rw [h.m.1]; exact hk
  have hup : ∀ c, c < J.length → elt T c = 1 → elt U c = 1 := fun c hc h1 => hf.up c hc (by rw [elt_set hkT]; split; rfl; exact h1)
  refine ⟨hf.m, fun c hc h1 => hup c hc (h.up c hc h1), fun c hc hcn ha => ?_, fun c hc h1 => ?_⟩
  · by_cases e : c = k
    · subst e; exact hf.up c hk (by rw [elt_set hkT, if_pos rfl])
    · exact hup c hcn (h.all c (by omega) hcn ha)
  · rcases hf.clo c hc h1 with h2 | h2
    · rw [elt_set hkT] at h2
      split at h2
      · rename_i e; subst e
        exact .inr ⟨b, hb, he, hf.all⟩
      · rcases h.clo c hc h2 with h3 | ⟨b', h3, h4, h5⟩
        · exact .inl h3
        · exact .inr ⟨b', h3, h4, fun q hq ha => hup q hq (h5 q hq ha)⟩
    · exact .inr h2
/-- extend finds a job behind job i: seen were S; the match was nx bf, and is nx' bf'. -/
structure ExYes (J : List Job) (nx bf : List Int) (i : Nat) (S : List Int) (nx' bf' : List Int) : Prop where
  mat : Mat J nx' bf' (elt nx i)
  here : ∃ k : Nat, k < J.length ∧ elt nx' i = (k : Int) ∧ elt S k = 0 ∧ aft J i k = true
  lk : ∀ q, q < J.length → 0 ≤ elt nx q → 0 ≤ elt nx' q
  rk : ∀ k, k < J.length → 0 ≤ elt bf k → 0 ≤ elt bf' k
  seen : ∀ k, k < J.length → elt S k = 1 → elt bf' k = elt bf k
  stay : ∀ q, q < J.length → q ≠ i → (elt nx q = -1 ∨ ∃ k : Nat, k < J.length ∧ elt nx q = (k : Int) ∧ elt S k = 1) → elt nx' q = elt nx q
  clo : ∀ P : Nat → Prop, Clo J bf P → (∀ k, k < J.length → P k → elt bf' k = elt bf k) ∧ ∃ k, k < J.length ∧ aft J i k = true ∧ ¬ P k
/-- Job i, and what was seen before, when extend begins. -/
structure ExPre (J : List Job) (nx bf : List Int) (i : Nat) (S : List Int) : Prop where
  mat : Mat J nx bf (-1)
  hi : i < J.length
  m : Marks01 J.length S
  own : elt nx i = -1 ∨ ∃ k : Nat, k < J.length ∧ elt nx i = (k : Int) ∧ elt S k = 1
theorem ExI.pre {J : List Job} {nx bf : List Int} {i k : Nat} {S T : List Int} (hp : ExPre J nx bf i S) (h : ExI J bf i k S T) (hk : k < J.length) (h0 : elt T k = 0) {b : Nat} (he : elt bf k = (b : Int)) :
    ExPre J nx bf b (T.set k 1) ∧ elt nx b = (k : Int) ∧ b ≠ i := by
  have hkT : k < T.length := by rw [h.m.1]; exact hk
  rcases hp.mat.right k hk with h1 | ⟨b', hb', e', ha, hn⟩
  · omega
  · obtain rfl : b = b' := by omega
    have hnb := hn (by omega)
    refine ⟨⟨hp.mat, hb', h.m.set k, .inr ⟨k, hk, hnb, by rw [elt_set hkT, if_pos rfl]⟩⟩, hnb, fun e => ?_⟩
    subst e
    rcases hp.own with h2 | ⟨k', hk', h2, h3⟩
    · omega
    · have : k = k' := by omega
      subst this
      have := h.up k hk h3; omega
/-- A job that is behind none yet. -/
theorem ExYes.new {J : List Job} {nx bf : List Int} {i k : Nat} {S T : List Int} (hp : ExPre J nx bf i S) (h : ExI J bf i k S T) (hk : k < J.length) (ha : aft J i k = true) (h0 : elt T k = 0) (hb : elt bf k = -1) :
    ExYes J nx bf i S (nx.set i k) (bf.set k i) := by
  have hin : i < nx.length := by rw [hp.mat.ln]; exact hp.hi
  have hkb : k < bf.length := by rw [hp.mat.lb]; exact hk
  have hS0 : elt S k = 0 := by
    rcases hp.m.2 k hk with h1 | h1
    · exact h1
    · have := h.up k hk h1; omega
  have hks : (k : Int) ≠ elt nx i := by
    intro e
    rcases hp.own with h2 | ⟨k', hk', h2, h3⟩
    · omega
    · have : k = k' := by omega
      subst this; omega
  refine ⟨⟨by rw [List.length_set]; exact hp.mat.ln, by rw [List.length_set]; exact hp.mat.lb, fun q hq => ?_, fun c hc => ?_⟩, ⟨k, hk, by rw [elt_set hin, if_pos rfl], hS0, ha⟩, fun q hq hn => ?_, fun c hc hn => ?_, fun c hc h1 => ?_, fun q hq hne _ => by rw [elt_set hin, if_neg hne], fun P hP => ⟨fun c hc hPc => ?_, k, hk, ha, fun hPk => ?_⟩⟩
  · by_cases e : q = i
    · subst e
      right; exact ⟨k, hk, by rw [elt_set hin, if_pos rfl], hks, ha, by rw [elt_set hkb, if_pos rfl]⟩
    · rw [elt_set hin, if_neg e]
      rcases hp.mat.left q hq with h1 | ⟨c, hc, h1, _, h2, h3⟩
      · exact .inl h1
      · right
        refine ⟨c, hc, h1, fun ec => ?_, h2, ?_⟩
        · rcases hp.mat.left i hp.hi with h4 | ⟨c', _, h4, _, _, h5⟩
          · omega
          · have : c = c' := by omega
            subst this; omega
        · rw [elt_set hkb, if_neg (fun ec => by subst ec; omega)]; exact h3
  · by_cases e : c = k
    · subst e
      right; exact ⟨i, hp.hi, by rw [elt_set hkb, if_pos rfl], ha, fun _ => by rw [elt_set hin, if_pos rfl]⟩
    · rw [elt_set hkb, if_neg e]
      rcases hp.mat.right c hc with h1 | ⟨b, hb', h1, h2, h3⟩
      · exact .inl h1
      · right
        refine ⟨b, hb', h1, h2, fun hne => ?_⟩
        have h4 := h3 (by omega)
        rw [elt_set hin, if_neg (fun eb => by subst eb; omega)]
        exact h4
  · rw [elt_set hin]; split
    · omega
    · exact hn
  · rw [elt_set hkb]; split
    · omega
    · exact hn
  · rw [elt_set hkb, if_neg (fun e => by subst e; omega)]
  · rw [elt_set hkb, if_neg (fun e => by subst e; obtain ⟨b, _, h2, _⟩ := hP c hc hPc; omega)]
  · obtain ⟨b, _, h2, _⟩ := hP k hk hPk; omega
/-- A job whose job before it goes elsewhere. -/
theorem ExYes.deep {J : List Job} {nx bf nx' bf' : List Int} {i k b : Nat} {S T : List Int} (hp : ExPre J nx bf i S) (h : ExI J bf i k S T) (hk : k < J.length) (ha : aft J i k = true) (h0 : elt T k = 0) (hb : elt bf k = (b : Int)) (hd : ExYes J nx bf b (T.set k 1) nx' bf') :
    ExYes J nx bf i S (nx'.set i k) (bf'.set k i) := by
  obtain ⟨hpb, hnb, hne⟩ := h.pre hp hk h0 hb
  have hin : i < nx'.length := by rw [hd.mat.ln]; exact hp.hi
  have hkb : k < bf'.length := by rw [hd.mat.lb]; exact hk
  have hkT : k < T.length := by rw [h.m.1]; exact hk
  have hS0 : elt S k = 0 := by
    rcases hp.m.2 k hk with h1 | h1
    · exact h1
    · have := h.up k hk h1; omega
  have hup : ∀ c, c < J.length → elt S c = 1 → elt (T.set k 1) c = 1 := fun c hc h1 => by
    rw [elt_set hkT]; split
    · rfl
    · exact h.up c hc h1
  have hks : (k : Int) ≠ elt nx i := by
    intro e
    rcases hp.own with h2 | ⟨k', hk', h2, h3⟩
    · omega
    · have : k = k' := by omega
      subst this; omega
  have hown : elt nx i = -1 ∨ ∃ c : Nat, c < J.length ∧ elt nx i = (c : Int) ∧ elt (T.set k 1) c = 1 := hp.own.imp id fun ⟨c, hc, h1, h2⟩ => ⟨c, hc, h1, hup c hc h2⟩
  have hni : elt nx' i = elt nx i := hd.stay i hp.hi (fun e => hne e.symm) hown
  have hm := hd.mat
  rw [hnb] at hm
  refine ⟨⟨by rw [List.length_set]; exact hm.ln, by rw [List.length_set]; exact hm.lb, fun q hq => ?_, fun c hc => ?_⟩, ⟨k, hk, by rw [elt_set hin, if_pos rfl], hS0, ha⟩, fun q hq hn => ?_, fun c hc hn => ?_, fun c hc h1 => ?_, fun q hq hnq hq2 => ?_, fun P hP => ⟨fun c hc hPc => ?_, k, hk, ha, fun hPk => ?_⟩⟩
  · by_cases e : q = i
    · subst e
      right; exact ⟨k, hk, by rw [elt_set hin, if_pos rfl], hks, ha, by rw [elt_set hkb, if_pos rfl]⟩
    · rw [elt_set hin, if_neg e]
      rcases hm.left q hq with h1 | ⟨c, hc, h1, h1', h2, h3⟩
      · exact .inl h1
      · right
        refine ⟨c, hc, h1, fun ec => ?_, h2, ?_⟩
        · rcases hp.own with h4 | ⟨c', hc', h4, h5⟩
          · omega
          · have : c = c' := by omega
            subst this
            have h6 := hd.seen c hc (hup c hc h5)
            rcases hp.mat.left i hp.hi with h7 | ⟨c', _, h7, _, _, h8⟩
            · omega
            · have : c = c' := by omega
              subst this; omega
        · rw [elt_set hkb, if_neg (fun ec => by subst ec; omega)]; exact h3
  · by_cases e : c = k
    · subst e
      right; exact ⟨i, hp.hi, by rw [elt_set hkb, if_pos rfl], ha, fun _ => by rw [elt_set hin, if_pos rfl]⟩
    · rw [elt_set hkb, if_neg e]
      rcases hm.right c hc with h1 | ⟨d, hd', h1, h2, h3⟩
      · exact .inl h1
      · right
        refine ⟨d, hd', h1, h2, fun hnc => ?_⟩
        have h4 := h3 (by omega)
        rw [elt_set hin, if_neg (fun eb => by subst eb; omega)]
        exact h4
  · rw [elt_set hin]; split
    · omega
    · exact hd.lk q hq hn
  · rw [elt_set hkb]; split
    · omega
    · exact hd.rk c hc hn
  · rw [elt_set hkb, if_neg (fun e => by subst e; omega)]
    exact hd.seen c hc (hup c hc h1)
  · rw [elt_set hin, if_neg hnq]
    refine hd.stay q hq (fun e => ?_) (hq2.imp id fun ⟨c, hc, h1, h2⟩ => ⟨c, hc, h1, hup c hc h2⟩)
    subst e
    rcases hq2 with h1 | ⟨c, hc, h1, h2⟩
    · omega
    · have : c = k := by omega
      subst this; omega
  · obtain ⟨g1, g2⟩ := hd.clo P hP
    rw [elt_set hkb, if_neg (fun e => ?_)]
    · exact g1 c hc hPc
    · subst e
      obtain ⟨q, hq, ha2, hnP⟩ := g2
      obtain ⟨d, hd1, hd2, hd3⟩ := hP c hc hPc
      have : d = b := by omega
      subst this
      exact hnP (hd3 q hq ha2)
  · obtain ⟨q, hq, ha2, hnP⟩ := (hd.clo P hP).2
    obtain ⟨d, hd1, hd2, hd3⟩ := hP k hk hPk
    have : d = b := by omega
    subst this
    exact hnP (hd3 q hq ha2)
/-- The match in the making, behind the jobs before i. -/
structure MatI (J : List Job) (nx bf : List Int) (i : Nat) : Prop where
  mat : Mat J nx bf (-1)
  left : ∀ q, i ≤ q → q < J.length → elt nx q = -1
  no : ∀ q, q < i → q < J.length → elt nx q = -1 → ∃ P : Nat → Prop, Clo J bf P ∧ ∀ k, k < J.length → aft J q k = true → P k
theorem MatI.start (J : List Job) : MatI J (List.replicate J.length (-1)) (List.replicate J.length (-1)) 0 := ⟨Mat.start J, fun q _ hq => elt_rep _ _ _ hq, fun _ h => by omega⟩
theorem MatI.pre {J : List Job} {nx bf : List Int} {i : Nat} (h : MatI J nx bf i) (hi : i < J.length) : ExPre J nx bf i (List.replicate J.length 0) := ⟨h.mat, hi, Marks01.zero _, .inl (h.left i (Nat.le_refl _) hi)⟩
theorem MatI.fail {J : List Job} {nx bf : List Int} {i : Nat} {T : List Int} (h : MatI J nx bf i) (hi : i < J.length) (hf : ExNo J bf i (List.replicate J.length 0) T) : MatI J nx bf (i + 1) := by
  refine ⟨h.mat, fun q h1 h2 => h.left q (by omega) h2, fun q hq hqn hn => ?_⟩
  by_cases e : q = i
  · subst e
    refine ⟨fun k => elt T k = 1, fun k hk hT => ?_, hf.all⟩
    rcases hf.clo k hk hT with h1 | h1
    · rw [elt_rep _ _ _ hk] at h1; omega
    · exact h1
  · exact h.no q (by omega) hqn hn
theorem Clo.step {J : List Job} {bf bf' : List Int} {P : Nat → Prop} (h : Clo J bf P) (he : ∀ k, k < J.length → P k → elt bf' k = elt bf k) : Clo J bf' P := fun k hk hP => by
  rw [he k hk hP]; exact h k hk hP
theorem MatI.yes {J : List Job} {nx bf nx' bf' : List Int} {i : Nat} (h : MatI J nx bf i) (hi : i < J.length) (hy : ExYes J nx bf i (List.replicate J.length 0) nx' bf') : MatI J nx' bf' (i + 1) := by
  have h0 := h.left i (Nat.le_refl _) hi
  have hm := hy.mat
  rw [h0] at hm
  refine ⟨hm, fun q h1 h2 => ?_, fun q hq hqn hn => ?_⟩
  · rw [hy.stay q h2 (by omega) (.inl (h.left q (by omega) h2))]
    exact h.left q (by omega) h2
  · obtain ⟨k0, _, hk0, _, _⟩ := hy.here
    have hqi : q ≠ i := fun e => by subst e; omega
    have hq0 : elt nx q = -1 := by
      rcases h.mat.left q hqn with h1 | ⟨k, _, h1, _⟩
      · exact h1
      · have := hy.lk q hqn (by omega); omega
    obtain ⟨P, h1, h2⟩ := h.no q (by omega) hqn hq0
    exact ⟨P, h1.step (hy.clo P h1).1, h2⟩
end Go.Proofs.YteknehlkdgamjaaGreat

namespace Go.Proofs.YteknehlkdgamjaaGreat

theorem countP_or_le {α : Type} (p q r : α → Bool) (h : ∀ x, p x = true → q x = true ∨ r x = true) : ∀ l : List α, l.countP p ≤ l.countP q + l.countP r
  | [] => by simp
  | a :: l => by
    have ih := countP_or_le p q r h l
    rw [List.countP_cons, List.countP_cons, List.countP_cons]
    cases hp : p a with
    | false => simp; omega
    | true =>
      rcases h a hp with h1 | h1
      · rw [h1]; simp; omega
      · rw [h1]; simp; omega
/-- What free comes to: F, G are marks, W waits; job i is gone through, up to k. -/
structure FrI (J : List Job) (nx bf F G : List Int) (W : List Nat) (i k : Nat) : Prop where
  mF : Marks01 J.length F
  mG : Marks01 J.length G
  wlt : ∀ q ∈ W, q < J.length ∧ elt F q = 1
  un : ∀ q, q < J.length → elt nx q = -1 → elt F q = 1
  cls : ∀ q, q < J.length → elt F q = 1 → q ∉ W → q ≠ i → ∀ c, c < J.length → aft J q c = true → elt G c = 1
  now : i < J.length → elt F i = 1 ∧ ∀ c, c < k → c < J.length → aft J i c = true → elt G c = 1
  reach : ∀ q, q < J.length → elt F q = 1 → ∃ s, s < J.length ∧ elt nx s = -1 ∧ ∀ P : Nat → Prop, Clo J bf P → (∀ c, c < J.length → aft J s c = true → P c) → ∀ c, c < J.length → aft J q c = true → P c
  reachG : ∀ c, c < J.length → elt G c = 1 → ∃ s, s < J.length ∧ elt nx s = -1 ∧ ∀ P : Nat → Prop, Clo J bf P → (∀ c, c < J.length → aft J s c = true → P c) → P c
  bk : ∀ c, c < J.length → elt G c = 1 → ∀ b : Nat, b < J.length → elt bf c = (b : Int) → elt F b = 1
def unTo (nx : List Int) (k : Nat) : List Nat := (List.range k).filter fun q => decide (elt nx q < 0)
theorem unTo_succ (nx : List Int) (k : Nat) : unTo nx (k + 1) = if elt nx k < 0 then unTo nx k ++ [k] else unTo nx k := by
  unfold unTo
  rw [List.range_succ, List.filter_append]
  by_cases h : elt nx k < 0
  · rw [if_pos h]; simp [h]
  · rw [if_neg h]; simp [h]
theorem unTo_mem {nx : List Int} {k q : Nat} : q ∈ unTo nx k ↔ q < k ∧ elt nx q < 0 := by
  unfold unTo; rw [List.mem_filter, List.mem_range, decide_eq_true_iff]
theorem unTo_len (nx : List Int) (k : Nat) : (unTo nx k).length ≤ k := by
  have := List.length_filter_le (fun q => decide (elt nx q < 0)) (List.range k)
  rwa [List.length_range] at this
/-- Marks of the first k jobs behind which there is none. -/
structure UnI (n : Nat) (nx F : List Int) (k : Nat) : Prop where
  len : F.length = n
  at' : ∀ q, q < n → elt F q = if q < k ∧ elt nx q < 0 then 1 else 0
theorem UnI.zero (n : Nat) (nx : List Int) : UnI n nx (List.replicate n 0) 0 := ⟨by simp, fun q hq => by rw [elt_rep _ _ _ hq, if_neg (by omega)]⟩
theorem UnI.yes {n k : Nat} {nx F : List Int} (h : UnI n nx F k) (hk : k < n) (h0 : elt nx k < 0) : UnI n nx (F.set k 1) (k + 1) := by
  refine ⟨by rw [List.length_set]; exact h.len, fun q hq => ?_⟩
  rw [elt_set (by rw [h.len]; exact hk)]
  by_cases e : q = k
  · subst e; rw [if_pos rfl, if_pos ⟨by omega, h0⟩]
  · rw [if_neg e, h.at' q hq]
    by_cases h1 : q < k ∧ elt nx q < 0
    · rw [if_pos h1, if_pos ⟨by omega, h1.2⟩]
    · rw [if_neg h1, if_neg (fun h2 => h1 ⟨by omega, h2.2⟩)]
theorem UnI.no {n k : Nat} {nx F : List Int} (h : UnI n nx F k) (h0 : ¬ elt nx k < 0) : UnI n nx F (k + 1) := by
  refine ⟨h.len, fun q hq => ?_⟩
  rw [h.at' q hq]
  by_cases e : q = k
  · subst e; rw [if_neg (by omega), if_neg (fun h => h0 h.2)]
  · by_cases h1 : q < k ∧ elt nx q < 0
    · rw [if_pos h1, if_pos ⟨by omega, h1.2⟩]
    · rw [if_neg h1, if_neg (fun h2 => h1 ⟨by omega, h2.2⟩)]
theorem UnI.fri {J : List Job} {nx bf F : List Int} (hm : MatI J nx bf J.length) (h : UnI J.length nx F J.length) : FrI J nx bf F (List.replicate J.length 0) (unTo nx J.length) J.length 0 := by
  have h1 : ∀ q, q < J.length → elt F q = 1 → elt nx q = -1 := fun q hq e => by
    rw [h.at' q hq] at e
    split at e
    · rcases hm.mat.left q hq with h2 | ⟨k, _, h2, _⟩
      · exact h2
      · omega
    · omega
  refine ⟨⟨h.len, fun k hk => ?_⟩, Marks01.zero _, fun q hq => ?_, fun q hq hn => ?_, fun q hq hF hW => ?_, fun hi => by omega, fun q hq hF => ⟨q, hq, h1 q hq hF, fun P _ h => h⟩, fun c hc hG => ?_, fun c hc hG => ?_⟩
  · rw [h.at' k hk]; split
    · exact .inr rfl
    · exact .inl rfl
  · obtain ⟨h2, h3⟩ := unTo_mem.1 hq
    exact ⟨h2, by rw [h.at' q h2, if_pos ⟨h2, h3⟩]⟩
  · rw [h.at' q hq, if_pos ⟨hq, by omega⟩]
  · exact absurd (unTo_mem.2 ⟨hq, by have := h1 q hq hF; omega⟩) hW
  · rw [elt_rep _ _ _ hc] at hG; omega
  · rw [elt_rep _ _ _ hc] at hG; omega
theorem FrI.pop {J : List Job} {nx bf F G : List Int} {W : List Nat} {i : Nat} (h : FrI J nx bf F G (i :: W) J.length 0) : FrI J nx bf F G W i 0 := by
  refine ⟨h.mF, h.mG, fun q hq => h.wlt q (List.mem_cons_of_mem _ hq), h.un, fun q hq hF hW hne => h.cls q hq hF (fun hq2 => ?_) (by omega), fun _ => ⟨(h.wlt i (by simp)).2, fun c hc => by omega⟩, h.reach, h.reachG, h.bk⟩
  rcases List.mem_cons.1 hq2 with e | e
  · exact hne e
  · exact hW e
theorem FrI.done {J : List Job} {nx bf F G : List Int} {W : List Nat} {i : Nat} (h : FrI J nx bf F G W i J.length) (hi : i < J.length) : FrI J nx bf F G W J.length 0 := by
  refine ⟨h.mF, h.mG, h.wlt, h.un, fun q hq hF hW _ c hc ha => ?_, fun hi => by omega, h.reach, h.reachG, h.bk⟩
  by_cases e : q = i
  · subst e; exact (h.now hi).2 c hc hc ha
  · exact h.cls q hq hF hW e c hc ha
theorem FrI.skip {J : List Job} {nx bf F G : List Int} {W : List Nat} {i k : Nat} (h : FrI J nx bf F G W i k) (hk : aft J i k = false ∨ elt G k = 1) : FrI J nx bf F G W i (k + 1) := by
  refine ⟨h.mF, h.mG, h.wlt, h.un, h.cls, fun hi => ⟨(h.now hi).1, fun c hc hcn ha => ?_⟩, h.reach, h.reachG, h.bk⟩
  by_cases e : c = k
  · subst e
    rcases hk with hk | hk
    · rw [hk] at ha; cases ha
    · exact hk
  · exact (h.now hi).2 c (by omega) hcn ha
theorem FrI.mark {J : List Job} {nx bf F G : List Int} {W : List Nat} {i k : Nat} (h : FrI J nx bf F G W i k) (hi : i < J.length) (hk : k < J.length) (ha : aft J i k = true) (hb : elt bf k = -1 ∨ ∃ b : Nat, b < J.length ∧ elt bf k = (b : Int) ∧ elt F b = 1) :
    FrI J nx bf F (G.set k 1) W i (k + 1) := by
  have hkG : k < G.length := by rw [h.mG.1]; exact hk
  have hup : ∀ c, elt G c = 1 → elt (G.set k 1) c = 1 := fun c h1 => by
    rw [elt_set hkG]; split
    · rfl
    · exact h1
  refine ⟨h.mF, h.mG.set k, h.wlt, h.un, fun q hq hF hW hne c hc hac => hup c (h.cls q hq hF hW hne c hc hac), fun hi => ⟨(h.now hi).1, fun c hc hcn hac => ?_⟩, h.reach, fun c hc hG => ?_, fun c hc hG b hbn hbc => ?_⟩
  · by_cases e : c = k
    · subst e; rw [elt_set hkG, if_pos rfl]
    · exact hup c ((h.now hi).2 c (by omega) hcn hac)
  · by_cases e : c = k
    · subst e
      obtain ⟨s, h1, h2, h3⟩ := h.reach i hi (h.now hi).1
      exact ⟨s, h1, h2, fun P hP hs => h3 P hP hs c hc ha⟩
    · rw [elt_set hkG, if_neg e] at hG
      exact h.reachG c hc hG
  · by_cases e : c = k
    · subst e
      rcases hb with h1 | ⟨b', hb', h1, h2⟩
      · omega
      · have : b = b' := by omega
        subst this; exact h2
    · rw [elt_set hkG, if_neg e] at hG
      exact h.bk c hc hG b hbn hbc
theorem FrI.push {J : List Job} {nx bf F G : List Int} {W : List Nat} {i k b : Nat} (h : FrI J nx bf F G W i k) (hi : i < J.length) (hk : k < J.length) (ha : aft J i k = true) (hb : b < J.length) (he : elt bf k = (b : Int)) (h0 : elt F b = 0) :
    FrI J nx bf (F.set b 1) (G.set k 1) (W ++ [b]) i (k + 1) := by
  have hkG : k < G.length := by rw [h.mG.1]; exact hk
  have hbF : b < F.length := by rw [h.mF.1]; exact hb
  have hup : ∀ c, elt G c = 1 → elt (G.set k 1) c = 1 := fun c h1 => by
    rw [elt_set hkG]; split
    · rfl
    · exact h1
  have hupF : ∀ c, elt F c = 1 → elt (F.set b 1) c = 1 := fun c h1 => by
    rw [elt_set hbF]; split
    · rfl
    · exact h1
  refine ⟨h.mF.set b, h.mG.set k, fun q hq => ?_, fun q hq hn => hupF q (h.un q hq hn), fun q hq hF hW hne c hc hac => ?_, fun hi => ⟨hupF i (h.now hi).1, fun c hc hcn hac => ?_⟩, fun q hq hF => ?_, fun c hc hG => ?_, fun c hc hG d hdn hdc => ?_⟩
  · rcases List.mem_append.1 hq with h1 | h1
    · exact ⟨(h.wlt q h1).1, hupF q (h.wlt q h1).2⟩
    · rw [List.mem_singleton] at h1; subst h1
      exact ⟨hb, by rw [elt_set hbF, if_pos rfl]⟩
  · rw [List.mem_append, List.mem_singleton, not_or] at hW
    rw [elt_set hbF, if_neg hW.2] at hF
    exact hup c (h.cls q hq hF hW.1 hne c hc hac)
  · by_cases e : c = k
    · subst e; rw [elt_set hkG, if_pos rfl]
    · exact hup c ((h.now hi).2 c (by omega) hcn hac)
  · by_cases e : q = b
    · subst e
      obtain ⟨s, h1, h2, h3⟩ := h.reach i hi (h.now hi).1
      refine ⟨s, h1, h2, fun P hP hs c hc hac => ?_⟩
      obtain ⟨d, _, hd2, hd3⟩ := hP k hk (h3 P hP hs k hk ha)
      have : d = q := by omega
      subst this; exact hd3 c hc hac
    · rw [elt_set hbF, if_neg e] at hF
      exact h.reach q hq hF
  · by_cases e : c = k
    · subst e
      obtain ⟨s, h1, h2, h3⟩ := h.reach i hi (h.now hi).1
      exact ⟨s, h1, h2, fun P hP hs => h3 P hP hs c hc ha⟩
    · rw [elt_set hkG, if_neg e] at hG
      exact h.reachG c hc hG
  · by_cases e : c = k
    · subst e
      have : d = b := by omega
      subst this; rw [elt_set hbF, if_pos rfl]
    · rw [elt_set hkG, if_neg e] at hG
      exact hupF d (h.bk c hc hG d hdn hdc)
def frTo (F G : List Int) (k : Nat) : List Nat := (List.range k).filter fun q => decide (0 < elt F q) && (elt G q == 0)
theorem frTo_succ (F G : List Int) (k : Nat) : frTo F G (k + 1) = if (decide (0 < elt F k) && (elt G k == 0)) = true then frTo F G k ++ [k] else frTo F G k := by
  unfold frTo
  rw [List.range_succ, List.filter_append]
  by_cases h : (decide (0 < elt F k) && (elt G k == 0)) = true
  · rw [if_pos h]; simp only [List.filter_cons, h]; rfl
  · rw [if_neg h]; simp only [List.filter_cons, h]; simp
theorem frTo_mem {F G : List Int} {k q : Nat} : q ∈ frTo F G k ↔ q < k ∧ 0 < elt F q ∧ elt G q = 0 := by
  unfold frTo; rw [List.mem_filter, List.mem_range, Bool.and_eq_true, decide_eq_true_iff, beq_iff_eq]
theorem frTo_len (F G : List Int) (k : Nat) : (frTo F G k).length ≤ k := by
  have := List.length_filter_le (fun q => decide (0 < elt F q) && (elt G q == 0)) (List.range k)
  rwa [List.length_range] at this
/-- No job of a list comes after another one of it. -/
def FreeN (J : List Job) (l : List Nat) : Prop := l.Nodup ∧ (∀ i ∈ l, i < J.length) ∧ ∀ i ∈ l, ∀ k ∈ l, aft J i k = false
theorem FrI.free {J : List Job} {nx bf F G : List Int} (h : FrI J nx bf F G [] J.length 0) : FreeN J (frTo F G J.length) := by
  refine ⟨List.Pairwise.filter _ List.nodup_range, fun i hi => (frTo_mem.1 hi).1, fun i hi k hk => ?_⟩
  obtain ⟨h1, h2, _⟩ := frTo_mem.1 hi
  obtain ⟨h3, _, h4⟩ := frTo_mem.1 hk
  cases ha : aft J i k with
  | false => rfl
  | true =>
    have hF : elt F i = 1 := by rcases h.mF.2 i h1 with h5 | h5 <;> omega
    have := h.cls i h1 hF (by simp) (by omega) k h3 ha
    omega
def rootTo (bf : List Int) (k : Nat) : List Nat := (List.range k).filter fun q => decide (elt bf q < 0)
theorem FrI.count {J : List Job} {nx bf F G : List Int} (hm : MatI J nx bf J.length) (h : FrI J nx bf F G [] J.length 0) : (rootTo bf J.length).length ≤ (frTo F G J.length).length := by
  have hG : ∀ c, c < J.length → elt G c = 1 → ∃ b : Nat, b < J.length ∧ elt bf c = (b : Int) := fun c hc hg => by
    obtain ⟨s, h1, h2, h3⟩ := h.reachG c hc hg
    obtain ⟨P, h4, h5⟩ := hm.no s h1 h1 h2
    obtain ⟨b, h6, h7, _⟩ := h4 c hc (h3 P h4 h5)
    exact ⟨b, h6, h7⟩
  have hF : ∀ q, q < J.length → elt F q = 0 → ∃ k : Nat, k < J.length ∧ elt nx q = (k : Int) ∧ elt bf k = (q : Int) ∧ elt G k = 0 := fun q hq hf => by
    rcases hm.mat.left q hq with h1 | ⟨k, h1, h2, _, _, h3⟩
    · have := h.un q hq h1; omega
    · refine ⟨k, h1, h2, h3, ?_⟩
      rcases h.mG.2 k h1 with h4 | h4
      · exact h4
      · have := h.bk k h1 h4 q hq h3; omega
  have e1 : (rootTo bf J.length).length = (List.range J.length).countP fun q => decide (elt bf q < 0) := by unfold rootTo; rw [List.countP_eq_length_filter]
  have e2 : (frTo F G J.length).length = (List.range J.length).countP fun q => decide (0 < elt F q) && (elt G q == 0) := by unfold frTo; rw [List.countP_eq_length_filter]
  have c0 := List.length_eq_countP_add_countP (fun q => decide (elt bf q < 0)) (l := List.range J.length)
  have c1 := List.length_eq_countP_add_countP (fun q => decide (0 < elt F q) && (elt G q == 0)) (l := List.range J.length)
  have c2 : (List.range J.length).countP (fun q => decide (elt F q = 0)) ≤ (List.range J.length).countP (fun k => decide (0 ≤ elt bf k) && (elt G k == 0)) := by
    rw [List.countP_eq_length_filter, List.countP_eq_length_filter]
    refine inj_len (fun q => (elt nx q).toNat) _ _ (List.Pairwise.filter _ List.nodup_range) (fun x hx y hy e => ?_) (fun x hx => ?_)
    · rw [List.mem_filter, List.mem_range, decide_eq_true_iff] at hx hy
      obtain ⟨k1, _, a2, a3, _⟩ := hF x hx.1 hx.2
      obtain ⟨k2, _, b2, b3, _⟩ := hF y hy.1 hy.2
      have : k1 = k2 := by omega
      subst this; omega
    · rw [List.mem_filter, List.mem_range, decide_eq_true_iff] at hx
      obtain ⟨k, a1, a2, a3, a4⟩ := hF x hx.1 hx.2
      rw [List.mem_filter, List.mem_range, Bool.and_eq_true, decide_eq_true_iff, beq_iff_eq, a2, Int.toNat_natCast]
      exact ⟨a1, by omega, a4⟩
  have c3 : (List.range J.length).countP (fun k => decide (0 ≤ elt bf k) && (elt G k == 0)) + (List.range J.length).countP (fun k => decide (elt G k = 1)) ≤ (List.range J.length).countP (fun k => !decide (elt bf k < 0)) := by
    have key : ∀ l : List Nat, (∀ c ∈ l, c < J.length) → l.countP (fun k => decide (0 ≤ elt bf k) && (elt G k == 0)) + l.countP (fun k => decide (elt G k = 1)) ≤ l.countP (fun k => !decide (elt bf k < 0)) := by
      intro l
      induction l with
      | nil => intro _; simp
      | cons a l ih =>
        intro hl
        have ih := ih (fun c hc => hl c (List.mem_cons_of_mem _ hc))
        have ha := hl a (by simp)
        rw [List.countP_cons, List.countP_cons, List.countP_cons]
        by_cases hb : elt bf a < 0
        · have hg : elt G a ≠ 1 := fun hg => by obtain ⟨b, _, h2⟩ := hG a ha hg; omega
          simp [hb, hg, show ¬ (0 ≤ elt bf a) by omega]; omega
        · by_cases hg : elt G a = 1
          · simp [hb, hg]; omega
          · simp [hb, hg]; split <;> omega
    exact key _ (fun c hc => List.mem_range.1 hc)
  have c4 := countP_or_le (fun q => !(decide (0 < elt F q) && (elt G q == 0))) (fun q => decide (¬ 0 < elt F q)) (fun q => decide (elt G q ≠ 0)) (fun x hx => by
    simp only [Bool.not_eq_true', Bool.and_eq_false_iff, decide_eq_false_iff_not, beq_eq_false_iff_ne] at hx
    exact hx.imp (fun h => by simpa using h) (fun h => by simpa using h)) (List.range J.length)
  have c5 : (List.range J.length).countP (fun q => decide (¬ 0 < elt F q)) ≤ (List.range J.length).countP (fun q => decide (elt F q = 0)) := List.countP_mono_left fun q hq hz => by
    rw [List.mem_range] at hq
    rw [decide_eq_true_iff] at hz ⊢
    rcases h.mF.2 q hq with h1 | h1 <;> omega
  have c6 : (List.range J.length).countP (fun q => decide (elt G q ≠ 0)) ≤ (List.range J.length).countP (fun q => decide (elt G q = 1)) := List.countP_mono_left fun q hq hz => by
    rw [List.mem_range] at hq
    rw [decide_eq_true_iff] at hz ⊢
    rcases h.mG.2 q hq with h1 | h1 <;> omega
  have f0 : (List.range J.length).countP (fun a => decide ¬ (decide (elt bf a < 0)) = true) = (List.range J.length).countP (fun k => !decide (elt bf k < 0)) := by
    congr 1; funext a; by_cases h : elt bf a < 0 <;> simp [h] <;> omega
  have f1 : (List.range J.length).countP (fun a => decide ¬ (decide (0 < elt F a) && (elt G a == 0)) = true) = (List.range J.length).countP (fun q => !(decide (0 < elt F q) && (elt G q == 0))) := by
    congr 1; funext a; simp only [decide_not, Bool.decide_eq_true]
  rw [f0] at c0
  rw [f1] at c1
  omega
end Go.Proofs.YteknehlkdgamjaaGreat

namespace Go.Proofs.YteknehlkdgamjaaGreat

theorem prd_rch {J : List Job} (hc : cir J = false) {b k : Nat} (hb : b < J.length) (h : Rch J b k) : prd J b < prd J k := by
  refine countP_lt (fun c hcm h2 => ?_) ⟨b, List.mem_range.2 hb, (aft_iff hb).2 h, ?_⟩
  · have hcn := List.mem_range.1 hcm
    exact (aft_iff hcn).2 (((aft_iff hcn).1 h2).trans h)
  · cases h2 : aft J b b with
    | false => rfl
    | true => exact absurd ((aft_iff hb).1 h2) (cir_none hc)
theorem suc_rch {J : List Job} (hJ : FineJ J) (hc : cir J = false) {b k : Nat} (h : Rch J b k) : suc J k < suc J b :=
  prd_rch (turn_cir hJ hc) (by rw [turn_len]; exact h.lt) (rch_turn hJ h)
theorem aft_trans {J : List Job} {i k q : Nat} (hi : i < J.length) (h : aft J i k = true) (h2 : aft J k q = true) : aft J i q = true := by
  have h1 := (aft_iff hi).1 h
  exact (aft_iff hi).2 (h1.trans ((aft_iff h1.lt).1 h2))
/-- The list that begins with a job. -/
def folF (nx : List Int) : Nat → Int → List Nat
  | 0, _ => []
  | m + 1, at' => if at' < 0 then [] else at'.toNat :: folF nx m (elt nx at'.toNat)
def fol (J : List Job) (nx : List Int) (at' : Int) : List Nat := folF nx J.length at'
theorem folF_up {J : List Job} (hJ : FineJ J) (hc : cir J = false) {nx bf : List Int} (hm : Mat J nx bf (-1)) : ∀ (m : Nat) {at' : Int}, at' < J.length → (0 ≤ at' → suc J at'.toNat < m) → folF nx (m + 1) at' = folF nx m at'
  | 0, at', h1, h2 => by
    have : at' < 0 := by
      refine Classical.byContradiction fun h => ?_
      have := h2 (by omega); omega
    show (if at' < 0 then [] else _) = []
    rw [if_pos this]
  | m + 1, at', h1, h2 => by
    rw [folF, folF.eq_2 nx at' m]
    split
    · rfl
    · rename_i hn
      have hi : at'.toNat < J.length := by omega
      have hs := h2 (by omega)
      congr 1
      refine folF_up hJ hc hm m ?_ ?_
      · rcases hm.left _ hi with h3 | ⟨k, h3, h4, _⟩ <;> omega
      · intro h0
        rcases hm.left _ hi with h3 | ⟨k, h3, h4, _, h5, _⟩
        · omega
        · rw [h4, Int.toNat_natCast]
          have := suc_rch hJ hc ((aft_iff hi).1 h5)
          omega
theorem fol_eq {J : List Job} (hJ : FineJ J) (hc : cir J = false) {nx bf : List Int} (hm : Mat J nx bf (-1)) {i : Nat} (hi : i < J.length) : fol J nx (i : Int) = i :: fol J nx (elt nx i) := by
  show folF nx J.length (i : Int) = _
  rw [← folF_up hJ hc hm J.length (at' := (i : Int)) (by omega) (fun _ => by rw [Int.toNat_natCast]; exact suc_le hJ hc hi), folF, if_neg (by omega), Int.toNat_natCast]
  rfl
theorem fol_neg {J : List Job} {nx : List Int} {at' : Int} (h : at' < 0) : fol J nx at' = [] := by
  unfold fol
  cases J.length with
  | zero => rfl
  | succ m => rw [folF, if_pos h]
/-- Comes behind, in its list. -/
inductive Fr2 (nx : List Int) : Nat → Nat → Prop
  | here {i : Nat} : Fr2 nx i i
  | step {i k q : Nat} : Fr2 nx i k → elt nx k = (q : Int) → Fr2 nx i q
theorem Fr2.cons {nx : List Int} {i k q : Nat} (h : elt nx i = (k : Int)) (h2 : Fr2 nx k q) : Fr2 nx i q := by
  induction h2 with
  | here => exact .step .here h
  | step _ e ih => exact .step ih e
theorem fol_fr {J : List Job} (hJ : FineJ J) (hc : cir J = false) {nx bf : List Int} (hm : Mat J nx bf (-1)) : ∀ (m : Nat) {i : Nat}, i < J.length → suc J i ≤ m → (∀ x ∈ fol J nx (i : Int), Fr2 nx i x ∧ x < J.length) := by
  intro m
  induction m with
  | zero =>
    intro i hi hs x hx
    rw [fol_eq hJ hc hm hi] at hx
    rcases hm.left i hi with h3 | ⟨k, h3, h4, _, h5, _⟩
    · rw [h3, fol_neg (by omega), List.mem_singleton] at hx; subst hx; exact ⟨.here, hi⟩
    · have := suc_rch hJ hc ((aft_iff hi).1 h5); omega
  | succ m ih =>
    intro i hi hs x hx
    rw [fol_eq hJ hc hm hi] at hx
    rcases hm.left i hi with h3 | ⟨k, h3, h4, _, h5, _⟩
    · rw [h3, fol_neg (by omega), List.mem_singleton] at hx; subst hx; exact ⟨.here, hi⟩
    · rw [h4] at hx
      rcases List.mem_cons.1 hx with rfl | hx
      · exact ⟨.here, hi⟩
      · have := suc_rch hJ hc ((aft_iff hi).1 h5)
        obtain ⟨h6, h7⟩ := ih h3 (by omega) x hx
        exact ⟨.cons h4 h6, h7⟩
theorem fr_fol {J : List Job} (hJ : FineJ J) (hc : cir J = false) {nx bf : List Int} (hm : Mat J nx bf (-1)) {i x : Nat} (hi : i < J.length) (h : Fr2 nx i x) : x ∈ fol J nx (i : Int) ∧ x < J.length := by
  have key : ∀ {k q : Nat}, Fr2 nx k q → ∀ y : Nat, k < J.length → q < J.length → elt nx q = (y : Int) → y < J.length := by
    intro k q _ y _ hq e
    rcases hm.left q hq with h3 | ⟨c, h3, h4, _⟩ <;> omega
  have key2 : ∀ (m : Nat) {i : Nat}, i < J.length → suc J i ≤ m → ∀ k q : Nat, k ∈ fol J nx (i : Int) → k < J.length → elt nx k = (q : Int) → q ∈ fol J nx (i : Int) := by
    intro m
    induction m with
    | zero =>
      intro i hi hs k q hk hkn e
      rw [fol_eq hJ hc hm hi] at hk ⊢
      rcases hm.left i hi with h3 | ⟨c, h3, h4, _, h5, _⟩
      · rw [h3, fol_neg (by omega), List.mem_singleton] at hk; subst hk; omega
      · have := suc_rch hJ hc ((aft_iff hi).1 h5); omega
    | succ m ih =>
      intro i hi hs k q hk hkn e
      rw [fol_eq hJ hc hm hi] at hk ⊢
      rcases hm.left i hi with h3 | ⟨c, h3, h4, _, h5, _⟩
      · rw [h3, fol_neg (by omega), List.mem_singleton] at hk; subst hk; omega
      · have := suc_rch hJ hc ((aft_iff hi).1 h5)
        rw [h4] at hk ⊢
        rcases List.mem_cons.1 hk with rfl | hk
        · have : c = q := by omega
          subst this
          rw [fol_eq hJ hc hm h3]; simp
        · exact List.mem_cons_of_mem _ (ih h3 (by omega) k q hk hkn e)
  induction h with
  | here => rw [fol_eq hJ hc hm hi]; exact ⟨by simp, hi⟩
  | step h e ih => exact ⟨key2 _ hi (Nat.le_refl _) _ _ ih.1 ih.2 e, key h _ hi ih.2 e⟩
/-- The first k lists of a match. -/
def covTo (J : List Job) (nx bf : List Int) (k : Nat) : List (List Nat) := (rootTo bf k).map fun i : Nat => fol J nx (i : Int)
theorem rootTo_succ (bf : List Int) (k : Nat) : rootTo bf (k + 1) = if elt bf k < 0 then rootTo bf k ++ [k] else rootTo bf k := by
  unfold rootTo
  rw [List.range_succ, List.filter_append]
  by_cases h : elt bf k < 0
  · rw [if_pos h]; simp [h]
  · rw [if_neg h]; simp [h]
theorem rootTo_mem {bf : List Int} {k q : Nat} : q ∈ rootTo bf k ↔ q < k ∧ elt bf q < 0 := by
  unfold rootTo; rw [List.mem_filter, List.mem_range, decide_eq_true_iff]
theorem rootTo_len (bf : List Int) (k : Nat) : (rootTo bf k).length ≤ k := by
  have := List.length_filter_le (fun q => decide (elt bf q < 0)) (List.range k)
  rwa [List.length_range] at this
theorem covTo_succ (J : List Job) (nx bf : List Int) (k : Nat) : covTo J nx bf (k + 1) = if elt bf k < 0 then covTo J nx bf k ++ [fol J nx (k : Int)] else covTo J nx bf k := by
  unfold covTo
  rw [rootTo_succ]
  split
  · rw [List.map_append]; rfl
  · rfl
theorem covTo_len (J : List Job) (nx bf : List Int) (k : Nat) : (covTo J nx bf k).length = (rootTo bf k).length := by simp [covTo]
/-- Each job of a list comes after the one before it. -/
def AfC (J : List Job) : List Nat → Prop
  | [] => True
  | [_] => True
  | i :: k :: l => aft J i k = true ∧ AfC J (k :: l)
theorem AfC.tail {J : List Job} {i : Nat} {l : List Nat} (h : AfC J (i :: l)) : AfC J l := by
  cases l with
  | nil => trivial
  | cons k l => exact h.2
theorem AfC.aft {J : List Job} : ∀ {l : List Nat} {i : Nat}, i < J.length → AfC J (i :: l) → ∀ k ∈ l, aft J i k = true
  | k :: l, i, hi, h, x, hx => by
    rcases List.mem_cons.1 hx with rfl | hx
    · exact h.1
    · have hk : k < J.length := ((aft_iff hi).1 h.1).lt
      exact aft_trans hi h.1 (AfC.aft hk h.2 x hx)
theorem AfC.nodup {J : List Job} (hc : cir J = false) : ∀ {l : List Nat}, (∀ x ∈ l, x < J.length) → AfC J l → l.Nodup
  | [], _, _ => List.nodup_nil
  | i :: l, hl, h => List.nodup_cons.2 ⟨fun hi => cir_none hc ((aft_iff (hl i (by simp))).1 (h.aft (hl i (by simp)) i hi)), AfC.nodup hc (fun x hx => hl x (List.mem_cons_of_mem _ hx)) h.tail⟩
theorem fol_afc {J : List Job} (hJ : FineJ J) (hc : cir J = false) {nx bf : List Int} (hm : Mat J nx bf (-1)) : ∀ (m : Nat) {i : Nat}, i < J.length → suc J i ≤ m → AfC J (fol J nx (i : Int)) := by
  intro m
  induction m with
  | zero =>
    intro i hi hs
    rw [fol_eq hJ hc hm hi]
    rcases hm.left i hi with h3 | ⟨k, h3, h4, _, h5, _⟩
    · rw [h3, fol_neg (by omega)]; trivial
    · have := suc_rch hJ hc ((aft_iff hi).1 h5); omega
  | succ m ih =>
    intro i hi hs
    rw [fol_eq hJ hc hm hi]
    rcases hm.left i hi with h3 | ⟨k, h3, h4, _, h5, _⟩
    · rw [h3, fol_neg (by omega)]; trivial
    · have := suc_rch hJ hc ((aft_iff hi).1 h5)
      have h6 := ih h3 (by omega)
      rw [h4]
      rw [fol_eq hJ hc hm h3] at h6 ⊢
      exact ⟨h5, h6⟩
/-- Lists that cover all jobs, each once. -/
structure CovN (J : List Job) (R : List (List Nat)) : Prop where
  lt : ∀ l ∈ R, ∀ x ∈ l, x < J.length
  ne : ∀ l ∈ R, l ≠ []
  nodup : R.flatten.Nodup
  all : ∀ x, x < J.length → ∃ l ∈ R, x ∈ l
  aft : ∀ l ∈ R, AfC J l
theorem nodup_flatten {α : Type} : ∀ {R : List (List α)}, (∀ l ∈ R, l.Nodup) → R.Pairwise (fun l m => ∀ x ∈ l, x ∉ m) → R.flatten.Nodup
  | [], _, _ => by simp
  | l :: R, h, h2 => by
    obtain ⟨h3, h4⟩ := List.pairwise_cons.1 h2
    rw [List.flatten_cons, List.nodup_append]
    refine ⟨h l (by simp), nodup_flatten (fun m hm => h m (List.mem_cons_of_mem _ hm)) h4, fun a ha b hb e => ?_⟩
    subst e
    obtain ⟨m, hm, hb⟩ := List.mem_flatten.1 hb
    exact h3 m hm a ha hb
theorem cover_ok {J : List Job} (hJ : FineJ J) (hc : cir J = false) {nx bf : List Int} (hm : Mat J nx bf (-1)) : CovN J (covTo J nx bf J.length) := by
  have hbk : ∀ {q y : Nat}, q < J.length → elt nx q = (y : Int) → elt bf y = (q : Int) := fun {q y} hq e => by
    rcases hm.left q hq with h3 | ⟨c, h3, h4, _, _, h5⟩
    · omega
    · have : c = y := by omega
      subst this; exact h5
  have huniq : ∀ {i x : Nat}, i < J.length → elt bf i < 0 → Fr2 nx i x → ∀ {i' : Nat}, i' < J.length → elt bf i' < 0 → Fr2 nx i' x → i = i' := by
    intro i x hi hbi h
    induction h with
    | here =>
      intro i' hi' hb' h'
      cases h' with
      | here => rfl
      | step h e =>
        have := hbk (fr_fol hJ hc hm hi' h).2 e; omega
    | step h e ih =>
      intro i' hi' hb' h'
      cases h' with
      | here => have := hbk (fr_fol hJ hc hm hi h).2 e; omega
      | step h2 e2 =>
        have a1 := hbk (fr_fol hJ hc hm hi h).2 e
        have a2 := hbk (fr_fol hJ hc hm hi' h2).2 e2
        refine ih hi' hb' ?_
        rw [a1] at a2
        exact Int.ofNat.inj a2 ▸ h2
  refine ⟨fun l hl x hx => ?_, fun l hl => ?_, nodup_flatten (fun l hl => ?_) ?_, fun x hx => ?_, fun l hl => ?_⟩
  · obtain ⟨i, hi, rfl⟩ := List.mem_map.1 hl
    exact (fol_fr hJ hc hm (suc J i) (rootTo_mem.1 hi).1 (Nat.le_refl _) x hx).2
  · obtain ⟨i, hi, rfl⟩ := List.mem_map.1 hl
    rw [fol_eq hJ hc hm (rootTo_mem.1 hi).1]; simp
  · obtain ⟨i, hi, rfl⟩ := List.mem_map.1 hl
    have hin := (rootTo_mem.1 hi).1
    exact AfC.nodup hc (fun x hx => (fol_fr hJ hc hm _ hin (Nat.le_refl _) x hx).2) (fol_afc hJ hc hm _ hin (Nat.le_refl _))
  · unfold covTo
    rw [List.pairwise_map]
    have hnd : (rootTo bf J.length).Nodup := List.Pairwise.filter _ List.nodup_range
    refine List.Pairwise.imp_of_mem (fun {a b} ha hb hne x hx hx2 => ?_) hnd
    obtain ⟨a1, a2⟩ := rootTo_mem.1 ha
    obtain ⟨b1, b2⟩ := rootTo_mem.1 hb
    exact hne (huniq a1 a2 (fol_fr hJ hc hm _ a1 (Nat.le_refl _) x hx).1 b1 b2 (fol_fr hJ hc hm _ b1 (Nat.le_refl _) x hx2).1)
  · have key : ∀ (m : Nat) {x : Nat}, x < J.length → prd J x ≤ m → ∃ i, i < J.length ∧ elt bf i < 0 ∧ Fr2 nx i x := by
      intro m
      induction m with
      | zero =>
        intro x hx hp
        rcases hm.right x hx with h1 | ⟨i, h1, h2, h3, _⟩
        · exact ⟨x, hx, by omega, .here⟩
        · have := prd_rch hc h1 ((aft_iff h1).1 h3); omega
      | succ m ih =>
        intro x hx hp
        rcases hm.right x hx with h1 | ⟨i, h1, h2, h3, h4⟩
        · exact ⟨x, hx, by omega, .here⟩
        · have := prd_rch hc h1 ((aft_iff h1).1 h3)
          obtain ⟨s, g1, g2, g3⟩ := ih h1 (by omega)
          exact ⟨s, g1, g2, .step g3 (h4 (by omega))⟩
    obtain ⟨i, h1, h2, h3⟩ := key _ hx (Nat.le_refl _)
    exact ⟨_, List.mem_map.2 ⟨i, rootTo_mem.2 ⟨h1, h2⟩, rfl⟩, (fr_fol hJ hc hm h1 h3).1⟩
  · obtain ⟨i, hi, rfl⟩ := List.mem_map.1 hl
    exact fol_afc hJ hc hm _ (rootTo_mem.1 hi).1 (Nat.le_refl _)
theorem AfC.two {J : List Job} : ∀ {l : List Nat}, (∀ x ∈ l, x < J.length) → AfC J l → ∀ x ∈ l, ∀ y ∈ l, x = y ∨ Go.Proofs.YteknehlkdgamjaaGreat.aft J x y = true ∨ Go.Proofs.YteknehlkdgamjaaGreat.aft J y x = true
  | i :: l, hl, h, x, hx, y, hy => by
    have hi := hl i (by simp)
    rcases List.mem_cons.1 hx with rfl | hx'
    · rcases List.mem_cons.1 hy with rfl | hy
      · exact .inl rfl
      · exact .inr (.inl (h.aft hi y hy))
    · rcases List.mem_cons.1 hy with rfl | hy
      · exact .inr (.inr (h.aft hi x hx'))
      · exact AfC.two (fun x hx => hl x (List.mem_cons_of_mem _ hx)) h.tail x hx' y hy
/-- No more jobs are free of one another than there are lists that cover all. -/
theorem weak {J : List Job} {R : List (List Nat)} (hR : ∀ l ∈ R, ∀ x ∈ l, x < J.length) (hall : ∀ x, x < J.length → ∃ l ∈ R, x ∈ l) (haf : ∀ l ∈ R, AfC J l) {l : List Nat} (hl : FreeN J l) : l.length ≤ R.length := by
  classical
  have hex : ∀ x, x < J.length → ∃ r, r < R.length ∧ ∃ m, R[r]? = some m ∧ x ∈ m := fun x hx => by
    obtain ⟨m, hm, hxm⟩ := hall x hx
    obtain ⟨r, hr, e⟩ := List.getElem_of_mem hm
    exact ⟨r, hr, m, by rw [List.getElem?_eq_getElem hr, e], hxm⟩
  have hlen := inj_len (fun x => if h : x < J.length then Classical.choose (hex x h) else 0) l (List.range R.length) hl.1 (fun x hx y hy e => ?_) (fun x hx => ?_)
  · rwa [List.length_range] at hlen
  · have h1 := hl.2.1 x hx
    have h2 := hl.2.1 y hy
    rw [dif_pos h1, dif_pos h2] at e
    obtain ⟨_, m, hm, hxm⟩ := Classical.choose_spec (hex x h1)
    obtain ⟨_, m', hm', hym⟩ := Classical.choose_spec (hex y h2)
    rw [e, hm'] at hm
    cases hm
    have hmR : m ∈ R := List.mem_of_getElem? hm'
    rcases AfC.two (hR m hmR) (haf m hmR) x hxm y hym with h3 | h3 | h3
    · exact h3
    · rw [hl.2.2 x hx y hy] at h3; cases h3
    · rw [hl.2.2 y hy x hx] at h3; cases h3
  · have h1 := hl.2.1 x hx
    rw [dif_pos h1, List.mem_range]
    exact (Classical.choose_spec (hex x h1)).1
theorem FrI.both {J : List Job} (hJ : FineJ J) (hc : cir J = false) {nx bf F G : List Int} (hm : MatI J nx bf J.length) (h : FrI J nx bf F G [] J.length 0) : (frTo F G J.length).length = (covTo J nx bf J.length).length := by
  have h1 := h.count hm
  have h2 := cover_ok hJ hc hm.mat
  have h3 := weak h2.lt h2.all h2.aft h.free
  rw [covTo_len] at h3 ⊢
  omega
end Go.Proofs.YteknehlkdgamjaaGreat

namespace Go.Proofs.YteknehlkdgamjaaGreat

theorem ord_all {J : List Job} {L : List Nat} (h : OrdI J L) (hl : L.length = J.length) {b : Nat} (hb : b < J.length) : b ∈ L := by
  refine Classical.byContradiction fun hn => ?_
  have h1 := sub_len (l := b :: L) (n := J.length) (List.nodup_cons.2 ⟨hn, h.nodup⟩) (fun x hx => by
    rcases List.mem_cons.1 hx with rfl | hx
    · exact hb
    · exact h.lt x hx)
  rw [List.length_cons] at h1; omega
/-- Behind the first p jobs of the order, and the first k waits of the next one. -/
structure BpI (J : List Job) (D : Nat → Int) (L : List Nat) (p k : Nat) (X : List Int) : Prop where
  len : X.length = J.length
  lo : ∀ b, b < J.length → 0 ≤ elt X b
  hi : ∀ b, b < J.length → elt X b ≤ beg J D b
  done : ∀ q i, q < p → L[q]? = some i → beg J D i ≤ elt X i
  cur : ∀ i j, j < k → L[p]? = some i → beg J D (elt (job J i).ws j).toNat + D (elt (job J i).ws j).toNat ≤ elt X i
theorem BpI.zero (J : List Job) (D : Nat → Int) (L : List Nat) : BpI J D L 0 0 (zeros J.length) := by
  have h0 : ∀ b, elt (zeros J.length) b = 0 := fun b => by
    unfold elt zeros; rw [List.getElem?_replicate]; split <;> rfl
  exact ⟨by simp [zeros], fun b _ => by rw [h0]; exact Int.le_refl _, fun b _ => by rw [h0]; exact beg_nn _ _ _, fun _ _ h => by omega, fun _ _ h => by omega⟩
theorem take_idx {L : List Nat} {p b : Nat} (h : b ∈ L.take p) : ∃ q, q < p ∧ L[q]? = some b := by
  obtain ⟨q, hq, e⟩ := List.getElem_of_mem h
  rw [List.length_take] at hq
  refine ⟨q, by omega, ?_⟩
  rw [List.getElem_take] at e
  rw [List.getElem?_eq_getElem (by omega), e]
theorem BpI.wait {J : List Job} {D : Nat → Int} {L : List Nat} {p k i b : Nat} {X : List Int} (h : BpI J D L p k X) (hJ : FineJ J) (hc : cir J = false) (hL : OrdI J L) (hi : L[p]? = some i) (hk : k < (job J i).ws.length) (hb : elt (job J i).ws k = (b : Int)) :
    BpI J D L p (k + 1) (X.set i (max (elt X i) (elt X b + D b))) ∧ elt X b = beg J D b := by
  have hp : p < L.length := (List.getElem?_eq_some_iff.1 hi).1
  have hin := hL.lt i (List.mem_of_getElem? hi)
  obtain ⟨b', e', hbn, hed⟩ := hJ.wait hin hk
  obtain rfl : b = b' := by omega
  obtain ⟨q, hq, hqb⟩ := take_idx (hL.clo p i b hp hi hed)
  have hbe : elt X b = beg J D b := by
    have h1 := h.done q b hq hqb
    have h2 := h.hi b hbn
    omega
  have hiX : i < X.length := by rw [h.len]; exact hin
  refine ⟨⟨by rw [List.length_set]; exact h.len, fun c hc' => ?_, fun c hc' => ?_, fun q c hq hc' => ?_, fun c j hj hc' => ?_⟩, hbe⟩
  · have := h.lo c hc'
    rw [elt_set hiX]; split
    · have := h.lo i hin; omega
    · exact this
  · have h1 := h.hi c hc'
    rw [elt_set hiX]; split
    · rename_i e; subst e
      have h3 := beg_ge hJ hc D hed
      omega
    · exact h1
  · have := h.done q c hq hc'
    rw [elt_set hiX]; split
    · rename_i e; subst e; omega
    · exact this
  · rw [hi] at hc'
    cases hc'
    rw [elt_set hiX, if_pos rfl]
    by_cases e : j = k
    · subst e
      rw [hb, Int.toNat_natCast]; omega
    · have := h.cur i j (by omega) hi; omega
theorem BpI.next {J : List Job} {D : Nat → Int} {L : List Nat} {p i : Nat} {X : List Int} (hJ : FineJ J) (hL : OrdI J L) (hi : L[p]? = some i) (h : BpI J D L p (job J i).ws.length X) : BpI J D L (p + 1) 0 X := by
  have hin := hL.lt i (List.mem_of_getElem? hi)
  refine ⟨h.len, h.lo, h.hi, fun q c hq hc => ?_, fun _ _ h => by omega⟩
  by_cases e : q = p
  · subst e
    rw [hi] at hc; cases hc
    refine beg_le hJ D hin (h.lo i hin) fun k he => ?_
    obtain ⟨j, hj, hje⟩ := hJ.edge he
    have := h.cur i j hj hi
    rwa [hje, Int.toNat_natCast] at this
  · exact h.done q c (by omega) hc
theorem BpI.fin {J : List Job} {D : Nat → Int} {L : List Nat} {X : List Int} (hL : OrdI J L) (hl : L.length = J.length) (h : BpI J D L L.length 0 X) : X = fnL (beg J D) J.length := by
  refine list_ext (by rw [h.len, fnL_len]) fun i hi => ?_
  rw [h.len] at hi
  rw [fnL_at _ hi]
  obtain ⟨q, hq, e⟩ := List.getElem_of_mem (ord_all hL hl hi)
  have h1 := h.done q i hq (by rw [List.getElem?_eq_getElem hq, e])
  have h2 := h.hi i hi
  omega
/-- In the turned order all jobs that wait for a job are ahead of it. -/
theorem ord_rev {J : List Job} {L : List Nat} (h : OrdI J L) (hl : L.length = J.length) {p i c : Nat} (hi : L.reverse[p]? = some i) (he : edg J i c = true) : c ∈ L.reverse.take p := by
  have hp : p < L.reverse.length := (List.getElem?_eq_some_iff.1 hi).1
  rw [List.length_reverse] at hp
  rw [List.getElem?_reverse hp] at hi
  obtain ⟨q, hq, e⟩ := List.getElem_of_mem (ord_all h hl (edg_lt he))
  have hqc : L[q]? = some c := by rw [List.getElem?_eq_getElem hq, e]
  obtain ⟨r, hr, hri⟩ := take_idx (h.clo q c i hq hqc he)
  have hrl : r < L.length := (List.getElem?_eq_some_iff.1 hri).1
  have hre : r = L.length - 1 - p := by
    refine Classical.byContradiction fun hne => ?_
    have h1 : ∀ r s : Nat, r < s → s < L.length → L[r]? ≠ L[s]? := fun r s hrs hs e => by
      rw [List.getElem?_eq_getElem (by omega), List.getElem?_eq_getElem hs] at e
      exact List.pairwise_iff_getElem.1 h.nodup r s (by omega) hs hrs (Option.some.inj e)
    rcases Nat.lt_or_gt_of_ne hne with h2 | h2
    · exact h1 r _ h2 (by omega) (by rw [hri, hi])
    · exact h1 _ r h2 (by omega) (by rw [hri, hi])
  rw [List.mem_take_iff_getElem]
  refine ⟨L.length - 1 - q, by rw [List.length_reverse]; omega, ?_⟩
  rw [List.getElem_reverse]
  have : L.length - 1 - (L.length - 1 - q) = q := by omega
  simp only [this]
  exact e
/-- Behind the first p jobs of the turned order M, and the first k waits of the next one. -/
structure TpI (J : List Job) (D : Nat → Int) (M : List Nat) (p k : Nat) (X : List Int) : Prop where
  len : X.length = J.length
  lo : ∀ b, b < J.length → 0 ≤ elt X b
  hi : ∀ b, b < J.length → elt X b ≤ tl J D b
  done : ∀ q i b, q < p → M[q]? = some i → edg J b i = true → tl J D i + D i ≤ elt X b
  cur : ∀ i j, j < k → M[p]? = some i → tl J D i + D i ≤ elt X (elt (job J i).ws j).toNat
theorem TpI.zero (J : List Job) (D : Nat → Int) (L : List Nat) : TpI J D L 0 0 (zeros J.length) := by
  have h0 : ∀ b, elt (zeros J.length) b = 0 := fun b => by
    unfold elt zeros; rw [List.getElem?_replicate]; split <;> rfl
  exact ⟨by simp [zeros], fun b _ => by rw [h0]; exact Int.le_refl _, fun b _ => by rw [h0]; exact tl_nn _ _ _, fun _ _ _ h => by omega, fun _ _ h => by omega⟩
theorem TpI.at {J : List Job} {D : Nat → Int} {L : List Nat} {p k i : Nat} {X : List Int} (h : TpI J D L.reverse p k X) (hJ : FineJ J) (hL : OrdI J L) (hl : L.length = J.length) (hi : L.reverse[p]? = some i) : elt X i = tl J D i := by
  have hin := hL.lt i (List.mem_reverse.1 (List.mem_of_getElem? hi))
  have h1 := h.hi i hin
  have h2 := tl_le hJ D hin (h.lo i hin) (fun c he => by
    obtain ⟨q, hq, hqc⟩ := take_idx (ord_rev hL hl hi he)
    exact h.done q c i hq hqc he)
  omega
theorem TpI.wait {J : List Job} {D : Nat → Int} {L : List Nat} {p k i b : Nat} {X : List Int} (h : TpI J D L.reverse p k X) (hJ : FineJ J) (hc : cir J = false) (hL : OrdI J L) (hl : L.length = J.length) (hi : L.reverse[p]? = some i) (hk : k < (job J i).ws.length) (hb : elt (job J i).ws k = (b : Int)) :
    TpI J D L.reverse p (k + 1) (X.set b (max (elt X b) (elt X i + D i))) := by
  have hin := hL.lt i (List.mem_reverse.1 (List.mem_of_getElem? hi))
  obtain ⟨b', e', hbn, hed⟩ := hJ.wait hin hk
  obtain rfl : b = b' := by omega
  have hat := h.at hJ hL hl hi
  have hbX : b < X.length := by rw [h.len]; exact hbn
  have hup : ∀ c, elt X c ≤ elt (X.set b (max (elt X b) (elt X i + D i))) c := fun c => by
    rw [elt_set hbX]; split
    · rename_i e; subst e; omega
    · exact Int.le_refl _
  refine ⟨by rw [List.length_set]; exact h.len, fun c hc' => ?_, fun c hc' => ?_, fun q c d hq hc' hd => ?_, fun c j hj hc' => ?_⟩
  · have := h.lo c hc'; have := hup c; omega
  · have h1 := h.hi c hc'
    rw [elt_set hbX]; split
    · rename_i e; subst e
      have h3 := tl_ge hJ hc D hed
      omega
    · exact h1
  · have := h.done q c d hq hc' hd; have := hup d; omega
  · rw [hi] at hc'
    cases hc'
    by_cases e : j = k
    · subst e
      rw [hb, Int.toNat_natCast, elt_set hbX, if_pos rfl]; omega
    · have h1 := h.cur i j (by omega) hi
      have := hup (elt (job J i).ws j).toNat; omega
theorem TpI.next {J : List Job} {D : Nat → Int} {M : List Nat} {p i : Nat} {X : List Int} (hJ : FineJ J) (hi : M[p]? = some i) (h : TpI J D M p (job J i).ws.length X) : TpI J D M (p + 1) 0 X := by
  refine ⟨h.len, h.lo, h.hi, fun q c d hq hc hd => ?_, fun _ _ h => by omega⟩
  by_cases e : q = p
  · subst e
    rw [hi] at hc; cases hc
    obtain ⟨j, hj, hje⟩ := hJ.edge hd
    have := h.cur i j hj hi
    rwa [hje, Int.toNat_natCast] at this
  · exact h.done q c d (by omega) hc hd
theorem TpI.fin {J : List Job} {D : Nat → Int} {L : List Nat} {X : List Int} (hJ : FineJ J) (hL : OrdI J L) (hl : L.length = J.length) (h : TpI J D L.reverse L.length 0 X) : X = fnL (tl J D) J.length := by
  refine list_ext (by rw [h.len, fnL_len]) fun i hi => ?_
  rw [h.len] at hi
  rw [fnL_at _ hi]
  have h2 := h.hi i hi
  have h3 := tl_le hJ D hi (h.lo i hi) (fun c he => by
    obtain ⟨q, hq, e⟩ := List.getElem_of_mem (List.mem_reverse.2 (ord_all hL hl (edg_lt he)))
    rw [List.length_reverse] at hq
    exact h.done q c i hq (by rw [List.getElem?_eq_getElem (by rw [List.length_reverse]; exact hq), e]) he)
  omega
end Go.Proofs.YteknehlkdgamjaaGreat

namespace Go.Proofs.YteknehlkdgamjaaGreat

/-- How many of the first n are no longer 1000. -/
def finN (n : Nat) (F : List Int) : Nat := (List.range n).countP fun b => decide (elt F b < 1000)
theorem finN_le (n : Nat) (F : List Int) : finN n F ≤ n := by
  have := List.countP_le_length (p := fun b => decide (elt F b < 1000)) (l := List.range n)
  rwa [List.length_range] at this
/-- How far jobs are from a first one: in the round m, behind the jobs before i, and the first k waits of i. -/
structure FaI (J : List Job) (s m i k : Nat) (F : List Int) : Prop where
  len : F.length = J.length
  bd : ∀ b, b < J.length → 0 ≤ elt F b ∧ elt F b ≤ 1000
  cnt : ∀ b, b < J.length → elt F b < 1000 → elt F b + 1 ≤ finN J.length F
  zero : elt F s = 0
  pos : ∀ b, b < J.length → b ≠ s → 1 ≤ elt F b
  step : ∀ b, b < J.length → b ≠ s → elt F b < 1000 → ∃ c, edg J b c = true ∧ elt F c + 1 ≤ elt F b
  old : ∀ b, b < J.length → pth J m b s = true → elt F b < 1000
  new : ∀ b c, c < i → b < J.length → edg J b c = true → (c = s ∨ pth J m c s = true) → elt F b < 1000
  cur : ∀ j, j < k → (i = s ∨ pth J m i s = true) → elt F (elt (job J i).ws j).toNat < 1000
theorem faI_zero {J : List Job} {s : Nat} (hs : s < J.length) : FaI J s 0 0 0 ((List.replicate J.length 1000).set s 0) := by
  have hsl : s < (List.replicate J.length (1000 : Int)).length := by simpa using hs
  have h0 : ∀ b, b < J.length → elt ((List.replicate J.length (1000 : Int)).set s 0) b = if b = s then 0 else 1000 := fun b hb => by
    rw [elt_set hsl]; split
    · rfl
    · exact elt_rep _ _ _ hb
  have hf : 1 ≤ finN J.length ((List.replicate J.length (1000 : Int)).set s 0) := by
    unfold finN
    exact List.countP_pos_iff.2 ⟨s, List.mem_range.2 hs, by rw [h0 s hs, if_pos rfl]; rfl⟩
  refine ⟨by simp, fun b hb => ?_, fun b hb h => ?_, by rw [h0 s hs, if_pos rfl], fun b hb hn => by rw [h0 b hb, if_neg hn]; omega, fun b hb hn h => ?_, fun b hb h => ?_, fun _ _ h => by omega, fun _ h => by omega⟩
  · rw [h0 b hb]; split <;> omega
  · rw [h0 b hb] at h ⊢
    split at h
    · rename_i e; rw [if_pos e]; omega
    · omega
  · rw [h0 b hb, if_neg hn] at h; omega
  · simp [pth] at h
theorem FaI.wait {J : List Job} {s m i k : Nat} {F : List Int} (h : FaI J s m i k F) (hJ : FineJ J) (hi : i < J.length) (hk : k < (job J i).ws.length) {b : Nat} (hb : elt (job J i).ws k = (b : Int)) :
    FaI J s m i (k + 1) (F.set b (min (elt F b) (elt F i + 1))) := by
  obtain ⟨b', e', hbn, hed⟩ := hJ.wait hi hk
  obtain rfl : b = b' := by omega
  have hbF : b < F.length := by rw [h.len]; exact hbn
  have hdn : ∀ c, elt (F.set b (min (elt F b) (elt F i + 1))) c ≤ elt F c := fun c => by
    rw [elt_set hbF]; split
    · rename_i e; subst e; omega
    · exact Int.le_refl _
  have i1 := h.bd i hi
  have b1 := h.bd b hbn
  have hn12 := hJ.n12
  have hfl := finN_le J.length F
  have hfin : finN J.length F ≤ finN J.length (F.set b (min (elt F b) (elt F i + 1))) := by
    unfold finN
    refine List.countP_mono_left fun c _ hc => ?_
    rw [decide_eq_true_iff] at hc ⊢
    have := hdn c; omega
  have hfin2 : elt F b = 1000 → elt F i < 1000 → finN J.length F + 1 ≤ finN J.length (F.set b (min (elt F b) (elt F i + 1))) := fun h1 h2 => by
    refine countP_lt (fun c _ hc => ?_) ⟨b, List.mem_range.2 hbn, ?_, ?_⟩
    · rw [decide_eq_true_iff] at hc ⊢
      have := hdn c; omega
    · rw [decide_eq_true_iff, elt_set hbF, if_pos rfl]
      have := h.cnt i hi h2; omega
    · simp [h1]
  refine ⟨by rw [List.length_set]; exact h.len, fun c hc => ?_, fun c hc hlt => ?_, ?_, fun c hc hn => ?_, fun c hc hn hlt => ?_, fun c hc hp => ?_, fun c d hd hc he hcs => ?_, fun j hj hcs => ?_⟩
  · have := h.bd c hc
    rw [elt_set hbF]; split
    · rename_i e; subst e; omega
    · exact this
  · rw [elt_set hbF] at hlt ⊢
    split at hlt
    · rename_i e
      subst e
      rw [if_pos rfl]
      by_cases hi2 : elt F i < 1000
      · have h3 := h.cnt i hi hi2
        by_cases hc2 : elt F c < 1000
        · have := h.cnt c hc hc2; omega
        · have := hfin2 (by omega) hi2; omega
      · have hc2 : elt F c < 1000 := by omega
        have := h.cnt c hc hc2; omega
    · rename_i e
      rw [if_neg e]
      have := h.cnt c hc hlt; omega
  · have := hdn s
    have hz := h.zero
    rw [elt_set hbF] at this ⊢
    split
    · rename_i e; subst e; omega
    · exact hz
  · have := h.pos c hc hn
    rw [elt_set hbF]; split
    · rename_i e; subst e; omega
    · exact this
  · have hcn : c < J.length := hc
    by_cases e : c = b
    · subst e
      rw [elt_set hbF, if_pos rfl] at hlt ⊢
      by_cases hm : elt F i + 1 ≤ elt F c
      · refine ⟨i, hed, ?_⟩
        have := hdn i; omega
      · obtain ⟨d, h1, h2⟩ := h.step c hc hn (by omega)
        refine ⟨d, h1, ?_⟩
        have := hdn d; omega
    · rw [elt_set hbF, if_neg e] at hlt ⊢
      obtain ⟨d, h1, h2⟩ := h.step c hc hn hlt
      refine ⟨d, h1, ?_⟩
      have := hdn d; omega
  · have := h.old c hc hp; have := hdn c; omega
  · have := h.new c d hd hc he hcs; have := hdn c; omega
  · by_cases e : j = k
    · subst e
      rw [hb, Int.toNat_natCast, elt_set hbF, if_pos rfl]
      have hi2 : elt F i < 1000 := by
        rcases hcs with rfl | hp
        · have := h.zero; omega
        · exact h.old i hi hp
      have := h.cnt i hi hi2; omega
    · have := h.cur j (by omega) hcs; have := hdn (elt (job J i).ws j).toNat; omega
theorem FaI.job {J : List Job} {s m i : Nat} {F : List Int} (hJ : FineJ J) (h : FaI J s m i (job J i).ws.length F) : FaI J s m (i + 1) 0 F := by
  refine ⟨h.len, h.bd, h.cnt, h.zero, h.pos, h.step, h.old, fun b c hc hb he hcs => ?_, fun _ h => by omega⟩
  by_cases e : c = i
  · subst e
    obtain ⟨j, hj, hje⟩ := hJ.edge he
    have := h.cur j hj hcs
    rwa [hje, Int.toNat_natCast] at this
  · exact h.new b c (by omega) hb he hcs
theorem FaI.round {J : List Job} {s m : Nat} {F : List Int} (h : FaI J s m J.length 0 F) : FaI J s (m + 1) 0 0 F := by
  refine ⟨h.len, h.bd, h.cnt, h.zero, h.pos, h.step, fun b hb hp => ?_, fun _ _ h => by omega, fun _ h => by omega⟩
  rcases pth_succ.1 hp with hp | ⟨c, h1, h2⟩
  · exact h.new b s (edg_lt hp) hb hp (.inl rfl)
  · exact h.new b c (edg_lt h1) hb h1 (.inr h2)
/-- From the first job one waits that is not far. -/
theorem FaI.first {J : List Job} {s : Nat} {F : List Int} (hJ : FineJ J) (hs : s < J.length) (hc : aft J s s = true) (h : FaI J s J.length 0 0 F) : ∃ c, edg J s c = true ∧ elt F c < 1000 := by
  have hr := (aft_iff hs).1 hc
  cases hr with
  | one he =>
    have := hJ.self s hs
    unfold edg at he
    rw [Bool.and_eq_true, this] at he
    exact absurd he.2 (by simp)
  | cons he hr => exact ⟨_, he, h.old _ (edg_lt he) ((aft_iff (edg_lt he)).2 hr)⟩
/-- A circle in the making. -/
structure CiI (J : List Job) (s : Nat) (F : List Int) (L : List Nat) (at' : Nat) : Prop where
  lt : ∀ x ∈ L, x < J.length
  head : L[0]? = some s
  last : L.getLast? = some at'
  ch : ∀ i x y, L[i]? = some x → L[i + 1]? = some y → edg J x y = true
  nodup : L.Nodup
  far : ∀ x ∈ L, x ≠ s → elt F at' ≤ elt F x
  one : at' = s → L = [s]
  nxt : ∃ c, edg J at' c = true ∧ elt F c < 1000 ∧ (at' ≠ s → elt F c < elt F at')
theorem CiI.start {J : List Job} {s : Nat} {F : List Int} (hs : s < J.length) (h : ∃ c, edg J s c = true ∧ elt F c < 1000) : CiI J s F [s] s := by
  refine ⟨fun x hx => by rw [List.mem_singleton] at hx; subst hx; exact hs, rfl, rfl, fun i x y _ h => by simp at h, by simp, fun x hx hn => by rw [List.mem_singleton] at hx; exact absurd hx hn, fun _ => rfl, ?_⟩
  obtain ⟨c, h1, h2⟩ := h
  exact ⟨c, h1, h2, fun hn => absurd rfl hn⟩
/-- The nearest one of the first k that waits for a job; -1 if none does. -/
structure BeI (J : List Job) (F : List Int) (at' k : Nat) (best : Int) : Prop where
  none' : best = -1 → ∀ c, c < k → edg J at' c = false
  some' : best ≠ -1 → ∃ b : Nat, best = (b : Int) ∧ b < k ∧ edg J at' b = true ∧ ∀ c, c < k → edg J at' c = true → elt F b ≤ elt F c
theorem BeI.zero (J : List Job) (F : List Int) (at' : Nat) : BeI J F at' 0 (-1) := ⟨fun _ c h => by omega, fun h => absurd rfl h⟩
theorem BeI.skip {J : List Job} {F : List Int} {at' k : Nat} {best : Int} (h : BeI J F at' k best) (hn : edg J at' k = false ∨ (best ≠ -1 ∧ ¬ elt F k < elt F best.toNat)) : BeI J F at' (k + 1) best := by
  refine ⟨fun hb c hc => ?_, fun hb => ?_⟩
  · by_cases e : c = k
    · subst e
      rcases hn with hn | hn
      · exact hn
      · exact absurd hb hn.1
    · exact h.none' hb c (by omega)
  · obtain ⟨b, h1, h2, h3, h4⟩ := h.some' hb
    refine ⟨b, h1, by omega, h3, fun c hc he => ?_⟩
    by_cases e : c = k
    · subst e
      rcases hn with hn | hn
      · rw [hn] at he; cases he
      · have := hn.2
        rw [h1, Int.toNat_natCast] at this; omega
    · exact h4 c (by omega) he
theorem BeI.take {J : List Job} {F : List Int} {at' k : Nat} {best : Int} (h : BeI J F at' k best) (he : edg J at' k = true) (hn : best = -1 ∨ elt F k < elt F best.toNat) : BeI J F at' (k + 1) (k : Int) := by
  refine ⟨fun hb => by omega, fun _ => ⟨k, rfl, by omega, he, fun c hc hce => ?_⟩⟩
  by_cases e : c = k
  · subst e; exact Int.le_refl _
  · by_cases hb : best = -1
    · have := h.none' hb c (by omega)
      rw [this] at hce; cases hce
    · obtain ⟨b, h1, h2, h3, h4⟩ := h.some' hb
      have h5 := h4 c (by omega) hce
      rcases hn with hn | hn
      · exact absurd hn hb
      · rw [h1, Int.toNat_natCast] at hn; omega
theorem BeI.fin {J : List Job} {s : Nat} {F : List Int} {L : List Nat} {at' : Nat} {best : Int} (h : CiI J s F L at') (hb : BeI J F at' J.length best) : ∃ b : Nat, best = (b : Int) ∧ b < J.length ∧ edg J at' b = true ∧ elt F b < 1000 ∧ (at' ≠ s → elt F b < elt F at') := by
  obtain ⟨c, h1, h2, h3⟩ := h.nxt
  have hne : best ≠ -1 := fun e => by
    have := hb.none' e c (edg_lt h1)
    rw [this] at h1; cases h1
  obtain ⟨b, g1, g2, g3, g4⟩ := hb.some' hne
  have g5 := g4 c (edg_lt h1) h1
  exact ⟨b, g1, g2, g3, by omega, fun hn => by have := h3 hn; omega⟩
theorem CiI.add {J : List Job} {s : Nat} {F : List Int} {L : List Nat} {at' b : Nat} (hF : FaI J s J.length 0 0 F) (h : CiI J s F L at') (hb : b < J.length) (he : edg J at' b = true) (hlt : elt F b < 1000) (hat : at' ≠ s → elt F b < elt F at') (hs : b ≠ s) : CiI J s F (L ++ [b]) b := by
  have hL0 : 0 < L.length := (List.getElem?_eq_some_iff.1 h.head).1
  have hnb : b ∉ L := fun hm => by
    by_cases e : at' = s
    · rw [h.one e, List.mem_singleton] at hm; exact hs hm
    · have := h.far b hm hs; have := hat e; omega
  refine ⟨fun x hx => ?_, by rw [List.getElem?_append_left hL0]; exact h.head, by simp, fun i x y hx hy => ?_, ?_, fun x hx hn => ?_, fun e => absurd e hs, ?_⟩
  · rcases List.mem_append.1 hx with hx | hx
    · exact h.lt x hx
    · rw [List.mem_singleton] at hx; subst hx; exact hb
  · by_cases e : i + 1 < L.length
    · rw [List.getElem?_append_left (by omega)] at hx
      rw [List.getElem?_append_left e] at hy
      exact h.ch i x y hx hy
    · have hi : i + 1 = L.length := by
        have := (List.getElem?_eq_some_iff.1 hy).1
        rw [List.length_append, List.length_singleton] at this; omega
      rw [List.getElem?_append_left (by omega)] at hx
      rw [List.getElem?_append_right (by omega), hi, Nat.sub_self] at hy
      simp at hy
      have hl := h.last
      rw [List.getLast?_eq_getElem?] at hl
      rw [show L.length - 1 = i by omega, hx] at hl
      cases hl
      rw [← hy]; exact he
  · rw [List.nodup_append]
    refine ⟨h.nodup, by simp, fun a ha c hc => ?_⟩
    rw [List.mem_singleton] at hc; subst hc
    intro e; subst e; exact hnb ha
  · rcases List.mem_append.1 hx with hx | hx
    · by_cases e : at' = s
      · rw [h.one e, List.mem_singleton] at hx; exact absurd hx hn
      · have := h.far x hx hn; have := hat e; omega
    · rw [List.mem_singleton] at hx; subst hx; exact Int.le_refl _
  · obtain ⟨c, h1, h2⟩ := hF.step b hb hs hlt
    have := hF.bd b hb
    exact ⟨c, h1, by omega, fun _ => by omega⟩
/-- A list of jobs is a circle. -/
def IsCir (J : List Job) (l : List Int) : Prop := isJ J.length l = true ∧ 2 ≤ l.length ∧ cirTo J l l.length = true
theorem cirC_of {J : List Job} {l : List Int} (h : IsCir J l) (h0 : workC J = 0) : circE J l = 0 := by
  unfold circE
  rw [if_pos h0, if_pos h.1, if_neg (by have := h.2.1; omega), if_pos h.2.2]
theorem edg_ws {J : List Job} {b k : Nat} (h : edg J b k = true) : (job J k).ws.contains (b : Int) = true := by
  unfold edg at h
  rw [Bool.and_eq_true] at h; exact h.2
theorem CiI.fin {J : List Job} {s : Nat} {F : List Int} {L : List Nat} {at' : Nat} (hJ : FineJ J) (h : CiI J s F L at') (he : edg J at' s = true) : IsCir J (ints L) := by
  have hL0 : 0 < L.length := (List.getElem?_eq_some_iff.1 h.head).1
  have hne : at' ≠ s := fun e => by
    subst e
    have h1 := edg_ws he
    rw [hJ.self at' (edg_lt he)] at h1; cases h1
  have hl := h.last
  rw [List.getLast?_eq_getElem?] at hl
  have h2 : 2 ≤ L.length := by
    refine Classical.byContradiction fun hc => ?_
    have h1 : L.length - 1 = 0 := by omega
    rw [h1, h.head] at hl
    exact hne (Option.some.inj hl).symm
  refine ⟨?_, by rw [ints_len]; exact h2, ?_⟩
  · rw [isJ_iff]
    intro i hi
    rw [ints_len] at hi
    rw [ints_at hi]
    have := h.lt _ (List.getElem_mem hi)
    omega
  · unfold cirTo
    rw [List.all_eq_true]
    intro i hi
    rw [List.mem_range, ints_len] at hi
    unfold cirAt
    rw [Bool.and_eq_true]
    constructor
    · rw [Bool.not_eq_true']
      cases hc : ((ints L).take i).contains (elt (ints L) i) with
      | false => rfl
      | true =>
        rw [List.contains_iff_mem, ints_at hi] at hc
        unfold ints at hc
        rw [← List.map_take, List.mem_map] at hc
        obtain ⟨y, hy, e⟩ := hc
        obtain ⟨q, hq, hqe⟩ := take_idx hy
        have hql : q < L.length := by omega
        have h3 := List.pairwise_iff_getElem.1 h.nodup q i hql hi hq
        rw [List.getElem?_eq_getElem hql] at hqe
        have h4 := Option.some.inj hqe
        exact absurd (h4.trans (by omega)) h3
    · rw [ints_at hi, Int.toNat_natCast, ints_len]
      by_cases e : i = 0
      · subst e
        have hp : prevI L.length 0 = L.length - 1 := by unfold prevI; rw [if_pos rfl]
        rw [hp, ints_at (by omega)]
        have h5 := h.head
        rw [List.getElem?_eq_getElem hL0] at h5
        rw [List.getElem?_eq_getElem (by omega)] at hl
        rw [Option.some.inj h5, Option.some.inj hl]
        exact edg_ws he
      · have hp : prevI L.length i = i - 1 := by unfold prevI; rw [if_neg e]
        rw [hp, ints_at (by omega)]
        refine edg_ws (h.ch (i - 1) _ _ (List.getElem?_eq_getElem (by omega)) ?_)
        rw [show i - 1 + 1 = i by omega]
        exact List.getElem?_eq_getElem hi
theorem CiI.len {J : List Job} {s : Nat} {F : List Int} {L : List Nat} {at' : Nat} (h : CiI J s F L at') : L.length ≤ J.length := sub_len h.nodup h.lt
/-- Work with a circle has no right times. -/
theorem cir_of_isCir {J : List Job} {l : List Int} (_hJ : FineJ J) (h : IsCir J l) : cir J = true := by
  obtain ⟨h1, h2, h3⟩ := h
  rw [isJ_iff] at h1
  unfold cirTo at h3
  rw [List.all_eq_true] at h3
  have hed : ∀ i, i < l.length → edg J (elt l (prevI l.length i)).toNat (elt l i).toNat = true := fun i hi => by
    have h4 := h3 i (List.mem_range.2 hi)
    unfold cirAt at h4
    rw [Bool.and_eq_true] at h4
    have h5 := h1 _ (prev_lt hi)
    have h6 := h1 i hi
    unfold edg
    rw [Bool.and_eq_true, decide_eq_true_iff]
    refine ⟨by omega, ?_⟩
    rw [Int.toNat_of_nonneg h5.1]
    exact h4.2
  have hr : ∀ i, 0 < i → i < l.length → Rch J (elt l 0).toNat (elt l i).toNat := by
    intro i
    induction i with
    | zero => intro h; omega
    | succ i ih =>
      intro _ hi
      have h4 := hed (i + 1) hi
      rw [show prevI l.length (i + 1) = i by unfold prevI; rw [if_neg (by omega)]; rfl] at h4
      by_cases e : i = 0
      · subst e; exact .one h4
      · exact (ih (by omega) (by omega)).snoc h4
  have h4 := hr (l.length - 1) (by omega) (by omega)
  have h5 := hed 0 (by omega)
  rw [show prevI l.length 0 = l.length - 1 by unfold prevI; rw [if_pos rfl]] at h5
  have h6 := h4.snoc h5
  cases hc : cir J with
  | true => rfl
  | false => exact absurd h6 (cir_none hc)
end Go.Proofs.YteknehlkdgamjaaGreat
