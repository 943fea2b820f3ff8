/- The jobs of two works side by side, and of one behind the other; plain, no condition. -/
import Derived.Test.YteknehlkdgamjaaGreatMU3
namespace Go.Proofs.YteknehlkdgamjaaGreat
open Go.RowKit Go.Shelf

def shI (n : Nat) (ws : List Int) : List Int := ws.map fun x => (n : Int) + x
theorem shI_len (n : Nat) (ws : List Int) : (shI n ws).length = ws.length := by simp [shI]
theorem shI_at {n : Nat} {ws : List Int} {i : Nat} (h : i < ws.length) : elt (shI n ws) i = (n : Int) + elt ws i := by simp [shI, elt, h]
theorem shI_snoc {n : Nat} {ws : List Int} {k : Nat} (h : k < ws.length) : shI n (ws.take (k + 1)) = shI n (ws.take k) ++ [(n : Int) + elt ws k] := by
  rw [List.take_succ_eq_append_getElem h, show elt ws k = ws[k] by simp [elt, h]]
  unfold shI
  rw [List.map_append]
  rfl
def lastP (J : List Job) (k : Nat) : Bool := (nxt J k).length == 0
def yL (J1 J2 : List Job) (c : Nat) : List Int := if (job J2 c).ws.length = 0 then ints (fltN (lastP J1) J1.length) else []
def xA (J1 J2 : List Job) (c : Nat) : Job := ⟨(job J2 c).lo, (job J2 c).hi, shI J1.length (job J2 c).ws⟩
def yA (J1 J2 : List Job) (c : Nat) : Job := ⟨(job J2 c).lo, (job J2 c).hi, yL J1 J2 c ++ shI J1.length (job J2 c).ws⟩
def catTo (J1 : List Job) (A : Nat → Job) (k : Nat) : List Job := J1 ++ (List.range k).map A
theorem catTo_zero (J1 : List Job) (A : Nat → Job) : catTo J1 A 0 = J1 := by simp [catTo]
theorem catTo_succ (J1 : List Job) (A : Nat → Job) (k : Nat) : catTo J1 A (k + 1) = catTo J1 A k ++ [A k] := by simp [catTo, List.range_succ]
theorem catTo_len (J1 : List Job) (A : Nat → Job) (k : Nat) : (catTo J1 A k).length = J1.length + k := by simp [catTo]
section
variable {J1 J2 : List Job} {A : Nat → Job} {m : Nat}
theorem catTo_lt {c : Nat} (h : c < J1.length) : job (catTo J1 A m) c = job J1 c := by
  unfold job catTo
  rw [List.getElem?_append_left h]
theorem catTo_ge {c : Nat} (h : c < m) : job (catTo J1 A m) (J1.length + c) = A c := by
  unfold job catTo
  rw [List.getElem?_append_right (by omega)]
  simp [h]
theorem sh_mem (h2 : FineJ J2) {c b : Nat} (hc : c < J2.length) : (b : Int) ∈ shI J1.length (job J2 c).ws ↔ ∃ b', b = J1.length + b' ∧ edg J2 b' c = true := by
  unfold shI
  rw [List.mem_map]
  constructor
  · rintro ⟨x, hx, e⟩
    obtain ⟨j, hj, rfl⟩ := List.getElem_of_mem hx
    obtain ⟨b', h3, _, h4⟩ := h2.wait hc hj
    have h5 : (job J2 c).ws[j] = (b' : Int) := by rw [← h3]; simp [elt, hj]
    rw [h5] at e
    exact ⟨b', by omega, h4⟩
  · rintro ⟨b', rfl, he⟩
    obtain ⟨j, hj, h3⟩ := h2.edge he
    exact ⟨(b' : Int), by rw [← h3]; unfold elt; rw [List.getElem?_eq_getElem hj]; exact List.getElem_mem hj, by omega⟩
theorem yL_mem {c b : Nat} : (b : Int) ∈ yL J1 J2 c ↔ (job J2 c).ws = [] ∧ b < J1.length ∧ nxt J1 b = [] := by
  unfold yL
  by_cases h : (job J2 c).ws.length = 0
  · rw [if_pos h, ints_mem]
    unfold fltN lastP
    rw [List.mem_filter, List.mem_range, beq_iff_eq, List.length_eq_zero_iff]
    exact ⟨fun hh => ⟨List.length_eq_zero_iff.1 h, hh⟩, fun hh => hh.2⟩
  · rw [if_neg h]
    exact ⟨fun hh => by simp at hh, fun hh => absurd (by rw [hh.1]; rfl) h⟩
theorem cat_of (hA : ∀ c, c < J2.length → (A c).lo = (job J2 c).lo ∧ (A c).hi = (job J2 c).hi) {B : Bool}
    (hw : ∀ (b c : Nat), c < J2.length → ((b : Int) ∈ (A c).ws ↔ (∃ b', b = J1.length + b' ∧ edg J2 b' c = true) ∨ (B = true ∧ (job J2 c).ws = [] ∧ b < J1.length ∧ nxt J1 b = []))) : Cat J1 J2 (catTo J1 A J2.length) B := by
  refine ⟨catTo_len _ _ _, fun c hc => ?_, fun c hc => ?_, fun b c hc => ?_, fun b c hc => ?_⟩
  · unfold loD hiD; rw [catTo_lt hc]; exact ⟨rfl, rfl⟩
  · unfold loD hiD; rw [catTo_ge hc]; exact hA c hc
  · unfold edg
    rw [catTo_lt hc, catTo_len, decide_eq_true (by omega), decide_eq_true hc]
  · unfold edg
    rw [catTo_ge hc, catTo_len, decide_eq_true (by omega), Bool.true_and, List.contains_iff_mem]
    exact hw b c hc
theorem lis_weak {l : List Int} {n n' : Int} {k : Nat} (h : LisTo l n k) (hn : n ≤ n') : LisTo l n' k := fun i hi => by
  obtain ⟨a, b, c⟩ := h i hi
  exact ⟨a, by omega, c⟩
theorem sh_lis {ws : List Int} {n m : Nat} (h : LisTo ws m ws.length) : LisTo (shI n ws) ((n + m : Nat) : Int) (shI n ws).length := fun i hi => by
  rw [shI_len] at hi
  obtain ⟨a, b, c⟩ := h i hi
  rw [shI_at hi]
  refine ⟨by omega, by omega, fun h0 => ?_⟩
  rw [shI_at (by omega)]
  have := c h0
  omega
theorem cat_fine (h1 : FineJ J1) (h2 : FineJ J2) (h12 : J1.length + J2.length ≤ 12) (hA : ∀ c, c < J2.length → (A c).lo = (job J2 c).lo ∧ (A c).hi = (job J2 c).hi)
    (hl : ∀ c, c < J2.length → LisTo (A c).ws ((J1.length + J2.length : Nat) : Int) (A c).ws.length) (hs : ∀ c, c < J2.length → ((J1.length + c : Nat) : Int) ∉ (A c).ws) : FineJ (catTo J1 A J2.length) := by
  refine ⟨by rw [catTo_len]; have := h1.n1; omega, by rw [catTo_len]; exact h12, fun c hc => ?_, fun c hc => ?_, fun c hc => ?_⟩
  · rw [catTo_len] at hc
    rcases Nat.lt_or_ge c J1.length with hh | hh
    · rw [catTo_lt hh]; exact h1.days c hh
    · obtain ⟨d, rfl⟩ : ∃ d, c = J1.length + d := ⟨c - J1.length, by omega⟩
      rw [catTo_ge (by omega), (hA d (by omega)).1, (hA d (by omega)).2]
      exact h2.days d (by omega)
  · rw [catTo_len] at hc ⊢
    rcases Nat.lt_or_ge c J1.length with hh | hh
    · rw [catTo_lt hh]; exact lis_weak (h1.lst c hh) (by omega)
    · obtain ⟨d, rfl⟩ : ∃ d, c = J1.length + d := ⟨c - J1.length, by omega⟩
      rw [catTo_ge (by omega)]; exact hl d (by omega)
  · rw [catTo_len] at hc
    rcases Nat.lt_or_ge c J1.length with hh | hh
    · rw [catTo_lt hh]; exact h1.self c hh
    · obtain ⟨d, rfl⟩ : ∃ d, c = J1.length + d := ⟨c - J1.length, by omega⟩
      rw [catTo_ge (by omega)]
      cases hcc : (A d).ws.contains ((J1.length + d : Nat) : Int) with
      | false => rfl
      | true => exact absurd (List.contains_iff_mem.1 hcc) (hs d (by omega))
theorem sh_self (h2 : FineJ J2) {c : Nat} (hc : c < J2.length) : ((J1.length + c : Nat) : Int) ∉ shI J1.length (job J2 c).ws := fun h => by
  obtain ⟨b', e, he⟩ := (sh_mem h2 hc).1 h
  have : b' = c := by omega
  subst this
  unfold edg at he
  rw [h2.self b' hc, Bool.and_false] at he
  cases he
theorem x_cat (h1 : FineJ J1) (h2 : FineJ J2) (h12 : J1.length + J2.length ≤ 12) : Cat J1 J2 (catTo J1 (xA J1 J2) J2.length) false ∧ FineJ (catTo J1 (xA J1 J2) J2.length) :=
  ⟨cat_of (J1 := J1) (J2 := J2) (A := xA J1 J2) (fun _ _ => ⟨rfl, rfl⟩) fun b c hc => by
    show (b : Int) ∈ shI J1.length (job J2 c).ws ↔ _
    rw [sh_mem h2 hc]
    exact ⟨fun h => .inl h, fun h => h.elim id fun h => by cases h.1⟩,
   cat_fine (A := xA J1 J2) h1 h2 h12 (fun _ _ => ⟨rfl, rfl⟩) (fun c hc => sh_lis (h2.lst c hc)) (fun c hc => sh_self h2 hc)⟩
theorem y_cat (h1 : FineJ J1) (h2 : FineJ J2) (h12 : J1.length + J2.length ≤ 12) : Cat J1 J2 (catTo J1 (yA J1 J2) J2.length) true ∧ FineJ (catTo J1 (yA J1 J2) J2.length) := by
  refine ⟨cat_of (J1 := J1) (J2 := J2) (A := yA J1 J2) (fun _ _ => ⟨rfl, rfl⟩) fun b c hc => ?_, cat_fine (A := yA J1 J2) h1 h2 h12 (fun _ _ => ⟨rfl, rfl⟩) (fun c hc => ?_) (fun c hc => ?_)⟩
  · show (b : Int) ∈ yL J1 J2 c ++ shI J1.length (job J2 c).ws ↔ _
    rw [List.mem_append, sh_mem h2 hc, yL_mem]
    exact ⟨fun h => h.elim (fun h => .inr ⟨rfl, h⟩) .inl, fun h => h.elim .inr fun h => .inl h.2⟩
  · show LisTo (yL J1 J2 c ++ shI J1.length (job J2 c).ws) _ (yL J1 J2 c ++ shI J1.length (job J2 c).ws).length
    unfold yL
    by_cases h : (job J2 c).ws.length = 0
    · rw [if_pos h, List.length_eq_zero_iff.1 h]
      show LisTo (_ ++ []) _ (_ ++ []).length
      rw [List.append_nil]
      exact lis_weak (fltN_lis _ _) (by omega)
    · rw [if_neg h, List.nil_append]; exact sh_lis (h2.lst c hc)
  · show ((J1.length + c : Nat) : Int) ∉ yL J1 J2 c ++ shI J1.length (job J2 c).ws
    rw [List.mem_append, yL_mem]
    rintro (h | h)
    · omega
    · exact sh_self h2 hc h
/-- What PlanBoth asks of the works that it makes. -/
theorem both_x (e1 : errC J1 = 0) (e2 : errC J2 = 0) (h12 : J1.length + J2.length ≤ 12) :
    SmJ (catTo J1 (xA J1 J2) J2.length) ∧ errC (catTo J1 (xA J1 J2) J2.length) = 0 ∧ lenR (catTo J1 (xA J1 J2) J2.length) = (max (takes J1 (loD J1)) (takes J2 (loD J2)), max (takes J1 (hiD J1)) (takes J2 (hiD J2))) ∧
    ∀ l1 l2 l, FreQ J1 l1 → FreQ J2 l2 → FreQ (catTo J1 (xA J1 J2) J2.length) l → l.length = l1.length + l2.length := by
  obtain ⟨hc, hf⟩ := x_cat (fine_err e1).1 (fine_err e2).1 h12
  obtain ⟨h3, h4⟩ := hc.lenR hf e1 e2
  exact ⟨fine_smU hf, h3, h4, fun l1 l2 l f1 f2 f => hc.free hf e1 e2 f1 f2 f⟩
theorem both_y (e1 : errC J1 = 0) (e2 : errC J2 = 0) (h12 : J1.length + J2.length ≤ 12) :
    SmJ (catTo J1 (yA J1 J2) J2.length) ∧ errC (catTo J1 (yA J1 J2) J2.length) = 0 ∧ lenR (catTo J1 (yA J1 J2) J2.length) = (takes J1 (loD J1) + takes J2 (loD J2), takes J1 (hiD J1) + takes J2 (hiD J2)) := by
  obtain ⟨hc, hf⟩ := y_cat (fine_err e1).1 (fine_err e2).1 h12
  obtain ⟨h3, h4⟩ := hc.lenR hf e1 e2
  exact ⟨fine_smU hf, h3, h4⟩
end
end Go.Proofs.YteknehlkdgamjaaGreat
