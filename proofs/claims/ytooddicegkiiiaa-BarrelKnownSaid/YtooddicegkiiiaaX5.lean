/- times, and Next of the program. -/
import Derived.Test.YtooddicegkiiiaaX4
namespace Go.Proofs.Ytooddicegkiiiaa
open Go.RowKit Go.Shelf
attribute [local go_sem] Oper.semAt_some

/-- The cells that the iterator has captured. -/
structure Cap (W : World) (pk pf pa pb : Nat) (o : Bool) (A B f : Int) : Prop where
  k : W.cell? ⟨pk, 0, none⟩ = some (.bool o)
  f : W.cell? ⟨pf, 0, none⟩ = some (.int .i64 f)
  a : W.cell? ⟨pa, 0, none⟩ = some (.int .i64 A)
  b : W.cell? ⟨pb, 0, none⟩ = some (.int .i64 B)
  fa : W.frozen? ⟨pa, 0, none⟩ = false
theorem Cap.mono {W W' : World} {pk pf pa pb : Nat} {o : Bool} {A B f : Int} (h : Cap W pk pf pa pb o A B f) (hb : Below W.heap.size W W') : Cap W' pk pf pa pb o A B f :=
  ⟨(hb.cell (World.block_lt_of_cell? W _ h.k)).trans h.k, (hb.cell (World.block_lt_of_cell? W _ h.f)).trans h.f, (hb.cell (World.block_lt_of_cell? W _ h.a)).trans h.a, (hb.cell (World.block_lt_of_cell? W _ h.b)).trans h.b, (hb.frozen (World.block_lt_of_cell? W _ h.a)).trans h.fa⟩

def TimesOk (V : List (Int × Int)) (f : Int) (w : World) (e : Ending) (w' : World) : Prop :=
  ∃ pk pf pa pb, e = .returned (.func (.func 79) #[] #[.pointer (some ⟨pk, 0, none⟩), .pointer (some ⟨pf, 0, none⟩), .pointer (some ⟨pa, 0, none⟩), .pointer (some ⟨pb, 0, none⟩)]) ∧ w.heap.size ≤ pa ∧ Cap w' pk pf pa pb (jO V) (jA V) (jB V) f ∧ Below w.heap.size w w'
set_option maxRecDepth 100000 in
set_option maxHeartbeats 1000000 in
theorem times_any (b : Nat) (V : List (Int × Int)) (f : Int) (w : World) (hD : IsDrum w b V) (hV : OkV V) (hl : V.length ≤ 5) :
    Calls Try.prog 64 #[.pointer (some ⟨b, 0, none⟩), .int .i64 f] w (TimesOk V f w) := by
  have HJ := Lib.hid (fun w' hb => join_any b V w' (hD.mono (w' := w') hb) hV hl)
  unfold TimesOk
  generalize jO V = o at *
  generalize jA V = A at *
  generalize jB V = B at *
  go_enter Try.func64, Try.ntmps64
  go_wp2_with fail
  refine (HJ.out _ (bal (bz _) _)).mono ?_
  rintro e w2 ⟨rfl, hB2⟩
  have hz := hB2.size
  rw [World.size_alloc] at hz
  have cf : w2.cell? ⟨w.heap.size, 0, none⟩ = some (.int .i64 f) := (hB2.cell (by simp)).trans (cnew rfl rfl)
  have HCF := Lib.hid cf; have HB2 := Lib.hid hB2
  clear cf hB2
  go_wp2_with fail
  go_ret
  refine ⟨_, _, _, _, rfl, ?_, ⟨cnew (by simp) rfl, cal _ (cal _ (cal _ HCF.out)), cal _ (cal _ (cnew rfl rfl)), cal _ (cnew (by simp) rfl), fal _ (fal _ (fnew rfl) (by simp)) (by simp; omega)⟩, bal (bal (bal (btr (bal (bz _) _) HB2.out) _) _) _⟩
  omega
end Go.Proofs.Ytooddicegkiiiaa
