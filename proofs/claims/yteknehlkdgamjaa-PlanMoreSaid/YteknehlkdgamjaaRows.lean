/-
  No cell of these rows narrows 'for every input' (looked for: loops, veiled, ifaces, maps, wideKeys, modest, calm, conditions, laid).
  DERIVED. THE GIVEN ROWS OF THIS SEAT. 4 by the template 'for every input the law returns true; each argument reads behind the call as it read before'; 0 by the template 'total and deterministic' (their statements: YteknehlkdgamjaaTotals.lean).
  GIVEN WITH THE SEED: the statements are not yours to turn. If you find one false, say at which input.
  Laid BY PROGRAM, IN A SANDBOX (cutbox-rows.mjs): the forced cells as the released guide's own fill.sh prints them over the translation 115d6e0854fa2865… (all of the seat's roots in one cut). By AI agents, Wed Nov 11 2026. No macro, syntax, notation, axiom, sorry.
-/
import Derived.Test.YteknehlkdgamjaaChecked
import GoSem.Claim
import GoSem.ClaimJoined
import GoSem.ClaimMapViews
import Derived.JoinedTies
import Derived.KernelRfl
namespace Go.Proofs.Yteknehlkdgamjaa
/- THE CELL 'sum', in the pinned program and in every row, IS THE sha256 OF THE DUMP (.gsa) THAT YteknehlkdgamjaaProg.lean LOADS. Nothing in Lean hashes anything: it is a label: what it is worth is what the hold of that sum in a sandbox is worth. -/
noncomputable def Try.pinned : Pinned := { name := "yteknehlkdgamjaa", sum := "115d6e0854fa28657f680dd03b3e1ff22b74bac2d9b407d9d1f813c7e0bfd633", checked := Try.checked }
namespace Rows
def none {H : Type} : Left H := { results := [], args := [] }

/-- 'fipplelaw10.PlanWorks': WHATEVER THE INPUT: true; the input reads as it did. -/
def planWorksSpec : ChangeSpec := { name := "planWorks", fn := fun _ => fun
  | [d1, d2] => { results := [.lit (.bool true)], args := [d1, d2] }
  | _ => none }
def planWorksRow : OpenClaim := { program := "yteknehlkdgamjaa", sum := "115d6e0854fa28657f680dd03b3e1ff22b74bac2d9b407d9d1f813c7e0bfd633", func := "fipple/fipplelaw10.PlanWorks", spec := "planWorks", unfollowed := true, recurses := true, plainKeys := false, apart := false }
def PlanWorksSaid : Prop := planWorksRow.holds Try.pinned (OpenSpec.ofChange planWorksSpec)

/-- ITS FALSE NEIGHBOUR: 'it returns false'. Refute it at one input. -/
def planWorksWrong : ChangeSpec := { name := "planWorks", fn := fun _ => fun
  | [d1, d2] => { results := [.lit (.bool false)], args := [d1, d2] }
  | _ => none }
def PlanWorksWrongFalsely : Prop := planWorksRow.holds Try.pinned (OpenSpec.ofChange planWorksWrong)

/-- 'fipplelaw10.PlanCircle': WHATEVER THE INPUT: true; the input reads as it did. -/
def planCircleSpec : ChangeSpec := { name := "planCircle", fn := fun _ => fun
  | [d1, d2] => { results := [.lit (.bool true)], args := [d1, d2] }
  | _ => none }
def planCircleRow : OpenClaim := { program := "yteknehlkdgamjaa", sum := "115d6e0854fa28657f680dd03b3e1ff22b74bac2d9b407d9d1f813c7e0bfd633", func := "fipple/fipplelaw10.PlanCircle", spec := "planCircle", unfollowed := true, recurses := true, plainKeys := false, apart := false }
def PlanCircleSaid : Prop := planCircleRow.holds Try.pinned (OpenSpec.ofChange planCircleSpec)

/-- ITS FALSE NEIGHBOUR: 'it returns false'. Refute it at one input. -/
def planCircleWrong : ChangeSpec := { name := "planCircle", fn := fun _ => fun
  | [d1, d2] => { results := [.lit (.bool false)], args := [d1, d2] }
  | _ => none }
def PlanCircleWrongFalsely : Prop := planCircleRow.holds Try.pinned (OpenSpec.ofChange planCircleWrong)

/-- 'fipplelaw10.PlanMore': WHATEVER THE INPUT: true; the input reads as it did. -/
def planMoreSpec : ChangeSpec := { name := "planMore", fn := fun _ => fun
  | [d1, d2, d3] => { results := [.lit (.bool true)], args := [d1, d2, d3] }
  | _ => none }
def planMoreRow : OpenClaim := { program := "yteknehlkdgamjaa", sum := "115d6e0854fa28657f680dd03b3e1ff22b74bac2d9b407d9d1f813c7e0bfd633", func := "fipple/fipplelaw10.PlanMore", spec := "planMore", unfollowed := true, recurses := true, plainKeys := false, apart := false }
def PlanMoreSaid : Prop := planMoreRow.holds Try.pinned (OpenSpec.ofChange planMoreSpec)

/-- ITS FALSE NEIGHBOUR: 'it returns false'. Refute it at one input. -/
def planMoreWrong : ChangeSpec := { name := "planMore", fn := fun _ => fun
  | [d1, d2, d3] => { results := [.lit (.bool false)], args := [d1, d2, d3] }
  | _ => none }
def PlanMoreWrongFalsely : Prop := planMoreRow.holds Try.pinned (OpenSpec.ofChange planMoreWrong)

/-- 'fipplelaw10.PlanKnown': WHATEVER THE INPUT: true; the input reads as it did. -/
def planKnownSpec : ChangeSpec := { name := "planKnown", fn := fun _ => fun
  | [] => { results := [.lit (.bool true)], args := [] }
  | _ => none }
def planKnownRow : OpenClaim := { program := "yteknehlkdgamjaa", sum := "115d6e0854fa28657f680dd03b3e1ff22b74bac2d9b407d9d1f813c7e0bfd633", func := "fipple/fipplelaw10.PlanKnown", spec := "planKnown", unfollowed := true, recurses := true, plainKeys := false, apart := false }
def PlanKnownSaid : Prop := planKnownRow.holds Try.pinned (OpenSpec.ofChange planKnownSpec)

/-- ITS FALSE NEIGHBOUR: 'it returns false'. Refute it at one input. -/
def planKnownWrong : ChangeSpec := { name := "planKnown", fn := fun _ => fun
  | [] => { results := [.lit (.bool false)], args := [] }
  | _ => none }
def PlanKnownWrongFalsely : Prop := planKnownRow.holds Try.pinned (OpenSpec.ofChange planKnownWrong)

/- THE SECOND FORM. 'bulk': how many values and letters a reading holds, each counted each time it is reached (what is shared counts as often as it is met; a slice's spare places count too). A statement '..UptoSaid' is the law's where the arguments, and the package variables that the reading takes, are together of bulk at most 1048576: NARROWER than '..Said'. Prove '..Said' where nothing that the law and all that it calls make is longer than what came in: it says more and counts as full. Else prove '..UptoSaid'. A law counts once. -/
mutual
def uptoBulk {H : Type} : DataW H → Nat
  | .lit (.string bytes) => bytes.length + 1
  | .lit _ => 1
  | .nil => 1
  | .ptr d => uptoBulk d + 1
  | .slice elems spare => uptoBulkAll elems + uptoBulkAll spare + 1
  | .agg parts => uptoBulkAll parts + 1
  | .iface _ d => uptoBulk d + 1
  | .map entries => uptoBulkEntries entries + 1
  | .held _ => 1
def uptoBulkAll {H : Type} : List (DataW H) → Nat
  | [] => 0
  | d :: r => uptoBulk d + uptoBulkAll r
def uptoBulkEntries {H : Type} : List (Lit × DataW H) → Nat
  | [] => 0
  | x :: r => uptoBulkEntry x + uptoBulkEntries r
def uptoBulkEntry {H : Type} : Lit × DataW H → Nat
  | (.string bytes, d) => bytes.length + uptoBulk d + 1
  | (_, d) => uptoBulk d + 1
 end
def uptoSmall : (H : Type) → List (DataW H) → Bool := fun _ ds => decide (uptoBulkAll ds ≤ 1048576)
def OpenSpec.upto (s : _root_.Go.ChangeSpec) : _root_.Go.OpenSpec := { _root_.Go.OpenSpec.ofChange s with cond := some uptoSmall }

/-- 'fipplelaw10.PlanWorks', WHERE WHAT IT READS IS OF BULK AT MOST 1048576: true; the input reads as it did. -/
def planWorksUptoRow : OpenClaim := { program := "yteknehlkdgamjaa", sum := "115d6e0854fa28657f680dd03b3e1ff22b74bac2d9b407d9d1f813c7e0bfd633", func := "fipple/fipplelaw10.PlanWorks", spec := "planWorks", unfollowed := true, recurses := true, plainKeys := false, apart := false, narrowed := true }
def PlanWorksUptoSaid : Prop := planWorksUptoRow.holds Try.pinned (OpenSpec.upto planWorksSpec)

/-- 'fipplelaw10.PlanCircle', WHERE WHAT IT READS IS OF BULK AT MOST 1048576: true; the input reads as it did. -/
def planCircleUptoRow : OpenClaim := { program := "yteknehlkdgamjaa", sum := "115d6e0854fa28657f680dd03b3e1ff22b74bac2d9b407d9d1f813c7e0bfd633", func := "fipple/fipplelaw10.PlanCircle", spec := "planCircle", unfollowed := true, recurses := true, plainKeys := false, apart := false, narrowed := true }
def PlanCircleUptoSaid : Prop := planCircleUptoRow.holds Try.pinned (OpenSpec.upto planCircleSpec)

/-- 'fipplelaw10.PlanMore', WHERE WHAT IT READS IS OF BULK AT MOST 1048576: true; the input reads as it did. -/
def planMoreUptoRow : OpenClaim := { program := "yteknehlkdgamjaa", sum := "115d6e0854fa28657f680dd03b3e1ff22b74bac2d9b407d9d1f813c7e0bfd633", func := "fipple/fipplelaw10.PlanMore", spec := "planMore", unfollowed := true, recurses := true, plainKeys := false, apart := false, narrowed := true }
def PlanMoreUptoSaid : Prop := planMoreUptoRow.holds Try.pinned (OpenSpec.upto planMoreSpec)

/-- 'fipplelaw10.PlanKnown', WHERE WHAT IT READS IS OF BULK AT MOST 1048576: true; the input reads as it did. -/
def planKnownUptoRow : OpenClaim := { program := "yteknehlkdgamjaa", sum := "115d6e0854fa28657f680dd03b3e1ff22b74bac2d9b407d9d1f813c7e0bfd633", func := "fipple/fipplelaw10.PlanKnown", spec := "planKnown", unfollowed := true, recurses := true, plainKeys := false, apart := false, narrowed := true }
def PlanKnownUptoSaid : Prop := planKnownUptoRow.holds Try.pinned (OpenSpec.upto planKnownSpec)

end Rows
end Go.Proofs.Yteknehlkdgamjaa
