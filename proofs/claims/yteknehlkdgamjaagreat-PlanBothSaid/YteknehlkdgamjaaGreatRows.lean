/-
  No cell of these rows narrows 'for every input' (looked for: loops, veiled, ifaces, maps, wideKeys, modest, calm, conditions, laid).
  DERIVED. THE GIVEN ROWS OF THIS SEAT. 10 by the template 'for every input the law returns true; each argument reads behind the call as it read before'; 0 by the template 'total and deterministic' (their statements: YteknehlkdgamjaaGreatTotals.lean).
  GIVEN WITH THE SEED: the statements are not yours to turn. If you find one false, say at which input.
  Laid BY PROGRAM, IN A SANDBOX (cutbox-rows.mjs): the forced cells as the released guide's own fill.sh prints them over the translation 8a79becd3bc5c03f… (all of the seat's roots in one cut). By AI agents, Wed Nov 11 2026. No macro, syntax, notation, axiom, sorry.
-/
import Derived.Test.YteknehlkdgamjaaGreatChecked
import GoSem.Claim
import GoSem.ClaimJoined
import GoSem.ClaimMapViews
import Derived.JoinedTies
import Derived.KernelRfl
namespace Go.Proofs.YteknehlkdgamjaaGreat
/- THE CELL 'sum', in the pinned program and in every row, IS THE sha256 OF THE DUMP (.gsa) THAT YteknehlkdgamjaaGreatProg.lean LOADS. Nothing in Lean hashes anything: it is a label: what it is worth is what the hold of that sum in a sandbox is worth. -/
noncomputable def Tryz.pinned : Pinned := { name := "yteknehlkdgamjaagreat", sum := "8a79becd3bc5c03f2832a3e62e33f5fba5a328a14fd5a3a088ec8993a8146b3c", checked := Tryz.checked }
namespace Rows
def none {H : Type} : Left H := { results := [], args := [] }

/-- 'fipplelaw10.PlanStarts': WHATEVER THE INPUT: true; the input reads as it did. -/
def planStartsSpec : ChangeSpec := { name := "planStarts", fn := fun _ => fun
  | [d1, d2] => { results := [.lit (.bool true)], args := [d1, d2] }
  | _ => none }
def planStartsRow : OpenClaim := { program := "yteknehlkdgamjaagreat", sum := "8a79becd3bc5c03f2832a3e62e33f5fba5a328a14fd5a3a088ec8993a8146b3c", func := "fipple/fipplelaw10.PlanStarts", spec := "planStarts", unfollowed := true, recurses := true, plainKeys := false, apart := false }
def PlanStartsSaid : Prop := planStartsRow.holds Tryz.pinned (OpenSpec.ofChange planStartsSpec)

/-- ITS FALSE NEIGHBOUR: 'it returns false'. Refute it at one input. -/
def planStartsWrong : ChangeSpec := { name := "planStarts", fn := fun _ => fun
  | [d1, d2] => { results := [.lit (.bool false)], args := [d1, d2] }
  | _ => none }
def PlanStartsWrongFalsely : Prop := planStartsRow.holds Tryz.pinned (OpenSpec.ofChange planStartsWrong)

/-- 'fipplelaw10.PlanChains': WHATEVER THE INPUT: true; the input reads as it did. -/
def planChainsSpec : ChangeSpec := { name := "planChains", fn := fun _ => fun
  | [d1, d2, d3] => { results := [.lit (.bool true)], args := [d1, d2, d3] }
  | _ => none }
def planChainsRow : OpenClaim := { program := "yteknehlkdgamjaagreat", sum := "8a79becd3bc5c03f2832a3e62e33f5fba5a328a14fd5a3a088ec8993a8146b3c", func := "fipple/fipplelaw10.PlanChains", spec := "planChains", unfollowed := true, recurses := true, plainKeys := false, apart := false }
def PlanChainsSaid : Prop := planChainsRow.holds Tryz.pinned (OpenSpec.ofChange planChainsSpec)

/-- ITS FALSE NEIGHBOUR: 'it returns false'. Refute it at one input. -/
def planChainsWrong : ChangeSpec := { name := "planChains", fn := fun _ => fun
  | [d1, d2, d3] => { results := [.lit (.bool false)], args := [d1, d2, d3] }
  | _ => none }
def PlanChainsWrongFalsely : Prop := planChainsRow.holds Tryz.pinned (OpenSpec.ofChange planChainsWrong)

/-- 'fipplelaw10.PlanKinds': WHATEVER THE INPUT: true; the input reads as it did. -/
def planKindsSpec : ChangeSpec := { name := "planKinds", fn := fun _ => fun
  | [d1, d2] => { results := [.lit (.bool true)], args := [d1, d2] }
  | _ => none }
def planKindsRow : OpenClaim := { program := "yteknehlkdgamjaagreat", sum := "8a79becd3bc5c03f2832a3e62e33f5fba5a328a14fd5a3a088ec8993a8146b3c", func := "fipple/fipplelaw10.PlanKinds", spec := "planKinds", unfollowed := true, recurses := true, plainKeys := false, apart := false }
def PlanKindsSaid : Prop := planKindsRow.holds Tryz.pinned (OpenSpec.ofChange planKindsSpec)

/-- ITS FALSE NEIGHBOUR: 'it returns false'. Refute it at one input. -/
def planKindsWrong : ChangeSpec := { name := "planKinds", fn := fun _ => fun
  | [d1, d2] => { results := [.lit (.bool false)], args := [d1, d2] }
  | _ => none }
def PlanKindsWrongFalsely : Prop := planKindsRow.holds Tryz.pinned (OpenSpec.ofChange planKindsWrong)

/-- 'fipplelaw10.PlanTruth': WHATEVER THE INPUT: true; the input reads as it did. -/
def planTruthSpec : ChangeSpec := { name := "planTruth", fn := fun _ => fun
  | [d1, d2, d3] => { results := [.lit (.bool true)], args := [d1, d2, d3] }
  | _ => none }
def planTruthRow : OpenClaim := { program := "yteknehlkdgamjaagreat", sum := "8a79becd3bc5c03f2832a3e62e33f5fba5a328a14fd5a3a088ec8993a8146b3c", func := "fipple/fipplelaw10.PlanTruth", spec := "planTruth", unfollowed := true, recurses := true, plainKeys := false, apart := false }
def PlanTruthSaid : Prop := planTruthRow.holds Tryz.pinned (OpenSpec.ofChange planTruthSpec)

/-- ITS FALSE NEIGHBOUR: 'it returns false'. Refute it at one input. -/
def planTruthWrong : ChangeSpec := { name := "planTruth", fn := fun _ => fun
  | [d1, d2, d3] => { results := [.lit (.bool false)], args := [d1, d2, d3] }
  | _ => none }
def PlanTruthWrongFalsely : Prop := planTruthRow.holds Tryz.pinned (OpenSpec.ofChange planTruthWrong)

/-- 'fipplelaw10.PlanEnds': WHATEVER THE INPUT: true; the input reads as it did. -/
def planEndsSpec : ChangeSpec := { name := "planEnds", fn := fun _ => fun
  | [d] => { results := [.lit (.bool true)], args := [d] }
  | _ => none }
def planEndsRow : OpenClaim := { program := "yteknehlkdgamjaagreat", sum := "8a79becd3bc5c03f2832a3e62e33f5fba5a328a14fd5a3a088ec8993a8146b3c", func := "fipple/fipplelaw10.PlanEnds", spec := "planEnds", unfollowed := true, recurses := true, plainKeys := false, apart := false }
def PlanEndsSaid : Prop := planEndsRow.holds Tryz.pinned (OpenSpec.ofChange planEndsSpec)

/-- ITS FALSE NEIGHBOUR: 'it returns false'. Refute it at one input. -/
def planEndsWrong : ChangeSpec := { name := "planEnds", fn := fun _ => fun
  | [d] => { results := [.lit (.bool false)], args := [d] }
  | _ => none }
def PlanEndsWrongFalsely : Prop := planEndsRow.holds Tryz.pinned (OpenSpec.ofChange planEndsWrong)

/-- 'fipplelaw10.PlanLate': WHATEVER THE INPUT: true; the input reads as it did. -/
def planLateSpec : ChangeSpec := { name := "planLate", fn := fun _ => fun
  | [d1, d2, d3] => { results := [.lit (.bool true)], args := [d1, d2, d3] }
  | _ => none }
def planLateRow : OpenClaim := { program := "yteknehlkdgamjaagreat", sum := "8a79becd3bc5c03f2832a3e62e33f5fba5a328a14fd5a3a088ec8993a8146b3c", func := "fipple/fipplelaw10.PlanLate", spec := "planLate", unfollowed := true, recurses := true, plainKeys := false, apart := false }
def PlanLateSaid : Prop := planLateRow.holds Tryz.pinned (OpenSpec.ofChange planLateSpec)

/-- ITS FALSE NEIGHBOUR: 'it returns false'. Refute it at one input. -/
def planLateWrong : ChangeSpec := { name := "planLate", fn := fun _ => fun
  | [d1, d2, d3] => { results := [.lit (.bool false)], args := [d1, d2, d3] }
  | _ => none }
def PlanLateWrongFalsely : Prop := planLateRow.holds Tryz.pinned (OpenSpec.ofChange planLateWrong)

/-- 'fipplelaw10.PlanKind': WHATEVER THE INPUT: true; the input reads as it did. -/
def planKindSpec : ChangeSpec := { name := "planKind", fn := fun _ => fun
  | [d1, d2] => { results := [.lit (.bool true)], args := [d1, d2] }
  | _ => none }
def planKindRow : OpenClaim := { program := "yteknehlkdgamjaagreat", sum := "8a79becd3bc5c03f2832a3e62e33f5fba5a328a14fd5a3a088ec8993a8146b3c", func := "fipple/fipplelaw10.PlanKind", spec := "planKind", unfollowed := true, recurses := true, plainKeys := false, apart := false }
def PlanKindSaid : Prop := planKindRow.holds Tryz.pinned (OpenSpec.ofChange planKindSpec)

/-- ITS FALSE NEIGHBOUR: 'it returns false'. Refute it at one input. -/
def planKindWrong : ChangeSpec := { name := "planKind", fn := fun _ => fun
  | [d1, d2] => { results := [.lit (.bool false)], args := [d1, d2] }
  | _ => none }
def PlanKindWrongFalsely : Prop := planKindRow.holds Tryz.pinned (OpenSpec.ofChange planKindWrong)

/-- 'fipplelaw10.PlanTurned': WHATEVER THE INPUT: true; the input reads as it did. -/
def planTurnedSpec : ChangeSpec := { name := "planTurned", fn := fun _ => fun
  | [d1, d2] => { results := [.lit (.bool true)], args := [d1, d2] }
  | _ => none }
def planTurnedRow : OpenClaim := { program := "yteknehlkdgamjaagreat", sum := "8a79becd3bc5c03f2832a3e62e33f5fba5a328a14fd5a3a088ec8993a8146b3c", func := "fipple/fipplelaw10.PlanTurned", spec := "planTurned", unfollowed := true, recurses := true, plainKeys := false, apart := false }
def PlanTurnedSaid : Prop := planTurnedRow.holds Tryz.pinned (OpenSpec.ofChange planTurnedSpec)

/-- ITS FALSE NEIGHBOUR: 'it returns false'. Refute it at one input. -/
def planTurnedWrong : ChangeSpec := { name := "planTurned", fn := fun _ => fun
  | [d1, d2] => { results := [.lit (.bool false)], args := [d1, d2] }
  | _ => none }
def PlanTurnedWrongFalsely : Prop := planTurnedRow.holds Tryz.pinned (OpenSpec.ofChange planTurnedWrong)

/-- 'fipplelaw10.PlanWidth': WHATEVER THE INPUT: true; the input reads as it did. -/
def planWidthSpec : ChangeSpec := { name := "planWidth", fn := fun _ => fun
  | [d1, d2, d3] => { results := [.lit (.bool true)], args := [d1, d2, d3] }
  | _ => none }
def planWidthRow : OpenClaim := { program := "yteknehlkdgamjaagreat", sum := "8a79becd3bc5c03f2832a3e62e33f5fba5a328a14fd5a3a088ec8993a8146b3c", func := "fipple/fipplelaw10.PlanWidth", spec := "planWidth", unfollowed := true, recurses := true, plainKeys := false, apart := false }
def PlanWidthSaid : Prop := planWidthRow.holds Tryz.pinned (OpenSpec.ofChange planWidthSpec)

/-- ITS FALSE NEIGHBOUR: 'it returns false'. Refute it at one input. -/
def planWidthWrong : ChangeSpec := { name := "planWidth", fn := fun _ => fun
  | [d1, d2, d3] => { results := [.lit (.bool false)], args := [d1, d2, d3] }
  | _ => none }
def PlanWidthWrongFalsely : Prop := planWidthRow.holds Tryz.pinned (OpenSpec.ofChange planWidthWrong)

/-- 'fipplelaw10.PlanBoth': WHATEVER THE INPUT: true; the input reads as it did. -/
def planBothSpec : ChangeSpec := { name := "planBoth", fn := fun _ => fun
  | [d1, d2] => { results := [.lit (.bool true)], args := [d1, d2] }
  | _ => none }
def planBothRow : OpenClaim := { program := "yteknehlkdgamjaagreat", sum := "8a79becd3bc5c03f2832a3e62e33f5fba5a328a14fd5a3a088ec8993a8146b3c", func := "fipple/fipplelaw10.PlanBoth", spec := "planBoth", unfollowed := true, recurses := true, plainKeys := false, apart := false }
def PlanBothSaid : Prop := planBothRow.holds Tryz.pinned (OpenSpec.ofChange planBothSpec)

/-- ITS FALSE NEIGHBOUR: 'it returns false'. Refute it at one input. -/
def planBothWrong : ChangeSpec := { name := "planBoth", fn := fun _ => fun
  | [d1, d2] => { results := [.lit (.bool false)], args := [d1, d2] }
  | _ => none }
def PlanBothWrongFalsely : Prop := planBothRow.holds Tryz.pinned (OpenSpec.ofChange planBothWrong)

/- THE SECOND FORM. 'bulk': how many values and letters a reading holds, each counted each time it is reached (what is shared counts as often as it is met; a slice's spare places count too). A statement '..UptoSaid' is the law's where the arguments, and the package variables that the reading takes, are together of bulk at most 1048576: NARROWER than '..Said'. Prove '..Said' where nothing that the law and all that it calls make is longer than what came in: it says more and counts as full. Else prove '..UptoSaid'. A law counts once. -/
mutual
def uptoBulk {H : Type} : DataW H → Nat
  | .lit (.string bytes) => bytes.length + 1
  | .lit _ => 1
  | .nil => 1
  | .ptr d => uptoBulk d + 1
  | .slice elems spare => uptoBulkAll elems + uptoBulkAll spare + 1
  | .agg parts => uptoBulkAll parts + 1
  | .iface _ d => uptoBulk d + 1
  | .map entries => uptoBulkEntries entries + 1
  | .held _ => 1
def uptoBulkAll {H : Type} : List (DataW H) → Nat
  | [] => 0
  | d :: r => uptoBulk d + uptoBulkAll r
def uptoBulkEntries {H : Type} : List (Lit × DataW H) → Nat
  | [] => 0
  | x :: r => uptoBulkEntry x + uptoBulkEntries r
def uptoBulkEntry {H : Type} : Lit × DataW H → Nat
  | (.string bytes, d) => bytes.length + uptoBulk d + 1
  | (_, d) => uptoBulk d + 1
 end
def uptoSmall : (H : Type) → List (DataW H) → Bool := fun _ ds => decide (uptoBulkAll ds ≤ 1048576)
def OpenSpec.upto (s : _root_.Go.ChangeSpec) : _root_.Go.OpenSpec := { _root_.Go.OpenSpec.ofChange s with cond := some uptoSmall }

/-- 'fipplelaw10.PlanStarts', WHERE WHAT IT READS IS OF BULK AT MOST 1048576: true; the input reads as it did. -/
def planStartsUptoRow : OpenClaim := { program := "yteknehlkdgamjaagreat", sum := "8a79becd3bc5c03f2832a3e62e33f5fba5a328a14fd5a3a088ec8993a8146b3c", func := "fipple/fipplelaw10.PlanStarts", spec := "planStarts", unfollowed := true, recurses := true, plainKeys := false, apart := false, narrowed := true }
def PlanStartsUptoSaid : Prop := planStartsUptoRow.holds Tryz.pinned (OpenSpec.upto planStartsSpec)

/-- 'fipplelaw10.PlanChains', WHERE WHAT IT READS IS OF BULK AT MOST 1048576: true; the input reads as it did. -/
def planChainsUptoRow : OpenClaim := { program := "yteknehlkdgamjaagreat", sum := "8a79becd3bc5c03f2832a3e62e33f5fba5a328a14fd5a3a088ec8993a8146b3c", func := "fipple/fipplelaw10.PlanChains", spec := "planChains", unfollowed := true, recurses := true, plainKeys := false, apart := false, narrowed := true }
def PlanChainsUptoSaid : Prop := planChainsUptoRow.holds Tryz.pinned (OpenSpec.upto planChainsSpec)

/-- 'fipplelaw10.PlanKinds', WHERE WHAT IT READS IS OF BULK AT MOST 1048576: true; the input reads as it did. -/
def planKindsUptoRow : OpenClaim := { program := "yteknehlkdgamjaagreat", sum := "8a79becd3bc5c03f2832a3e62e33f5fba5a328a14fd5a3a088ec8993a8146b3c", func := "fipple/fipplelaw10.PlanKinds", spec := "planKinds", unfollowed := true, recurses := true, plainKeys := false, apart := false, narrowed := true }
def PlanKindsUptoSaid : Prop := planKindsUptoRow.holds Tryz.pinned (OpenSpec.upto planKindsSpec)

/-- 'fipplelaw10.PlanTruth', WHERE WHAT IT READS IS OF BULK AT MOST 1048576: true; the input reads as it did. -/
def planTruthUptoRow : OpenClaim := { program := "yteknehlkdgamjaagreat", sum := "8a79becd3bc5c03f2832a3e62e33f5fba5a328a14fd5a3a088ec8993a8146b3c", func := "fipple/fipplelaw10.PlanTruth", spec := "planTruth", unfollowed := true, recurses := true, plainKeys := false, apart := false, narrowed := true }
def PlanTruthUptoSaid : Prop := planTruthUptoRow.holds Tryz.pinned (OpenSpec.upto planTruthSpec)

/-- 'fipplelaw10.PlanEnds', WHERE WHAT IT READS IS OF BULK AT MOST 1048576: true; the input reads as it did. -/
def planEndsUptoRow : OpenClaim := { program := "yteknehlkdgamjaagreat", sum := "8a79becd3bc5c03f2832a3e62e33f5fba5a328a14fd5a3a088ec8993a8146b3c", func := "fipple/fipplelaw10.PlanEnds", spec := "planEnds", unfollowed := true, recurses := true, plainKeys := false, apart := false, narrowed := true }
def PlanEndsUptoSaid : Prop := planEndsUptoRow.holds Tryz.pinned (OpenSpec.upto planEndsSpec)

/-- 'fipplelaw10.PlanLate', WHERE WHAT IT READS IS OF BULK AT MOST 1048576: true; the input reads as it did. -/
def planLateUptoRow : OpenClaim := { program := "yteknehlkdgamjaagreat", sum := "8a79becd3bc5c03f2832a3e62e33f5fba5a328a14fd5a3a088ec8993a8146b3c", func := "fipple/fipplelaw10.PlanLate", spec := "planLate", unfollowed := true, recurses := true, plainKeys := false, apart := false, narrowed := true }
def PlanLateUptoSaid : Prop := planLateUptoRow.holds Tryz.pinned (OpenSpec.upto planLateSpec)

/-- 'fipplelaw10.PlanKind', WHERE WHAT IT READS IS OF BULK AT MOST 1048576: true; the input reads as it did. -/
def planKindUptoRow : OpenClaim := { program := "yteknehlkdgamjaagreat", sum := "8a79becd3bc5c03f2832a3e62e33f5fba5a328a14fd5a3a088ec8993a8146b3c", func := "fipple/fipplelaw10.PlanKind", spec := "planKind", unfollowed := true, recurses := true, plainKeys := false, apart := false, narrowed := true }
def PlanKindUptoSaid : Prop := planKindUptoRow.holds Tryz.pinned (OpenSpec.upto planKindSpec)

/-- 'fipplelaw10.PlanTurned', WHERE WHAT IT READS IS OF BULK AT MOST 1048576: true; the input reads as it did. -/
def planTurnedUptoRow : OpenClaim := { program := "yteknehlkdgamjaagreat", sum := "8a79becd3bc5c03f2832a3e62e33f5fba5a328a14fd5a3a088ec8993a8146b3c", func := "fipple/fipplelaw10.PlanTurned", spec := "planTurned", unfollowed := true, recurses := true, plainKeys := false, apart := false, narrowed := true }
def PlanTurnedUptoSaid : Prop := planTurnedUptoRow.holds Tryz.pinned (OpenSpec.upto planTurnedSpec)

/-- 'fipplelaw10.PlanWidth', WHERE WHAT IT READS IS OF BULK AT MOST 1048576: true; the input reads as it did. -/
def planWidthUptoRow : OpenClaim := { program := "yteknehlkdgamjaagreat", sum := "8a79becd3bc5c03f2832a3e62e33f5fba5a328a14fd5a3a088ec8993a8146b3c", func := "fipple/fipplelaw10.PlanWidth", spec := "planWidth", unfollowed := true, recurses := true, plainKeys := false, apart := false, narrowed := true }
def PlanWidthUptoSaid : Prop := planWidthUptoRow.holds Tryz.pinned (OpenSpec.upto planWidthSpec)

/-- 'fipplelaw10.PlanBoth', WHERE WHAT IT READS IS OF BULK AT MOST 1048576: true; the input reads as it did. -/
def planBothUptoRow : OpenClaim := { program := "yteknehlkdgamjaagreat", sum := "8a79becd3bc5c03f2832a3e62e33f5fba5a328a14fd5a3a088ec8993a8146b3c", func := "fipple/fipplelaw10.PlanBoth", spec := "planBoth", unfollowed := true, recurses := true, plainKeys := false, apart := false, narrowed := true }
def PlanBothUptoSaid : Prop := planBothUptoRow.holds Tryz.pinned (OpenSpec.upto planBothSpec)

end Rows
end Go.Proofs.YteknehlkdgamjaaGreat
