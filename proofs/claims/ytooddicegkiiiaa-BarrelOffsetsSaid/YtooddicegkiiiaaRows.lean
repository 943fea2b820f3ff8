/-
  No cell of these rows narrows 'for every input' (looked for: loops, veiled, ifaces, maps, wideKeys, modest, calm, conditions, laid).
  DERIVED. THE GIVEN ROWS OF THIS SEAT. 15 by the template 'for every input the law returns true; each argument reads behind the call as it read before'; 0 by the template 'total and deterministic' (their statements: YtooddicegkiiiaaTotals.lean).
  GIVEN WITH THE SEED: the statements are not yours to turn. If you find one false, say at which input.
  Laid BY PROGRAM, IN A SANDBOX (cutbox-rows.mjs): the forced cells as the released guide's own fill.sh prints them over the translation 17b0942b47cffd97… (all of the seat's roots in one cut). By AI agents, Wed Nov 11 2026. No macro, syntax, notation, axiom, sorry.
-/
import Derived.Test.YtooddicegkiiiaaChecked
import GoSem.Claim
import GoSem.ClaimJoined
import GoSem.ClaimMapViews
import Derived.JoinedTies
import Derived.KernelRfl
namespace Go.Proofs.Ytooddicegkiiiaa
/- THE CELL 'sum', in the pinned program and in every row, IS THE sha256 OF THE DUMP (.gsa) THAT YtooddicegkiiiaaProg.lean LOADS. Nothing in Lean hashes anything: it is a label: what it is worth is what the hold of that sum in a sandbox is worth. -/
noncomputable def Try.pinned : Pinned := { name := "ytooddicegkiiiaa", sum := "17b0942b47cffd97284124ebac1a4bdf29599bfde56148d44316e41a3f017169", checked := Try.checked }
namespace Rows
def none {H : Type} : Left H := { results := [], args := [] }

/-- 'fipplelaw07.BarrelPins': WHATEVER THE INPUT: true; the input reads as it did. -/
def barrelPinsSpec : ChangeSpec := { name := "barrelPins", fn := fun _ => fun
  | [d1, d2] => { results := [.lit (.bool true)], args := [d1, d2] }
  | _ => none }
def barrelPinsRow : OpenClaim := { program := "ytooddicegkiiiaa", sum := "17b0942b47cffd97284124ebac1a4bdf29599bfde56148d44316e41a3f017169", func := "fipple/fipplelaw07.BarrelPins", spec := "barrelPins", unfollowed := true, recurses := true, plainKeys := false, apart := false }
def BarrelPinsSaid : Prop := barrelPinsRow.holds Try.pinned (OpenSpec.ofChange barrelPinsSpec)

/-- ITS FALSE NEIGHBOUR: 'it returns false'. Refute it at one input. -/
def barrelPinsWrong : ChangeSpec := { name := "barrelPins", fn := fun _ => fun
  | [d1, d2] => { results := [.lit (.bool false)], args := [d1, d2] }
  | _ => none }
def BarrelPinsWrongFalsely : Prop := barrelPinsRow.holds Try.pinned (OpenSpec.ofChange barrelPinsWrong)

/-- 'fipplelaw07.BarrelFirsts': WHATEVER THE INPUT: true; the input reads as it did. -/
def barrelFirstsSpec : ChangeSpec := { name := "barrelFirsts", fn := fun _ => fun
  | [d1, d2, d3] => { results := [.lit (.bool true)], args := [d1, d2, d3] }
  | _ => none }
def barrelFirstsRow : OpenClaim := { program := "ytooddicegkiiiaa", sum := "17b0942b47cffd97284124ebac1a4bdf29599bfde56148d44316e41a3f017169", func := "fipple/fipplelaw07.BarrelFirsts", spec := "barrelFirsts", unfollowed := true, recurses := true, plainKeys := false, apart := false }
def BarrelFirstsSaid : Prop := barrelFirstsRow.holds Try.pinned (OpenSpec.ofChange barrelFirstsSpec)

/-- ITS FALSE NEIGHBOUR: 'it returns false'. Refute it at one input. -/
def barrelFirstsWrong : ChangeSpec := { name := "barrelFirsts", fn := fun _ => fun
  | [d1, d2, d3] => { results := [.lit (.bool false)], args := [d1, d2, d3] }
  | _ => none }
def BarrelFirstsWrongFalsely : Prop := barrelFirstsRow.holds Try.pinned (OpenSpec.ofChange barrelFirstsWrong)

/-- 'fipplelaw07.BarrelClashes': WHATEVER THE INPUT: true; the input reads as it did. -/
def barrelClashesSpec : ChangeSpec := { name := "barrelClashes", fn := fun _ => fun
  | [d1, d2, d3] => { results := [.lit (.bool true)], args := [d1, d2, d3] }
  | _ => none }
def barrelClashesRow : OpenClaim := { program := "ytooddicegkiiiaa", sum := "17b0942b47cffd97284124ebac1a4bdf29599bfde56148d44316e41a3f017169", func := "fipple/fipplelaw07.BarrelClashes", spec := "barrelClashes", unfollowed := true, recurses := true, plainKeys := false, apart := false }
def BarrelClashesSaid : Prop := barrelClashesRow.holds Try.pinned (OpenSpec.ofChange barrelClashesSpec)

/-- ITS FALSE NEIGHBOUR: 'it returns false'. Refute it at one input. -/
def barrelClashesWrong : ChangeSpec := { name := "barrelClashes", fn := fun _ => fun
  | [d1, d2, d3] => { results := [.lit (.bool false)], args := [d1, d2, d3] }
  | _ => none }
def BarrelClashesWrongFalsely : Prop := barrelClashesRow.holds Try.pinned (OpenSpec.ofChange barrelClashesWrong)

/-- 'fipplelaw07.BarrelGroups': WHATEVER THE INPUT: true; the input reads as it did. -/
def barrelGroupsSpec : ChangeSpec := { name := "barrelGroups", fn := fun _ => fun
  | [d1, d2] => { results := [.lit (.bool true)], args := [d1, d2] }
  | _ => none }
def barrelGroupsRow : OpenClaim := { program := "ytooddicegkiiiaa", sum := "17b0942b47cffd97284124ebac1a4bdf29599bfde56148d44316e41a3f017169", func := "fipple/fipplelaw07.BarrelGroups", spec := "barrelGroups", unfollowed := true, recurses := true, plainKeys := false, apart := false }
def BarrelGroupsSaid : Prop := barrelGroupsRow.holds Try.pinned (OpenSpec.ofChange barrelGroupsSpec)

/-- ITS FALSE NEIGHBOUR: 'it returns false'. Refute it at one input. -/
def barrelGroupsWrong : ChangeSpec := { name := "barrelGroups", fn := fun _ => fun
  | [d1, d2] => { results := [.lit (.bool false)], args := [d1, d2] }
  | _ => none }
def BarrelGroupsWrongFalsely : Prop := barrelGroupsRow.holds Try.pinned (OpenSpec.ofChange barrelGroupsWrong)

/-- 'fipplelaw07.BarrelQuiets': WHATEVER THE INPUT: true; the input reads as it did. -/
def barrelQuietsSpec : ChangeSpec := { name := "barrelQuiets", fn := fun _ => fun
  | [d1, d2, d3] => { results := [.lit (.bool true)], args := [d1, d2, d3] }
  | _ => none }
def barrelQuietsRow : OpenClaim := { program := "ytooddicegkiiiaa", sum := "17b0942b47cffd97284124ebac1a4bdf29599bfde56148d44316e41a3f017169", func := "fipple/fipplelaw07.BarrelQuiets", spec := "barrelQuiets", unfollowed := true, recurses := true, plainKeys := false, apart := false }
def BarrelQuietsSaid : Prop := barrelQuietsRow.holds Try.pinned (OpenSpec.ofChange barrelQuietsSpec)

/-- ITS FALSE NEIGHBOUR: 'it returns false'. Refute it at one input. -/
def barrelQuietsWrong : ChangeSpec := { name := "barrelQuiets", fn := fun _ => fun
  | [d1, d2, d3] => { results := [.lit (.bool false)], args := [d1, d2, d3] }
  | _ => none }
def BarrelQuietsWrongFalsely : Prop := barrelQuietsRow.holds Try.pinned (OpenSpec.ofChange barrelQuietsWrong)

/-- 'fipplelaw07.BarrelEither': WHATEVER THE INPUT: true; the input reads as it did. -/
def barrelEitherSpec : ChangeSpec := { name := "barrelEither", fn := fun _ => fun
  | [d1, d2] => { results := [.lit (.bool true)], args := [d1, d2] }
  | _ => none }
def barrelEitherRow : OpenClaim := { program := "ytooddicegkiiiaa", sum := "17b0942b47cffd97284124ebac1a4bdf29599bfde56148d44316e41a3f017169", func := "fipple/fipplelaw07.BarrelEither", spec := "barrelEither", unfollowed := true, recurses := true, plainKeys := false, apart := false }
def BarrelEitherSaid : Prop := barrelEitherRow.holds Try.pinned (OpenSpec.ofChange barrelEitherSpec)

/-- ITS FALSE NEIGHBOUR: 'it returns false'. Refute it at one input. -/
def barrelEitherWrong : ChangeSpec := { name := "barrelEither", fn := fun _ => fun
  | [d1, d2] => { results := [.lit (.bool false)], args := [d1, d2] }
  | _ => none }
def BarrelEitherWrongFalsely : Prop := barrelEitherRow.holds Try.pinned (OpenSpec.ofChange barrelEitherWrong)

/-- 'fipplelaw07.BarrelWhen': WHATEVER THE INPUT: true; the input reads as it did. -/
def barrelWhenSpec : ChangeSpec := { name := "barrelWhen", fn := fun _ => fun
  | [d1, d2, d3] => { results := [.lit (.bool true)], args := [d1, d2, d3] }
  | _ => none }
def barrelWhenRow : OpenClaim := { program := "ytooddicegkiiiaa", sum := "17b0942b47cffd97284124ebac1a4bdf29599bfde56148d44316e41a3f017169", func := "fipple/fipplelaw07.BarrelWhen", spec := "barrelWhen", unfollowed := true, recurses := true, plainKeys := false, apart := false }
def BarrelWhenSaid : Prop := barrelWhenRow.holds Try.pinned (OpenSpec.ofChange barrelWhenSpec)

/-- ITS FALSE NEIGHBOUR: 'it returns false'. Refute it at one input. -/
def barrelWhenWrong : ChangeSpec := { name := "barrelWhen", fn := fun _ => fun
  | [d1, d2, d3] => { results := [.lit (.bool false)], args := [d1, d2, d3] }
  | _ => none }
def BarrelWhenWrongFalsely : Prop := barrelWhenRow.holds Try.pinned (OpenSpec.ofChange barrelWhenWrong)

/-- 'fipplelaw07.BarrelCounted': WHATEVER THE INPUT: true; the input reads as it did. -/
def barrelCountedSpec : ChangeSpec := { name := "barrelCounted", fn := fun _ => fun
  | [d1, d2, d3, d4] => { results := [.lit (.bool true)], args := [d1, d2, d3, d4] }
  | _ => none }
def barrelCountedRow : OpenClaim := { program := "ytooddicegkiiiaa", sum := "17b0942b47cffd97284124ebac1a4bdf29599bfde56148d44316e41a3f017169", func := "fipple/fipplelaw07.BarrelCounted", spec := "barrelCounted", unfollowed := true, recurses := true, plainKeys := false, apart := false }
def BarrelCountedSaid : Prop := barrelCountedRow.holds Try.pinned (OpenSpec.ofChange barrelCountedSpec)

/-- ITS FALSE NEIGHBOUR: 'it returns false'. Refute it at one input. -/
def barrelCountedWrong : ChangeSpec := { name := "barrelCounted", fn := fun _ => fun
  | [d1, d2, d3, d4] => { results := [.lit (.bool false)], args := [d1, d2, d3, d4] }
  | _ => none }
def BarrelCountedWrongFalsely : Prop := barrelCountedRow.holds Try.pinned (OpenSpec.ofChange barrelCountedWrong)

/-- 'fipplelaw07.BarrelCovered': WHATEVER THE INPUT: true; the input reads as it did. -/
def barrelCoveredSpec : ChangeSpec := { name := "barrelCovered", fn := fun _ => fun
  | [d1, d2, d3] => { results := [.lit (.bool true)], args := [d1, d2, d3] }
  | _ => none }
def barrelCoveredRow : OpenClaim := { program := "ytooddicegkiiiaa", sum := "17b0942b47cffd97284124ebac1a4bdf29599bfde56148d44316e41a3f017169", func := "fipple/fipplelaw07.BarrelCovered", spec := "barrelCovered", unfollowed := true, recurses := true, plainKeys := false, apart := false }
def BarrelCoveredSaid : Prop := barrelCoveredRow.holds Try.pinned (OpenSpec.ofChange barrelCoveredSpec)

/-- ITS FALSE NEIGHBOUR: 'it returns false'. Refute it at one input. -/
def barrelCoveredWrong : ChangeSpec := { name := "barrelCovered", fn := fun _ => fun
  | [d1, d2, d3] => { results := [.lit (.bool false)], args := [d1, d2, d3] }
  | _ => none }
def BarrelCoveredWrongFalsely : Prop := barrelCoveredRow.holds Try.pinned (OpenSpec.ofChange barrelCoveredWrong)

/-- 'fipplelaw07.BarrelShifted': WHATEVER THE INPUT: true; the input reads as it did. -/
def barrelShiftedSpec : ChangeSpec := { name := "barrelShifted", fn := fun _ => fun
  | [d1, d2, d3] => { results := [.lit (.bool true)], args := [d1, d2, d3] }
  | _ => none }
def barrelShiftedRow : OpenClaim := { program := "ytooddicegkiiiaa", sum := "17b0942b47cffd97284124ebac1a4bdf29599bfde56148d44316e41a3f017169", func := "fipple/fipplelaw07.BarrelShifted", spec := "barrelShifted", unfollowed := true, recurses := true, plainKeys := false, apart := false }
def BarrelShiftedSaid : Prop := barrelShiftedRow.holds Try.pinned (OpenSpec.ofChange barrelShiftedSpec)

/-- ITS FALSE NEIGHBOUR: 'it returns false'. Refute it at one input. -/
def barrelShiftedWrong : ChangeSpec := { name := "barrelShifted", fn := fun _ => fun
  | [d1, d2, d3] => { results := [.lit (.bool false)], args := [d1, d2, d3] }
  | _ => none }
def BarrelShiftedWrongFalsely : Prop := barrelShiftedRow.holds Try.pinned (OpenSpec.ofChange barrelShiftedWrong)

/-- 'fipplelaw07.BarrelScaled': WHATEVER THE INPUT: true; the input reads as it did. -/
def barrelScaledSpec : ChangeSpec := { name := "barrelScaled", fn := fun _ => fun
  | [d1, d2] => { results := [.lit (.bool true)], args := [d1, d2] }
  | _ => none }
def barrelScaledRow : OpenClaim := { program := "ytooddicegkiiiaa", sum := "17b0942b47cffd97284124ebac1a4bdf29599bfde56148d44316e41a3f017169", func := "fipple/fipplelaw07.BarrelScaled", spec := "barrelScaled", unfollowed := true, recurses := true, plainKeys := false, apart := false }
def BarrelScaledSaid : Prop := barrelScaledRow.holds Try.pinned (OpenSpec.ofChange barrelScaledSpec)

/-- ITS FALSE NEIGHBOUR: 'it returns false'. Refute it at one input. -/
def barrelScaledWrong : ChangeSpec := { name := "barrelScaled", fn := fun _ => fun
  | [d1, d2] => { results := [.lit (.bool false)], args := [d1, d2] }
  | _ => none }
def BarrelScaledWrongFalsely : Prop := barrelScaledRow.holds Try.pinned (OpenSpec.ofChange barrelScaledWrong)

/-- 'fipplelaw07.BarrelOffsets': WHATEVER THE INPUT: true; the input reads as it did. -/
def barrelOffsetsSpec : ChangeSpec := { name := "barrelOffsets", fn := fun _ => fun
  | [d1, d2, d3] => { results := [.lit (.bool true)], args := [d1, d2, d3] }
  | _ => none }
def barrelOffsetsRow : OpenClaim := { program := "ytooddicegkiiiaa", sum := "17b0942b47cffd97284124ebac1a4bdf29599bfde56148d44316e41a3f017169", func := "fipple/fipplelaw07.BarrelOffsets", spec := "barrelOffsets", unfollowed := true, recurses := true, plainKeys := false, apart := false }
def BarrelOffsetsSaid : Prop := barrelOffsetsRow.holds Try.pinned (OpenSpec.ofChange barrelOffsetsSpec)

/-- ITS FALSE NEIGHBOUR: 'it returns false'. Refute it at one input. -/
def barrelOffsetsWrong : ChangeSpec := { name := "barrelOffsets", fn := fun _ => fun
  | [d1, d2, d3] => { results := [.lit (.bool false)], args := [d1, d2, d3] }
  | _ => none }
def BarrelOffsetsWrongFalsely : Prop := barrelOffsetsRow.holds Try.pinned (OpenSpec.ofChange barrelOffsetsWrong)

/-- 'fipplelaw07.BarrelGroup': WHATEVER THE INPUT: true; the input reads as it did. -/
def barrelGroupSpec : ChangeSpec := { name := "barrelGroup", fn := fun _ => fun
  | [d1, d2] => { results := [.lit (.bool true)], args := [d1, d2] }
  | _ => none }
def barrelGroupRow : OpenClaim := { program := "ytooddicegkiiiaa", sum := "17b0942b47cffd97284124ebac1a4bdf29599bfde56148d44316e41a3f017169", func := "fipple/fipplelaw07.BarrelGroup", spec := "barrelGroup", unfollowed := true, recurses := true, plainKeys := false, apart := false }
def BarrelGroupSaid : Prop := barrelGroupRow.holds Try.pinned (OpenSpec.ofChange barrelGroupSpec)

/-- ITS FALSE NEIGHBOUR: 'it returns false'. Refute it at one input. -/
def barrelGroupWrong : ChangeSpec := { name := "barrelGroup", fn := fun _ => fun
  | [d1, d2] => { results := [.lit (.bool false)], args := [d1, d2] }
  | _ => none }
def BarrelGroupWrongFalsely : Prop := barrelGroupRow.holds Try.pinned (OpenSpec.ofChange barrelGroupWrong)

/-- 'fipplelaw07.BarrelMore': WHATEVER THE INPUT: true; the input reads as it did. -/
def barrelMoreSpec : ChangeSpec := { name := "barrelMore", fn := fun _ => fun
  | [d1, d2, d3, d4] => { results := [.lit (.bool true)], args := [d1, d2, d3, d4] }
  | _ => none }
def barrelMoreRow : OpenClaim := { program := "ytooddicegkiiiaa", sum := "17b0942b47cffd97284124ebac1a4bdf29599bfde56148d44316e41a3f017169", func := "fipple/fipplelaw07.BarrelMore", spec := "barrelMore", unfollowed := true, recurses := true, plainKeys := false, apart := false }
def BarrelMoreSaid : Prop := barrelMoreRow.holds Try.pinned (OpenSpec.ofChange barrelMoreSpec)

/-- ITS FALSE NEIGHBOUR: 'it returns false'. Refute it at one input. -/
def barrelMoreWrong : ChangeSpec := { name := "barrelMore", fn := fun _ => fun
  | [d1, d2, d3, d4] => { results := [.lit (.bool false)], args := [d1, d2, d3, d4] }
  | _ => none }
def BarrelMoreWrongFalsely : Prop := barrelMoreRow.holds Try.pinned (OpenSpec.ofChange barrelMoreWrong)

/-- 'fipplelaw07.BarrelKnown': WHATEVER THE INPUT: true; the input reads as it did. -/
def barrelKnownSpec : ChangeSpec := { name := "barrelKnown", fn := fun _ => fun
  | [] => { results := [.lit (.bool true)], args := [] }
  | _ => none }
def barrelKnownRow : OpenClaim := { program := "ytooddicegkiiiaa", sum := "17b0942b47cffd97284124ebac1a4bdf29599bfde56148d44316e41a3f017169", func := "fipple/fipplelaw07.BarrelKnown", spec := "barrelKnown", unfollowed := true, recurses := true, plainKeys := false, apart := false }
def BarrelKnownSaid : Prop := barrelKnownRow.holds Try.pinned (OpenSpec.ofChange barrelKnownSpec)

/-- ITS FALSE NEIGHBOUR: 'it returns false'. Refute it at one input. -/
def barrelKnownWrong : ChangeSpec := { name := "barrelKnown", fn := fun _ => fun
  | [] => { results := [.lit (.bool false)], args := [] }
  | _ => none }
def BarrelKnownWrongFalsely : Prop := barrelKnownRow.holds Try.pinned (OpenSpec.ofChange barrelKnownWrong)

/- THE SECOND FORM. 'bulk': how many values and letters a reading holds, each counted each time it is reached (what is shared counts as often as it is met; a slice's spare places count too). A statement '..UptoSaid' is the law's where the arguments, and the package variables that the reading takes, are together of bulk at most 1048576: NARROWER than '..Said'. Prove '..Said' where nothing that the law and all that it calls make is longer than what came in: it says more and counts as full. Else prove '..UptoSaid'. A law counts once. -/
mutual
def uptoBulk {H : Type} : DataW H → Nat
  | .lit (.string bytes) => bytes.length + 1
  | .lit _ => 1
  | .nil => 1
  | .ptr d => uptoBulk d + 1
  | .slice elems spare => uptoBulkAll elems + uptoBulkAll spare + 1
  | .agg parts => uptoBulkAll parts + 1
  | .iface _ d => uptoBulk d + 1
  | .map entries => uptoBulkEntries entries + 1
  | .held _ => 1
def uptoBulkAll {H : Type} : List (DataW H) → Nat
  | [] => 0
  | d :: r => uptoBulk d + uptoBulkAll r
def uptoBulkEntries {H : Type} : List (Lit × DataW H) → Nat
  | [] => 0
  | x :: r => uptoBulkEntry x + uptoBulkEntries r
def uptoBulkEntry {H : Type} : Lit × DataW H → Nat
  | (.string bytes, d) => bytes.length + uptoBulk d + 1
  | (_, d) => uptoBulk d + 1
 end
def uptoSmall : (H : Type) → List (DataW H) → Bool := fun _ ds => decide (uptoBulkAll ds ≤ 1048576)
def OpenSpec.upto (s : _root_.Go.ChangeSpec) : _root_.Go.OpenSpec := { _root_.Go.OpenSpec.ofChange s with cond := some uptoSmall }

/-- 'fipplelaw07.BarrelPins', WHERE WHAT IT READS IS OF BULK AT MOST 1048576: true; the input reads as it did. -/
def barrelPinsUptoRow : OpenClaim := { program := "ytooddicegkiiiaa", sum := "17b0942b47cffd97284124ebac1a4bdf29599bfde56148d44316e41a3f017169", func := "fipple/fipplelaw07.BarrelPins", spec := "barrelPins", unfollowed := true, recurses := true, plainKeys := false, apart := false, narrowed := true }
def BarrelPinsUptoSaid : Prop := barrelPinsUptoRow.holds Try.pinned (OpenSpec.upto barrelPinsSpec)

/-- 'fipplelaw07.BarrelFirsts', WHERE WHAT IT READS IS OF BULK AT MOST 1048576: true; the input reads as it did. -/
def barrelFirstsUptoRow : OpenClaim := { program := "ytooddicegkiiiaa", sum := "17b0942b47cffd97284124ebac1a4bdf29599bfde56148d44316e41a3f017169", func := "fipple/fipplelaw07.BarrelFirsts", spec := "barrelFirsts", unfollowed := true, recurses := true, plainKeys := false, apart := false, narrowed := true }
def BarrelFirstsUptoSaid : Prop := barrelFirstsUptoRow.holds Try.pinned (OpenSpec.upto barrelFirstsSpec)

/-- 'fipplelaw07.BarrelClashes', WHERE WHAT IT READS IS OF BULK AT MOST 1048576: true; the input reads as it did. -/
def barrelClashesUptoRow : OpenClaim := { program := "ytooddicegkiiiaa", sum := "17b0942b47cffd97284124ebac1a4bdf29599bfde56148d44316e41a3f017169", func := "fipple/fipplelaw07.BarrelClashes", spec := "barrelClashes", unfollowed := true, recurses := true, plainKeys := false, apart := false, narrowed := true }
def BarrelClashesUptoSaid : Prop := barrelClashesUptoRow.holds Try.pinned (OpenSpec.upto barrelClashesSpec)

/-- 'fipplelaw07.BarrelGroups', WHERE WHAT IT READS IS OF BULK AT MOST 1048576: true; the input reads as it did. -/
def barrelGroupsUptoRow : OpenClaim := { program := "ytooddicegkiiiaa", sum := "17b0942b47cffd97284124ebac1a4bdf29599bfde56148d44316e41a3f017169", func := "fipple/fipplelaw07.BarrelGroups", spec := "barrelGroups", unfollowed := true, recurses := true, plainKeys := false, apart := false, narrowed := true }
def BarrelGroupsUptoSaid : Prop := barrelGroupsUptoRow.holds Try.pinned (OpenSpec.upto barrelGroupsSpec)

/-- 'fipplelaw07.BarrelQuiets', WHERE WHAT IT READS IS OF BULK AT MOST 1048576: true; the input reads as it did. -/
def barrelQuietsUptoRow : OpenClaim := { program := "ytooddicegkiiiaa", sum := "17b0942b47cffd97284124ebac1a4bdf29599bfde56148d44316e41a3f017169", func := "fipple/fipplelaw07.BarrelQuiets", spec := "barrelQuiets", unfollowed := true, recurses := true, plainKeys := false, apart := false, narrowed := true }
def BarrelQuietsUptoSaid : Prop := barrelQuietsUptoRow.holds Try.pinned (OpenSpec.upto barrelQuietsSpec)

/-- 'fipplelaw07.BarrelEither', WHERE WHAT IT READS IS OF BULK AT MOST 1048576: true; the input reads as it did. -/
def barrelEitherUptoRow : OpenClaim := { program := "ytooddicegkiiiaa", sum := "17b0942b47cffd97284124ebac1a4bdf29599bfde56148d44316e41a3f017169", func := "fipple/fipplelaw07.BarrelEither", spec := "barrelEither", unfollowed := true, recurses := true, plainKeys := false, apart := false, narrowed := true }
def BarrelEitherUptoSaid : Prop := barrelEitherUptoRow.holds Try.pinned (OpenSpec.upto barrelEitherSpec)

/-- 'fipplelaw07.BarrelWhen', WHERE WHAT IT READS IS OF BULK AT MOST 1048576: true; the input reads as it did. -/
def barrelWhenUptoRow : OpenClaim := { program := "ytooddicegkiiiaa", sum := "17b0942b47cffd97284124ebac1a4bdf29599bfde56148d44316e41a3f017169", func := "fipple/fipplelaw07.BarrelWhen", spec := "barrelWhen", unfollowed := true, recurses := true, plainKeys := false, apart := false, narrowed := true }
def BarrelWhenUptoSaid : Prop := barrelWhenUptoRow.holds Try.pinned (OpenSpec.upto barrelWhenSpec)

/-- 'fipplelaw07.BarrelCounted', WHERE WHAT IT READS IS OF BULK AT MOST 1048576: true; the input reads as it did. -/
def barrelCountedUptoRow : OpenClaim := { program := "ytooddicegkiiiaa", sum := "17b0942b47cffd97284124ebac1a4bdf29599bfde56148d44316e41a3f017169", func := "fipple/fipplelaw07.BarrelCounted", spec := "barrelCounted", unfollowed := true, recurses := true, plainKeys := false, apart := false, narrowed := true }
def BarrelCountedUptoSaid : Prop := barrelCountedUptoRow.holds Try.pinned (OpenSpec.upto barrelCountedSpec)

/-- 'fipplelaw07.BarrelCovered', WHERE WHAT IT READS IS OF BULK AT MOST 1048576: true; the input reads as it did. -/
def barrelCoveredUptoRow : OpenClaim := { program := "ytooddicegkiiiaa", sum := "17b0942b47cffd97284124ebac1a4bdf29599bfde56148d44316e41a3f017169", func := "fipple/fipplelaw07.BarrelCovered", spec := "barrelCovered", unfollowed := true, recurses := true, plainKeys := false, apart := false, narrowed := true }
def BarrelCoveredUptoSaid : Prop := barrelCoveredUptoRow.holds Try.pinned (OpenSpec.upto barrelCoveredSpec)

/-- 'fipplelaw07.BarrelShifted', WHERE WHAT IT READS IS OF BULK AT MOST 1048576: true; the input reads as it did. -/
def barrelShiftedUptoRow : OpenClaim := { program := "ytooddicegkiiiaa", sum := "17b0942b47cffd97284124ebac1a4bdf29599bfde56148d44316e41a3f017169", func := "fipple/fipplelaw07.BarrelShifted", spec := "barrelShifted", unfollowed := true, recurses := true, plainKeys := false, apart := false, narrowed := true }
def BarrelShiftedUptoSaid : Prop := barrelShiftedUptoRow.holds Try.pinned (OpenSpec.upto barrelShiftedSpec)

/-- 'fipplelaw07.BarrelScaled', WHERE WHAT IT READS IS OF BULK AT MOST 1048576: true; the input reads as it did. -/
def barrelScaledUptoRow : OpenClaim := { program := "ytooddicegkiiiaa", sum := "17b0942b47cffd97284124ebac1a4bdf29599bfde56148d44316e41a3f017169", func := "fipple/fipplelaw07.BarrelScaled", spec := "barrelScaled", unfollowed := true, recurses := true, plainKeys := false, apart := false, narrowed := true }
def BarrelScaledUptoSaid : Prop := barrelScaledUptoRow.holds Try.pinned (OpenSpec.upto barrelScaledSpec)

/-- 'fipplelaw07.BarrelOffsets', WHERE WHAT IT READS IS OF BULK AT MOST 1048576: true; the input reads as it did. -/
def barrelOffsetsUptoRow : OpenClaim := { program := "ytooddicegkiiiaa", sum := "17b0942b47cffd97284124ebac1a4bdf29599bfde56148d44316e41a3f017169", func := "fipple/fipplelaw07.BarrelOffsets", spec := "barrelOffsets", unfollowed := true, recurses := true, plainKeys := false, apart := false, narrowed := true }
def BarrelOffsetsUptoSaid : Prop := barrelOffsetsUptoRow.holds Try.pinned (OpenSpec.upto barrelOffsetsSpec)

/-- 'fipplelaw07.BarrelGroup', WHERE WHAT IT READS IS OF BULK AT MOST 1048576: true; the input reads as it did. -/
def barrelGroupUptoRow : OpenClaim := { program := "ytooddicegkiiiaa", sum := "17b0942b47cffd97284124ebac1a4bdf29599bfde56148d44316e41a3f017169", func := "fipple/fipplelaw07.BarrelGroup", spec := "barrelGroup", unfollowed := true, recurses := true, plainKeys := false, apart := false, narrowed := true }
def BarrelGroupUptoSaid : Prop := barrelGroupUptoRow.holds Try.pinned (OpenSpec.upto barrelGroupSpec)

/-- 'fipplelaw07.BarrelMore', WHERE WHAT IT READS IS OF BULK AT MOST 1048576: true; the input reads as it did. -/
def barrelMoreUptoRow : OpenClaim := { program := "ytooddicegkiiiaa", sum := "17b0942b47cffd97284124ebac1a4bdf29599bfde56148d44316e41a3f017169", func := "fipple/fipplelaw07.BarrelMore", spec := "barrelMore", unfollowed := true, recurses := true, plainKeys := false, apart := false, narrowed := true }
def BarrelMoreUptoSaid : Prop := barrelMoreUptoRow.holds Try.pinned (OpenSpec.upto barrelMoreSpec)

/-- 'fipplelaw07.BarrelKnown', WHERE WHAT IT READS IS OF BULK AT MOST 1048576: true; the input reads as it did. -/
def barrelKnownUptoRow : OpenClaim := { program := "ytooddicegkiiiaa", sum := "17b0942b47cffd97284124ebac1a4bdf29599bfde56148d44316e41a3f017169", func := "fipple/fipplelaw07.BarrelKnown", spec := "barrelKnown", unfollowed := true, recurses := true, plainKeys := false, apart := false, narrowed := true }
def BarrelKnownUptoSaid : Prop := barrelKnownUptoRow.holds Try.pinned (OpenSpec.upto barrelKnownSpec)

end Rows
end Go.Proofs.Ytooddicegkiiiaa
