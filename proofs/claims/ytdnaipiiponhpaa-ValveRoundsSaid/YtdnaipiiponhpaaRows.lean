/-
  No cell of these rows narrows 'for every input' (looked for: loops, veiled, ifaces, maps, wideKeys, modest, calm, conditions, laid).
  DERIVED. THE GIVEN ROWS OF THIS SEAT. 13 by the template 'for every input the law returns true; each argument reads behind the call as it read before'; 0 by the template 'total and deterministic' (their statements: YtdnaipiiponhpaaTotals.lean).
  GIVEN WITH THE SEED: the statements are not yours to turn. If you find one false, say at which input.
  Laid BY PROGRAM, IN A SANDBOX (cutbox-rows.mjs): the forced cells as the released guide's own fill.sh prints them over the translation 2954d1dda3e91c9e… (all of the seat's roots in one cut). By AI agents, Wed Nov 11 2026. No macro, syntax, notation, axiom, sorry.
-/
import Derived.Test.YtdnaipiiponhpaaChecked
import GoSem.Claim
import GoSem.ClaimJoined
import GoSem.ClaimMapViews
import Derived.JoinedTies
import Derived.KernelRfl
namespace Go.Proofs.Ytdnaipiiponhpaa
/- THE CELL 'sum', in the pinned program and in every row, IS THE sha256 OF THE DUMP (.gsa) THAT YtdnaipiiponhpaaProg.lean LOADS. Nothing in Lean hashes anything: it is a label: what it is worth is what the hold of that sum in a sandbox is worth. -/
noncomputable def Try.pinned : Pinned := { name := "ytdnaipiiponhpaa", sum := "2954d1dda3e91c9e8580d574d4f1f497a2d9a06b02807003879e95b585a1eadb", checked := Try.checked }
namespace Rows
def none {H : Type} : Left H := { results := [], args := [] }

/-- 'fipplelaw11.ValveRows': WHATEVER THE INPUT: true; the input reads as it did. -/
def valveRowsSpec : ChangeSpec := { name := "valveRows", fn := fun _ => fun
  | [d1, d2] => { results := [.lit (.bool true)], args := [d1, d2] }
  | _ => none }
def valveRowsRow : OpenClaim := { program := "ytdnaipiiponhpaa", sum := "2954d1dda3e91c9e8580d574d4f1f497a2d9a06b02807003879e95b585a1eadb", func := "fipple/fipplelaw11.ValveRows", spec := "valveRows", unfollowed := true, recurses := true, plainKeys := false, apart := false }
def ValveRowsSaid : Prop := valveRowsRow.holds Try.pinned (OpenSpec.ofChange valveRowsSpec)

/-- ITS FALSE NEIGHBOUR: 'it returns false'. Refute it at one input. -/
def valveRowsWrong : ChangeSpec := { name := "valveRows", fn := fun _ => fun
  | [d1, d2] => { results := [.lit (.bool false)], args := [d1, d2] }
  | _ => none }
def ValveRowsWrongFalsely : Prop := valveRowsRow.holds Try.pinned (OpenSpec.ofChange valveRowsWrong)

/-- 'fipplelaw11.ValvePatterns': WHATEVER THE INPUT: true; the input reads as it did. -/
def valvePatternsSpec : ChangeSpec := { name := "valvePatterns", fn := fun _ => fun
  | [d1, d2] => { results := [.lit (.bool true)], args := [d1, d2] }
  | _ => none }
def valvePatternsRow : OpenClaim := { program := "ytdnaipiiponhpaa", sum := "2954d1dda3e91c9e8580d574d4f1f497a2d9a06b02807003879e95b585a1eadb", func := "fipple/fipplelaw11.ValvePatterns", spec := "valvePatterns", unfollowed := true, recurses := true, plainKeys := false, apart := false }
def ValvePatternsSaid : Prop := valvePatternsRow.holds Try.pinned (OpenSpec.ofChange valvePatternsSpec)

/-- ITS FALSE NEIGHBOUR: 'it returns false'. Refute it at one input. -/
def valvePatternsWrong : ChangeSpec := { name := "valvePatterns", fn := fun _ => fun
  | [d1, d2] => { results := [.lit (.bool false)], args := [d1, d2] }
  | _ => none }
def ValvePatternsWrongFalsely : Prop := valvePatternsRow.holds Try.pinned (OpenSpec.ofChange valvePatternsWrong)

/-- 'fipplelaw11.ValveNeedless': WHATEVER THE INPUT: true; the input reads as it did. -/
def valveNeedlessSpec : ChangeSpec := { name := "valveNeedless", fn := fun _ => fun
  | [d1, d2] => { results := [.lit (.bool true)], args := [d1, d2] }
  | _ => none }
def valveNeedlessRow : OpenClaim := { program := "ytdnaipiiponhpaa", sum := "2954d1dda3e91c9e8580d574d4f1f497a2d9a06b02807003879e95b585a1eadb", func := "fipple/fipplelaw11.ValveNeedless", spec := "valveNeedless", unfollowed := true, recurses := true, plainKeys := false, apart := false }
def ValveNeedlessSaid : Prop := valveNeedlessRow.holds Try.pinned (OpenSpec.ofChange valveNeedlessSpec)

/-- ITS FALSE NEIGHBOUR: 'it returns false'. Refute it at one input. -/
def valveNeedlessWrong : ChangeSpec := { name := "valveNeedless", fn := fun _ => fun
  | [d1, d2] => { results := [.lit (.bool false)], args := [d1, d2] }
  | _ => none }
def ValveNeedlessWrongFalsely : Prop := valveNeedlessRow.holds Try.pinned (OpenSpec.ofChange valveNeedlessWrong)

/-- 'fipplelaw11.ValveMakes': WHATEVER THE INPUT: true; the input reads as it did. -/
def valveMakesSpec : ChangeSpec := { name := "valveMakes", fn := fun _ => fun
  | [d] => { results := [.lit (.bool true)], args := [d] }
  | _ => none }
def valveMakesRow : OpenClaim := { program := "ytdnaipiiponhpaa", sum := "2954d1dda3e91c9e8580d574d4f1f497a2d9a06b02807003879e95b585a1eadb", func := "fipple/fipplelaw11.ValveMakes", spec := "valveMakes", unfollowed := true, recurses := true, plainKeys := false, apart := false }
def ValveMakesSaid : Prop := valveMakesRow.holds Try.pinned (OpenSpec.ofChange valveMakesSpec)

/-- ITS FALSE NEIGHBOUR: 'it returns false'. Refute it at one input. -/
def valveMakesWrong : ChangeSpec := { name := "valveMakes", fn := fun _ => fun
  | [d] => { results := [.lit (.bool false)], args := [d] }
  | _ => none }
def ValveMakesWrongFalsely : Prop := valveMakesRow.holds Try.pinned (OpenSpec.ofChange valveMakesWrong)

/-- 'fipplelaw11.ValveEither': WHATEVER THE INPUT: true; the input reads as it did. -/
def valveEitherSpec : ChangeSpec := { name := "valveEither", fn := fun _ => fun
  | [d1, d2, d3] => { results := [.lit (.bool true)], args := [d1, d2, d3] }
  | _ => none }
def valveEitherRow : OpenClaim := { program := "ytdnaipiiponhpaa", sum := "2954d1dda3e91c9e8580d574d4f1f497a2d9a06b02807003879e95b585a1eadb", func := "fipple/fipplelaw11.ValveEither", spec := "valveEither", unfollowed := true, recurses := true, plainKeys := false, apart := false }
def ValveEitherSaid : Prop := valveEitherRow.holds Try.pinned (OpenSpec.ofChange valveEitherSpec)

/-- ITS FALSE NEIGHBOUR: 'it returns false'. Refute it at one input. -/
def valveEitherWrong : ChangeSpec := { name := "valveEither", fn := fun _ => fun
  | [d1, d2, d3] => { results := [.lit (.bool false)], args := [d1, d2, d3] }
  | _ => none }
def ValveEitherWrongFalsely : Prop := valveEitherRow.holds Try.pinned (OpenSpec.ofChange valveEitherWrong)

/-- 'fipplelaw11.ValveKept': WHATEVER THE INPUT: true; the input reads as it did. -/
def valveKeptSpec : ChangeSpec := { name := "valveKept", fn := fun _ => fun
  | [d1, d2, d3, d4] => { results := [.lit (.bool true)], args := [d1, d2, d3, d4] }
  | _ => none }
def valveKeptRow : OpenClaim := { program := "ytdnaipiiponhpaa", sum := "2954d1dda3e91c9e8580d574d4f1f497a2d9a06b02807003879e95b585a1eadb", func := "fipple/fipplelaw11.ValveKept", spec := "valveKept", unfollowed := true, recurses := true, plainKeys := false, apart := false }
def ValveKeptSaid : Prop := valveKeptRow.holds Try.pinned (OpenSpec.ofChange valveKeptSpec)

/-- ITS FALSE NEIGHBOUR: 'it returns false'. Refute it at one input. -/
def valveKeptWrong : ChangeSpec := { name := "valveKept", fn := fun _ => fun
  | [d1, d2, d3, d4] => { results := [.lit (.bool false)], args := [d1, d2, d3, d4] }
  | _ => none }
def ValveKeptWrongFalsely : Prop := valveKeptRow.holds Try.pinned (OpenSpec.ofChange valveKeptWrong)

/-- 'fipplelaw11.ValveImages': WHATEVER THE INPUT: true; the input reads as it did. -/
def valveImagesSpec : ChangeSpec := { name := "valveImages", fn := fun _ => fun
  | [d1, d2, d3] => { results := [.lit (.bool true)], args := [d1, d2, d3] }
  | _ => none }
def valveImagesRow : OpenClaim := { program := "ytdnaipiiponhpaa", sum := "2954d1dda3e91c9e8580d574d4f1f497a2d9a06b02807003879e95b585a1eadb", func := "fipple/fipplelaw11.ValveImages", spec := "valveImages", unfollowed := true, recurses := true, plainKeys := false, apart := false }
def ValveImagesSaid : Prop := valveImagesRow.holds Try.pinned (OpenSpec.ofChange valveImagesSpec)

/-- ITS FALSE NEIGHBOUR: 'it returns false'. Refute it at one input. -/
def valveImagesWrong : ChangeSpec := { name := "valveImages", fn := fun _ => fun
  | [d1, d2, d3] => { results := [.lit (.bool false)], args := [d1, d2, d3] }
  | _ => none }
def ValveImagesWrongFalsely : Prop := valveImagesRow.holds Try.pinned (OpenSpec.ofChange valveImagesWrong)

/-- 'fipplelaw11.ValveCut': WHATEVER THE INPUT: true; the input reads as it did. -/
def valveCutSpec : ChangeSpec := { name := "valveCut", fn := fun _ => fun
  | [d1, d2] => { results := [.lit (.bool true)], args := [d1, d2] }
  | _ => none }
def valveCutRow : OpenClaim := { program := "ytdnaipiiponhpaa", sum := "2954d1dda3e91c9e8580d574d4f1f497a2d9a06b02807003879e95b585a1eadb", func := "fipple/fipplelaw11.ValveCut", spec := "valveCut", unfollowed := true, recurses := true, plainKeys := false, apart := false }
def ValveCutSaid : Prop := valveCutRow.holds Try.pinned (OpenSpec.ofChange valveCutSpec)

/-- ITS FALSE NEIGHBOUR: 'it returns false'. Refute it at one input. -/
def valveCutWrong : ChangeSpec := { name := "valveCut", fn := fun _ => fun
  | [d1, d2] => { results := [.lit (.bool false)], args := [d1, d2] }
  | _ => none }
def ValveCutWrongFalsely : Prop := valveCutRow.holds Try.pinned (OpenSpec.ofChange valveCutWrong)

/-- 'fipplelaw11.ValveRounds': WHATEVER THE INPUT: true; the input reads as it did. -/
def valveRoundsSpec : ChangeSpec := { name := "valveRounds", fn := fun _ => fun
  | [d1, d2] => { results := [.lit (.bool true)], args := [d1, d2] }
  | _ => none }
def valveRoundsRow : OpenClaim := { program := "ytdnaipiiponhpaa", sum := "2954d1dda3e91c9e8580d574d4f1f497a2d9a06b02807003879e95b585a1eadb", func := "fipple/fipplelaw11.ValveRounds", spec := "valveRounds", unfollowed := true, recurses := true, plainKeys := false, apart := false }
def ValveRoundsSaid : Prop := valveRoundsRow.holds Try.pinned (OpenSpec.ofChange valveRoundsSpec)

/-- ITS FALSE NEIGHBOUR: 'it returns false'. Refute it at one input. -/
def valveRoundsWrong : ChangeSpec := { name := "valveRounds", fn := fun _ => fun
  | [d1, d2] => { results := [.lit (.bool false)], args := [d1, d2] }
  | _ => none }
def ValveRoundsWrongFalsely : Prop := valveRoundsRow.holds Try.pinned (OpenSpec.ofChange valveRoundsWrong)

/-- 'fipplelaw11.ValveMade': WHATEVER THE INPUT: true; the input reads as it did. -/
def valveMadeSpec : ChangeSpec := { name := "valveMade", fn := fun _ => fun
  | [d1, d2] => { results := [.lit (.bool true)], args := [d1, d2] }
  | _ => none }
def valveMadeRow : OpenClaim := { program := "ytdnaipiiponhpaa", sum := "2954d1dda3e91c9e8580d574d4f1f497a2d9a06b02807003879e95b585a1eadb", func := "fipple/fipplelaw11.ValveMade", spec := "valveMade", unfollowed := true, recurses := true, plainKeys := false, apart := false }
def ValveMadeSaid : Prop := valveMadeRow.holds Try.pinned (OpenSpec.ofChange valveMadeSpec)

/-- ITS FALSE NEIGHBOUR: 'it returns false'. Refute it at one input. -/
def valveMadeWrong : ChangeSpec := { name := "valveMade", fn := fun _ => fun
  | [d1, d2] => { results := [.lit (.bool false)], args := [d1, d2] }
  | _ => none }
def ValveMadeWrongFalsely : Prop := valveMadeRow.holds Try.pinned (OpenSpec.ofChange valveMadeWrong)

/-- 'fipplelaw11.ValveMirrored': WHATEVER THE INPUT: true; the input reads as it did. -/
def valveMirroredSpec : ChangeSpec := { name := "valveMirrored", fn := fun _ => fun
  | [d1, d2] => { results := [.lit (.bool true)], args := [d1, d2] }
  | _ => none }
def valveMirroredRow : OpenClaim := { program := "ytdnaipiiponhpaa", sum := "2954d1dda3e91c9e8580d574d4f1f497a2d9a06b02807003879e95b585a1eadb", func := "fipple/fipplelaw11.ValveMirrored", spec := "valveMirrored", unfollowed := true, recurses := true, plainKeys := false, apart := false }
def ValveMirroredSaid : Prop := valveMirroredRow.holds Try.pinned (OpenSpec.ofChange valveMirroredSpec)

/-- ITS FALSE NEIGHBOUR: 'it returns false'. Refute it at one input. -/
def valveMirroredWrong : ChangeSpec := { name := "valveMirrored", fn := fun _ => fun
  | [d1, d2] => { results := [.lit (.bool false)], args := [d1, d2] }
  | _ => none }
def ValveMirroredWrongFalsely : Prop := valveMirroredRow.holds Try.pinned (OpenSpec.ofChange valveMirroredWrong)

/-- 'fipplelaw11.ValveEnds': WHATEVER THE INPUT: true; the input reads as it did. -/
def valveEndsSpec : ChangeSpec := { name := "valveEnds", fn := fun _ => fun
  | [d1, d2, d3] => { results := [.lit (.bool true)], args := [d1, d2, d3] }
  | _ => none }
def valveEndsRow : OpenClaim := { program := "ytdnaipiiponhpaa", sum := "2954d1dda3e91c9e8580d574d4f1f497a2d9a06b02807003879e95b585a1eadb", func := "fipple/fipplelaw11.ValveEnds", spec := "valveEnds", unfollowed := true, recurses := true, plainKeys := false, apart := false }
def ValveEndsSaid : Prop := valveEndsRow.holds Try.pinned (OpenSpec.ofChange valveEndsSpec)

/-- ITS FALSE NEIGHBOUR: 'it returns false'. Refute it at one input. -/
def valveEndsWrong : ChangeSpec := { name := "valveEnds", fn := fun _ => fun
  | [d1, d2, d3] => { results := [.lit (.bool false)], args := [d1, d2, d3] }
  | _ => none }
def ValveEndsWrongFalsely : Prop := valveEndsRow.holds Try.pinned (OpenSpec.ofChange valveEndsWrong)

/-- 'fipplelaw11.ValveKnown': WHATEVER THE INPUT: true; the input reads as it did. -/
def valveKnownSpec : ChangeSpec := { name := "valveKnown", fn := fun _ => fun
  | [] => { results := [.lit (.bool true)], args := [] }
  | _ => none }
def valveKnownRow : OpenClaim := { program := "ytdnaipiiponhpaa", sum := "2954d1dda3e91c9e8580d574d4f1f497a2d9a06b02807003879e95b585a1eadb", func := "fipple/fipplelaw11.ValveKnown", spec := "valveKnown", unfollowed := true, recurses := true, plainKeys := false, apart := false }
def ValveKnownSaid : Prop := valveKnownRow.holds Try.pinned (OpenSpec.ofChange valveKnownSpec)

/-- ITS FALSE NEIGHBOUR: 'it returns false'. Refute it at one input. -/
def valveKnownWrong : ChangeSpec := { name := "valveKnown", fn := fun _ => fun
  | [] => { results := [.lit (.bool false)], args := [] }
  | _ => none }
def ValveKnownWrongFalsely : Prop := valveKnownRow.holds Try.pinned (OpenSpec.ofChange valveKnownWrong)

/- THE SECOND FORM. 'bulk': how many values and letters a reading holds, each counted each time it is reached (what is shared counts as often as it is met; a slice's spare places count too). A statement '..UptoSaid' is the law's where the arguments, and the package variables that the reading takes, are together of bulk at most 1048576: NARROWER than '..Said'. Prove '..Said' where nothing that the law and all that it calls make is longer than what came in: it says more and counts as full. Else prove '..UptoSaid'. A law counts once. -/
mutual
def uptoBulk {H : Type} : DataW H → Nat
  | .lit (.string bytes) => bytes.length + 1
  | .lit _ => 1
  | .nil => 1
  | .ptr d => uptoBulk d + 1
  | .slice elems spare => uptoBulkAll elems + uptoBulkAll spare + 1
  | .agg parts => uptoBulkAll parts + 1
  | .iface _ d => uptoBulk d + 1
  | .map entries => uptoBulkEntries entries + 1
  | .held _ => 1
def uptoBulkAll {H : Type} : List (DataW H) → Nat
  | [] => 0
  | d :: r => uptoBulk d + uptoBulkAll r
def uptoBulkEntries {H : Type} : List (Lit × DataW H) → Nat
  | [] => 0
  | x :: r => uptoBulkEntry x + uptoBulkEntries r
def uptoBulkEntry {H : Type} : Lit × DataW H → Nat
  | (.string bytes, d) => bytes.length + uptoBulk d + 1
  | (_, d) => uptoBulk d + 1
 end
def uptoSmall : (H : Type) → List (DataW H) → Bool := fun _ ds => decide (uptoBulkAll ds ≤ 1048576)
def OpenSpec.upto (s : _root_.Go.ChangeSpec) : _root_.Go.OpenSpec := { _root_.Go.OpenSpec.ofChange s with cond := some uptoSmall }

/-- 'fipplelaw11.ValveRows', WHERE WHAT IT READS IS OF BULK AT MOST 1048576: true; the input reads as it did. -/
def valveRowsUptoRow : OpenClaim := { program := "ytdnaipiiponhpaa", sum := "2954d1dda3e91c9e8580d574d4f1f497a2d9a06b02807003879e95b585a1eadb", func := "fipple/fipplelaw11.ValveRows", spec := "valveRows", unfollowed := true, recurses := true, plainKeys := false, apart := false, narrowed := true }
def ValveRowsUptoSaid : Prop := valveRowsUptoRow.holds Try.pinned (OpenSpec.upto valveRowsSpec)

/-- 'fipplelaw11.ValvePatterns', WHERE WHAT IT READS IS OF BULK AT MOST 1048576: true; the input reads as it did. -/
def valvePatternsUptoRow : OpenClaim := { program := "ytdnaipiiponhpaa", sum := "2954d1dda3e91c9e8580d574d4f1f497a2d9a06b02807003879e95b585a1eadb", func := "fipple/fipplelaw11.ValvePatterns", spec := "valvePatterns", unfollowed := true, recurses := true, plainKeys := false, apart := false, narrowed := true }
def ValvePatternsUptoSaid : Prop := valvePatternsUptoRow.holds Try.pinned (OpenSpec.upto valvePatternsSpec)

/-- 'fipplelaw11.ValveNeedless', WHERE WHAT IT READS IS OF BULK AT MOST 1048576: true; the input reads as it did. -/
def valveNeedlessUptoRow : OpenClaim := { program := "ytdnaipiiponhpaa", sum := "2954d1dda3e91c9e8580d574d4f1f497a2d9a06b02807003879e95b585a1eadb", func := "fipple/fipplelaw11.ValveNeedless", spec := "valveNeedless", unfollowed := true, recurses := true, plainKeys := false, apart := false, narrowed := true }
def ValveNeedlessUptoSaid : Prop := valveNeedlessUptoRow.holds Try.pinned (OpenSpec.upto valveNeedlessSpec)

/-- 'fipplelaw11.ValveMakes', WHERE WHAT IT READS IS OF BULK AT MOST 1048576: true; the input reads as it did. -/
def valveMakesUptoRow : OpenClaim := { program := "ytdnaipiiponhpaa", sum := "2954d1dda3e91c9e8580d574d4f1f497a2d9a06b02807003879e95b585a1eadb", func := "fipple/fipplelaw11.ValveMakes", spec := "valveMakes", unfollowed := true, recurses := true, plainKeys := false, apart := false, narrowed := true }
def ValveMakesUptoSaid : Prop := valveMakesUptoRow.holds Try.pinned (OpenSpec.upto valveMakesSpec)

/-- 'fipplelaw11.ValveEither', WHERE WHAT IT READS IS OF BULK AT MOST 1048576: true; the input reads as it did. -/
def valveEitherUptoRow : OpenClaim := { program := "ytdnaipiiponhpaa", sum := "2954d1dda3e91c9e8580d574d4f1f497a2d9a06b02807003879e95b585a1eadb", func := "fipple/fipplelaw11.ValveEither", spec := "valveEither", unfollowed := true, recurses := true, plainKeys := false, apart := false, narrowed := true }
def ValveEitherUptoSaid : Prop := valveEitherUptoRow.holds Try.pinned (OpenSpec.upto valveEitherSpec)

/-- 'fipplelaw11.ValveKept', WHERE WHAT IT READS IS OF BULK AT MOST 1048576: true; the input reads as it did. -/
def valveKeptUptoRow : OpenClaim := { program := "ytdnaipiiponhpaa", sum := "2954d1dda3e91c9e8580d574d4f1f497a2d9a06b02807003879e95b585a1eadb", func := "fipple/fipplelaw11.ValveKept", spec := "valveKept", unfollowed := true, recurses := true, plainKeys := false, apart := false, narrowed := true }
def ValveKeptUptoSaid : Prop := valveKeptUptoRow.holds Try.pinned (OpenSpec.upto valveKeptSpec)

/-- 'fipplelaw11.ValveImages', WHERE WHAT IT READS IS OF BULK AT MOST 1048576: true; the input reads as it did. -/
def valveImagesUptoRow : OpenClaim := { program := "ytdnaipiiponhpaa", sum := "2954d1dda3e91c9e8580d574d4f1f497a2d9a06b02807003879e95b585a1eadb", func := "fipple/fipplelaw11.ValveImages", spec := "valveImages", unfollowed := true, recurses := true, plainKeys := false, apart := false, narrowed := true }
def ValveImagesUptoSaid : Prop := valveImagesUptoRow.holds Try.pinned (OpenSpec.upto valveImagesSpec)

/-- 'fipplelaw11.ValveCut', WHERE WHAT IT READS IS OF BULK AT MOST 1048576: true; the input reads as it did. -/
def valveCutUptoRow : OpenClaim := { program := "ytdnaipiiponhpaa", sum := "2954d1dda3e91c9e8580d574d4f1f497a2d9a06b02807003879e95b585a1eadb", func := "fipple/fipplelaw11.ValveCut", spec := "valveCut", unfollowed := true, recurses := true, plainKeys := false, apart := false, narrowed := true }
def ValveCutUptoSaid : Prop := valveCutUptoRow.holds Try.pinned (OpenSpec.upto valveCutSpec)

/-- 'fipplelaw11.ValveRounds', WHERE WHAT IT READS IS OF BULK AT MOST 1048576: true; the input reads as it did. -/
def valveRoundsUptoRow : OpenClaim := { program := "ytdnaipiiponhpaa", sum := "2954d1dda3e91c9e8580d574d4f1f497a2d9a06b02807003879e95b585a1eadb", func := "fipple/fipplelaw11.ValveRounds", spec := "valveRounds", unfollowed := true, recurses := true, plainKeys := false, apart := false, narrowed := true }
def ValveRoundsUptoSaid : Prop := valveRoundsUptoRow.holds Try.pinned (OpenSpec.upto valveRoundsSpec)

/-- 'fipplelaw11.ValveMade', WHERE WHAT IT READS IS OF BULK AT MOST 1048576: true; the input reads as it did. -/
def valveMadeUptoRow : OpenClaim := { program := "ytdnaipiiponhpaa", sum := "2954d1dda3e91c9e8580d574d4f1f497a2d9a06b02807003879e95b585a1eadb", func := "fipple/fipplelaw11.ValveMade", spec := "valveMade", unfollowed := true, recurses := true, plainKeys := false, apart := false, narrowed := true }
def ValveMadeUptoSaid : Prop := valveMadeUptoRow.holds Try.pinned (OpenSpec.upto valveMadeSpec)

/-- 'fipplelaw11.ValveMirrored', WHERE WHAT IT READS IS OF BULK AT MOST 1048576: true; the input reads as it did. -/
def valveMirroredUptoRow : OpenClaim := { program := "ytdnaipiiponhpaa", sum := "2954d1dda3e91c9e8580d574d4f1f497a2d9a06b02807003879e95b585a1eadb", func := "fipple/fipplelaw11.ValveMirrored", spec := "valveMirrored", unfollowed := true, recurses := true, plainKeys := false, apart := false, narrowed := true }
def ValveMirroredUptoSaid : Prop := valveMirroredUptoRow.holds Try.pinned (OpenSpec.upto valveMirroredSpec)

/-- 'fipplelaw11.ValveEnds', WHERE WHAT IT READS IS OF BULK AT MOST 1048576: true; the input reads as it did. -/
def valveEndsUptoRow : OpenClaim := { program := "ytdnaipiiponhpaa", sum := "2954d1dda3e91c9e8580d574d4f1f497a2d9a06b02807003879e95b585a1eadb", func := "fipple/fipplelaw11.ValveEnds", spec := "valveEnds", unfollowed := true, recurses := true, plainKeys := false, apart := false, narrowed := true }
def ValveEndsUptoSaid : Prop := valveEndsUptoRow.holds Try.pinned (OpenSpec.upto valveEndsSpec)

/-- 'fipplelaw11.ValveKnown', WHERE WHAT IT READS IS OF BULK AT MOST 1048576: true; the input reads as it did. -/
def valveKnownUptoRow : OpenClaim := { program := "ytdnaipiiponhpaa", sum := "2954d1dda3e91c9e8580d574d4f1f497a2d9a06b02807003879e95b585a1eadb", func := "fipple/fipplelaw11.ValveKnown", spec := "valveKnown", unfollowed := true, recurses := true, plainKeys := false, apart := false, narrowed := true }
def ValveKnownUptoSaid : Prop := valveKnownUptoRow.holds Try.pinned (OpenSpec.upto valveKnownSpec)

end Rows
end Go.Proofs.Ytdnaipiiponhpaa
