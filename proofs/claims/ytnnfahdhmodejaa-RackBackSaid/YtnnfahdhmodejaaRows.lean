/-
  No cell of these rows narrows 'for every input' (looked for: loops, veiled, ifaces, maps, wideKeys, modest, calm, conditions, laid).
  DERIVED. THE GIVEN ROWS OF THIS SEAT. 13 by the template 'for every input the law returns true; each argument reads behind the call as it read before'; 0 by the template 'total and deterministic' (their statements: YtnnfahdhmodejaaTotals.lean).
  GIVEN WITH THE SEED: the statements are not yours to turn. If you find one false, say at which input.
  Laid BY PROGRAM, IN A SANDBOX (cutbox-rows.mjs): the forced cells as the released guide's own fill.sh prints them over the translation 598e0e363570b838… (all of the seat's roots in one cut). By AI agents, Wed Nov 11 2026. No macro, syntax, notation, axiom, sorry.
-/
import Derived.Test.YtnnfahdhmodejaaChecked
import GoSem.Claim
import GoSem.ClaimJoined
import GoSem.ClaimMapViews
import Derived.JoinedTies
import Derived.KernelRfl
namespace Go.Proofs.Ytnnfahdhmodejaa
/- THE CELL 'sum', in the pinned program and in every row, IS THE sha256 OF THE DUMP (.gsa) THAT YtnnfahdhmodejaaProg.lean LOADS. Nothing in Lean hashes anything: it is a label: what it is worth is what the hold of that sum in a sandbox is worth. -/
noncomputable def Try.pinned : Pinned := { name := "ytnnfahdhmodejaa", sum := "598e0e363570b838b88c9e8c2b98095ac06c2d8f423867453536413c5629c3bc", checked := Try.checked }
namespace Rows
def none {H : Type} : Left H := { results := [], args := [] }

/-- 'fipplelaw08.RackRows': WHATEVER THE INPUT: true; the input reads as it did. -/
def rackRowsSpec : ChangeSpec := { name := "rackRows", fn := fun _ => fun
  | [d] => { results := [.lit (.bool true)], args := [d] }
  | _ => none }
def rackRowsRow : OpenClaim := { program := "ytnnfahdhmodejaa", sum := "598e0e363570b838b88c9e8c2b98095ac06c2d8f423867453536413c5629c3bc", func := "fipple/fipplelaw08.RackRows", spec := "rackRows", unfollowed := true, recurses := true, plainKeys := false, apart := false }
def RackRowsSaid : Prop := rackRowsRow.holds Try.pinned (OpenSpec.ofChange rackRowsSpec)

/-- ITS FALSE NEIGHBOUR: 'it returns false'. Refute it at one input. -/
def rackRowsWrong : ChangeSpec := { name := "rackRows", fn := fun _ => fun
  | [d] => { results := [.lit (.bool false)], args := [d] }
  | _ => none }
def RackRowsWrongFalsely : Prop := rackRowsRow.holds Try.pinned (OpenSpec.ofChange rackRowsWrong)

/-- 'fipplelaw08.RackPuts': WHATEVER THE INPUT: true; the input reads as it did. -/
def rackPutsSpec : ChangeSpec := { name := "rackPuts", fn := fun _ => fun
  | [d1, d2, d3] => { results := [.lit (.bool true)], args := [d1, d2, d3] }
  | _ => none }
def rackPutsRow : OpenClaim := { program := "ytnnfahdhmodejaa", sum := "598e0e363570b838b88c9e8c2b98095ac06c2d8f423867453536413c5629c3bc", func := "fipple/fipplelaw08.RackPuts", spec := "rackPuts", unfollowed := true, recurses := true, plainKeys := false, apart := false }
def RackPutsSaid : Prop := rackPutsRow.holds Try.pinned (OpenSpec.ofChange rackPutsSpec)

/-- ITS FALSE NEIGHBOUR: 'it returns false'. Refute it at one input. -/
def rackPutsWrong : ChangeSpec := { name := "rackPuts", fn := fun _ => fun
  | [d1, d2, d3] => { results := [.lit (.bool false)], args := [d1, d2, d3] }
  | _ => none }
def RackPutsWrongFalsely : Prop := rackPutsRow.holds Try.pinned (OpenSpec.ofChange rackPutsWrong)

/-- 'fipplelaw08.RackBuilds': WHATEVER THE INPUT: true; the input reads as it did. -/
def rackBuildsSpec : ChangeSpec := { name := "rackBuilds", fn := fun _ => fun
  | [d1, d2, d3] => { results := [.lit (.bool true)], args := [d1, d2, d3] }
  | _ => none }
def rackBuildsRow : OpenClaim := { program := "ytnnfahdhmodejaa", sum := "598e0e363570b838b88c9e8c2b98095ac06c2d8f423867453536413c5629c3bc", func := "fipple/fipplelaw08.RackBuilds", spec := "rackBuilds", unfollowed := true, recurses := true, plainKeys := false, apart := false }
def RackBuildsSaid : Prop := rackBuildsRow.holds Try.pinned (OpenSpec.ofChange rackBuildsSpec)

/-- ITS FALSE NEIGHBOUR: 'it returns false'. Refute it at one input. -/
def rackBuildsWrong : ChangeSpec := { name := "rackBuilds", fn := fun _ => fun
  | [d1, d2, d3] => { results := [.lit (.bool false)], args := [d1, d2, d3] }
  | _ => none }
def RackBuildsWrongFalsely : Prop := rackBuildsRow.holds Try.pinned (OpenSpec.ofChange rackBuildsWrong)

/-- 'fipplelaw08.RackHooks': WHATEVER THE INPUT: true; the input reads as it did. -/
def rackHooksSpec : ChangeSpec := { name := "rackHooks", fn := fun _ => fun
  | [d] => { results := [.lit (.bool true)], args := [d] }
  | _ => none }
def rackHooksRow : OpenClaim := { program := "ytnnfahdhmodejaa", sum := "598e0e363570b838b88c9e8c2b98095ac06c2d8f423867453536413c5629c3bc", func := "fipple/fipplelaw08.RackHooks", spec := "rackHooks", unfollowed := true, recurses := true, plainKeys := false, apart := false }
def RackHooksSaid : Prop := rackHooksRow.holds Try.pinned (OpenSpec.ofChange rackHooksSpec)

/-- ITS FALSE NEIGHBOUR: 'it returns false'. Refute it at one input. -/
def rackHooksWrong : ChangeSpec := { name := "rackHooks", fn := fun _ => fun
  | [d] => { results := [.lit (.bool false)], args := [d] }
  | _ => none }
def RackHooksWrongFalsely : Prop := rackHooksRow.holds Try.pinned (OpenSpec.ofChange rackHooksWrong)

/-- 'fipplelaw08.RackBack': WHATEVER THE INPUT: true; the input reads as it did. -/
def rackBackSpec : ChangeSpec := { name := "rackBack", fn := fun _ => fun
  | [d1, d2] => { results := [.lit (.bool true)], args := [d1, d2] }
  | _ => none }
def rackBackRow : OpenClaim := { program := "ytnnfahdhmodejaa", sum := "598e0e363570b838b88c9e8c2b98095ac06c2d8f423867453536413c5629c3bc", func := "fipple/fipplelaw08.RackBack", spec := "rackBack", unfollowed := true, recurses := true, plainKeys := false, apart := false }
def RackBackSaid : Prop := rackBackRow.holds Try.pinned (OpenSpec.ofChange rackBackSpec)

/-- ITS FALSE NEIGHBOUR: 'it returns false'. Refute it at one input. -/
def rackBackWrong : ChangeSpec := { name := "rackBack", fn := fun _ => fun
  | [d1, d2] => { results := [.lit (.bool false)], args := [d1, d2] }
  | _ => none }
def RackBackWrongFalsely : Prop := rackBackRow.holds Try.pinned (OpenSpec.ofChange rackBackWrong)

/-- 'fipplelaw08.RackUndone': WHATEVER THE INPUT: true; the input reads as it did. -/
def rackUndoneSpec : ChangeSpec := { name := "rackUndone", fn := fun _ => fun
  | [d1, d2, d3] => { results := [.lit (.bool true)], args := [d1, d2, d3] }
  | _ => none }
def rackUndoneRow : OpenClaim := { program := "ytnnfahdhmodejaa", sum := "598e0e363570b838b88c9e8c2b98095ac06c2d8f423867453536413c5629c3bc", func := "fipple/fipplelaw08.RackUndone", spec := "rackUndone", unfollowed := true, recurses := true, plainKeys := false, apart := false }
def RackUndoneSaid : Prop := rackUndoneRow.holds Try.pinned (OpenSpec.ofChange rackUndoneSpec)

/-- ITS FALSE NEIGHBOUR: 'it returns false'. Refute it at one input. -/
def rackUndoneWrong : ChangeSpec := { name := "rackUndone", fn := fun _ => fun
  | [d1, d2, d3] => { results := [.lit (.bool false)], args := [d1, d2, d3] }
  | _ => none }
def RackUndoneWrongFalsely : Prop := rackUndoneRow.holds Try.pinned (OpenSpec.ofChange rackUndoneWrong)

/-- 'fipplelaw08.RackLongest': WHATEVER THE INPUT: true; the input reads as it did. -/
def rackLongestSpec : ChangeSpec := { name := "rackLongest", fn := fun _ => fun
  | [d1, d2, d3] => { results := [.lit (.bool true)], args := [d1, d2, d3] }
  | _ => none }
def rackLongestRow : OpenClaim := { program := "ytnnfahdhmodejaa", sum := "598e0e363570b838b88c9e8c2b98095ac06c2d8f423867453536413c5629c3bc", func := "fipple/fipplelaw08.RackLongest", spec := "rackLongest", unfollowed := true, recurses := true, plainKeys := false, apart := false }
def RackLongestSaid : Prop := rackLongestRow.holds Try.pinned (OpenSpec.ofChange rackLongestSpec)

/-- ITS FALSE NEIGHBOUR: 'it returns false'. Refute it at one input. -/
def rackLongestWrong : ChangeSpec := { name := "rackLongest", fn := fun _ => fun
  | [d1, d2, d3] => { results := [.lit (.bool false)], args := [d1, d2, d3] }
  | _ => none }
def RackLongestWrongFalsely : Prop := rackLongestRow.holds Try.pinned (OpenSpec.ofChange rackLongestWrong)

/-- 'fipplelaw08.RackTwo': WHATEVER THE INPUT: true; the input reads as it did. -/
def rackTwoSpec : ChangeSpec := { name := "rackTwo", fn := fun _ => fun
  | [d1, d2] => { results := [.lit (.bool true)], args := [d1, d2] }
  | _ => none }
def rackTwoRow : OpenClaim := { program := "ytnnfahdhmodejaa", sum := "598e0e363570b838b88c9e8c2b98095ac06c2d8f423867453536413c5629c3bc", func := "fipple/fipplelaw08.RackTwo", spec := "rackTwo", unfollowed := true, recurses := true, plainKeys := false, apart := false }
def RackTwoSaid : Prop := rackTwoRow.holds Try.pinned (OpenSpec.ofChange rackTwoSpec)

/-- ITS FALSE NEIGHBOUR: 'it returns false'. Refute it at one input. -/
def rackTwoWrong : ChangeSpec := { name := "rackTwo", fn := fun _ => fun
  | [d1, d2] => { results := [.lit (.bool false)], args := [d1, d2] }
  | _ => none }
def RackTwoWrongFalsely : Prop := rackTwoRow.holds Try.pinned (OpenSpec.ofChange rackTwoWrong)

/-- 'fipplelaw08.RackTurned': WHATEVER THE INPUT: true; the input reads as it did. -/
def rackTurnedSpec : ChangeSpec := { name := "rackTurned", fn := fun _ => fun
  | [d1, d2] => { results := [.lit (.bool true)], args := [d1, d2] }
  | _ => none }
def rackTurnedRow : OpenClaim := { program := "ytnnfahdhmodejaa", sum := "598e0e363570b838b88c9e8c2b98095ac06c2d8f423867453536413c5629c3bc", func := "fipple/fipplelaw08.RackTurned", spec := "rackTurned", unfollowed := true, recurses := true, plainKeys := false, apart := false }
def RackTurnedSaid : Prop := rackTurnedRow.holds Try.pinned (OpenSpec.ofChange rackTurnedSpec)

/-- ITS FALSE NEIGHBOUR: 'it returns false'. Refute it at one input. -/
def rackTurnedWrong : ChangeSpec := { name := "rackTurned", fn := fun _ => fun
  | [d1, d2] => { results := [.lit (.bool false)], args := [d1, d2] }
  | _ => none }
def RackTurnedWrongFalsely : Prop := rackTurnedRow.holds Try.pinned (OpenSpec.ofChange rackTurnedWrong)

/-- 'fipplelaw08.RackExchanged': WHATEVER THE INPUT: true; the input reads as it did. -/
def rackExchangedSpec : ChangeSpec := { name := "rackExchanged", fn := fun _ => fun
  | [d1, d2] => { results := [.lit (.bool true)], args := [d1, d2] }
  | _ => none }
def rackExchangedRow : OpenClaim := { program := "ytnnfahdhmodejaa", sum := "598e0e363570b838b88c9e8c2b98095ac06c2d8f423867453536413c5629c3bc", func := "fipple/fipplelaw08.RackExchanged", spec := "rackExchanged", unfollowed := true, recurses := true, plainKeys := false, apart := false }
def RackExchangedSaid : Prop := rackExchangedRow.holds Try.pinned (OpenSpec.ofChange rackExchangedSpec)

/-- ITS FALSE NEIGHBOUR: 'it returns false'. Refute it at one input. -/
def rackExchangedWrong : ChangeSpec := { name := "rackExchanged", fn := fun _ => fun
  | [d1, d2] => { results := [.lit (.bool false)], args := [d1, d2] }
  | _ => none }
def RackExchangedWrongFalsely : Prop := rackExchangedRow.holds Try.pinned (OpenSpec.ofChange rackExchangedWrong)

/-- 'fipplelaw08.RackCounted': WHATEVER THE INPUT: true; the input reads as it did. -/
def rackCountedSpec : ChangeSpec := { name := "rackCounted", fn := fun _ => fun
  | [d] => { results := [.lit (.bool true)], args := [d] }
  | _ => none }
def rackCountedRow : OpenClaim := { program := "ytnnfahdhmodejaa", sum := "598e0e363570b838b88c9e8c2b98095ac06c2d8f423867453536413c5629c3bc", func := "fipple/fipplelaw08.RackCounted", spec := "rackCounted", unfollowed := true, recurses := true, plainKeys := false, apart := false }
def RackCountedSaid : Prop := rackCountedRow.holds Try.pinned (OpenSpec.ofChange rackCountedSpec)

/-- ITS FALSE NEIGHBOUR: 'it returns false'. Refute it at one input. -/
def rackCountedWrong : ChangeSpec := { name := "rackCounted", fn := fun _ => fun
  | [d] => { results := [.lit (.bool false)], args := [d] }
  | _ => none }
def RackCountedWrongFalsely : Prop := rackCountedRow.holds Try.pinned (OpenSpec.ofChange rackCountedWrong)

/-- 'fipplelaw08.RackPairs': WHATEVER THE INPUT: true; the input reads as it did. -/
def rackPairsSpec : ChangeSpec := { name := "rackPairs", fn := fun _ => fun
  | [d] => { results := [.lit (.bool true)], args := [d] }
  | _ => none }
def rackPairsRow : OpenClaim := { program := "ytnnfahdhmodejaa", sum := "598e0e363570b838b88c9e8c2b98095ac06c2d8f423867453536413c5629c3bc", func := "fipple/fipplelaw08.RackPairs", spec := "rackPairs", unfollowed := true, recurses := true, plainKeys := false, apart := false }
def RackPairsSaid : Prop := rackPairsRow.holds Try.pinned (OpenSpec.ofChange rackPairsSpec)

/-- ITS FALSE NEIGHBOUR: 'it returns false'. Refute it at one input. -/
def rackPairsWrong : ChangeSpec := { name := "rackPairs", fn := fun _ => fun
  | [d] => { results := [.lit (.bool false)], args := [d] }
  | _ => none }
def RackPairsWrongFalsely : Prop := rackPairsRow.holds Try.pinned (OpenSpec.ofChange rackPairsWrong)

/-- 'fipplelaw08.RackKnown': WHATEVER THE INPUT: true; the input reads as it did. -/
def rackKnownSpec : ChangeSpec := { name := "rackKnown", fn := fun _ => fun
  | [] => { results := [.lit (.bool true)], args := [] }
  | _ => none }
def rackKnownRow : OpenClaim := { program := "ytnnfahdhmodejaa", sum := "598e0e363570b838b88c9e8c2b98095ac06c2d8f423867453536413c5629c3bc", func := "fipple/fipplelaw08.RackKnown", spec := "rackKnown", unfollowed := true, recurses := true, plainKeys := false, apart := false }
def RackKnownSaid : Prop := rackKnownRow.holds Try.pinned (OpenSpec.ofChange rackKnownSpec)

/-- ITS FALSE NEIGHBOUR: 'it returns false'. Refute it at one input. -/
def rackKnownWrong : ChangeSpec := { name := "rackKnown", fn := fun _ => fun
  | [] => { results := [.lit (.bool false)], args := [] }
  | _ => none }
def RackKnownWrongFalsely : Prop := rackKnownRow.holds Try.pinned (OpenSpec.ofChange rackKnownWrong)

/- THE SECOND FORM. 'bulk': how many values and letters a reading holds, each counted each time it is reached (what is shared counts as often as it is met; a slice's spare places count too). A statement '..UptoSaid' is the law's where the arguments, and the package variables that the reading takes, are together of bulk at most 1048576: NARROWER than '..Said'. Prove '..Said' where nothing that the law and all that it calls make is longer than what came in: it says more and counts as full. Else prove '..UptoSaid'. A law counts once. -/
mutual
def uptoBulk {H : Type} : DataW H → Nat
  | .lit (.string bytes) => bytes.length + 1
  | .lit _ => 1
  | .nil => 1
  | .ptr d => uptoBulk d + 1
  | .slice elems spare => uptoBulkAll elems + uptoBulkAll spare + 1
  | .agg parts => uptoBulkAll parts + 1
  | .iface _ d => uptoBulk d + 1
  | .map entries => uptoBulkEntries entries + 1
  | .held _ => 1
def uptoBulkAll {H : Type} : List (DataW H) → Nat
  | [] => 0
  | d :: r => uptoBulk d + uptoBulkAll r
def uptoBulkEntries {H : Type} : List (Lit × DataW H) → Nat
  | [] => 0
  | x :: r => uptoBulkEntry x + uptoBulkEntries r
def uptoBulkEntry {H : Type} : Lit × DataW H → Nat
  | (.string bytes, d) => bytes.length + uptoBulk d + 1
  | (_, d) => uptoBulk d + 1
 end
def uptoSmall : (H : Type) → List (DataW H) → Bool := fun _ ds => decide (uptoBulkAll ds ≤ 1048576)
def OpenSpec.upto (s : _root_.Go.ChangeSpec) : _root_.Go.OpenSpec := { _root_.Go.OpenSpec.ofChange s with cond := some uptoSmall }

/-- 'fipplelaw08.RackRows', WHERE WHAT IT READS IS OF BULK AT MOST 1048576: true; the input reads as it did. -/
def rackRowsUptoRow : OpenClaim := { program := "ytnnfahdhmodejaa", sum := "598e0e363570b838b88c9e8c2b98095ac06c2d8f423867453536413c5629c3bc", func := "fipple/fipplelaw08.RackRows", spec := "rackRows", unfollowed := true, recurses := true, plainKeys := false, apart := false, narrowed := true }
def RackRowsUptoSaid : Prop := rackRowsUptoRow.holds Try.pinned (OpenSpec.upto rackRowsSpec)

/-- 'fipplelaw08.RackPuts', WHERE WHAT IT READS IS OF BULK AT MOST 1048576: true; the input reads as it did. -/
def rackPutsUptoRow : OpenClaim := { program := "ytnnfahdhmodejaa", sum := "598e0e363570b838b88c9e8c2b98095ac06c2d8f423867453536413c5629c3bc", func := "fipple/fipplelaw08.RackPuts", spec := "rackPuts", unfollowed := true, recurses := true, plainKeys := false, apart := false, narrowed := true }
def RackPutsUptoSaid : Prop := rackPutsUptoRow.holds Try.pinned (OpenSpec.upto rackPutsSpec)

/-- 'fipplelaw08.RackBuilds', WHERE WHAT IT READS IS OF BULK AT MOST 1048576: true; the input reads as it did. -/
def rackBuildsUptoRow : OpenClaim := { program := "ytnnfahdhmodejaa", sum := "598e0e363570b838b88c9e8c2b98095ac06c2d8f423867453536413c5629c3bc", func := "fipple/fipplelaw08.RackBuilds", spec := "rackBuilds", unfollowed := true, recurses := true, plainKeys := false, apart := false, narrowed := true }
def RackBuildsUptoSaid : Prop := rackBuildsUptoRow.holds Try.pinned (OpenSpec.upto rackBuildsSpec)

/-- 'fipplelaw08.RackHooks', WHERE WHAT IT READS IS OF BULK AT MOST 1048576: true; the input reads as it did. -/
def rackHooksUptoRow : OpenClaim := { program := "ytnnfahdhmodejaa", sum := "598e0e363570b838b88c9e8c2b98095ac06c2d8f423867453536413c5629c3bc", func := "fipple/fipplelaw08.RackHooks", spec := "rackHooks", unfollowed := true, recurses := true, plainKeys := false, apart := false, narrowed := true }
def RackHooksUptoSaid : Prop := rackHooksUptoRow.holds Try.pinned (OpenSpec.upto rackHooksSpec)

/-- 'fipplelaw08.RackBack', WHERE WHAT IT READS IS OF BULK AT MOST 1048576: true; the input reads as it did. -/
def rackBackUptoRow : OpenClaim := { program := "ytnnfahdhmodejaa", sum := "598e0e363570b838b88c9e8c2b98095ac06c2d8f423867453536413c5629c3bc", func := "fipple/fipplelaw08.RackBack", spec := "rackBack", unfollowed := true, recurses := true, plainKeys := false, apart := false, narrowed := true }
def RackBackUptoSaid : Prop := rackBackUptoRow.holds Try.pinned (OpenSpec.upto rackBackSpec)

/-- 'fipplelaw08.RackUndone', WHERE WHAT IT READS IS OF BULK AT MOST 1048576: true; the input reads as it did. -/
def rackUndoneUptoRow : OpenClaim := { program := "ytnnfahdhmodejaa", sum := "598e0e363570b838b88c9e8c2b98095ac06c2d8f423867453536413c5629c3bc", func := "fipple/fipplelaw08.RackUndone", spec := "rackUndone", unfollowed := true, recurses := true, plainKeys := false, apart := false, narrowed := true }
def RackUndoneUptoSaid : Prop := rackUndoneUptoRow.holds Try.pinned (OpenSpec.upto rackUndoneSpec)

/-- 'fipplelaw08.RackLongest', WHERE WHAT IT READS IS OF BULK AT MOST 1048576: true; the input reads as it did. -/
def rackLongestUptoRow : OpenClaim := { program := "ytnnfahdhmodejaa", sum := "598e0e363570b838b88c9e8c2b98095ac06c2d8f423867453536413c5629c3bc", func := "fipple/fipplelaw08.RackLongest", spec := "rackLongest", unfollowed := true, recurses := true, plainKeys := false, apart := false, narrowed := true }
def RackLongestUptoSaid : Prop := rackLongestUptoRow.holds Try.pinned (OpenSpec.upto rackLongestSpec)

/-- 'fipplelaw08.RackTwo', WHERE WHAT IT READS IS OF BULK AT MOST 1048576: true; the input reads as it did. -/
def rackTwoUptoRow : OpenClaim := { program := "ytnnfahdhmodejaa", sum := "598e0e363570b838b88c9e8c2b98095ac06c2d8f423867453536413c5629c3bc", func := "fipple/fipplelaw08.RackTwo", spec := "rackTwo", unfollowed := true, recurses := true, plainKeys := false, apart := false, narrowed := true }
def RackTwoUptoSaid : Prop := rackTwoUptoRow.holds Try.pinned (OpenSpec.upto rackTwoSpec)

/-- 'fipplelaw08.RackTurned', WHERE WHAT IT READS IS OF BULK AT MOST 1048576: true; the input reads as it did. -/
def rackTurnedUptoRow : OpenClaim := { program := "ytnnfahdhmodejaa", sum := "598e0e363570b838b88c9e8c2b98095ac06c2d8f423867453536413c5629c3bc", func := "fipple/fipplelaw08.RackTurned", spec := "rackTurned", unfollowed := true, recurses := true, plainKeys := false, apart := false, narrowed := true }
def RackTurnedUptoSaid : Prop := rackTurnedUptoRow.holds Try.pinned (OpenSpec.upto rackTurnedSpec)

/-- 'fipplelaw08.RackExchanged', WHERE WHAT IT READS IS OF BULK AT MOST 1048576: true; the input reads as it did. -/
def rackExchangedUptoRow : OpenClaim := { program := "ytnnfahdhmodejaa", sum := "598e0e363570b838b88c9e8c2b98095ac06c2d8f423867453536413c5629c3bc", func := "fipple/fipplelaw08.RackExchanged", spec := "rackExchanged", unfollowed := true, recurses := true, plainKeys := false, apart := false, narrowed := true }
def RackExchangedUptoSaid : Prop := rackExchangedUptoRow.holds Try.pinned (OpenSpec.upto rackExchangedSpec)

/-- 'fipplelaw08.RackCounted', WHERE WHAT IT READS IS OF BULK AT MOST 1048576: true; the input reads as it did. -/
def rackCountedUptoRow : OpenClaim := { program := "ytnnfahdhmodejaa", sum := "598e0e363570b838b88c9e8c2b98095ac06c2d8f423867453536413c5629c3bc", func := "fipple/fipplelaw08.RackCounted", spec := "rackCounted", unfollowed := true, recurses := true, plainKeys := false, apart := false, narrowed := true }
def RackCountedUptoSaid : Prop := rackCountedUptoRow.holds Try.pinned (OpenSpec.upto rackCountedSpec)

/-- 'fipplelaw08.RackPairs', WHERE WHAT IT READS IS OF BULK AT MOST 1048576: true; the input reads as it did. -/
def rackPairsUptoRow : OpenClaim := { program := "ytnnfahdhmodejaa", sum := "598e0e363570b838b88c9e8c2b98095ac06c2d8f423867453536413c5629c3bc", func := "fipple/fipplelaw08.RackPairs", spec := "rackPairs", unfollowed := true, recurses := true, plainKeys := false, apart := false, narrowed := true }
def RackPairsUptoSaid : Prop := rackPairsUptoRow.holds Try.pinned (OpenSpec.upto rackPairsSpec)

/-- 'fipplelaw08.RackKnown', WHERE WHAT IT READS IS OF BULK AT MOST 1048576: true; the input reads as it did. -/
def rackKnownUptoRow : OpenClaim := { program := "ytnnfahdhmodejaa", sum := "598e0e363570b838b88c9e8c2b98095ac06c2d8f423867453536413c5629c3bc", func := "fipple/fipplelaw08.RackKnown", spec := "rackKnown", unfollowed := true, recurses := true, plainKeys := false, apart := false, narrowed := true }
def RackKnownUptoSaid : Prop := rackKnownUptoRow.holds Try.pinned (OpenSpec.upto rackKnownSpec)

end Rows
end Go.Proofs.Ytnnfahdhmodejaa
