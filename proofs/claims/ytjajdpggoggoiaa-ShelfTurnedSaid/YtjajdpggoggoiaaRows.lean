/-
  No cell of these rows narrows 'for every input' (looked for: loops, veiled, ifaces, maps, wideKeys, modest, calm, conditions, laid).
  DERIVED. THE GIVEN ROWS OF THIS SEAT. 12 by the template 'for every input the law returns true; each argument reads behind the call as it read before'; 0 by the template 'total and deterministic' (their statements: YtjajdpggoggoiaaTotals.lean).
  GIVEN WITH THE SEED: the statements are not yours to turn. If you find one false, say at which input.
  Laid BY PROGRAM, IN A SANDBOX (cutbox-rows.mjs): the forced cells as the released guide's own fill.sh prints them over the translation 19ac3ae1aee21f2b… (all of the seat's roots in one cut). By AI agents, Wed Nov 11 2026. No macro, syntax, notation, axiom, sorry.
-/
import Derived.Test.YtjajdpggoggoiaaChecked
import GoSem.Claim
import GoSem.ClaimJoined
import GoSem.ClaimMapViews
import Derived.JoinedTies
import Derived.KernelRfl
namespace Go.Proofs.Ytjajdpggoggoiaa
/- THE CELL 'sum', in the pinned program and in every row, IS THE sha256 OF THE DUMP (.gsa) THAT YtjajdpggoggoiaaProg.lean LOADS. Nothing in Lean hashes anything: it is a label: what it is worth is what the hold of that sum in a sandbox is worth. -/
noncomputable def Try.pinned : Pinned := { name := "ytjajdpggoggoiaa", sum := "19ac3ae1aee21f2bf59556882c2d6a3b029414c3a9aa68e474aa0221a47e2e29", checked := Try.checked }
namespace Rows
def none {H : Type} : Left H := { results := [], args := [] }

/-- 'fipplelaw02.ShelfDays': WHATEVER THE INPUT: true; the input reads as it did. -/
def shelfDaysSpec : ChangeSpec := { name := "shelfDays", fn := fun _ => fun
  | [d1, d2] => { results := [.lit (.bool true)], args := [d1, d2] }
  | _ => none }
def shelfDaysRow : OpenClaim := { program := "ytjajdpggoggoiaa", sum := "19ac3ae1aee21f2bf59556882c2d6a3b029414c3a9aa68e474aa0221a47e2e29", func := "fipple/fipplelaw02.ShelfDays", spec := "shelfDays", unfollowed := true, recurses := true, plainKeys := false, apart := false }
def ShelfDaysSaid : Prop := shelfDaysRow.holds Try.pinned (OpenSpec.ofChange shelfDaysSpec)

/-- ITS FALSE NEIGHBOUR: 'it returns false'. Refute it at one input. -/
def shelfDaysWrong : ChangeSpec := { name := "shelfDays", fn := fun _ => fun
  | [d1, d2] => { results := [.lit (.bool false)], args := [d1, d2] }
  | _ => none }
def ShelfDaysWrongFalsely : Prop := shelfDaysRow.holds Try.pinned (OpenSpec.ofChange shelfDaysWrong)

/-- 'fipplelaw02.ShelfPlans': WHATEVER THE INPUT: true; the input reads as it did. -/
def shelfPlansSpec : ChangeSpec := { name := "shelfPlans", fn := fun _ => fun
  | [d1, d2] => { results := [.lit (.bool true)], args := [d1, d2] }
  | _ => none }
def shelfPlansRow : OpenClaim := { program := "ytjajdpggoggoiaa", sum := "19ac3ae1aee21f2bf59556882c2d6a3b029414c3a9aa68e474aa0221a47e2e29", func := "fipple/fipplelaw02.ShelfPlans", spec := "shelfPlans", unfollowed := true, recurses := true, plainKeys := false, apart := false }
def ShelfPlansSaid : Prop := shelfPlansRow.holds Try.pinned (OpenSpec.ofChange shelfPlansSpec)

/-- ITS FALSE NEIGHBOUR: 'it returns false'. Refute it at one input. -/
def shelfPlansWrong : ChangeSpec := { name := "shelfPlans", fn := fun _ => fun
  | [d1, d2] => { results := [.lit (.bool false)], args := [d1, d2] }
  | _ => none }
def ShelfPlansWrongFalsely : Prop := shelfPlansRow.holds Try.pinned (OpenSpec.ofChange shelfPlansWrong)

/-- 'fipplelaw02.ShelfTimes': WHATEVER THE INPUT: true; the input reads as it did. -/
def shelfTimesSpec : ChangeSpec := { name := "shelfTimes", fn := fun _ => fun
  | [d1, d2] => { results := [.lit (.bool true)], args := [d1, d2] }
  | _ => none }
def shelfTimesRow : OpenClaim := { program := "ytjajdpggoggoiaa", sum := "19ac3ae1aee21f2bf59556882c2d6a3b029414c3a9aa68e474aa0221a47e2e29", func := "fipple/fipplelaw02.ShelfTimes", spec := "shelfTimes", unfollowed := true, recurses := true, plainKeys := false, apart := false }
def ShelfTimesSaid : Prop := shelfTimesRow.holds Try.pinned (OpenSpec.ofChange shelfTimesSpec)

/-- ITS FALSE NEIGHBOUR: 'it returns false'. Refute it at one input. -/
def shelfTimesWrong : ChangeSpec := { name := "shelfTimes", fn := fun _ => fun
  | [d1, d2] => { results := [.lit (.bool false)], args := [d1, d2] }
  | _ => none }
def ShelfTimesWrongFalsely : Prop := shelfTimesRow.holds Try.pinned (OpenSpec.ofChange shelfTimesWrong)

/-- 'fipplelaw02.ShelfKinds': WHATEVER THE INPUT: true; the input reads as it did. -/
def shelfKindsSpec : ChangeSpec := { name := "shelfKinds", fn := fun _ => fun
  | [d1, d2] => { results := [.lit (.bool true)], args := [d1, d2] }
  | _ => none }
def shelfKindsRow : OpenClaim := { program := "ytjajdpggoggoiaa", sum := "19ac3ae1aee21f2bf59556882c2d6a3b029414c3a9aa68e474aa0221a47e2e29", func := "fipple/fipplelaw02.ShelfKinds", spec := "shelfKinds", unfollowed := true, recurses := true, plainKeys := false, apart := false }
def ShelfKindsSaid : Prop := shelfKindsRow.holds Try.pinned (OpenSpec.ofChange shelfKindsSpec)

/-- ITS FALSE NEIGHBOUR: 'it returns false'. Refute it at one input. -/
def shelfKindsWrong : ChangeSpec := { name := "shelfKinds", fn := fun _ => fun
  | [d1, d2] => { results := [.lit (.bool false)], args := [d1, d2] }
  | _ => none }
def ShelfKindsWrongFalsely : Prop := shelfKindsRow.holds Try.pinned (OpenSpec.ofChange shelfKindsWrong)

/-- 'fipplelaw02.ShelfProved': WHATEVER THE INPUT: true; the input reads as it did. -/
def shelfProvedSpec : ChangeSpec := { name := "shelfProved", fn := fun _ => fun
  | [d1, d2, d3] => { results := [.lit (.bool true)], args := [d1, d2, d3] }
  | _ => none }
def shelfProvedRow : OpenClaim := { program := "ytjajdpggoggoiaa", sum := "19ac3ae1aee21f2bf59556882c2d6a3b029414c3a9aa68e474aa0221a47e2e29", func := "fipple/fipplelaw02.ShelfProved", spec := "shelfProved", unfollowed := true, recurses := true, plainKeys := false, apart := false }
def ShelfProvedSaid : Prop := shelfProvedRow.holds Try.pinned (OpenSpec.ofChange shelfProvedSpec)

/-- ITS FALSE NEIGHBOUR: 'it returns false'. Refute it at one input. -/
def shelfProvedWrong : ChangeSpec := { name := "shelfProved", fn := fun _ => fun
  | [d1, d2, d3] => { results := [.lit (.bool false)], args := [d1, d2, d3] }
  | _ => none }
def ShelfProvedWrongFalsely : Prop := shelfProvedRow.holds Try.pinned (OpenSpec.ofChange shelfProvedWrong)

/-- 'fipplelaw02.ShelfDeep': WHATEVER THE INPUT: true; the input reads as it did. -/
def shelfDeepSpec : ChangeSpec := { name := "shelfDeep", fn := fun _ => fun
  | [d] => { results := [.lit (.bool true)], args := [d] }
  | _ => none }
def shelfDeepRow : OpenClaim := { program := "ytjajdpggoggoiaa", sum := "19ac3ae1aee21f2bf59556882c2d6a3b029414c3a9aa68e474aa0221a47e2e29", func := "fipple/fipplelaw02.ShelfDeep", spec := "shelfDeep", unfollowed := true, recurses := true, plainKeys := false, apart := false }
def ShelfDeepSaid : Prop := shelfDeepRow.holds Try.pinned (OpenSpec.ofChange shelfDeepSpec)

/-- ITS FALSE NEIGHBOUR: 'it returns false'. Refute it at one input. -/
def shelfDeepWrong : ChangeSpec := { name := "shelfDeep", fn := fun _ => fun
  | [d] => { results := [.lit (.bool false)], args := [d] }
  | _ => none }
def ShelfDeepWrongFalsely : Prop := shelfDeepRow.holds Try.pinned (OpenSpec.ofChange shelfDeepWrong)

/-- 'fipplelaw02.ShelfWider': WHATEVER THE INPUT: true; the input reads as it did. -/
def shelfWiderSpec : ChangeSpec := { name := "shelfWider", fn := fun _ => fun
  | [d1, d2] => { results := [.lit (.bool true)], args := [d1, d2] }
  | _ => none }
def shelfWiderRow : OpenClaim := { program := "ytjajdpggoggoiaa", sum := "19ac3ae1aee21f2bf59556882c2d6a3b029414c3a9aa68e474aa0221a47e2e29", func := "fipple/fipplelaw02.ShelfWider", spec := "shelfWider", unfollowed := true, recurses := true, plainKeys := false, apart := false }
def ShelfWiderSaid : Prop := shelfWiderRow.holds Try.pinned (OpenSpec.ofChange shelfWiderSpec)

/-- ITS FALSE NEIGHBOUR: 'it returns false'. Refute it at one input. -/
def shelfWiderWrong : ChangeSpec := { name := "shelfWider", fn := fun _ => fun
  | [d1, d2] => { results := [.lit (.bool false)], args := [d1, d2] }
  | _ => none }
def ShelfWiderWrongFalsely : Prop := shelfWiderRow.holds Try.pinned (OpenSpec.ofChange shelfWiderWrong)

/-- 'fipplelaw02.ShelfBound': WHATEVER THE INPUT: true; the input reads as it did. -/
def shelfBoundSpec : ChangeSpec := { name := "shelfBound", fn := fun _ => fun
  | [d] => { results := [.lit (.bool true)], args := [d] }
  | _ => none }
def shelfBoundRow : OpenClaim := { program := "ytjajdpggoggoiaa", sum := "19ac3ae1aee21f2bf59556882c2d6a3b029414c3a9aa68e474aa0221a47e2e29", func := "fipple/fipplelaw02.ShelfBound", spec := "shelfBound", unfollowed := true, recurses := true, plainKeys := false, apart := false }
def ShelfBoundSaid : Prop := shelfBoundRow.holds Try.pinned (OpenSpec.ofChange shelfBoundSpec)

/-- ITS FALSE NEIGHBOUR: 'it returns false'. Refute it at one input. -/
def shelfBoundWrong : ChangeSpec := { name := "shelfBound", fn := fun _ => fun
  | [d] => { results := [.lit (.bool false)], args := [d] }
  | _ => none }
def ShelfBoundWrongFalsely : Prop := shelfBoundRow.holds Try.pinned (OpenSpec.ofChange shelfBoundWrong)

/-- 'fipplelaw02.ShelfTurned': WHATEVER THE INPUT: true; the input reads as it did. -/
def shelfTurnedSpec : ChangeSpec := { name := "shelfTurned", fn := fun _ => fun
  | [d1, d2, d3] => { results := [.lit (.bool true)], args := [d1, d2, d3] }
  | _ => none }
def shelfTurnedRow : OpenClaim := { program := "ytjajdpggoggoiaa", sum := "19ac3ae1aee21f2bf59556882c2d6a3b029414c3a9aa68e474aa0221a47e2e29", func := "fipple/fipplelaw02.ShelfTurned", spec := "shelfTurned", unfollowed := true, recurses := true, plainKeys := false, apart := false }
def ShelfTurnedSaid : Prop := shelfTurnedRow.holds Try.pinned (OpenSpec.ofChange shelfTurnedSpec)

/-- ITS FALSE NEIGHBOUR: 'it returns false'. Refute it at one input. -/
def shelfTurnedWrong : ChangeSpec := { name := "shelfTurned", fn := fun _ => fun
  | [d1, d2, d3] => { results := [.lit (.bool false)], args := [d1, d2, d3] }
  | _ => none }
def ShelfTurnedWrongFalsely : Prop := shelfTurnedRow.holds Try.pinned (OpenSpec.ofChange shelfTurnedWrong)

/-- 'fipplelaw02.ShelfAgain': WHATEVER THE INPUT: true; the input reads as it did. -/
def shelfAgainSpec : ChangeSpec := { name := "shelfAgain", fn := fun _ => fun
  | [d1, d2, d3] => { results := [.lit (.bool true)], args := [d1, d2, d3] }
  | _ => none }
def shelfAgainRow : OpenClaim := { program := "ytjajdpggoggoiaa", sum := "19ac3ae1aee21f2bf59556882c2d6a3b029414c3a9aa68e474aa0221a47e2e29", func := "fipple/fipplelaw02.ShelfAgain", spec := "shelfAgain", unfollowed := true, recurses := true, plainKeys := false, apart := false }
def ShelfAgainSaid : Prop := shelfAgainRow.holds Try.pinned (OpenSpec.ofChange shelfAgainSpec)

/-- ITS FALSE NEIGHBOUR: 'it returns false'. Refute it at one input. -/
def shelfAgainWrong : ChangeSpec := { name := "shelfAgain", fn := fun _ => fun
  | [d1, d2, d3] => { results := [.lit (.bool false)], args := [d1, d2, d3] }
  | _ => none }
def ShelfAgainWrongFalsely : Prop := shelfAgainRow.holds Try.pinned (OpenSpec.ofChange shelfAgainWrong)

/-- 'fipplelaw02.ShelfJoined': WHATEVER THE INPUT: true; the input reads as it did. -/
def shelfJoinedSpec : ChangeSpec := { name := "shelfJoined", fn := fun _ => fun
  | [d1, d2] => { results := [.lit (.bool true)], args := [d1, d2] }
  | _ => none }
def shelfJoinedRow : OpenClaim := { program := "ytjajdpggoggoiaa", sum := "19ac3ae1aee21f2bf59556882c2d6a3b029414c3a9aa68e474aa0221a47e2e29", func := "fipple/fipplelaw02.ShelfJoined", spec := "shelfJoined", unfollowed := true, recurses := true, plainKeys := false, apart := false }
def ShelfJoinedSaid : Prop := shelfJoinedRow.holds Try.pinned (OpenSpec.ofChange shelfJoinedSpec)

/-- ITS FALSE NEIGHBOUR: 'it returns false'. Refute it at one input. -/
def shelfJoinedWrong : ChangeSpec := { name := "shelfJoined", fn := fun _ => fun
  | [d1, d2] => { results := [.lit (.bool false)], args := [d1, d2] }
  | _ => none }
def ShelfJoinedWrongFalsely : Prop := shelfJoinedRow.holds Try.pinned (OpenSpec.ofChange shelfJoinedWrong)

/-- 'fipplelaw02.ShelfKnown': WHATEVER THE INPUT: true; the input reads as it did. -/
def shelfKnownSpec : ChangeSpec := { name := "shelfKnown", fn := fun _ => fun
  | [] => { results := [.lit (.bool true)], args := [] }
  | _ => none }
def shelfKnownRow : OpenClaim := { program := "ytjajdpggoggoiaa", sum := "19ac3ae1aee21f2bf59556882c2d6a3b029414c3a9aa68e474aa0221a47e2e29", func := "fipple/fipplelaw02.ShelfKnown", spec := "shelfKnown", unfollowed := true, recurses := true, plainKeys := false, apart := false }
def ShelfKnownSaid : Prop := shelfKnownRow.holds Try.pinned (OpenSpec.ofChange shelfKnownSpec)

/-- ITS FALSE NEIGHBOUR: 'it returns false'. Refute it at one input. -/
def shelfKnownWrong : ChangeSpec := { name := "shelfKnown", fn := fun _ => fun
  | [] => { results := [.lit (.bool false)], args := [] }
  | _ => none }
def ShelfKnownWrongFalsely : Prop := shelfKnownRow.holds Try.pinned (OpenSpec.ofChange shelfKnownWrong)

/- THE SECOND FORM. 'bulk': how many values and letters a reading holds, each counted each time it is reached (what is shared counts as often as it is met; a slice's spare places count too). A statement '..UptoSaid' is the law's where the arguments, and the package variables that the reading takes, are together of bulk at most 1048576: NARROWER than '..Said'. Prove '..Said' where nothing that the law and all that it calls make is longer than what came in: it says more and counts as full. Else prove '..UptoSaid'. A law counts once. -/
mutual
def uptoBulk {H : Type} : DataW H → Nat
  | .lit (.string bytes) => bytes.length + 1
  | .lit _ => 1
  | .nil => 1
  | .ptr d => uptoBulk d + 1
  | .slice elems spare => uptoBulkAll elems + uptoBulkAll spare + 1
  | .agg parts => uptoBulkAll parts + 1
  | .iface _ d => uptoBulk d + 1
  | .map entries => uptoBulkEntries entries + 1
  | .held _ => 1
def uptoBulkAll {H : Type} : List (DataW H) → Nat
  | [] => 0
  | d :: r => uptoBulk d + uptoBulkAll r
def uptoBulkEntries {H : Type} : List (Lit × DataW H) → Nat
  | [] => 0
  | x :: r => uptoBulkEntry x + uptoBulkEntries r
def uptoBulkEntry {H : Type} : Lit × DataW H → Nat
  | (.string bytes, d) => bytes.length + uptoBulk d + 1
  | (_, d) => uptoBulk d + 1
 end
def uptoSmall : (H : Type) → List (DataW H) → Bool := fun _ ds => decide (uptoBulkAll ds ≤ 1048576)
def OpenSpec.upto (s : _root_.Go.ChangeSpec) : _root_.Go.OpenSpec := { _root_.Go.OpenSpec.ofChange s with cond := some uptoSmall }

/-- 'fipplelaw02.ShelfDays', WHERE WHAT IT READS IS OF BULK AT MOST 1048576: true; the input reads as it did. -/
def shelfDaysUptoRow : OpenClaim := { program := "ytjajdpggoggoiaa", sum := "19ac3ae1aee21f2bf59556882c2d6a3b029414c3a9aa68e474aa0221a47e2e29", func := "fipple/fipplelaw02.ShelfDays", spec := "shelfDays", unfollowed := true, recurses := true, plainKeys := false, apart := false, narrowed := true }
def ShelfDaysUptoSaid : Prop := shelfDaysUptoRow.holds Try.pinned (OpenSpec.upto shelfDaysSpec)

/-- 'fipplelaw02.ShelfPlans', WHERE WHAT IT READS IS OF BULK AT MOST 1048576: true; the input reads as it did. -/
def shelfPlansUptoRow : OpenClaim := { program := "ytjajdpggoggoiaa", sum := "19ac3ae1aee21f2bf59556882c2d6a3b029414c3a9aa68e474aa0221a47e2e29", func := "fipple/fipplelaw02.ShelfPlans", spec := "shelfPlans", unfollowed := true, recurses := true, plainKeys := false, apart := false, narrowed := true }
def ShelfPlansUptoSaid : Prop := shelfPlansUptoRow.holds Try.pinned (OpenSpec.upto shelfPlansSpec)

/-- 'fipplelaw02.ShelfTimes', WHERE WHAT IT READS IS OF BULK AT MOST 1048576: true; the input reads as it did. -/
def shelfTimesUptoRow : OpenClaim := { program := "ytjajdpggoggoiaa", sum := "19ac3ae1aee21f2bf59556882c2d6a3b029414c3a9aa68e474aa0221a47e2e29", func := "fipple/fipplelaw02.ShelfTimes", spec := "shelfTimes", unfollowed := true, recurses := true, plainKeys := false, apart := false, narrowed := true }
def ShelfTimesUptoSaid : Prop := shelfTimesUptoRow.holds Try.pinned (OpenSpec.upto shelfTimesSpec)

/-- 'fipplelaw02.ShelfKinds', WHERE WHAT IT READS IS OF BULK AT MOST 1048576: true; the input reads as it did. -/
def shelfKindsUptoRow : OpenClaim := { program := "ytjajdpggoggoiaa", sum := "19ac3ae1aee21f2bf59556882c2d6a3b029414c3a9aa68e474aa0221a47e2e29", func := "fipple/fipplelaw02.ShelfKinds", spec := "shelfKinds", unfollowed := true, recurses := true, plainKeys := false, apart := false, narrowed := true }
def ShelfKindsUptoSaid : Prop := shelfKindsUptoRow.holds Try.pinned (OpenSpec.upto shelfKindsSpec)

/-- 'fipplelaw02.ShelfProved', WHERE WHAT IT READS IS OF BULK AT MOST 1048576: true; the input reads as it did. -/
def shelfProvedUptoRow : OpenClaim := { program := "ytjajdpggoggoiaa", sum := "19ac3ae1aee21f2bf59556882c2d6a3b029414c3a9aa68e474aa0221a47e2e29", func := "fipple/fipplelaw02.ShelfProved", spec := "shelfProved", unfollowed := true, recurses := true, plainKeys := false, apart := false, narrowed := true }
def ShelfProvedUptoSaid : Prop := shelfProvedUptoRow.holds Try.pinned (OpenSpec.upto shelfProvedSpec)

/-- 'fipplelaw02.ShelfDeep', WHERE WHAT IT READS IS OF BULK AT MOST 1048576: true; the input reads as it did. -/
def shelfDeepUptoRow : OpenClaim := { program := "ytjajdpggoggoiaa", sum := "19ac3ae1aee21f2bf59556882c2d6a3b029414c3a9aa68e474aa0221a47e2e29", func := "fipple/fipplelaw02.ShelfDeep", spec := "shelfDeep", unfollowed := true, recurses := true, plainKeys := false, apart := false, narrowed := true }
def ShelfDeepUptoSaid : Prop := shelfDeepUptoRow.holds Try.pinned (OpenSpec.upto shelfDeepSpec)

/-- 'fipplelaw02.ShelfWider', WHERE WHAT IT READS IS OF BULK AT MOST 1048576: true; the input reads as it did. -/
def shelfWiderUptoRow : OpenClaim := { program := "ytjajdpggoggoiaa", sum := "19ac3ae1aee21f2bf59556882c2d6a3b029414c3a9aa68e474aa0221a47e2e29", func := "fipple/fipplelaw02.ShelfWider", spec := "shelfWider", unfollowed := true, recurses := true, plainKeys := false, apart := false, narrowed := true }
def ShelfWiderUptoSaid : Prop := shelfWiderUptoRow.holds Try.pinned (OpenSpec.upto shelfWiderSpec)

/-- 'fipplelaw02.ShelfBound', WHERE WHAT IT READS IS OF BULK AT MOST 1048576: true; the input reads as it did. -/
def shelfBoundUptoRow : OpenClaim := { program := "ytjajdpggoggoiaa", sum := "19ac3ae1aee21f2bf59556882c2d6a3b029414c3a9aa68e474aa0221a47e2e29", func := "fipple/fipplelaw02.ShelfBound", spec := "shelfBound", unfollowed := true, recurses := true, plainKeys := false, apart := false, narrowed := true }
def ShelfBoundUptoSaid : Prop := shelfBoundUptoRow.holds Try.pinned (OpenSpec.upto shelfBoundSpec)

/-- 'fipplelaw02.ShelfTurned', WHERE WHAT IT READS IS OF BULK AT MOST 1048576: true; the input reads as it did. -/
def shelfTurnedUptoRow : OpenClaim := { program := "ytjajdpggoggoiaa", sum := "19ac3ae1aee21f2bf59556882c2d6a3b029414c3a9aa68e474aa0221a47e2e29", func := "fipple/fipplelaw02.ShelfTurned", spec := "shelfTurned", unfollowed := true, recurses := true, plainKeys := false, apart := false, narrowed := true }
def ShelfTurnedUptoSaid : Prop := shelfTurnedUptoRow.holds Try.pinned (OpenSpec.upto shelfTurnedSpec)

/-- 'fipplelaw02.ShelfAgain', WHERE WHAT IT READS IS OF BULK AT MOST 1048576: true; the input reads as it did. -/
def shelfAgainUptoRow : OpenClaim := { program := "ytjajdpggoggoiaa", sum := "19ac3ae1aee21f2bf59556882c2d6a3b029414c3a9aa68e474aa0221a47e2e29", func := "fipple/fipplelaw02.ShelfAgain", spec := "shelfAgain", unfollowed := true, recurses := true, plainKeys := false, apart := false, narrowed := true }
def ShelfAgainUptoSaid : Prop := shelfAgainUptoRow.holds Try.pinned (OpenSpec.upto shelfAgainSpec)

/-- 'fipplelaw02.ShelfJoined', WHERE WHAT IT READS IS OF BULK AT MOST 1048576: true; the input reads as it did. -/
def shelfJoinedUptoRow : OpenClaim := { program := "ytjajdpggoggoiaa", sum := "19ac3ae1aee21f2bf59556882c2d6a3b029414c3a9aa68e474aa0221a47e2e29", func := "fipple/fipplelaw02.ShelfJoined", spec := "shelfJoined", unfollowed := true, recurses := true, plainKeys := false, apart := false, narrowed := true }
def ShelfJoinedUptoSaid : Prop := shelfJoinedUptoRow.holds Try.pinned (OpenSpec.upto shelfJoinedSpec)

/-- 'fipplelaw02.ShelfKnown', WHERE WHAT IT READS IS OF BULK AT MOST 1048576: true; the input reads as it did. -/
def shelfKnownUptoRow : OpenClaim := { program := "ytjajdpggoggoiaa", sum := "19ac3ae1aee21f2bf59556882c2d6a3b029414c3a9aa68e474aa0221a47e2e29", func := "fipple/fipplelaw02.ShelfKnown", spec := "shelfKnown", unfollowed := true, recurses := true, plainKeys := false, apart := false, narrowed := true }
def ShelfKnownUptoSaid : Prop := shelfKnownUptoRow.holds Try.pinned (OpenSpec.upto shelfKnownSpec)

end Rows
end Go.Proofs.Ytjajdpggoggoiaa
