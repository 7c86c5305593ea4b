/-
  No cell of these rows narrows 'for every input' (looked for: loops, veiled, ifaces, maps, wideKeys, modest, calm, conditions, laid).
  DERIVED. THE GIVEN ROWS OF THIS SEAT. 15 by the template 'for every input the law returns true; each argument reads behind the call as it read before'; 0 by the template 'total and deterministic' (their statements: YtpnkgjkoophckaaTotals.lean).
  GIVEN WITH THE SEED: the statements are not yours to turn. If you find one false, say at which input.
  Laid BY PROGRAM, IN A SANDBOX (cutbox-rows.mjs): the forced cells as the released guide's own fill.sh prints them over the translation 0ad3a5bcb118552f… (all of the seat's roots in one cut). By AI agents, Wed Nov 11 2026. No macro, syntax, notation, axiom, sorry.
-/
import Derived.Test.YtpnkgjkoophckaaChecked
import GoSem.Claim
import GoSem.ClaimJoined
import GoSem.ClaimMapViews
import Derived.JoinedTies
import Derived.KernelRfl
namespace Go.Proofs.Ytpnkgjkoophckaa
/- THE CELL 'sum', in the pinned program and in every row, IS THE sha256 OF THE DUMP (.gsa) THAT YtpnkgjkoophckaaProg.lean LOADS. Nothing in Lean hashes anything: it is a label: what it is worth is what the hold of that sum in a sandbox is worth. -/
noncomputable def Try.pinned : Pinned := { name := "ytpnkgjkoophckaa", sum := "0ad3a5bcb118552f27b8a3aac7f83989345c6e3f0694fe6ca07c3ca366c8a452", checked := Try.checked }
namespace Rows
def none {H : Type} : Left H := { results := [], args := [] }

/-- 'tithinglaw01.WalkTours': WHATEVER THE INPUT: true; the input reads as it did. -/
def walkToursSpec : ChangeSpec := { name := "walkTours", fn := fun _ => fun
  | [d1, d2] => { results := [.lit (.bool true)], args := [d1, d2] }
  | _ => none }
def walkToursRow : OpenClaim := { program := "ytpnkgjkoophckaa", sum := "0ad3a5bcb118552f27b8a3aac7f83989345c6e3f0694fe6ca07c3ca366c8a452", func := "tithing/tithinglaw01.WalkTours", spec := "walkTours", unfollowed := true, recurses := true, plainKeys := false, apart := false }
def WalkToursSaid : Prop := walkToursRow.holds Try.pinned (OpenSpec.ofChange walkToursSpec)

/-- ITS FALSE NEIGHBOUR: 'it returns false'. Refute it at one input. -/
def walkToursWrong : ChangeSpec := { name := "walkTours", fn := fun _ => fun
  | [d1, d2] => { results := [.lit (.bool false)], args := [d1, d2] }
  | _ => none }
def WalkToursWrongFalsely : Prop := walkToursRow.holds Try.pinned (OpenSpec.ofChange walkToursWrong)

/-- 'tithinglaw01.WalkLeasts': WHATEVER THE INPUT: true; the input reads as it did. -/
def walkLeastsSpec : ChangeSpec := { name := "walkLeasts", fn := fun _ => fun
  | [d1, d2] => { results := [.lit (.bool true)], args := [d1, d2] }
  | _ => none }
def walkLeastsRow : OpenClaim := { program := "ytpnkgjkoophckaa", sum := "0ad3a5bcb118552f27b8a3aac7f83989345c6e3f0694fe6ca07c3ca366c8a452", func := "tithing/tithinglaw01.WalkLeasts", spec := "walkLeasts", unfollowed := true, recurses := true, plainKeys := false, apart := false }
def WalkLeastsSaid : Prop := walkLeastsRow.holds Try.pinned (OpenSpec.ofChange walkLeastsSpec)

/-- ITS FALSE NEIGHBOUR: 'it returns false'. Refute it at one input. -/
def walkLeastsWrong : ChangeSpec := { name := "walkLeasts", fn := fun _ => fun
  | [d1, d2] => { results := [.lit (.bool false)], args := [d1, d2] }
  | _ => none }
def WalkLeastsWrongFalsely : Prop := walkLeastsRow.holds Try.pinned (OpenSpec.ofChange walkLeastsWrong)

/-- 'tithinglaw01.WalkJoined': WHATEVER THE INPUT: true; the input reads as it did. -/
def walkJoinedSpec : ChangeSpec := { name := "walkJoined", fn := fun _ => fun
  | [d1, d2, d3] => { results := [.lit (.bool true)], args := [d1, d2, d3] }
  | _ => none }
def walkJoinedRow : OpenClaim := { program := "ytpnkgjkoophckaa", sum := "0ad3a5bcb118552f27b8a3aac7f83989345c6e3f0694fe6ca07c3ca366c8a452", func := "tithing/tithinglaw01.WalkJoined", spec := "walkJoined", unfollowed := true, recurses := true, plainKeys := false, apart := false }
def WalkJoinedSaid : Prop := walkJoinedRow.holds Try.pinned (OpenSpec.ofChange walkJoinedSpec)

/-- ITS FALSE NEIGHBOUR: 'it returns false'. Refute it at one input. -/
def walkJoinedWrong : ChangeSpec := { name := "walkJoined", fn := fun _ => fun
  | [d1, d2, d3] => { results := [.lit (.bool false)], args := [d1, d2, d3] }
  | _ => none }
def WalkJoinedWrongFalsely : Prop := walkJoinedRow.holds Try.pinned (OpenSpec.ofChange walkJoinedWrong)

/-- 'tithinglaw01.WalkMany': WHATEVER THE INPUT: true; the input reads as it did. -/
def walkManySpec : ChangeSpec := { name := "walkMany", fn := fun _ => fun
  | [d1, d2] => { results := [.lit (.bool true)], args := [d1, d2] }
  | _ => none }
def walkManyRow : OpenClaim := { program := "ytpnkgjkoophckaa", sum := "0ad3a5bcb118552f27b8a3aac7f83989345c6e3f0694fe6ca07c3ca366c8a452", func := "tithing/tithinglaw01.WalkMany", spec := "walkMany", unfollowed := true, recurses := true, plainKeys := false, apart := false }
def WalkManySaid : Prop := walkManyRow.holds Try.pinned (OpenSpec.ofChange walkManySpec)

/-- ITS FALSE NEIGHBOUR: 'it returns false'. Refute it at one input. -/
def walkManyWrong : ChangeSpec := { name := "walkMany", fn := fun _ => fun
  | [d1, d2] => { results := [.lit (.bool false)], args := [d1, d2] }
  | _ => none }
def WalkManyWrongFalsely : Prop := walkManyRow.holds Try.pinned (OpenSpec.ofChange walkManyWrong)

/-- 'tithinglaw01.WalkWays': WHATEVER THE INPUT: true; the input reads as it did. -/
def walkWaysSpec : ChangeSpec := { name := "walkWays", fn := fun _ => fun
  | [d1, d2, d3] => { results := [.lit (.bool true)], args := [d1, d2, d3] }
  | _ => none }
def walkWaysRow : OpenClaim := { program := "ytpnkgjkoophckaa", sum := "0ad3a5bcb118552f27b8a3aac7f83989345c6e3f0694fe6ca07c3ca366c8a452", func := "tithing/tithinglaw01.WalkWays", spec := "walkWays", unfollowed := true, recurses := true, plainKeys := false, apart := false }
def WalkWaysSaid : Prop := walkWaysRow.holds Try.pinned (OpenSpec.ofChange walkWaysSpec)

/-- ITS FALSE NEIGHBOUR: 'it returns false'. Refute it at one input. -/
def walkWaysWrong : ChangeSpec := { name := "walkWays", fn := fun _ => fun
  | [d1, d2, d3] => { results := [.lit (.bool false)], args := [d1, d2, d3] }
  | _ => none }
def WalkWaysWrongFalsely : Prop := walkWaysRow.holds Try.pinned (OpenSpec.ofChange walkWaysWrong)

/-- 'tithinglaw01.WalkReturns': WHATEVER THE INPUT: true; the input reads as it did. -/
def walkReturnsSpec : ChangeSpec := { name := "walkReturns", fn := fun _ => fun
  | [d1, d2, d3, d4] => { results := [.lit (.bool true)], args := [d1, d2, d3, d4] }
  | _ => none }
def walkReturnsRow : OpenClaim := { program := "ytpnkgjkoophckaa", sum := "0ad3a5bcb118552f27b8a3aac7f83989345c6e3f0694fe6ca07c3ca366c8a452", func := "tithing/tithinglaw01.WalkReturns", spec := "walkReturns", unfollowed := true, recurses := true, plainKeys := false, apart := false }
def WalkReturnsSaid : Prop := walkReturnsRow.holds Try.pinned (OpenSpec.ofChange walkReturnsSpec)

/-- ITS FALSE NEIGHBOUR: 'it returns false'. Refute it at one input. -/
def walkReturnsWrong : ChangeSpec := { name := "walkReturns", fn := fun _ => fun
  | [d1, d2, d3, d4] => { results := [.lit (.bool false)], args := [d1, d2, d3, d4] }
  | _ => none }
def WalkReturnsWrongFalsely : Prop := walkReturnsRow.holds Try.pinned (OpenSpec.ofChange walkReturnsWrong)

/-- 'tithinglaw01.WalkEasier': WHATEVER THE INPUT: true; the input reads as it did. -/
def walkEasierSpec : ChangeSpec := { name := "walkEasier", fn := fun _ => fun
  | [d1, d2, d3, d4, d5] => { results := [.lit (.bool true)], args := [d1, d2, d3, d4, d5] }
  | _ => none }
def walkEasierRow : OpenClaim := { program := "ytpnkgjkoophckaa", sum := "0ad3a5bcb118552f27b8a3aac7f83989345c6e3f0694fe6ca07c3ca366c8a452", func := "tithing/tithinglaw01.WalkEasier", spec := "walkEasier", unfollowed := true, recurses := true, plainKeys := false, apart := false }
def WalkEasierSaid : Prop := walkEasierRow.holds Try.pinned (OpenSpec.ofChange walkEasierSpec)

/-- ITS FALSE NEIGHBOUR: 'it returns false'. Refute it at one input. -/
def walkEasierWrong : ChangeSpec := { name := "walkEasier", fn := fun _ => fun
  | [d1, d2, d3, d4, d5] => { results := [.lit (.bool false)], args := [d1, d2, d3, d4, d5] }
  | _ => none }
def WalkEasierWrongFalsely : Prop := walkEasierRow.holds Try.pinned (OpenSpec.ofChange walkEasierWrong)

/-- 'tithinglaw01.WalkPlans': WHATEVER THE INPUT: true; the input reads as it did. -/
def walkPlansSpec : ChangeSpec := { name := "walkPlans", fn := fun _ => fun
  | [d1, d2] => { results := [.lit (.bool true)], args := [d1, d2] }
  | _ => none }
def walkPlansRow : OpenClaim := { program := "ytpnkgjkoophckaa", sum := "0ad3a5bcb118552f27b8a3aac7f83989345c6e3f0694fe6ca07c3ca366c8a452", func := "tithing/tithinglaw01.WalkPlans", spec := "walkPlans", unfollowed := true, recurses := true, plainKeys := false, apart := false }
def WalkPlansSaid : Prop := walkPlansRow.holds Try.pinned (OpenSpec.ofChange walkPlansSpec)

/-- ITS FALSE NEIGHBOUR: 'it returns false'. Refute it at one input. -/
def walkPlansWrong : ChangeSpec := { name := "walkPlans", fn := fun _ => fun
  | [d1, d2] => { results := [.lit (.bool false)], args := [d1, d2] }
  | _ => none }
def WalkPlansWrongFalsely : Prop := walkPlansRow.holds Try.pinned (OpenSpec.ofChange walkPlansWrong)

/-- 'tithinglaw01.WalkReached': WHATEVER THE INPUT: true; the input reads as it did. -/
def walkReachedSpec : ChangeSpec := { name := "walkReached", fn := fun _ => fun
  | [d1, d2] => { results := [.lit (.bool true)], args := [d1, d2] }
  | _ => none }
def walkReachedRow : OpenClaim := { program := "ytpnkgjkoophckaa", sum := "0ad3a5bcb118552f27b8a3aac7f83989345c6e3f0694fe6ca07c3ca366c8a452", func := "tithing/tithinglaw01.WalkReached", spec := "walkReached", unfollowed := true, recurses := true, plainKeys := false, apart := false }
def WalkReachedSaid : Prop := walkReachedRow.holds Try.pinned (OpenSpec.ofChange walkReachedSpec)

/-- ITS FALSE NEIGHBOUR: 'it returns false'. Refute it at one input. -/
def walkReachedWrong : ChangeSpec := { name := "walkReached", fn := fun _ => fun
  | [d1, d2] => { results := [.lit (.bool false)], args := [d1, d2] }
  | _ => none }
def WalkReachedWrongFalsely : Prop := walkReachedRow.holds Try.pinned (OpenSpec.ofChange walkReachedWrong)

/-- 'tithinglaw01.WalkTimes': WHATEVER THE INPUT: true; the input reads as it did. -/
def walkTimesSpec : ChangeSpec := { name := "walkTimes", fn := fun _ => fun
  | [d1, d2, d3] => { results := [.lit (.bool true)], args := [d1, d2, d3] }
  | _ => none }
def walkTimesRow : OpenClaim := { program := "ytpnkgjkoophckaa", sum := "0ad3a5bcb118552f27b8a3aac7f83989345c6e3f0694fe6ca07c3ca366c8a452", func := "tithing/tithinglaw01.WalkTimes", spec := "walkTimes", unfollowed := true, recurses := true, plainKeys := false, apart := false }
def WalkTimesSaid : Prop := walkTimesRow.holds Try.pinned (OpenSpec.ofChange walkTimesSpec)

/-- ITS FALSE NEIGHBOUR: 'it returns false'. Refute it at one input. -/
def walkTimesWrong : ChangeSpec := { name := "walkTimes", fn := fun _ => fun
  | [d1, d2, d3] => { results := [.lit (.bool false)], args := [d1, d2, d3] }
  | _ => none }
def WalkTimesWrongFalsely : Prop := walkTimesRow.holds Try.pinned (OpenSpec.ofChange walkTimesWrong)

/-- 'tithinglaw01.WalkBounds': WHATEVER THE INPUT: true; the input reads as it did. -/
def walkBoundsSpec : ChangeSpec := { name := "walkBounds", fn := fun _ => fun
  | [d1, d2, d3] => { results := [.lit (.bool true)], args := [d1, d2, d3] }
  | _ => none }
def walkBoundsRow : OpenClaim := { program := "ytpnkgjkoophckaa", sum := "0ad3a5bcb118552f27b8a3aac7f83989345c6e3f0694fe6ca07c3ca366c8a452", func := "tithing/tithinglaw01.WalkBounds", spec := "walkBounds", unfollowed := true, recurses := true, plainKeys := false, apart := false }
def WalkBoundsSaid : Prop := walkBoundsRow.holds Try.pinned (OpenSpec.ofChange walkBoundsSpec)

/-- ITS FALSE NEIGHBOUR: 'it returns false'. Refute it at one input. -/
def walkBoundsWrong : ChangeSpec := { name := "walkBounds", fn := fun _ => fun
  | [d1, d2, d3] => { results := [.lit (.bool false)], args := [d1, d2, d3] }
  | _ => none }
def WalkBoundsWrongFalsely : Prop := walkBoundsRow.holds Try.pinned (OpenSpec.ofChange walkBoundsWrong)

/-- 'tithinglaw01.WalkFaults': WHATEVER THE INPUT: true; the input reads as it did. -/
def walkFaultsSpec : ChangeSpec := { name := "walkFaults", fn := fun _ => fun
  | [d1, d2, d3, d4] => { results := [.lit (.bool true)], args := [d1, d2, d3, d4] }
  | _ => none }
def walkFaultsRow : OpenClaim := { program := "ytpnkgjkoophckaa", sum := "0ad3a5bcb118552f27b8a3aac7f83989345c6e3f0694fe6ca07c3ca366c8a452", func := "tithing/tithinglaw01.WalkFaults", spec := "walkFaults", unfollowed := true, recurses := true, plainKeys := false, apart := false }
def WalkFaultsSaid : Prop := walkFaultsRow.holds Try.pinned (OpenSpec.ofChange walkFaultsSpec)

/-- ITS FALSE NEIGHBOUR: 'it returns false'. Refute it at one input. -/
def walkFaultsWrong : ChangeSpec := { name := "walkFaults", fn := fun _ => fun
  | [d1, d2, d3, d4] => { results := [.lit (.bool false)], args := [d1, d2, d3, d4] }
  | _ => none }
def WalkFaultsWrongFalsely : Prop := walkFaultsRow.holds Try.pinned (OpenSpec.ofChange walkFaultsWrong)

/-- 'tithinglaw01.WalkNoFewer': WHATEVER THE INPUT: true; the input reads as it did. -/
def walkNoFewerSpec : ChangeSpec := { name := "walkNoFewer", fn := fun _ => fun
  | [d1, d2, d3, d4] => { results := [.lit (.bool true)], args := [d1, d2, d3, d4] }
  | _ => none }
def walkNoFewerRow : OpenClaim := { program := "ytpnkgjkoophckaa", sum := "0ad3a5bcb118552f27b8a3aac7f83989345c6e3f0694fe6ca07c3ca366c8a452", func := "tithing/tithinglaw01.WalkNoFewer", spec := "walkNoFewer", unfollowed := true, recurses := true, plainKeys := false, apart := false }
def WalkNoFewerSaid : Prop := walkNoFewerRow.holds Try.pinned (OpenSpec.ofChange walkNoFewerSpec)

/-- ITS FALSE NEIGHBOUR: 'it returns false'. Refute it at one input. -/
def walkNoFewerWrong : ChangeSpec := { name := "walkNoFewer", fn := fun _ => fun
  | [d1, d2, d3, d4] => { results := [.lit (.bool false)], args := [d1, d2, d3, d4] }
  | _ => none }
def WalkNoFewerWrongFalsely : Prop := walkNoFewerRow.holds Try.pinned (OpenSpec.ofChange walkNoFewerWrong)

/-- 'tithinglaw01.WalkTruth': WHATEVER THE INPUT: true; the input reads as it did. -/
def walkTruthSpec : ChangeSpec := { name := "walkTruth", fn := fun _ => fun
  | [d1, d2, d3] => { results := [.lit (.bool true)], args := [d1, d2, d3] }
  | _ => none }
def walkTruthRow : OpenClaim := { program := "ytpnkgjkoophckaa", sum := "0ad3a5bcb118552f27b8a3aac7f83989345c6e3f0694fe6ca07c3ca366c8a452", func := "tithing/tithinglaw01.WalkTruth", spec := "walkTruth", unfollowed := true, recurses := true, plainKeys := false, apart := false }
def WalkTruthSaid : Prop := walkTruthRow.holds Try.pinned (OpenSpec.ofChange walkTruthSpec)

/-- ITS FALSE NEIGHBOUR: 'it returns false'. Refute it at one input. -/
def walkTruthWrong : ChangeSpec := { name := "walkTruth", fn := fun _ => fun
  | [d1, d2, d3] => { results := [.lit (.bool false)], args := [d1, d2, d3] }
  | _ => none }
def WalkTruthWrongFalsely : Prop := walkTruthRow.holds Try.pinned (OpenSpec.ofChange walkTruthWrong)

/-- 'tithinglaw01.WalkNames': WHATEVER THE INPUT: true; the input reads as it did. -/
def walkNamesSpec : ChangeSpec := { name := "walkNames", fn := fun _ => fun
  | [] => { results := [.lit (.bool true)], args := [] }
  | _ => none }
def walkNamesRow : OpenClaim := { program := "ytpnkgjkoophckaa", sum := "0ad3a5bcb118552f27b8a3aac7f83989345c6e3f0694fe6ca07c3ca366c8a452", func := "tithing/tithinglaw01.WalkNames", spec := "walkNames", unfollowed := true, recurses := true, plainKeys := false, apart := false }
def WalkNamesSaid : Prop := walkNamesRow.holds Try.pinned (OpenSpec.ofChange walkNamesSpec)

/-- ITS FALSE NEIGHBOUR: 'it returns false'. Refute it at one input. -/
def walkNamesWrong : ChangeSpec := { name := "walkNames", fn := fun _ => fun
  | [] => { results := [.lit (.bool false)], args := [] }
  | _ => none }
def WalkNamesWrongFalsely : Prop := walkNamesRow.holds Try.pinned (OpenSpec.ofChange walkNamesWrong)

/- THE SECOND FORM. 'bulk': how many values and letters a reading holds, each counted each time it is reached (what is shared counts as often as it is met; a slice's spare places count too). A statement '..UptoSaid' is the law's where the arguments, and the package variables that the reading takes, are together of bulk at most 1048576: NARROWER than '..Said'. Prove '..Said' where nothing that the law and all that it calls make is longer than what came in: it says more and counts as full. Else prove '..UptoSaid'. A law counts once. -/
mutual
def uptoBulk {H : Type} : DataW H → Nat
  | .lit (.string bytes) => bytes.length + 1
  | .lit _ => 1
  | .nil => 1
  | .ptr d => uptoBulk d + 1
  | .slice elems spare => uptoBulkAll elems + uptoBulkAll spare + 1
  | .agg parts => uptoBulkAll parts + 1
  | .iface _ d => uptoBulk d + 1
  | .map entries => uptoBulkEntries entries + 1
  | .held _ => 1
def uptoBulkAll {H : Type} : List (DataW H) → Nat
  | [] => 0
  | d :: r => uptoBulk d + uptoBulkAll r
def uptoBulkEntries {H : Type} : List (Lit × DataW H) → Nat
  | [] => 0
  | x :: r => uptoBulkEntry x + uptoBulkEntries r
def uptoBulkEntry {H : Type} : Lit × DataW H → Nat
  | (.string bytes, d) => bytes.length + uptoBulk d + 1
  | (_, d) => uptoBulk d + 1
 end
def uptoSmall : (H : Type) → List (DataW H) → Bool := fun _ ds => decide (uptoBulkAll ds ≤ 1048576)
def OpenSpec.upto (s : _root_.Go.ChangeSpec) : _root_.Go.OpenSpec := { _root_.Go.OpenSpec.ofChange s with cond := some uptoSmall }

/-- 'tithinglaw01.WalkTours', WHERE WHAT IT READS IS OF BULK AT MOST 1048576: true; the input reads as it did. -/
def walkToursUptoRow : OpenClaim := { program := "ytpnkgjkoophckaa", sum := "0ad3a5bcb118552f27b8a3aac7f83989345c6e3f0694fe6ca07c3ca366c8a452", func := "tithing/tithinglaw01.WalkTours", spec := "walkTours", unfollowed := true, recurses := true, plainKeys := false, apart := false, narrowed := true }
def WalkToursUptoSaid : Prop := walkToursUptoRow.holds Try.pinned (OpenSpec.upto walkToursSpec)

/-- 'tithinglaw01.WalkLeasts', WHERE WHAT IT READS IS OF BULK AT MOST 1048576: true; the input reads as it did. -/
def walkLeastsUptoRow : OpenClaim := { program := "ytpnkgjkoophckaa", sum := "0ad3a5bcb118552f27b8a3aac7f83989345c6e3f0694fe6ca07c3ca366c8a452", func := "tithing/tithinglaw01.WalkLeasts", spec := "walkLeasts", unfollowed := true, recurses := true, plainKeys := false, apart := false, narrowed := true }
def WalkLeastsUptoSaid : Prop := walkLeastsUptoRow.holds Try.pinned (OpenSpec.upto walkLeastsSpec)

/-- 'tithinglaw01.WalkJoined', WHERE WHAT IT READS IS OF BULK AT MOST 1048576: true; the input reads as it did. -/
def walkJoinedUptoRow : OpenClaim := { program := "ytpnkgjkoophckaa", sum := "0ad3a5bcb118552f27b8a3aac7f83989345c6e3f0694fe6ca07c3ca366c8a452", func := "tithing/tithinglaw01.WalkJoined", spec := "walkJoined", unfollowed := true, recurses := true, plainKeys := false, apart := false, narrowed := true }
def WalkJoinedUptoSaid : Prop := walkJoinedUptoRow.holds Try.pinned (OpenSpec.upto walkJoinedSpec)

/-- 'tithinglaw01.WalkMany', WHERE WHAT IT READS IS OF BULK AT MOST 1048576: true; the input reads as it did. -/
def walkManyUptoRow : OpenClaim := { program := "ytpnkgjkoophckaa", sum := "0ad3a5bcb118552f27b8a3aac7f83989345c6e3f0694fe6ca07c3ca366c8a452", func := "tithing/tithinglaw01.WalkMany", spec := "walkMany", unfollowed := true, recurses := true, plainKeys := false, apart := false, narrowed := true }
def WalkManyUptoSaid : Prop := walkManyUptoRow.holds Try.pinned (OpenSpec.upto walkManySpec)

/-- 'tithinglaw01.WalkWays', WHERE WHAT IT READS IS OF BULK AT MOST 1048576: true; the input reads as it did. -/
def walkWaysUptoRow : OpenClaim := { program := "ytpnkgjkoophckaa", sum := "0ad3a5bcb118552f27b8a3aac7f83989345c6e3f0694fe6ca07c3ca366c8a452", func := "tithing/tithinglaw01.WalkWays", spec := "walkWays", unfollowed := true, recurses := true, plainKeys := false, apart := false, narrowed := true }
def WalkWaysUptoSaid : Prop := walkWaysUptoRow.holds Try.pinned (OpenSpec.upto walkWaysSpec)

/-- 'tithinglaw01.WalkReturns', WHERE WHAT IT READS IS OF BULK AT MOST 1048576: true; the input reads as it did. -/
def walkReturnsUptoRow : OpenClaim := { program := "ytpnkgjkoophckaa", sum := "0ad3a5bcb118552f27b8a3aac7f83989345c6e3f0694fe6ca07c3ca366c8a452", func := "tithing/tithinglaw01.WalkReturns", spec := "walkReturns", unfollowed := true, recurses := true, plainKeys := false, apart := false, narrowed := true }
def WalkReturnsUptoSaid : Prop := walkReturnsUptoRow.holds Try.pinned (OpenSpec.upto walkReturnsSpec)

/-- 'tithinglaw01.WalkEasier', WHERE WHAT IT READS IS OF BULK AT MOST 1048576: true; the input reads as it did. -/
def walkEasierUptoRow : OpenClaim := { program := "ytpnkgjkoophckaa", sum := "0ad3a5bcb118552f27b8a3aac7f83989345c6e3f0694fe6ca07c3ca366c8a452", func := "tithing/tithinglaw01.WalkEasier", spec := "walkEasier", unfollowed := true, recurses := true, plainKeys := false, apart := false, narrowed := true }
def WalkEasierUptoSaid : Prop := walkEasierUptoRow.holds Try.pinned (OpenSpec.upto walkEasierSpec)

/-- 'tithinglaw01.WalkPlans', WHERE WHAT IT READS IS OF BULK AT MOST 1048576: true; the input reads as it did. -/
def walkPlansUptoRow : OpenClaim := { program := "ytpnkgjkoophckaa", sum := "0ad3a5bcb118552f27b8a3aac7f83989345c6e3f0694fe6ca07c3ca366c8a452", func := "tithing/tithinglaw01.WalkPlans", spec := "walkPlans", unfollowed := true, recurses := true, plainKeys := false, apart := false, narrowed := true }
def WalkPlansUptoSaid : Prop := walkPlansUptoRow.holds Try.pinned (OpenSpec.upto walkPlansSpec)

/-- 'tithinglaw01.WalkReached', WHERE WHAT IT READS IS OF BULK AT MOST 1048576: true; the input reads as it did. -/
def walkReachedUptoRow : OpenClaim := { program := "ytpnkgjkoophckaa", sum := "0ad3a5bcb118552f27b8a3aac7f83989345c6e3f0694fe6ca07c3ca366c8a452", func := "tithing/tithinglaw01.WalkReached", spec := "walkReached", unfollowed := true, recurses := true, plainKeys := false, apart := false, narrowed := true }
def WalkReachedUptoSaid : Prop := walkReachedUptoRow.holds Try.pinned (OpenSpec.upto walkReachedSpec)

/-- 'tithinglaw01.WalkTimes', WHERE WHAT IT READS IS OF BULK AT MOST 1048576: true; the input reads as it did. -/
def walkTimesUptoRow : OpenClaim := { program := "ytpnkgjkoophckaa", sum := "0ad3a5bcb118552f27b8a3aac7f83989345c6e3f0694fe6ca07c3ca366c8a452", func := "tithing/tithinglaw01.WalkTimes", spec := "walkTimes", unfollowed := true, recurses := true, plainKeys := false, apart := false, narrowed := true }
def WalkTimesUptoSaid : Prop := walkTimesUptoRow.holds Try.pinned (OpenSpec.upto walkTimesSpec)

/-- 'tithinglaw01.WalkBounds', WHERE WHAT IT READS IS OF BULK AT MOST 1048576: true; the input reads as it did. -/
def walkBoundsUptoRow : OpenClaim := { program := "ytpnkgjkoophckaa", sum := "0ad3a5bcb118552f27b8a3aac7f83989345c6e3f0694fe6ca07c3ca366c8a452", func := "tithing/tithinglaw01.WalkBounds", spec := "walkBounds", unfollowed := true, recurses := true, plainKeys := false, apart := false, narrowed := true }
def WalkBoundsUptoSaid : Prop := walkBoundsUptoRow.holds Try.pinned (OpenSpec.upto walkBoundsSpec)

/-- 'tithinglaw01.WalkFaults', WHERE WHAT IT READS IS OF BULK AT MOST 1048576: true; the input reads as it did. -/
def walkFaultsUptoRow : OpenClaim := { program := "ytpnkgjkoophckaa", sum := "0ad3a5bcb118552f27b8a3aac7f83989345c6e3f0694fe6ca07c3ca366c8a452", func := "tithing/tithinglaw01.WalkFaults", spec := "walkFaults", unfollowed := true, recurses := true, plainKeys := false, apart := false, narrowed := true }
def WalkFaultsUptoSaid : Prop := walkFaultsUptoRow.holds Try.pinned (OpenSpec.upto walkFaultsSpec)

/-- 'tithinglaw01.WalkNoFewer', WHERE WHAT IT READS IS OF BULK AT MOST 1048576: true; the input reads as it did. -/
def walkNoFewerUptoRow : OpenClaim := { program := "ytpnkgjkoophckaa", sum := "0ad3a5bcb118552f27b8a3aac7f83989345c6e3f0694fe6ca07c3ca366c8a452", func := "tithing/tithinglaw01.WalkNoFewer", spec := "walkNoFewer", unfollowed := true, recurses := true, plainKeys := false, apart := false, narrowed := true }
def WalkNoFewerUptoSaid : Prop := walkNoFewerUptoRow.holds Try.pinned (OpenSpec.upto walkNoFewerSpec)

/-- 'tithinglaw01.WalkTruth', WHERE WHAT IT READS IS OF BULK AT MOST 1048576: true; the input reads as it did. -/
def walkTruthUptoRow : OpenClaim := { program := "ytpnkgjkoophckaa", sum := "0ad3a5bcb118552f27b8a3aac7f83989345c6e3f0694fe6ca07c3ca366c8a452", func := "tithing/tithinglaw01.WalkTruth", spec := "walkTruth", unfollowed := true, recurses := true, plainKeys := false, apart := false, narrowed := true }
def WalkTruthUptoSaid : Prop := walkTruthUptoRow.holds Try.pinned (OpenSpec.upto walkTruthSpec)

/-- 'tithinglaw01.WalkNames', WHERE WHAT IT READS IS OF BULK AT MOST 1048576: true; the input reads as it did. -/
def walkNamesUptoRow : OpenClaim := { program := "ytpnkgjkoophckaa", sum := "0ad3a5bcb118552f27b8a3aac7f83989345c6e3f0694fe6ca07c3ca366c8a452", func := "tithing/tithinglaw01.WalkNames", spec := "walkNames", unfollowed := true, recurses := true, plainKeys := false, apart := false, narrowed := true }
def WalkNamesUptoSaid : Prop := walkNamesUptoRow.holds Try.pinned (OpenSpec.upto walkNamesSpec)

end Rows
end Go.Proofs.Ytpnkgjkoophckaa
