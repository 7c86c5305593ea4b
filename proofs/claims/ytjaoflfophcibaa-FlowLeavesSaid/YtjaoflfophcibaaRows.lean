/-
  No cell of these rows narrows 'for every input' (looked for: loops, veiled, ifaces, maps, wideKeys, modest, calm, conditions, laid).
  DERIVED. THE GIVEN ROWS OF THIS SEAT. 14 by the template 'for every input the law returns true; each argument reads behind the call as it read before'; 0 by the template 'total and deterministic' (their statements: YtjaoflfophcibaaTotals.lean).
  GIVEN WITH THE SEED: the statements are not yours to turn. If you find one false, say at which input.
  Laid BY PROGRAM, IN A SANDBOX (cutbox-rows.mjs): the forced cells as the released guide's own fill.sh prints them over the translation 0e6071fe3b1922b0… (all of the seat's roots in one cut). By AI agents, Wed Nov 11 2026. No macro, syntax, notation, axiom, sorry.
-/
import Derived.Test.YtjaoflfophcibaaChecked
import GoSem.Claim
import GoSem.ClaimJoined
import GoSem.ClaimMapViews
import Derived.JoinedTies
import Derived.KernelRfl
namespace Go.Proofs.Ytjaoflfophcibaa
/- THE CELL 'sum', in the pinned program and in every row, IS THE sha256 OF THE DUMP (.gsa) THAT YtjaoflfophcibaaProg.lean LOADS. Nothing in Lean hashes anything: it is a label: what it is worth is what the hold of that sum in a sandbox is worth. -/
noncomputable def Try.pinned : Pinned := { name := "ytjaoflfophcibaa", sum := "0e6071fe3b1922b0bda3a04027b37454634a7271e5b2df0e01c0ce0fa2eecdfd", checked := Try.checked }
namespace Rows
def none {H : Type} : Left H := { results := [], args := [] }

/-- 'tithinglaw07.FlowWoulds': WHATEVER THE INPUT: true; the input reads as it did. -/
def flowWouldsSpec : ChangeSpec := { name := "flowWoulds", fn := fun _ => fun
  | [d1, d2, d3] => { results := [.lit (.bool true)], args := [d1, d2, d3] }
  | _ => none }
def flowWouldsRow : OpenClaim := { program := "ytjaoflfophcibaa", sum := "0e6071fe3b1922b0bda3a04027b37454634a7271e5b2df0e01c0ce0fa2eecdfd", func := "tithing/tithinglaw07.FlowWoulds", spec := "flowWoulds", unfollowed := true, recurses := true, plainKeys := false, apart := false }
def FlowWouldsSaid : Prop := flowWouldsRow.holds Try.pinned (OpenSpec.ofChange flowWouldsSpec)

/-- ITS FALSE NEIGHBOUR: 'it returns false'. Refute it at one input. -/
def flowWouldsWrong : ChangeSpec := { name := "flowWoulds", fn := fun _ => fun
  | [d1, d2, d3] => { results := [.lit (.bool false)], args := [d1, d2, d3] }
  | _ => none }
def FlowWouldsWrongFalsely : Prop := flowWouldsRow.holds Try.pinned (OpenSpec.ofChange flowWouldsWrong)

/-- 'tithinglaw07.FlowProjects': WHATEVER THE INPUT: true; the input reads as it did. -/
def flowProjectsSpec : ChangeSpec := { name := "flowProjects", fn := fun _ => fun
  | [d1, d2] => { results := [.lit (.bool true)], args := [d1, d2] }
  | _ => none }
def flowProjectsRow : OpenClaim := { program := "ytjaoflfophcibaa", sum := "0e6071fe3b1922b0bda3a04027b37454634a7271e5b2df0e01c0ce0fa2eecdfd", func := "tithing/tithinglaw07.FlowProjects", spec := "flowProjects", unfollowed := true, recurses := true, plainKeys := false, apart := false }
def FlowProjectsSaid : Prop := flowProjectsRow.holds Try.pinned (OpenSpec.ofChange flowProjectsSpec)

/-- ITS FALSE NEIGHBOUR: 'it returns false'. Refute it at one input. -/
def flowProjectsWrong : ChangeSpec := { name := "flowProjects", fn := fun _ => fun
  | [d1, d2] => { results := [.lit (.bool false)], args := [d1, d2] }
  | _ => none }
def FlowProjectsWrongFalsely : Prop := flowProjectsRow.holds Try.pinned (OpenSpec.ofChange flowProjectsWrong)

/-- 'tithinglaw07.FlowLeaves': WHATEVER THE INPUT: true; the input reads as it did. -/
def flowLeavesSpec : ChangeSpec := { name := "flowLeaves", fn := fun _ => fun
  | [d] => { results := [.lit (.bool true)], args := [d] }
  | _ => none }
def flowLeavesRow : OpenClaim := { program := "ytjaoflfophcibaa", sum := "0e6071fe3b1922b0bda3a04027b37454634a7271e5b2df0e01c0ce0fa2eecdfd", func := "tithing/tithinglaw07.FlowLeaves", spec := "flowLeaves", unfollowed := true, recurses := true, plainKeys := false, apart := false }
def FlowLeavesSaid : Prop := flowLeavesRow.holds Try.pinned (OpenSpec.ofChange flowLeavesSpec)

/-- ITS FALSE NEIGHBOUR: 'it returns false'. Refute it at one input. -/
def flowLeavesWrong : ChangeSpec := { name := "flowLeaves", fn := fun _ => fun
  | [d] => { results := [.lit (.bool false)], args := [d] }
  | _ => none }
def FlowLeavesWrongFalsely : Prop := flowLeavesRow.holds Try.pinned (OpenSpec.ofChange flowLeavesWrong)

/-- 'tithinglaw07.FlowEnds': WHATEVER THE INPUT: true; the input reads as it did. -/
def flowEndsSpec : ChangeSpec := { name := "flowEnds", fn := fun _ => fun
  | [d1, d2, d3] => { results := [.lit (.bool true)], args := [d1, d2, d3] }
  | _ => none }
def flowEndsRow : OpenClaim := { program := "ytjaoflfophcibaa", sum := "0e6071fe3b1922b0bda3a04027b37454634a7271e5b2df0e01c0ce0fa2eecdfd", func := "tithing/tithinglaw07.FlowEnds", spec := "flowEnds", unfollowed := true, recurses := true, plainKeys := false, apart := false }
def FlowEndsSaid : Prop := flowEndsRow.holds Try.pinned (OpenSpec.ofChange flowEndsSpec)

/-- ITS FALSE NEIGHBOUR: 'it returns false'. Refute it at one input. -/
def flowEndsWrong : ChangeSpec := { name := "flowEnds", fn := fun _ => fun
  | [d1, d2, d3] => { results := [.lit (.bool false)], args := [d1, d2, d3] }
  | _ => none }
def FlowEndsWrongFalsely : Prop := flowEndsRow.holds Try.pinned (OpenSpec.ofChange flowEndsWrong)

/-- 'tithinglaw07.FlowWould': WHATEVER THE INPUT: true; the input reads as it did. -/
def flowWouldSpec : ChangeSpec := { name := "flowWould", fn := fun _ => fun
  | [d1, d2, d3, d4] => { results := [.lit (.bool true)], args := [d1, d2, d3, d4] }
  | _ => none }
def flowWouldRow : OpenClaim := { program := "ytjaoflfophcibaa", sum := "0e6071fe3b1922b0bda3a04027b37454634a7271e5b2df0e01c0ce0fa2eecdfd", func := "tithing/tithinglaw07.FlowWould", spec := "flowWould", unfollowed := true, recurses := true, plainKeys := false, apart := false }
def FlowWouldSaid : Prop := flowWouldRow.holds Try.pinned (OpenSpec.ofChange flowWouldSpec)

/-- ITS FALSE NEIGHBOUR: 'it returns false'. Refute it at one input. -/
def flowWouldWrong : ChangeSpec := { name := "flowWould", fn := fun _ => fun
  | [d1, d2, d3, d4] => { results := [.lit (.bool false)], args := [d1, d2, d3, d4] }
  | _ => none }
def FlowWouldWrongFalsely : Prop := flowWouldRow.holds Try.pinned (OpenSpec.ofChange flowWouldWrong)

/-- 'tithinglaw07.FlowLeft': WHATEVER THE INPUT: true; the input reads as it did. -/
def flowLeftSpec : ChangeSpec := { name := "flowLeft", fn := fun _ => fun
  | [d1, d2, d3, d4] => { results := [.lit (.bool true)], args := [d1, d2, d3, d4] }
  | _ => none }
def flowLeftRow : OpenClaim := { program := "ytjaoflfophcibaa", sum := "0e6071fe3b1922b0bda3a04027b37454634a7271e5b2df0e01c0ce0fa2eecdfd", func := "tithing/tithinglaw07.FlowLeft", spec := "flowLeft", unfollowed := true, recurses := true, plainKeys := false, apart := false }
def FlowLeftSaid : Prop := flowLeftRow.holds Try.pinned (OpenSpec.ofChange flowLeftSpec)

/-- ITS FALSE NEIGHBOUR: 'it returns false'. Refute it at one input. -/
def flowLeftWrong : ChangeSpec := { name := "flowLeft", fn := fun _ => fun
  | [d1, d2, d3, d4] => { results := [.lit (.bool false)], args := [d1, d2, d3, d4] }
  | _ => none }
def FlowLeftWrongFalsely : Prop := flowLeftRow.holds Try.pinned (OpenSpec.ofChange flowLeftWrong)

/-- 'tithinglaw07.FlowNarrower': WHATEVER THE INPUT: true; the input reads as it did. -/
def flowNarrowerSpec : ChangeSpec := { name := "flowNarrower", fn := fun _ => fun
  | [d1, d2, d3, d4, d5] => { results := [.lit (.bool true)], args := [d1, d2, d3, d4, d5] }
  | _ => none }
def flowNarrowerRow : OpenClaim := { program := "ytjaoflfophcibaa", sum := "0e6071fe3b1922b0bda3a04027b37454634a7271e5b2df0e01c0ce0fa2eecdfd", func := "tithing/tithinglaw07.FlowNarrower", spec := "flowNarrower", unfollowed := true, recurses := true, plainKeys := false, apart := false }
def FlowNarrowerSaid : Prop := flowNarrowerRow.holds Try.pinned (OpenSpec.ofChange flowNarrowerSpec)

/-- ITS FALSE NEIGHBOUR: 'it returns false'. Refute it at one input. -/
def flowNarrowerWrong : ChangeSpec := { name := "flowNarrower", fn := fun _ => fun
  | [d1, d2, d3, d4, d5] => { results := [.lit (.bool false)], args := [d1, d2, d3, d4, d5] }
  | _ => none }
def FlowNarrowerWrongFalsely : Prop := flowNarrowerRow.holds Try.pinned (OpenSpec.ofChange flowNarrowerWrong)

/-- 'tithinglaw07.FlowStill': WHATEVER THE INPUT: true; the input reads as it did. -/
def flowStillSpec : ChangeSpec := { name := "flowStill", fn := fun _ => fun
  | [d1, d2] => { results := [.lit (.bool true)], args := [d1, d2] }
  | _ => none }
def flowStillRow : OpenClaim := { program := "ytjaoflfophcibaa", sum := "0e6071fe3b1922b0bda3a04027b37454634a7271e5b2df0e01c0ce0fa2eecdfd", func := "tithing/tithinglaw07.FlowStill", spec := "flowStill", unfollowed := true, recurses := true, plainKeys := false, apart := false }
def FlowStillSaid : Prop := flowStillRow.holds Try.pinned (OpenSpec.ofChange flowStillSpec)

/-- ITS FALSE NEIGHBOUR: 'it returns false'. Refute it at one input. -/
def flowStillWrong : ChangeSpec := { name := "flowStill", fn := fun _ => fun
  | [d1, d2] => { results := [.lit (.bool false)], args := [d1, d2] }
  | _ => none }
def FlowStillWrongFalsely : Prop := flowStillRow.holds Try.pinned (OpenSpec.ofChange flowStillWrong)

/-- 'tithinglaw07.FlowFurther': WHATEVER THE INPUT: true; the input reads as it did. -/
def flowFurtherSpec : ChangeSpec := { name := "flowFurther", fn := fun _ => fun
  | [d1, d2, d3] => { results := [.lit (.bool true)], args := [d1, d2, d3] }
  | _ => none }
def flowFurtherRow : OpenClaim := { program := "ytjaoflfophcibaa", sum := "0e6071fe3b1922b0bda3a04027b37454634a7271e5b2df0e01c0ce0fa2eecdfd", func := "tithing/tithinglaw07.FlowFurther", spec := "flowFurther", unfollowed := true, recurses := true, plainKeys := false, apart := false }
def FlowFurtherSaid : Prop := flowFurtherRow.holds Try.pinned (OpenSpec.ofChange flowFurtherSpec)

/-- ITS FALSE NEIGHBOUR: 'it returns false'. Refute it at one input. -/
def flowFurtherWrong : ChangeSpec := { name := "flowFurther", fn := fun _ => fun
  | [d1, d2, d3] => { results := [.lit (.bool false)], args := [d1, d2, d3] }
  | _ => none }
def FlowFurtherWrongFalsely : Prop := flowFurtherRow.holds Try.pinned (OpenSpec.ofChange flowFurtherWrong)

/-- 'tithinglaw07.FlowBounds': WHATEVER THE INPUT: true; the input reads as it did. -/
def flowBoundsSpec : ChangeSpec := { name := "flowBounds", fn := fun _ => fun
  | [d] => { results := [.lit (.bool true)], args := [d] }
  | _ => none }
def flowBoundsRow : OpenClaim := { program := "ytjaoflfophcibaa", sum := "0e6071fe3b1922b0bda3a04027b37454634a7271e5b2df0e01c0ce0fa2eecdfd", func := "tithing/tithinglaw07.FlowBounds", spec := "flowBounds", unfollowed := true, recurses := true, plainKeys := false, apart := false }
def FlowBoundsSaid : Prop := flowBoundsRow.holds Try.pinned (OpenSpec.ofChange flowBoundsSpec)

/-- ITS FALSE NEIGHBOUR: 'it returns false'. Refute it at one input. -/
def flowBoundsWrong : ChangeSpec := { name := "flowBounds", fn := fun _ => fun
  | [d] => { results := [.lit (.bool false)], args := [d] }
  | _ => none }
def FlowBoundsWrongFalsely : Prop := flowBoundsRow.holds Try.pinned (OpenSpec.ofChange flowBoundsWrong)

/-- 'tithinglaw07.FlowFails': WHATEVER THE INPUT: true; the input reads as it did. -/
def flowFailsSpec : ChangeSpec := { name := "flowFails", fn := fun _ => fun
  | [d1, d2, d3, d4] => { results := [.lit (.bool true)], args := [d1, d2, d3, d4] }
  | _ => none }
def flowFailsRow : OpenClaim := { program := "ytjaoflfophcibaa", sum := "0e6071fe3b1922b0bda3a04027b37454634a7271e5b2df0e01c0ce0fa2eecdfd", func := "tithing/tithinglaw07.FlowFails", spec := "flowFails", unfollowed := true, recurses := true, plainKeys := false, apart := false }
def FlowFailsSaid : Prop := flowFailsRow.holds Try.pinned (OpenSpec.ofChange flowFailsSpec)

/-- ITS FALSE NEIGHBOUR: 'it returns false'. Refute it at one input. -/
def flowFailsWrong : ChangeSpec := { name := "flowFails", fn := fun _ => fun
  | [d1, d2, d3, d4] => { results := [.lit (.bool false)], args := [d1, d2, d3, d4] }
  | _ => none }
def FlowFailsWrongFalsely : Prop := flowFailsRow.holds Try.pinned (OpenSpec.ofChange flowFailsWrong)

/-- 'tithinglaw07.FlowPlays': WHATEVER THE INPUT: true; the input reads as it did. -/
def flowPlaysSpec : ChangeSpec := { name := "flowPlays", fn := fun _ => fun
  | [d1, d2] => { results := [.lit (.bool true)], args := [d1, d2] }
  | _ => none }
def flowPlaysRow : OpenClaim := { program := "ytjaoflfophcibaa", sum := "0e6071fe3b1922b0bda3a04027b37454634a7271e5b2df0e01c0ce0fa2eecdfd", func := "tithing/tithinglaw07.FlowPlays", spec := "flowPlays", unfollowed := true, recurses := true, plainKeys := false, apart := false }
def FlowPlaysSaid : Prop := flowPlaysRow.holds Try.pinned (OpenSpec.ofChange flowPlaysSpec)

/-- ITS FALSE NEIGHBOUR: 'it returns false'. Refute it at one input. -/
def flowPlaysWrong : ChangeSpec := { name := "flowPlays", fn := fun _ => fun
  | [d1, d2] => { results := [.lit (.bool false)], args := [d1, d2] }
  | _ => none }
def FlowPlaysWrongFalsely : Prop := flowPlaysRow.holds Try.pinned (OpenSpec.ofChange flowPlaysWrong)

/-- 'tithinglaw07.FlowTruth': WHATEVER THE INPUT: true; the input reads as it did. -/
def flowTruthSpec : ChangeSpec := { name := "flowTruth", fn := fun _ => fun
  | [d1, d2, d3] => { results := [.lit (.bool true)], args := [d1, d2, d3] }
  | _ => none }
def flowTruthRow : OpenClaim := { program := "ytjaoflfophcibaa", sum := "0e6071fe3b1922b0bda3a04027b37454634a7271e5b2df0e01c0ce0fa2eecdfd", func := "tithing/tithinglaw07.FlowTruth", spec := "flowTruth", unfollowed := true, recurses := true, plainKeys := false, apart := false }
def FlowTruthSaid : Prop := flowTruthRow.holds Try.pinned (OpenSpec.ofChange flowTruthSpec)

/-- ITS FALSE NEIGHBOUR: 'it returns false'. Refute it at one input. -/
def flowTruthWrong : ChangeSpec := { name := "flowTruth", fn := fun _ => fun
  | [d1, d2, d3] => { results := [.lit (.bool false)], args := [d1, d2, d3] }
  | _ => none }
def FlowTruthWrongFalsely : Prop := flowTruthRow.holds Try.pinned (OpenSpec.ofChange flowTruthWrong)

/-- 'tithinglaw07.FlowNames': WHATEVER THE INPUT: true; the input reads as it did. -/
def flowNamesSpec : ChangeSpec := { name := "flowNames", fn := fun _ => fun
  | [] => { results := [.lit (.bool true)], args := [] }
  | _ => none }
def flowNamesRow : OpenClaim := { program := "ytjaoflfophcibaa", sum := "0e6071fe3b1922b0bda3a04027b37454634a7271e5b2df0e01c0ce0fa2eecdfd", func := "tithing/tithinglaw07.FlowNames", spec := "flowNames", unfollowed := true, recurses := true, plainKeys := false, apart := false }
def FlowNamesSaid : Prop := flowNamesRow.holds Try.pinned (OpenSpec.ofChange flowNamesSpec)

/-- ITS FALSE NEIGHBOUR: 'it returns false'. Refute it at one input. -/
def flowNamesWrong : ChangeSpec := { name := "flowNames", fn := fun _ => fun
  | [] => { results := [.lit (.bool false)], args := [] }
  | _ => none }
def FlowNamesWrongFalsely : Prop := flowNamesRow.holds Try.pinned (OpenSpec.ofChange flowNamesWrong)

/- THE SECOND FORM. 'bulk': how many values and letters a reading holds, each counted each time it is reached (what is shared counts as often as it is met; a slice's spare places count too). A statement '..UptoSaid' is the law's where the arguments, and the package variables that the reading takes, are together of bulk at most 1048576: NARROWER than '..Said'. Prove '..Said' where nothing that the law and all that it calls make is longer than what came in: it says more and counts as full. Else prove '..UptoSaid'. A law counts once. -/
mutual
def uptoBulk {H : Type} : DataW H → Nat
  | .lit (.string bytes) => bytes.length + 1
  | .lit _ => 1
  | .nil => 1
  | .ptr d => uptoBulk d + 1
  | .slice elems spare => uptoBulkAll elems + uptoBulkAll spare + 1
  | .agg parts => uptoBulkAll parts + 1
  | .iface _ d => uptoBulk d + 1
  | .map entries => uptoBulkEntries entries + 1
  | .held _ => 1
def uptoBulkAll {H : Type} : List (DataW H) → Nat
  | [] => 0
  | d :: r => uptoBulk d + uptoBulkAll r
def uptoBulkEntries {H : Type} : List (Lit × DataW H) → Nat
  | [] => 0
  | x :: r => uptoBulkEntry x + uptoBulkEntries r
def uptoBulkEntry {H : Type} : Lit × DataW H → Nat
  | (.string bytes, d) => bytes.length + uptoBulk d + 1
  | (_, d) => uptoBulk d + 1
 end
def uptoSmall : (H : Type) → List (DataW H) → Bool := fun _ ds => decide (uptoBulkAll ds ≤ 1048576)
def OpenSpec.upto (s : _root_.Go.ChangeSpec) : _root_.Go.OpenSpec := { _root_.Go.OpenSpec.ofChange s with cond := some uptoSmall }

/-- 'tithinglaw07.FlowWoulds', WHERE WHAT IT READS IS OF BULK AT MOST 1048576: true; the input reads as it did. -/
def flowWouldsUptoRow : OpenClaim := { program := "ytjaoflfophcibaa", sum := "0e6071fe3b1922b0bda3a04027b37454634a7271e5b2df0e01c0ce0fa2eecdfd", func := "tithing/tithinglaw07.FlowWoulds", spec := "flowWoulds", unfollowed := true, recurses := true, plainKeys := false, apart := false, narrowed := true }
def FlowWouldsUptoSaid : Prop := flowWouldsUptoRow.holds Try.pinned (OpenSpec.upto flowWouldsSpec)

/-- 'tithinglaw07.FlowProjects', WHERE WHAT IT READS IS OF BULK AT MOST 1048576: true; the input reads as it did. -/
def flowProjectsUptoRow : OpenClaim := { program := "ytjaoflfophcibaa", sum := "0e6071fe3b1922b0bda3a04027b37454634a7271e5b2df0e01c0ce0fa2eecdfd", func := "tithing/tithinglaw07.FlowProjects", spec := "flowProjects", unfollowed := true, recurses := true, plainKeys := false, apart := false, narrowed := true }
def FlowProjectsUptoSaid : Prop := flowProjectsUptoRow.holds Try.pinned (OpenSpec.upto flowProjectsSpec)

/-- 'tithinglaw07.FlowLeaves', WHERE WHAT IT READS IS OF BULK AT MOST 1048576: true; the input reads as it did. -/
def flowLeavesUptoRow : OpenClaim := { program := "ytjaoflfophcibaa", sum := "0e6071fe3b1922b0bda3a04027b37454634a7271e5b2df0e01c0ce0fa2eecdfd", func := "tithing/tithinglaw07.FlowLeaves", spec := "flowLeaves", unfollowed := true, recurses := true, plainKeys := false, apart := false, narrowed := true }
def FlowLeavesUptoSaid : Prop := flowLeavesUptoRow.holds Try.pinned (OpenSpec.upto flowLeavesSpec)

/-- 'tithinglaw07.FlowEnds', WHERE WHAT IT READS IS OF BULK AT MOST 1048576: true; the input reads as it did. -/
def flowEndsUptoRow : OpenClaim := { program := "ytjaoflfophcibaa", sum := "0e6071fe3b1922b0bda3a04027b37454634a7271e5b2df0e01c0ce0fa2eecdfd", func := "tithing/tithinglaw07.FlowEnds", spec := "flowEnds", unfollowed := true, recurses := true, plainKeys := false, apart := false, narrowed := true }
def FlowEndsUptoSaid : Prop := flowEndsUptoRow.holds Try.pinned (OpenSpec.upto flowEndsSpec)

/-- 'tithinglaw07.FlowWould', WHERE WHAT IT READS IS OF BULK AT MOST 1048576: true; the input reads as it did. -/
def flowWouldUptoRow : OpenClaim := { program := "ytjaoflfophcibaa", sum := "0e6071fe3b1922b0bda3a04027b37454634a7271e5b2df0e01c0ce0fa2eecdfd", func := "tithing/tithinglaw07.FlowWould", spec := "flowWould", unfollowed := true, recurses := true, plainKeys := false, apart := false, narrowed := true }
def FlowWouldUptoSaid : Prop := flowWouldUptoRow.holds Try.pinned (OpenSpec.upto flowWouldSpec)

/-- 'tithinglaw07.FlowLeft', WHERE WHAT IT READS IS OF BULK AT MOST 1048576: true; the input reads as it did. -/
def flowLeftUptoRow : OpenClaim := { program := "ytjaoflfophcibaa", sum := "0e6071fe3b1922b0bda3a04027b37454634a7271e5b2df0e01c0ce0fa2eecdfd", func := "tithing/tithinglaw07.FlowLeft", spec := "flowLeft", unfollowed := true, recurses := true, plainKeys := false, apart := false, narrowed := true }
def FlowLeftUptoSaid : Prop := flowLeftUptoRow.holds Try.pinned (OpenSpec.upto flowLeftSpec)

/-- 'tithinglaw07.FlowNarrower', WHERE WHAT IT READS IS OF BULK AT MOST 1048576: true; the input reads as it did. -/
def flowNarrowerUptoRow : OpenClaim := { program := "ytjaoflfophcibaa", sum := "0e6071fe3b1922b0bda3a04027b37454634a7271e5b2df0e01c0ce0fa2eecdfd", func := "tithing/tithinglaw07.FlowNarrower", spec := "flowNarrower", unfollowed := true, recurses := true, plainKeys := false, apart := false, narrowed := true }
def FlowNarrowerUptoSaid : Prop := flowNarrowerUptoRow.holds Try.pinned (OpenSpec.upto flowNarrowerSpec)

/-- 'tithinglaw07.FlowStill', WHERE WHAT IT READS IS OF BULK AT MOST 1048576: true; the input reads as it did. -/
def flowStillUptoRow : OpenClaim := { program := "ytjaoflfophcibaa", sum := "0e6071fe3b1922b0bda3a04027b37454634a7271e5b2df0e01c0ce0fa2eecdfd", func := "tithing/tithinglaw07.FlowStill", spec := "flowStill", unfollowed := true, recurses := true, plainKeys := false, apart := false, narrowed := true }
def FlowStillUptoSaid : Prop := flowStillUptoRow.holds Try.pinned (OpenSpec.upto flowStillSpec)

/-- 'tithinglaw07.FlowFurther', WHERE WHAT IT READS IS OF BULK AT MOST 1048576: true; the input reads as it did. -/
def flowFurtherUptoRow : OpenClaim := { program := "ytjaoflfophcibaa", sum := "0e6071fe3b1922b0bda3a04027b37454634a7271e5b2df0e01c0ce0fa2eecdfd", func := "tithing/tithinglaw07.FlowFurther", spec := "flowFurther", unfollowed := true, recurses := true, plainKeys := false, apart := false, narrowed := true }
def FlowFurtherUptoSaid : Prop := flowFurtherUptoRow.holds Try.pinned (OpenSpec.upto flowFurtherSpec)

/-- 'tithinglaw07.FlowBounds', WHERE WHAT IT READS IS OF BULK AT MOST 1048576: true; the input reads as it did. -/
def flowBoundsUptoRow : OpenClaim := { program := "ytjaoflfophcibaa", sum := "0e6071fe3b1922b0bda3a04027b37454634a7271e5b2df0e01c0ce0fa2eecdfd", func := "tithing/tithinglaw07.FlowBounds", spec := "flowBounds", unfollowed := true, recurses := true, plainKeys := false, apart := false, narrowed := true }
def FlowBoundsUptoSaid : Prop := flowBoundsUptoRow.holds Try.pinned (OpenSpec.upto flowBoundsSpec)

/-- 'tithinglaw07.FlowFails', WHERE WHAT IT READS IS OF BULK AT MOST 1048576: true; the input reads as it did. -/
def flowFailsUptoRow : OpenClaim := { program := "ytjaoflfophcibaa", sum := "0e6071fe3b1922b0bda3a04027b37454634a7271e5b2df0e01c0ce0fa2eecdfd", func := "tithing/tithinglaw07.FlowFails", spec := "flowFails", unfollowed := true, recurses := true, plainKeys := false, apart := false, narrowed := true }
def FlowFailsUptoSaid : Prop := flowFailsUptoRow.holds Try.pinned (OpenSpec.upto flowFailsSpec)

/-- 'tithinglaw07.FlowPlays', WHERE WHAT IT READS IS OF BULK AT MOST 1048576: true; the input reads as it did. -/
def flowPlaysUptoRow : OpenClaim := { program := "ytjaoflfophcibaa", sum := "0e6071fe3b1922b0bda3a04027b37454634a7271e5b2df0e01c0ce0fa2eecdfd", func := "tithing/tithinglaw07.FlowPlays", spec := "flowPlays", unfollowed := true, recurses := true, plainKeys := false, apart := false, narrowed := true }
def FlowPlaysUptoSaid : Prop := flowPlaysUptoRow.holds Try.pinned (OpenSpec.upto flowPlaysSpec)

/-- 'tithinglaw07.FlowTruth', WHERE WHAT IT READS IS OF BULK AT MOST 1048576: true; the input reads as it did. -/
def flowTruthUptoRow : OpenClaim := { program := "ytjaoflfophcibaa", sum := "0e6071fe3b1922b0bda3a04027b37454634a7271e5b2df0e01c0ce0fa2eecdfd", func := "tithing/tithinglaw07.FlowTruth", spec := "flowTruth", unfollowed := true, recurses := true, plainKeys := false, apart := false, narrowed := true }
def FlowTruthUptoSaid : Prop := flowTruthUptoRow.holds Try.pinned (OpenSpec.upto flowTruthSpec)

/-- 'tithinglaw07.FlowNames', WHERE WHAT IT READS IS OF BULK AT MOST 1048576: true; the input reads as it did. -/
def flowNamesUptoRow : OpenClaim := { program := "ytjaoflfophcibaa", sum := "0e6071fe3b1922b0bda3a04027b37454634a7271e5b2df0e01c0ce0fa2eecdfd", func := "tithing/tithinglaw07.FlowNames", spec := "flowNames", unfollowed := true, recurses := true, plainKeys := false, apart := false, narrowed := true }
def FlowNamesUptoSaid : Prop := flowNamesUptoRow.holds Try.pinned (OpenSpec.upto flowNamesSpec)

end Rows
end Go.Proofs.Ytjaoflfophcibaa
