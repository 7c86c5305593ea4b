/-
  No cell of these rows narrows 'for every input' (looked for: loops, veiled, ifaces, maps, wideKeys, modest, calm, conditions, laid).
  DERIVED. THE GIVEN ROWS OF THIS SEAT. 17 by the template 'for every input the law returns true; each argument reads behind the call as it read before'; 0 by the template 'total and deterministic' (their statements: YtagfcfojfjkmbaaTotals.lean).
  GIVEN WITH THE SEED: the statements are not yours to turn. If you find one false, say at which input.
  Laid BY PROGRAM, IN A SANDBOX (cutbox-rows.mjs): the forced cells as the released guide's own fill.sh prints them over the translation 3265f6e811cf0718… (all of the seat's roots in one cut). By AI agents, Wed Nov 11 2026. No macro, syntax, notation, axiom, sorry.
-/
import Derived.Test.YtagfcfojfjkmbaaChecked
import GoSem.Claim
import GoSem.ClaimJoined
import GoSem.ClaimMapViews
import Derived.JoinedTies
import Derived.KernelRfl
namespace Go.Proofs.Ytagfcfojfjkmbaa
/- THE CELL 'sum', in the pinned program and in every row, IS THE sha256 OF THE DUMP (.gsa) THAT YtagfcfojfjkmbaaProg.lean LOADS. Nothing in Lean hashes anything: it is a label: what it is worth is what the hold of that sum in a sandbox is worth. -/
noncomputable def Try.pinned : Pinned := { name := "ytagfcfojfjkmbaa", sum := "3265f6e811cf0718ec018aa78d252d6deae8f2f268827728a86dc6e5f73da223", checked := Try.checked }
namespace Rows
def none {H : Type} : Left H := { results := [], args := [] }

/-- 'tithinglaw03.AgeHeaps': WHATEVER THE INPUT: true; the input reads as it did. -/
def ageHeapsSpec : ChangeSpec := { name := "ageHeaps", fn := fun _ => fun
  | [d1, d2] => { results := [.lit (.bool true)], args := [d1, d2] }
  | _ => none }
def ageHeapsRow : OpenClaim := { program := "ytagfcfojfjkmbaa", sum := "3265f6e811cf0718ec018aa78d252d6deae8f2f268827728a86dc6e5f73da223", func := "tithing/tithinglaw03.AgeHeaps", spec := "ageHeaps", unfollowed := true, recurses := true, plainKeys := false, apart := false }
def AgeHeapsSaid : Prop := ageHeapsRow.holds Try.pinned (OpenSpec.ofChange ageHeapsSpec)

/-- ITS FALSE NEIGHBOUR: 'it returns false'. Refute it at one input. -/
def ageHeapsWrong : ChangeSpec := { name := "ageHeaps", fn := fun _ => fun
  | [d1, d2] => { results := [.lit (.bool false)], args := [d1, d2] }
  | _ => none }
def AgeHeapsWrongFalsely : Prop := ageHeapsRow.holds Try.pinned (OpenSpec.ofChange ageHeapsWrong)

/-- 'tithinglaw03.AgeDays': WHATEVER THE INPUT: true; the input reads as it did. -/
def ageDaysSpec : ChangeSpec := { name := "ageDays", fn := fun _ => fun
  | [d1, d2] => { results := [.lit (.bool true)], args := [d1, d2] }
  | _ => none }
def ageDaysRow : OpenClaim := { program := "ytagfcfojfjkmbaa", sum := "3265f6e811cf0718ec018aa78d252d6deae8f2f268827728a86dc6e5f73da223", func := "tithing/tithinglaw03.AgeDays", spec := "ageDays", unfollowed := true, recurses := true, plainKeys := false, apart := false }
def AgeDaysSaid : Prop := ageDaysRow.holds Try.pinned (OpenSpec.ofChange ageDaysSpec)

/-- ITS FALSE NEIGHBOUR: 'it returns false'. Refute it at one input. -/
def ageDaysWrong : ChangeSpec := { name := "ageDays", fn := fun _ => fun
  | [d1, d2] => { results := [.lit (.bool false)], args := [d1, d2] }
  | _ => none }
def AgeDaysWrongFalsely : Prop := ageDaysRow.holds Try.pinned (OpenSpec.ofChange ageDaysWrong)

/-- 'tithinglaw03.AgeLeaves': WHATEVER THE INPUT: true; the input reads as it did. -/
def ageLeavesSpec : ChangeSpec := { name := "ageLeaves", fn := fun _ => fun
  | [d] => { results := [.lit (.bool true)], args := [d] }
  | _ => none }
def ageLeavesRow : OpenClaim := { program := "ytagfcfojfjkmbaa", sum := "3265f6e811cf0718ec018aa78d252d6deae8f2f268827728a86dc6e5f73da223", func := "tithing/tithinglaw03.AgeLeaves", spec := "ageLeaves", unfollowed := true, recurses := true, plainKeys := false, apart := false }
def AgeLeavesSaid : Prop := ageLeavesRow.holds Try.pinned (OpenSpec.ofChange ageLeavesSpec)

/-- ITS FALSE NEIGHBOUR: 'it returns false'. Refute it at one input. -/
def ageLeavesWrong : ChangeSpec := { name := "ageLeaves", fn := fun _ => fun
  | [d] => { results := [.lit (.bool false)], args := [d] }
  | _ => none }
def AgeLeavesWrongFalsely : Prop := ageLeavesRow.holds Try.pinned (OpenSpec.ofChange ageLeavesWrong)

/-- 'tithinglaw03.AgeMore': WHATEVER THE INPUT: true; the input reads as it did. -/
def ageMoreSpec : ChangeSpec := { name := "ageMore", fn := fun _ => fun
  | [d1, d2] => { results := [.lit (.bool true)], args := [d1, d2] }
  | _ => none }
def ageMoreRow : OpenClaim := { program := "ytagfcfojfjkmbaa", sum := "3265f6e811cf0718ec018aa78d252d6deae8f2f268827728a86dc6e5f73da223", func := "tithing/tithinglaw03.AgeMore", spec := "ageMore", unfollowed := true, recurses := true, plainKeys := false, apart := false }
def AgeMoreSaid : Prop := ageMoreRow.holds Try.pinned (OpenSpec.ofChange ageMoreSpec)

/-- ITS FALSE NEIGHBOUR: 'it returns false'. Refute it at one input. -/
def ageMoreWrong : ChangeSpec := { name := "ageMore", fn := fun _ => fun
  | [d1, d2] => { results := [.lit (.bool false)], args := [d1, d2] }
  | _ => none }
def AgeMoreWrongFalsely : Prop := ageMoreRow.holds Try.pinned (OpenSpec.ofChange ageMoreWrong)

/-- 'tithinglaw03.AgeLeft': WHATEVER THE INPUT: true; the input reads as it did. -/
def ageLeftSpec : ChangeSpec := { name := "ageLeft", fn := fun _ => fun
  | [d1, d2] => { results := [.lit (.bool true)], args := [d1, d2] }
  | _ => none }
def ageLeftRow : OpenClaim := { program := "ytagfcfojfjkmbaa", sum := "3265f6e811cf0718ec018aa78d252d6deae8f2f268827728a86dc6e5f73da223", func := "tithing/tithinglaw03.AgeLeft", spec := "ageLeft", unfollowed := true, recurses := true, plainKeys := false, apart := false }
def AgeLeftSaid : Prop := ageLeftRow.holds Try.pinned (OpenSpec.ofChange ageLeftSpec)

/-- ITS FALSE NEIGHBOUR: 'it returns false'. Refute it at one input. -/
def ageLeftWrong : ChangeSpec := { name := "ageLeft", fn := fun _ => fun
  | [d1, d2] => { results := [.lit (.bool false)], args := [d1, d2] }
  | _ => none }
def AgeLeftWrongFalsely : Prop := ageLeftRow.holds Try.pinned (OpenSpec.ofChange ageLeftWrong)

/-- 'tithinglaw03.AgeHeaped': WHATEVER THE INPUT: true; the input reads as it did. -/
def ageHeapedSpec : ChangeSpec := { name := "ageHeaped", fn := fun _ => fun
  | [d1, d2] => { results := [.lit (.bool true)], args := [d1, d2] }
  | _ => none }
def ageHeapedRow : OpenClaim := { program := "ytagfcfojfjkmbaa", sum := "3265f6e811cf0718ec018aa78d252d6deae8f2f268827728a86dc6e5f73da223", func := "tithing/tithinglaw03.AgeHeaped", spec := "ageHeaped", unfollowed := true, recurses := true, plainKeys := false, apart := false }
def AgeHeapedSaid : Prop := ageHeapedRow.holds Try.pinned (OpenSpec.ofChange ageHeapedSpec)

/-- ITS FALSE NEIGHBOUR: 'it returns false'. Refute it at one input. -/
def ageHeapedWrong : ChangeSpec := { name := "ageHeaped", fn := fun _ => fun
  | [d1, d2] => { results := [.lit (.bool false)], args := [d1, d2] }
  | _ => none }
def AgeHeapedWrongFalsely : Prop := ageHeapedRow.holds Try.pinned (OpenSpec.ofChange ageHeapedWrong)

/-- 'tithinglaw03.AgeLater': WHATEVER THE INPUT: true; the input reads as it did. -/
def ageLaterSpec : ChangeSpec := { name := "ageLater", fn := fun _ => fun
  | [d1, d2] => { results := [.lit (.bool true)], args := [d1, d2] }
  | _ => none }
def ageLaterRow : OpenClaim := { program := "ytagfcfojfjkmbaa", sum := "3265f6e811cf0718ec018aa78d252d6deae8f2f268827728a86dc6e5f73da223", func := "tithing/tithinglaw03.AgeLater", spec := "ageLater", unfollowed := true, recurses := true, plainKeys := false, apart := false }
def AgeLaterSaid : Prop := ageLaterRow.holds Try.pinned (OpenSpec.ofChange ageLaterSpec)

/-- ITS FALSE NEIGHBOUR: 'it returns false'. Refute it at one input. -/
def ageLaterWrong : ChangeSpec := { name := "ageLater", fn := fun _ => fun
  | [d1, d2] => { results := [.lit (.bool false)], args := [d1, d2] }
  | _ => none }
def AgeLaterWrongFalsely : Prop := ageLaterRow.holds Try.pinned (OpenSpec.ofChange ageLaterWrong)

/-- 'tithinglaw03.AgeBirths': WHATEVER THE INPUT: true; the input reads as it did. -/
def ageBirthsSpec : ChangeSpec := { name := "ageBirths", fn := fun _ => fun
  | [d1, d2] => { results := [.lit (.bool true)], args := [d1, d2] }
  | _ => none }
def ageBirthsRow : OpenClaim := { program := "ytagfcfojfjkmbaa", sum := "3265f6e811cf0718ec018aa78d252d6deae8f2f268827728a86dc6e5f73da223", func := "tithing/tithinglaw03.AgeBirths", spec := "ageBirths", unfollowed := true, recurses := true, plainKeys := false, apart := false }
def AgeBirthsSaid : Prop := ageBirthsRow.holds Try.pinned (OpenSpec.ofChange ageBirthsSpec)

/-- ITS FALSE NEIGHBOUR: 'it returns false'. Refute it at one input. -/
def ageBirthsWrong : ChangeSpec := { name := "ageBirths", fn := fun _ => fun
  | [d1, d2] => { results := [.lit (.bool false)], args := [d1, d2] }
  | _ => none }
def AgeBirthsWrongFalsely : Prop := ageBirthsRow.holds Try.pinned (OpenSpec.ofChange ageBirthsWrong)

/-- 'tithinglaw03.AgeRounds': WHATEVER THE INPUT: true; the input reads as it did. -/
def ageRoundsSpec : ChangeSpec := { name := "ageRounds", fn := fun _ => fun
  | [d1, d2, d3] => { results := [.lit (.bool true)], args := [d1, d2, d3] }
  | _ => none }
def ageRoundsRow : OpenClaim := { program := "ytagfcfojfjkmbaa", sum := "3265f6e811cf0718ec018aa78d252d6deae8f2f268827728a86dc6e5f73da223", func := "tithing/tithinglaw03.AgeRounds", spec := "ageRounds", unfollowed := true, recurses := true, plainKeys := false, apart := false }
def AgeRoundsSaid : Prop := ageRoundsRow.holds Try.pinned (OpenSpec.ofChange ageRoundsSpec)

/-- ITS FALSE NEIGHBOUR: 'it returns false'. Refute it at one input. -/
def ageRoundsWrong : ChangeSpec := { name := "ageRounds", fn := fun _ => fun
  | [d1, d2, d3] => { results := [.lit (.bool false)], args := [d1, d2, d3] }
  | _ => none }
def AgeRoundsWrongFalsely : Prop := ageRoundsRow.holds Try.pinned (OpenSpec.ofChange ageRoundsWrong)

/-- 'tithinglaw03.AgeTruth': WHATEVER THE INPUT: true; the input reads as it did. -/
def ageTruthSpec : ChangeSpec := { name := "ageTruth", fn := fun _ => fun
  | [d1, d2, d3] => { results := [.lit (.bool true)], args := [d1, d2, d3] }
  | _ => none }
def ageTruthRow : OpenClaim := { program := "ytagfcfojfjkmbaa", sum := "3265f6e811cf0718ec018aa78d252d6deae8f2f268827728a86dc6e5f73da223", func := "tithing/tithinglaw03.AgeTruth", spec := "ageTruth", unfollowed := true, recurses := true, plainKeys := false, apart := false }
def AgeTruthSaid : Prop := ageTruthRow.holds Try.pinned (OpenSpec.ofChange ageTruthSpec)

/-- ITS FALSE NEIGHBOUR: 'it returns false'. Refute it at one input. -/
def ageTruthWrong : ChangeSpec := { name := "ageTruth", fn := fun _ => fun
  | [d1, d2, d3] => { results := [.lit (.bool false)], args := [d1, d2, d3] }
  | _ => none }
def AgeTruthWrongFalsely : Prop := ageTruthRow.holds Try.pinned (OpenSpec.ofChange ageTruthWrong)

/-- 'tithinglaw03.AgeExactly': WHATEVER THE INPUT: true; the input reads as it did. -/
def ageExactlySpec : ChangeSpec := { name := "ageExactly", fn := fun _ => fun
  | [d1, d2, d3] => { results := [.lit (.bool true)], args := [d1, d2, d3] }
  | _ => none }
def ageExactlyRow : OpenClaim := { program := "ytagfcfojfjkmbaa", sum := "3265f6e811cf0718ec018aa78d252d6deae8f2f268827728a86dc6e5f73da223", func := "tithing/tithinglaw03.AgeExactly", spec := "ageExactly", unfollowed := true, recurses := true, plainKeys := false, apart := false }
def AgeExactlySaid : Prop := ageExactlyRow.holds Try.pinned (OpenSpec.ofChange ageExactlySpec)

/-- ITS FALSE NEIGHBOUR: 'it returns false'. Refute it at one input. -/
def ageExactlyWrong : ChangeSpec := { name := "ageExactly", fn := fun _ => fun
  | [d1, d2, d3] => { results := [.lit (.bool false)], args := [d1, d2, d3] }
  | _ => none }
def AgeExactlyWrongFalsely : Prop := ageExactlyRow.holds Try.pinned (OpenSpec.ofChange ageExactlyWrong)

/-- 'tithinglaw03.AgeWrites': WHATEVER THE INPUT: true; the input reads as it did. -/
def ageWritesSpec : ChangeSpec := { name := "ageWrites", fn := fun _ => fun
  | [d1, d2, d3, d4, d5] => { results := [.lit (.bool true)], args := [d1, d2, d3, d4, d5] }
  | _ => none }
def ageWritesRow : OpenClaim := { program := "ytagfcfojfjkmbaa", sum := "3265f6e811cf0718ec018aa78d252d6deae8f2f268827728a86dc6e5f73da223", func := "tithing/tithinglaw03.AgeWrites", spec := "ageWrites", unfollowed := true, recurses := true, plainKeys := false, apart := false }
def AgeWritesSaid : Prop := ageWritesRow.holds Try.pinned (OpenSpec.ofChange ageWritesSpec)

/-- ITS FALSE NEIGHBOUR: 'it returns false'. Refute it at one input. -/
def ageWritesWrong : ChangeSpec := { name := "ageWrites", fn := fun _ => fun
  | [d1, d2, d3, d4, d5] => { results := [.lit (.bool false)], args := [d1, d2, d3, d4, d5] }
  | _ => none }
def AgeWritesWrongFalsely : Prop := ageWritesRow.holds Try.pinned (OpenSpec.ofChange ageWritesWrong)

/-- 'tithinglaw03.AgeSames': WHATEVER THE INPUT: true; the input reads as it did. -/
def ageSamesSpec : ChangeSpec := { name := "ageSames", fn := fun _ => fun
  | [d1, d2] => { results := [.lit (.bool true)], args := [d1, d2] }
  | _ => none }
def ageSamesRow : OpenClaim := { program := "ytagfcfojfjkmbaa", sum := "3265f6e811cf0718ec018aa78d252d6deae8f2f268827728a86dc6e5f73da223", func := "tithing/tithinglaw03.AgeSames", spec := "ageSames", unfollowed := true, recurses := true, plainKeys := false, apart := false }
def AgeSamesSaid : Prop := ageSamesRow.holds Try.pinned (OpenSpec.ofChange ageSamesSpec)

/-- ITS FALSE NEIGHBOUR: 'it returns false'. Refute it at one input. -/
def ageSamesWrong : ChangeSpec := { name := "ageSames", fn := fun _ => fun
  | [d1, d2] => { results := [.lit (.bool false)], args := [d1, d2] }
  | _ => none }
def AgeSamesWrongFalsely : Prop := ageSamesRow.holds Try.pinned (OpenSpec.ofChange ageSamesWrong)

/-- 'tithinglaw03.AgeSelf': WHATEVER THE INPUT: true; the input reads as it did. -/
def ageSelfSpec : ChangeSpec := { name := "ageSelf", fn := fun _ => fun
  | [d1, d2, d3] => { results := [.lit (.bool true)], args := [d1, d2, d3] }
  | _ => none }
def ageSelfRow : OpenClaim := { program := "ytagfcfojfjkmbaa", sum := "3265f6e811cf0718ec018aa78d252d6deae8f2f268827728a86dc6e5f73da223", func := "tithing/tithinglaw03.AgeSelf", spec := "ageSelf", unfollowed := true, recurses := true, plainKeys := false, apart := false }
def AgeSelfSaid : Prop := ageSelfRow.holds Try.pinned (OpenSpec.ofChange ageSelfSpec)

/-- ITS FALSE NEIGHBOUR: 'it returns false'. Refute it at one input. -/
def ageSelfWrong : ChangeSpec := { name := "ageSelf", fn := fun _ => fun
  | [d1, d2, d3] => { results := [.lit (.bool false)], args := [d1, d2, d3] }
  | _ => none }
def AgeSelfWrongFalsely : Prop := ageSelfRow.holds Try.pinned (OpenSpec.ofChange ageSelfWrong)

/-- 'tithinglaw03.AgeCounts': WHATEVER THE INPUT: true; the input reads as it did. -/
def ageCountsSpec : ChangeSpec := { name := "ageCounts", fn := fun _ => fun
  | [d1, d2, d3] => { results := [.lit (.bool true)], args := [d1, d2, d3] }
  | _ => none }
def ageCountsRow : OpenClaim := { program := "ytagfcfojfjkmbaa", sum := "3265f6e811cf0718ec018aa78d252d6deae8f2f268827728a86dc6e5f73da223", func := "tithing/tithinglaw03.AgeCounts", spec := "ageCounts", unfollowed := true, recurses := true, plainKeys := false, apart := false }
def AgeCountsSaid : Prop := ageCountsRow.holds Try.pinned (OpenSpec.ofChange ageCountsSpec)

/-- ITS FALSE NEIGHBOUR: 'it returns false'. Refute it at one input. -/
def ageCountsWrong : ChangeSpec := { name := "ageCounts", fn := fun _ => fun
  | [d1, d2, d3] => { results := [.lit (.bool false)], args := [d1, d2, d3] }
  | _ => none }
def AgeCountsWrongFalsely : Prop := ageCountsRow.holds Try.pinned (OpenSpec.ofChange ageCountsWrong)

/-- 'tithinglaw03.AgeTables': WHATEVER THE INPUT: true; the input reads as it did. -/
def ageTablesSpec : ChangeSpec := { name := "ageTables", fn := fun _ => fun
  | [d1, d2, d3] => { results := [.lit (.bool true)], args := [d1, d2, d3] }
  | _ => none }
def ageTablesRow : OpenClaim := { program := "ytagfcfojfjkmbaa", sum := "3265f6e811cf0718ec018aa78d252d6deae8f2f268827728a86dc6e5f73da223", func := "tithing/tithinglaw03.AgeTables", spec := "ageTables", unfollowed := true, recurses := true, plainKeys := false, apart := false }
def AgeTablesSaid : Prop := ageTablesRow.holds Try.pinned (OpenSpec.ofChange ageTablesSpec)

/-- ITS FALSE NEIGHBOUR: 'it returns false'. Refute it at one input. -/
def ageTablesWrong : ChangeSpec := { name := "ageTables", fn := fun _ => fun
  | [d1, d2, d3] => { results := [.lit (.bool false)], args := [d1, d2, d3] }
  | _ => none }
def AgeTablesWrongFalsely : Prop := ageTablesRow.holds Try.pinned (OpenSpec.ofChange ageTablesWrong)

/-- 'tithinglaw03.AgeNames': WHATEVER THE INPUT: true; the input reads as it did. -/
def ageNamesSpec : ChangeSpec := { name := "ageNames", fn := fun _ => fun
  | [] => { results := [.lit (.bool true)], args := [] }
  | _ => none }
def ageNamesRow : OpenClaim := { program := "ytagfcfojfjkmbaa", sum := "3265f6e811cf0718ec018aa78d252d6deae8f2f268827728a86dc6e5f73da223", func := "tithing/tithinglaw03.AgeNames", spec := "ageNames", unfollowed := true, recurses := true, plainKeys := false, apart := false }
def AgeNamesSaid : Prop := ageNamesRow.holds Try.pinned (OpenSpec.ofChange ageNamesSpec)

/-- ITS FALSE NEIGHBOUR: 'it returns false'. Refute it at one input. -/
def ageNamesWrong : ChangeSpec := { name := "ageNames", fn := fun _ => fun
  | [] => { results := [.lit (.bool false)], args := [] }
  | _ => none }
def AgeNamesWrongFalsely : Prop := ageNamesRow.holds Try.pinned (OpenSpec.ofChange ageNamesWrong)

/- THE SECOND FORM. 'bulk': how many values and letters a reading holds, each counted each time it is reached (what is shared counts as often as it is met; a slice's spare places count too). A statement '..UptoSaid' is the law's where the arguments, and the package variables that the reading takes, are together of bulk at most 1048576: NARROWER than '..Said'. Prove '..Said' where nothing that the law and all that it calls make is longer than what came in: it says more and counts as full. Else prove '..UptoSaid'. A law counts once. -/
mutual
def uptoBulk {H : Type} : DataW H → Nat
  | .lit (.string bytes) => bytes.length + 1
  | .lit _ => 1
  | .nil => 1
  | .ptr d => uptoBulk d + 1
  | .slice elems spare => uptoBulkAll elems + uptoBulkAll spare + 1
  | .agg parts => uptoBulkAll parts + 1
  | .iface _ d => uptoBulk d + 1
  | .map entries => uptoBulkEntries entries + 1
  | .held _ => 1
def uptoBulkAll {H : Type} : List (DataW H) → Nat
  | [] => 0
  | d :: r => uptoBulk d + uptoBulkAll r
def uptoBulkEntries {H : Type} : List (Lit × DataW H) → Nat
  | [] => 0
  | x :: r => uptoBulkEntry x + uptoBulkEntries r
def uptoBulkEntry {H : Type} : Lit × DataW H → Nat
  | (.string bytes, d) => bytes.length + uptoBulk d + 1
  | (_, d) => uptoBulk d + 1
 end
def uptoSmall : (H : Type) → List (DataW H) → Bool := fun _ ds => decide (uptoBulkAll ds ≤ 1048576)
def OpenSpec.upto (s : _root_.Go.ChangeSpec) : _root_.Go.OpenSpec := { _root_.Go.OpenSpec.ofChange s with cond := some uptoSmall }

/-- 'tithinglaw03.AgeHeaps', WHERE WHAT IT READS IS OF BULK AT MOST 1048576: true; the input reads as it did. -/
def ageHeapsUptoRow : OpenClaim := { program := "ytagfcfojfjkmbaa", sum := "3265f6e811cf0718ec018aa78d252d6deae8f2f268827728a86dc6e5f73da223", func := "tithing/tithinglaw03.AgeHeaps", spec := "ageHeaps", unfollowed := true, recurses := true, plainKeys := false, apart := false, narrowed := true }
def AgeHeapsUptoSaid : Prop := ageHeapsUptoRow.holds Try.pinned (OpenSpec.upto ageHeapsSpec)

/-- 'tithinglaw03.AgeDays', WHERE WHAT IT READS IS OF BULK AT MOST 1048576: true; the input reads as it did. -/
def ageDaysUptoRow : OpenClaim := { program := "ytagfcfojfjkmbaa", sum := "3265f6e811cf0718ec018aa78d252d6deae8f2f268827728a86dc6e5f73da223", func := "tithing/tithinglaw03.AgeDays", spec := "ageDays", unfollowed := true, recurses := true, plainKeys := false, apart := false, narrowed := true }
def AgeDaysUptoSaid : Prop := ageDaysUptoRow.holds Try.pinned (OpenSpec.upto ageDaysSpec)

/-- 'tithinglaw03.AgeLeaves', WHERE WHAT IT READS IS OF BULK AT MOST 1048576: true; the input reads as it did. -/
def ageLeavesUptoRow : OpenClaim := { program := "ytagfcfojfjkmbaa", sum := "3265f6e811cf0718ec018aa78d252d6deae8f2f268827728a86dc6e5f73da223", func := "tithing/tithinglaw03.AgeLeaves", spec := "ageLeaves", unfollowed := true, recurses := true, plainKeys := false, apart := false, narrowed := true }
def AgeLeavesUptoSaid : Prop := ageLeavesUptoRow.holds Try.pinned (OpenSpec.upto ageLeavesSpec)

/-- 'tithinglaw03.AgeMore', WHERE WHAT IT READS IS OF BULK AT MOST 1048576: true; the input reads as it did. -/
def ageMoreUptoRow : OpenClaim := { program := "ytagfcfojfjkmbaa", sum := "3265f6e811cf0718ec018aa78d252d6deae8f2f268827728a86dc6e5f73da223", func := "tithing/tithinglaw03.AgeMore", spec := "ageMore", unfollowed := true, recurses := true, plainKeys := false, apart := false, narrowed := true }
def AgeMoreUptoSaid : Prop := ageMoreUptoRow.holds Try.pinned (OpenSpec.upto ageMoreSpec)

/-- 'tithinglaw03.AgeLeft', WHERE WHAT IT READS IS OF BULK AT MOST 1048576: true; the input reads as it did. -/
def ageLeftUptoRow : OpenClaim := { program := "ytagfcfojfjkmbaa", sum := "3265f6e811cf0718ec018aa78d252d6deae8f2f268827728a86dc6e5f73da223", func := "tithing/tithinglaw03.AgeLeft", spec := "ageLeft", unfollowed := true, recurses := true, plainKeys := false, apart := false, narrowed := true }
def AgeLeftUptoSaid : Prop := ageLeftUptoRow.holds Try.pinned (OpenSpec.upto ageLeftSpec)

/-- 'tithinglaw03.AgeHeaped', WHERE WHAT IT READS IS OF BULK AT MOST 1048576: true; the input reads as it did. -/
def ageHeapedUptoRow : OpenClaim := { program := "ytagfcfojfjkmbaa", sum := "3265f6e811cf0718ec018aa78d252d6deae8f2f268827728a86dc6e5f73da223", func := "tithing/tithinglaw03.AgeHeaped", spec := "ageHeaped", unfollowed := true, recurses := true, plainKeys := false, apart := false, narrowed := true }
def AgeHeapedUptoSaid : Prop := ageHeapedUptoRow.holds Try.pinned (OpenSpec.upto ageHeapedSpec)

/-- 'tithinglaw03.AgeLater', WHERE WHAT IT READS IS OF BULK AT MOST 1048576: true; the input reads as it did. -/
def ageLaterUptoRow : OpenClaim := { program := "ytagfcfojfjkmbaa", sum := "3265f6e811cf0718ec018aa78d252d6deae8f2f268827728a86dc6e5f73da223", func := "tithing/tithinglaw03.AgeLater", spec := "ageLater", unfollowed := true, recurses := true, plainKeys := false, apart := false, narrowed := true }
def AgeLaterUptoSaid : Prop := ageLaterUptoRow.holds Try.pinned (OpenSpec.upto ageLaterSpec)

/-- 'tithinglaw03.AgeBirths', WHERE WHAT IT READS IS OF BULK AT MOST 1048576: true; the input reads as it did. -/
def ageBirthsUptoRow : OpenClaim := { program := "ytagfcfojfjkmbaa", sum := "3265f6e811cf0718ec018aa78d252d6deae8f2f268827728a86dc6e5f73da223", func := "tithing/tithinglaw03.AgeBirths", spec := "ageBirths", unfollowed := true, recurses := true, plainKeys := false, apart := false, narrowed := true }
def AgeBirthsUptoSaid : Prop := ageBirthsUptoRow.holds Try.pinned (OpenSpec.upto ageBirthsSpec)

/-- 'tithinglaw03.AgeRounds', WHERE WHAT IT READS IS OF BULK AT MOST 1048576: true; the input reads as it did. -/
def ageRoundsUptoRow : OpenClaim := { program := "ytagfcfojfjkmbaa", sum := "3265f6e811cf0718ec018aa78d252d6deae8f2f268827728a86dc6e5f73da223", func := "tithing/tithinglaw03.AgeRounds", spec := "ageRounds", unfollowed := true, recurses := true, plainKeys := false, apart := false, narrowed := true }
def AgeRoundsUptoSaid : Prop := ageRoundsUptoRow.holds Try.pinned (OpenSpec.upto ageRoundsSpec)

/-- 'tithinglaw03.AgeTruth', WHERE WHAT IT READS IS OF BULK AT MOST 1048576: true; the input reads as it did. -/
def ageTruthUptoRow : OpenClaim := { program := "ytagfcfojfjkmbaa", sum := "3265f6e811cf0718ec018aa78d252d6deae8f2f268827728a86dc6e5f73da223", func := "tithing/tithinglaw03.AgeTruth", spec := "ageTruth", unfollowed := true, recurses := true, plainKeys := false, apart := false, narrowed := true }
def AgeTruthUptoSaid : Prop := ageTruthUptoRow.holds Try.pinned (OpenSpec.upto ageTruthSpec)

/-- 'tithinglaw03.AgeExactly', WHERE WHAT IT READS IS OF BULK AT MOST 1048576: true; the input reads as it did. -/
def ageExactlyUptoRow : OpenClaim := { program := "ytagfcfojfjkmbaa", sum := "3265f6e811cf0718ec018aa78d252d6deae8f2f268827728a86dc6e5f73da223", func := "tithing/tithinglaw03.AgeExactly", spec := "ageExactly", unfollowed := true, recurses := true, plainKeys := false, apart := false, narrowed := true }
def AgeExactlyUptoSaid : Prop := ageExactlyUptoRow.holds Try.pinned (OpenSpec.upto ageExactlySpec)

/-- 'tithinglaw03.AgeWrites', WHERE WHAT IT READS IS OF BULK AT MOST 1048576: true; the input reads as it did. -/
def ageWritesUptoRow : OpenClaim := { program := "ytagfcfojfjkmbaa", sum := "3265f6e811cf0718ec018aa78d252d6deae8f2f268827728a86dc6e5f73da223", func := "tithing/tithinglaw03.AgeWrites", spec := "ageWrites", unfollowed := true, recurses := true, plainKeys := false, apart := false, narrowed := true }
def AgeWritesUptoSaid : Prop := ageWritesUptoRow.holds Try.pinned (OpenSpec.upto ageWritesSpec)

/-- 'tithinglaw03.AgeSames', WHERE WHAT IT READS IS OF BULK AT MOST 1048576: true; the input reads as it did. -/
def ageSamesUptoRow : OpenClaim := { program := "ytagfcfojfjkmbaa", sum := "3265f6e811cf0718ec018aa78d252d6deae8f2f268827728a86dc6e5f73da223", func := "tithing/tithinglaw03.AgeSames", spec := "ageSames", unfollowed := true, recurses := true, plainKeys := false, apart := false, narrowed := true }
def AgeSamesUptoSaid : Prop := ageSamesUptoRow.holds Try.pinned (OpenSpec.upto ageSamesSpec)

/-- 'tithinglaw03.AgeSelf', WHERE WHAT IT READS IS OF BULK AT MOST 1048576: true; the input reads as it did. -/
def ageSelfUptoRow : OpenClaim := { program := "ytagfcfojfjkmbaa", sum := "3265f6e811cf0718ec018aa78d252d6deae8f2f268827728a86dc6e5f73da223", func := "tithing/tithinglaw03.AgeSelf", spec := "ageSelf", unfollowed := true, recurses := true, plainKeys := false, apart := false, narrowed := true }
def AgeSelfUptoSaid : Prop := ageSelfUptoRow.holds Try.pinned (OpenSpec.upto ageSelfSpec)

/-- 'tithinglaw03.AgeCounts', WHERE WHAT IT READS IS OF BULK AT MOST 1048576: true; the input reads as it did. -/
def ageCountsUptoRow : OpenClaim := { program := "ytagfcfojfjkmbaa", sum := "3265f6e811cf0718ec018aa78d252d6deae8f2f268827728a86dc6e5f73da223", func := "tithing/tithinglaw03.AgeCounts", spec := "ageCounts", unfollowed := true, recurses := true, plainKeys := false, apart := false, narrowed := true }
def AgeCountsUptoSaid : Prop := ageCountsUptoRow.holds Try.pinned (OpenSpec.upto ageCountsSpec)

/-- 'tithinglaw03.AgeTables', WHERE WHAT IT READS IS OF BULK AT MOST 1048576: true; the input reads as it did. -/
def ageTablesUptoRow : OpenClaim := { program := "ytagfcfojfjkmbaa", sum := "3265f6e811cf0718ec018aa78d252d6deae8f2f268827728a86dc6e5f73da223", func := "tithing/tithinglaw03.AgeTables", spec := "ageTables", unfollowed := true, recurses := true, plainKeys := false, apart := false, narrowed := true }
def AgeTablesUptoSaid : Prop := ageTablesUptoRow.holds Try.pinned (OpenSpec.upto ageTablesSpec)

/-- 'tithinglaw03.AgeNames', WHERE WHAT IT READS IS OF BULK AT MOST 1048576: true; the input reads as it did. -/
def ageNamesUptoRow : OpenClaim := { program := "ytagfcfojfjkmbaa", sum := "3265f6e811cf0718ec018aa78d252d6deae8f2f268827728a86dc6e5f73da223", func := "tithing/tithinglaw03.AgeNames", spec := "ageNames", unfollowed := true, recurses := true, plainKeys := false, apart := false, narrowed := true }
def AgeNamesUptoSaid : Prop := ageNamesUptoRow.holds Try.pinned (OpenSpec.upto ageNamesSpec)

end Rows
end Go.Proofs.Ytagfcfojfjkmbaa
