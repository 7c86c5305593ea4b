/-
  No cell of these rows narrows 'for every input' (looked for: loops, veiled, ifaces, maps, wideKeys, modest, calm, conditions, laid).
  DERIVED. THE GIVEN ROWS OF THIS SEAT. 15 by the template 'for every input the law returns true; each argument reads behind the call as it read before'; 0 by the template 'total and deterministic' (their statements: YtgbdbikjckfgmaaGreatTotals.lean).
  GIVEN WITH THE SEED: the statements are not yours to turn. If you find one false, say at which input.
  Laid BY PROGRAM, IN A SANDBOX (cutbox-rows.mjs): the forced cells as the released guide's own fill.sh prints them over the translation a5b3947e2acd6274… (all of the seat's roots in one cut). By AI agents, Wed Nov 11 2026. No macro, syntax, notation, axiom, sorry.
-/
import Derived.Test.YtgbdbikjckfgmaaGreatChecked
import GoSem.Claim
import GoSem.ClaimJoined
import GoSem.ClaimMapViews
import Derived.JoinedTies
import Derived.KernelRfl
namespace Go.Proofs.YtgbdbikjckfgmaaGreat
/- THE CELL 'sum', in the pinned program and in every row, IS THE sha256 OF THE DUMP (.gsa) THAT YtgbdbikjckfgmaaGreatProg.lean LOADS. Nothing in Lean hashes anything: it is a label: what it is worth is what the hold of that sum in a sandbox is worth. -/
noncomputable def Tryz.pinned : Pinned := { name := "ytgbdbikjckfgmaagreat", sum := "a5b3947e2acd627439db17bd044f1f697c098d77f19e71ad3d7fcf3b458157c2", checked := Tryz.checked }
namespace Rows
def none {H : Type} : Left H := { results := [], args := [] }

/-- 'tithinglaw05.LinkPairs': WHATEVER THE INPUT: true; the input reads as it did. -/
def linkPairsSpec : ChangeSpec := { name := "linkPairs", fn := fun _ => fun
  | [d] => { results := [.lit (.bool true)], args := [d] }
  | _ => none }
def linkPairsRow : OpenClaim := { program := "ytgbdbikjckfgmaagreat", sum := "a5b3947e2acd627439db17bd044f1f697c098d77f19e71ad3d7fcf3b458157c2", func := "tithing/tithinglaw05.LinkPairs", spec := "linkPairs", unfollowed := true, recurses := true, plainKeys := false, apart := false }
def LinkPairsSaid : Prop := linkPairsRow.holds Tryz.pinned (OpenSpec.ofChange linkPairsSpec)

/-- ITS FALSE NEIGHBOUR: 'it returns false'. Refute it at one input. -/
def linkPairsWrong : ChangeSpec := { name := "linkPairs", fn := fun _ => fun
  | [d] => { results := [.lit (.bool false)], args := [d] }
  | _ => none }
def LinkPairsWrongFalsely : Prop := linkPairsRow.holds Tryz.pinned (OpenSpec.ofChange linkPairsWrong)

/-- 'tithinglaw05.LinkAlways': WHATEVER THE INPUT: true; the input reads as it did. -/
def linkAlwaysSpec : ChangeSpec := { name := "linkAlways", fn := fun _ => fun
  | [d] => { results := [.lit (.bool true)], args := [d] }
  | _ => none }
def linkAlwaysRow : OpenClaim := { program := "ytgbdbikjckfgmaagreat", sum := "a5b3947e2acd627439db17bd044f1f697c098d77f19e71ad3d7fcf3b458157c2", func := "tithing/tithinglaw05.LinkAlways", spec := "linkAlways", unfollowed := true, recurses := true, plainKeys := false, apart := false }
def LinkAlwaysSaid : Prop := linkAlwaysRow.holds Tryz.pinned (OpenSpec.ofChange linkAlwaysSpec)

/-- ITS FALSE NEIGHBOUR: 'it returns false'. Refute it at one input. -/
def linkAlwaysWrong : ChangeSpec := { name := "linkAlways", fn := fun _ => fun
  | [d] => { results := [.lit (.bool false)], args := [d] }
  | _ => none }
def LinkAlwaysWrongFalsely : Prop := linkAlwaysRow.holds Tryz.pinned (OpenSpec.ofChange linkAlwaysWrong)

/-- 'tithinglaw05.LinkCosts': WHATEVER THE INPUT: true; the input reads as it did. -/
def linkCostsSpec : ChangeSpec := { name := "linkCosts", fn := fun _ => fun
  | [d1, d2, d3] => { results := [.lit (.bool true)], args := [d1, d2, d3] }
  | _ => none }
def linkCostsRow : OpenClaim := { program := "ytgbdbikjckfgmaagreat", sum := "a5b3947e2acd627439db17bd044f1f697c098d77f19e71ad3d7fcf3b458157c2", func := "tithing/tithinglaw05.LinkCosts", spec := "linkCosts", unfollowed := true, recurses := true, plainKeys := false, apart := false }
def LinkCostsSaid : Prop := linkCostsRow.holds Tryz.pinned (OpenSpec.ofChange linkCostsSpec)

/-- ITS FALSE NEIGHBOUR: 'it returns false'. Refute it at one input. -/
def linkCostsWrong : ChangeSpec := { name := "linkCosts", fn := fun _ => fun
  | [d1, d2, d3] => { results := [.lit (.bool false)], args := [d1, d2, d3] }
  | _ => none }
def LinkCostsWrongFalsely : Prop := linkCostsRow.holds Tryz.pinned (OpenSpec.ofChange linkCostsWrong)

/-- 'tithinglaw05.LinkCost': WHATEVER THE INPUT: true; the input reads as it did. -/
def linkCostSpec : ChangeSpec := { name := "linkCost", fn := fun _ => fun
  | [d] => { results := [.lit (.bool true)], args := [d] }
  | _ => none }
def linkCostRow : OpenClaim := { program := "ytgbdbikjckfgmaagreat", sum := "a5b3947e2acd627439db17bd044f1f697c098d77f19e71ad3d7fcf3b458157c2", func := "tithing/tithinglaw05.LinkCost", spec := "linkCost", unfollowed := true, recurses := true, plainKeys := false, apart := false }
def LinkCostSaid : Prop := linkCostRow.holds Tryz.pinned (OpenSpec.ofChange linkCostSpec)

/-- ITS FALSE NEIGHBOUR: 'it returns false'. Refute it at one input. -/
def linkCostWrong : ChangeSpec := { name := "linkCost", fn := fun _ => fun
  | [d] => { results := [.lit (.bool false)], args := [d] }
  | _ => none }
def LinkCostWrongFalsely : Prop := linkCostRow.holds Tryz.pinned (OpenSpec.ofChange linkCostWrong)

/-- 'tithinglaw05.LinkOnly': WHATEVER THE INPUT: true; the input reads as it did. -/
def linkOnlySpec : ChangeSpec := { name := "linkOnly", fn := fun _ => fun
  | [d] => { results := [.lit (.bool true)], args := [d] }
  | _ => none }
def linkOnlyRow : OpenClaim := { program := "ytgbdbikjckfgmaagreat", sum := "a5b3947e2acd627439db17bd044f1f697c098d77f19e71ad3d7fcf3b458157c2", func := "tithing/tithinglaw05.LinkOnly", spec := "linkOnly", unfollowed := true, recurses := true, plainKeys := false, apart := false }
def LinkOnlySaid : Prop := linkOnlyRow.holds Tryz.pinned (OpenSpec.ofChange linkOnlySpec)

/-- ITS FALSE NEIGHBOUR: 'it returns false'. Refute it at one input. -/
def linkOnlyWrong : ChangeSpec := { name := "linkOnly", fn := fun _ => fun
  | [d] => { results := [.lit (.bool false)], args := [d] }
  | _ => none }
def LinkOnlyWrongFalsely : Prop := linkOnlyRow.holds Tryz.pinned (OpenSpec.ofChange linkOnlyWrong)

/-- 'tithinglaw05.LinkBack': WHATEVER THE INPUT: true; the input reads as it did. -/
def linkBackSpec : ChangeSpec := { name := "linkBack", fn := fun _ => fun
  | [d] => { results := [.lit (.bool true)], args := [d] }
  | _ => none }
def linkBackRow : OpenClaim := { program := "ytgbdbikjckfgmaagreat", sum := "a5b3947e2acd627439db17bd044f1f697c098d77f19e71ad3d7fcf3b458157c2", func := "tithing/tithinglaw05.LinkBack", spec := "linkBack", unfollowed := true, recurses := true, plainKeys := false, apart := false }
def LinkBackSaid : Prop := linkBackRow.holds Tryz.pinned (OpenSpec.ofChange linkBackSpec)

/-- ITS FALSE NEIGHBOUR: 'it returns false'. Refute it at one input. -/
def linkBackWrong : ChangeSpec := { name := "linkBack", fn := fun _ => fun
  | [d] => { results := [.lit (.bool false)], args := [d] }
  | _ => none }
def LinkBackWrongFalsely : Prop := linkBackRow.holds Tryz.pinned (OpenSpec.ofChange linkBackWrong)

/-- 'tithinglaw05.LinkOrder': WHATEVER THE INPUT: true; the input reads as it did. -/
def linkOrderSpec : ChangeSpec := { name := "linkOrder", fn := fun _ => fun
  | [d1, d2, d3] => { results := [.lit (.bool true)], args := [d1, d2, d3] }
  | _ => none }
def linkOrderRow : OpenClaim := { program := "ytgbdbikjckfgmaagreat", sum := "a5b3947e2acd627439db17bd044f1f697c098d77f19e71ad3d7fcf3b458157c2", func := "tithing/tithinglaw05.LinkOrder", spec := "linkOrder", unfollowed := true, recurses := true, plainKeys := false, apart := false }
def LinkOrderSaid : Prop := linkOrderRow.holds Tryz.pinned (OpenSpec.ofChange linkOrderSpec)

/-- ITS FALSE NEIGHBOUR: 'it returns false'. Refute it at one input. -/
def linkOrderWrong : ChangeSpec := { name := "linkOrder", fn := fun _ => fun
  | [d1, d2, d3] => { results := [.lit (.bool false)], args := [d1, d2, d3] }
  | _ => none }
def LinkOrderWrongFalsely : Prop := linkOrderRow.holds Tryz.pinned (OpenSpec.ofChange linkOrderWrong)

/-- 'tithinglaw05.LinkRemoved': WHATEVER THE INPUT: true; the input reads as it did. -/
def linkRemovedSpec : ChangeSpec := { name := "linkRemoved", fn := fun _ => fun
  | [d1, d2] => { results := [.lit (.bool true)], args := [d1, d2] }
  | _ => none }
def linkRemovedRow : OpenClaim := { program := "ytgbdbikjckfgmaagreat", sum := "a5b3947e2acd627439db17bd044f1f697c098d77f19e71ad3d7fcf3b458157c2", func := "tithing/tithinglaw05.LinkRemoved", spec := "linkRemoved", unfollowed := true, recurses := true, plainKeys := false, apart := false }
def LinkRemovedSaid : Prop := linkRemovedRow.holds Tryz.pinned (OpenSpec.ofChange linkRemovedSpec)

/-- ITS FALSE NEIGHBOUR: 'it returns false'. Refute it at one input. -/
def linkRemovedWrong : ChangeSpec := { name := "linkRemoved", fn := fun _ => fun
  | [d1, d2] => { results := [.lit (.bool false)], args := [d1, d2] }
  | _ => none }
def LinkRemovedWrongFalsely : Prop := linkRemovedRow.holds Tryz.pinned (OpenSpec.ofChange linkRemovedWrong)

/-- 'tithinglaw05.LinkMore': WHATEVER THE INPUT: true; the input reads as it did. -/
def linkMoreSpec : ChangeSpec := { name := "linkMore", fn := fun _ => fun
  | [d1, d2, d3, d4] => { results := [.lit (.bool true)], args := [d1, d2, d3, d4] }
  | _ => none }
def linkMoreRow : OpenClaim := { program := "ytgbdbikjckfgmaagreat", sum := "a5b3947e2acd627439db17bd044f1f697c098d77f19e71ad3d7fcf3b458157c2", func := "tithing/tithinglaw05.LinkMore", spec := "linkMore", unfollowed := true, recurses := true, plainKeys := false, apart := false }
def LinkMoreSaid : Prop := linkMoreRow.holds Tryz.pinned (OpenSpec.ofChange linkMoreSpec)

/-- ITS FALSE NEIGHBOUR: 'it returns false'. Refute it at one input. -/
def linkMoreWrong : ChangeSpec := { name := "linkMore", fn := fun _ => fun
  | [d1, d2, d3, d4] => { results := [.lit (.bool false)], args := [d1, d2, d3, d4] }
  | _ => none }
def LinkMoreWrongFalsely : Prop := linkMoreRow.holds Tryz.pinned (OpenSpec.ofChange linkMoreWrong)

/-- 'tithinglaw05.LinkMatches': WHATEVER THE INPUT: true; the input reads as it did. -/
def linkMatchesSpec : ChangeSpec := { name := "linkMatches", fn := fun _ => fun
  | [d] => { results := [.lit (.bool true)], args := [d] }
  | _ => none }
def linkMatchesRow : OpenClaim := { program := "ytgbdbikjckfgmaagreat", sum := "a5b3947e2acd627439db17bd044f1f697c098d77f19e71ad3d7fcf3b458157c2", func := "tithing/tithinglaw05.LinkMatches", spec := "linkMatches", unfollowed := true, recurses := true, plainKeys := false, apart := false }
def LinkMatchesSaid : Prop := linkMatchesRow.holds Tryz.pinned (OpenSpec.ofChange linkMatchesSpec)

/-- ITS FALSE NEIGHBOUR: 'it returns false'. Refute it at one input. -/
def linkMatchesWrong : ChangeSpec := { name := "linkMatches", fn := fun _ => fun
  | [d] => { results := [.lit (.bool false)], args := [d] }
  | _ => none }
def LinkMatchesWrongFalsely : Prop := linkMatchesRow.holds Tryz.pinned (OpenSpec.ofChange linkMatchesWrong)

/-- 'tithinglaw05.LinkTrue': WHATEVER THE INPUT: true; the input reads as it did. -/
def linkTrueSpec : ChangeSpec := { name := "linkTrue", fn := fun _ => fun
  | [d1, d2] => { results := [.lit (.bool true)], args := [d1, d2] }
  | _ => none }
def linkTrueRow : OpenClaim := { program := "ytgbdbikjckfgmaagreat", sum := "a5b3947e2acd627439db17bd044f1f697c098d77f19e71ad3d7fcf3b458157c2", func := "tithing/tithinglaw05.LinkTrue", spec := "linkTrue", unfollowed := true, recurses := true, plainKeys := false, apart := false }
def LinkTrueSaid : Prop := linkTrueRow.holds Tryz.pinned (OpenSpec.ofChange linkTrueSpec)

/-- ITS FALSE NEIGHBOUR: 'it returns false'. Refute it at one input. -/
def linkTrueWrong : ChangeSpec := { name := "linkTrue", fn := fun _ => fun
  | [d1, d2] => { results := [.lit (.bool false)], args := [d1, d2] }
  | _ => none }
def LinkTrueWrongFalsely : Prop := linkTrueRow.holds Tryz.pinned (OpenSpec.ofChange linkTrueWrong)

/-- 'tithinglaw05.LinkEach': WHATEVER THE INPUT: true; the input reads as it did. -/
def linkEachSpec : ChangeSpec := { name := "linkEach", fn := fun _ => fun
  | [d1, d2] => { results := [.lit (.bool true)], args := [d1, d2] }
  | _ => none }
def linkEachRow : OpenClaim := { program := "ytgbdbikjckfgmaagreat", sum := "a5b3947e2acd627439db17bd044f1f697c098d77f19e71ad3d7fcf3b458157c2", func := "tithing/tithinglaw05.LinkEach", spec := "linkEach", unfollowed := true, recurses := true, plainKeys := false, apart := false }
def LinkEachSaid : Prop := linkEachRow.holds Tryz.pinned (OpenSpec.ofChange linkEachSpec)

/-- ITS FALSE NEIGHBOUR: 'it returns false'. Refute it at one input. -/
def linkEachWrong : ChangeSpec := { name := "linkEach", fn := fun _ => fun
  | [d1, d2] => { results := [.lit (.bool false)], args := [d1, d2] }
  | _ => none }
def LinkEachWrongFalsely : Prop := linkEachRow.holds Tryz.pinned (OpenSpec.ofChange linkEachWrong)

/-- 'tithinglaw05.LinkNames': WHATEVER THE INPUT: true; the input reads as it did. -/
def linkNamesSpec : ChangeSpec := { name := "linkNames", fn := fun _ => fun
  | [] => { results := [.lit (.bool true)], args := [] }
  | _ => none }
def linkNamesRow : OpenClaim := { program := "ytgbdbikjckfgmaagreat", sum := "a5b3947e2acd627439db17bd044f1f697c098d77f19e71ad3d7fcf3b458157c2", func := "tithing/tithinglaw05.LinkNames", spec := "linkNames", unfollowed := true, recurses := true, plainKeys := false, apart := false }
def LinkNamesSaid : Prop := linkNamesRow.holds Tryz.pinned (OpenSpec.ofChange linkNamesSpec)

/-- ITS FALSE NEIGHBOUR: 'it returns false'. Refute it at one input. -/
def linkNamesWrong : ChangeSpec := { name := "linkNames", fn := fun _ => fun
  | [] => { results := [.lit (.bool false)], args := [] }
  | _ => none }
def LinkNamesWrongFalsely : Prop := linkNamesRow.holds Tryz.pinned (OpenSpec.ofChange linkNamesWrong)

/-- 'tithinglaw05.LinkProofs': WHATEVER THE INPUT: true; the input reads as it did. -/
def linkProofsSpec : ChangeSpec := { name := "linkProofs", fn := fun _ => fun
  | [d1, d2, d3, d4, d5] => { results := [.lit (.bool true)], args := [d1, d2, d3, d4, d5] }
  | _ => none }
def linkProofsRow : OpenClaim := { program := "ytgbdbikjckfgmaagreat", sum := "a5b3947e2acd627439db17bd044f1f697c098d77f19e71ad3d7fcf3b458157c2", func := "tithing/tithinglaw05.LinkProofs", spec := "linkProofs", unfollowed := true, recurses := true, plainKeys := false, apart := false }
def LinkProofsSaid : Prop := linkProofsRow.holds Tryz.pinned (OpenSpec.ofChange linkProofsSpec)

/-- ITS FALSE NEIGHBOUR: 'it returns false'. Refute it at one input. -/
def linkProofsWrong : ChangeSpec := { name := "linkProofs", fn := fun _ => fun
  | [d1, d2, d3, d4, d5] => { results := [.lit (.bool false)], args := [d1, d2, d3, d4, d5] }
  | _ => none }
def LinkProofsWrongFalsely : Prop := linkProofsRow.holds Tryz.pinned (OpenSpec.ofChange linkProofsWrong)

/-- 'tithinglaw05.LinkMost': WHATEVER THE INPUT: true; the input reads as it did. -/
def linkMostSpec : ChangeSpec := { name := "linkMost", fn := fun _ => fun
  | [d1, d2, d3, d4] => { results := [.lit (.bool true)], args := [d1, d2, d3, d4] }
  | _ => none }
def linkMostRow : OpenClaim := { program := "ytgbdbikjckfgmaagreat", sum := "a5b3947e2acd627439db17bd044f1f697c098d77f19e71ad3d7fcf3b458157c2", func := "tithing/tithinglaw05.LinkMost", spec := "linkMost", unfollowed := true, recurses := true, plainKeys := false, apart := false }
def LinkMostSaid : Prop := linkMostRow.holds Tryz.pinned (OpenSpec.ofChange linkMostSpec)

/-- ITS FALSE NEIGHBOUR: 'it returns false'. Refute it at one input. -/
def linkMostWrong : ChangeSpec := { name := "linkMost", fn := fun _ => fun
  | [d1, d2, d3, d4] => { results := [.lit (.bool false)], args := [d1, d2, d3, d4] }
  | _ => none }
def LinkMostWrongFalsely : Prop := linkMostRow.holds Tryz.pinned (OpenSpec.ofChange linkMostWrong)

/- THE SECOND FORM. 'bulk': how many values and letters a reading holds, each counted each time it is reached (what is shared counts as often as it is met; a slice's spare places count too). A statement '..UptoSaid' is the law's where the arguments, and the package variables that the reading takes, are together of bulk at most 1048576: NARROWER than '..Said'. Prove '..Said' where nothing that the law and all that it calls make is longer than what came in: it says more and counts as full. Else prove '..UptoSaid'. A law counts once. -/
mutual
def uptoBulk {H : Type} : DataW H → Nat
  | .lit (.string bytes) => bytes.length + 1
  | .lit _ => 1
  | .nil => 1
  | .ptr d => uptoBulk d + 1
  | .slice elems spare => uptoBulkAll elems + uptoBulkAll spare + 1
  | .agg parts => uptoBulkAll parts + 1
  | .iface _ d => uptoBulk d + 1
  | .map entries => uptoBulkEntries entries + 1
  | .held _ => 1
def uptoBulkAll {H : Type} : List (DataW H) → Nat
  | [] => 0
  | d :: r => uptoBulk d + uptoBulkAll r
def uptoBulkEntries {H : Type} : List (Lit × DataW H) → Nat
  | [] => 0
  | x :: r => uptoBulkEntry x + uptoBulkEntries r
def uptoBulkEntry {H : Type} : Lit × DataW H → Nat
  | (.string bytes, d) => bytes.length + uptoBulk d + 1
  | (_, d) => uptoBulk d + 1
 end
def uptoSmall : (H : Type) → List (DataW H) → Bool := fun _ ds => decide (uptoBulkAll ds ≤ 1048576)
def OpenSpec.upto (s : _root_.Go.ChangeSpec) : _root_.Go.OpenSpec := { _root_.Go.OpenSpec.ofChange s with cond := some uptoSmall }

/-- 'tithinglaw05.LinkPairs', WHERE WHAT IT READS IS OF BULK AT MOST 1048576: true; the input reads as it did. -/
def linkPairsUptoRow : OpenClaim := { program := "ytgbdbikjckfgmaagreat", sum := "a5b3947e2acd627439db17bd044f1f697c098d77f19e71ad3d7fcf3b458157c2", func := "tithing/tithinglaw05.LinkPairs", spec := "linkPairs", unfollowed := true, recurses := true, plainKeys := false, apart := false, narrowed := true }
def LinkPairsUptoSaid : Prop := linkPairsUptoRow.holds Tryz.pinned (OpenSpec.upto linkPairsSpec)

/-- 'tithinglaw05.LinkAlways', WHERE WHAT IT READS IS OF BULK AT MOST 1048576: true; the input reads as it did. -/
def linkAlwaysUptoRow : OpenClaim := { program := "ytgbdbikjckfgmaagreat", sum := "a5b3947e2acd627439db17bd044f1f697c098d77f19e71ad3d7fcf3b458157c2", func := "tithing/tithinglaw05.LinkAlways", spec := "linkAlways", unfollowed := true, recurses := true, plainKeys := false, apart := false, narrowed := true }
def LinkAlwaysUptoSaid : Prop := linkAlwaysUptoRow.holds Tryz.pinned (OpenSpec.upto linkAlwaysSpec)

/-- 'tithinglaw05.LinkCosts', WHERE WHAT IT READS IS OF BULK AT MOST 1048576: true; the input reads as it did. -/
def linkCostsUptoRow : OpenClaim := { program := "ytgbdbikjckfgmaagreat", sum := "a5b3947e2acd627439db17bd044f1f697c098d77f19e71ad3d7fcf3b458157c2", func := "tithing/tithinglaw05.LinkCosts", spec := "linkCosts", unfollowed := true, recurses := true, plainKeys := false, apart := false, narrowed := true }
def LinkCostsUptoSaid : Prop := linkCostsUptoRow.holds Tryz.pinned (OpenSpec.upto linkCostsSpec)

/-- 'tithinglaw05.LinkCost', WHERE WHAT IT READS IS OF BULK AT MOST 1048576: true; the input reads as it did. -/
def linkCostUptoRow : OpenClaim := { program := "ytgbdbikjckfgmaagreat", sum := "a5b3947e2acd627439db17bd044f1f697c098d77f19e71ad3d7fcf3b458157c2", func := "tithing/tithinglaw05.LinkCost", spec := "linkCost", unfollowed := true, recurses := true, plainKeys := false, apart := false, narrowed := true }
def LinkCostUptoSaid : Prop := linkCostUptoRow.holds Tryz.pinned (OpenSpec.upto linkCostSpec)

/-- 'tithinglaw05.LinkOnly', WHERE WHAT IT READS IS OF BULK AT MOST 1048576: true; the input reads as it did. -/
def linkOnlyUptoRow : OpenClaim := { program := "ytgbdbikjckfgmaagreat", sum := "a5b3947e2acd627439db17bd044f1f697c098d77f19e71ad3d7fcf3b458157c2", func := "tithing/tithinglaw05.LinkOnly", spec := "linkOnly", unfollowed := true, recurses := true, plainKeys := false, apart := false, narrowed := true }
def LinkOnlyUptoSaid : Prop := linkOnlyUptoRow.holds Tryz.pinned (OpenSpec.upto linkOnlySpec)

/-- 'tithinglaw05.LinkBack', WHERE WHAT IT READS IS OF BULK AT MOST 1048576: true; the input reads as it did. -/
def linkBackUptoRow : OpenClaim := { program := "ytgbdbikjckfgmaagreat", sum := "a5b3947e2acd627439db17bd044f1f697c098d77f19e71ad3d7fcf3b458157c2", func := "tithing/tithinglaw05.LinkBack", spec := "linkBack", unfollowed := true, recurses := true, plainKeys := false, apart := false, narrowed := true }
def LinkBackUptoSaid : Prop := linkBackUptoRow.holds Tryz.pinned (OpenSpec.upto linkBackSpec)

/-- 'tithinglaw05.LinkOrder', WHERE WHAT IT READS IS OF BULK AT MOST 1048576: true; the input reads as it did. -/
def linkOrderUptoRow : OpenClaim := { program := "ytgbdbikjckfgmaagreat", sum := "a5b3947e2acd627439db17bd044f1f697c098d77f19e71ad3d7fcf3b458157c2", func := "tithing/tithinglaw05.LinkOrder", spec := "linkOrder", unfollowed := true, recurses := true, plainKeys := false, apart := false, narrowed := true }
def LinkOrderUptoSaid : Prop := linkOrderUptoRow.holds Tryz.pinned (OpenSpec.upto linkOrderSpec)

/-- 'tithinglaw05.LinkRemoved', WHERE WHAT IT READS IS OF BULK AT MOST 1048576: true; the input reads as it did. -/
def linkRemovedUptoRow : OpenClaim := { program := "ytgbdbikjckfgmaagreat", sum := "a5b3947e2acd627439db17bd044f1f697c098d77f19e71ad3d7fcf3b458157c2", func := "tithing/tithinglaw05.LinkRemoved", spec := "linkRemoved", unfollowed := true, recurses := true, plainKeys := false, apart := false, narrowed := true }
def LinkRemovedUptoSaid : Prop := linkRemovedUptoRow.holds Tryz.pinned (OpenSpec.upto linkRemovedSpec)

/-- 'tithinglaw05.LinkMore', WHERE WHAT IT READS IS OF BULK AT MOST 1048576: true; the input reads as it did. -/
def linkMoreUptoRow : OpenClaim := { program := "ytgbdbikjckfgmaagreat", sum := "a5b3947e2acd627439db17bd044f1f697c098d77f19e71ad3d7fcf3b458157c2", func := "tithing/tithinglaw05.LinkMore", spec := "linkMore", unfollowed := true, recurses := true, plainKeys := false, apart := false, narrowed := true }
def LinkMoreUptoSaid : Prop := linkMoreUptoRow.holds Tryz.pinned (OpenSpec.upto linkMoreSpec)

/-- 'tithinglaw05.LinkMatches', WHERE WHAT IT READS IS OF BULK AT MOST 1048576: true; the input reads as it did. -/
def linkMatchesUptoRow : OpenClaim := { program := "ytgbdbikjckfgmaagreat", sum := "a5b3947e2acd627439db17bd044f1f697c098d77f19e71ad3d7fcf3b458157c2", func := "tithing/tithinglaw05.LinkMatches", spec := "linkMatches", unfollowed := true, recurses := true, plainKeys := false, apart := false, narrowed := true }
def LinkMatchesUptoSaid : Prop := linkMatchesUptoRow.holds Tryz.pinned (OpenSpec.upto linkMatchesSpec)

/-- 'tithinglaw05.LinkTrue', WHERE WHAT IT READS IS OF BULK AT MOST 1048576: true; the input reads as it did. -/
def linkTrueUptoRow : OpenClaim := { program := "ytgbdbikjckfgmaagreat", sum := "a5b3947e2acd627439db17bd044f1f697c098d77f19e71ad3d7fcf3b458157c2", func := "tithing/tithinglaw05.LinkTrue", spec := "linkTrue", unfollowed := true, recurses := true, plainKeys := false, apart := false, narrowed := true }
def LinkTrueUptoSaid : Prop := linkTrueUptoRow.holds Tryz.pinned (OpenSpec.upto linkTrueSpec)

/-- 'tithinglaw05.LinkEach', WHERE WHAT IT READS IS OF BULK AT MOST 1048576: true; the input reads as it did. -/
def linkEachUptoRow : OpenClaim := { program := "ytgbdbikjckfgmaagreat", sum := "a5b3947e2acd627439db17bd044f1f697c098d77f19e71ad3d7fcf3b458157c2", func := "tithing/tithinglaw05.LinkEach", spec := "linkEach", unfollowed := true, recurses := true, plainKeys := false, apart := false, narrowed := true }
def LinkEachUptoSaid : Prop := linkEachUptoRow.holds Tryz.pinned (OpenSpec.upto linkEachSpec)

/-- 'tithinglaw05.LinkNames', WHERE WHAT IT READS IS OF BULK AT MOST 1048576: true; the input reads as it did. -/
def linkNamesUptoRow : OpenClaim := { program := "ytgbdbikjckfgmaagreat", sum := "a5b3947e2acd627439db17bd044f1f697c098d77f19e71ad3d7fcf3b458157c2", func := "tithing/tithinglaw05.LinkNames", spec := "linkNames", unfollowed := true, recurses := true, plainKeys := false, apart := false, narrowed := true }
def LinkNamesUptoSaid : Prop := linkNamesUptoRow.holds Tryz.pinned (OpenSpec.upto linkNamesSpec)

/-- 'tithinglaw05.LinkProofs', WHERE WHAT IT READS IS OF BULK AT MOST 1048576: true; the input reads as it did. -/
def linkProofsUptoRow : OpenClaim := { program := "ytgbdbikjckfgmaagreat", sum := "a5b3947e2acd627439db17bd044f1f697c098d77f19e71ad3d7fcf3b458157c2", func := "tithing/tithinglaw05.LinkProofs", spec := "linkProofs", unfollowed := true, recurses := true, plainKeys := false, apart := false, narrowed := true }
def LinkProofsUptoSaid : Prop := linkProofsUptoRow.holds Tryz.pinned (OpenSpec.upto linkProofsSpec)

/-- 'tithinglaw05.LinkMost', WHERE WHAT IT READS IS OF BULK AT MOST 1048576: true; the input reads as it did. -/
def linkMostUptoRow : OpenClaim := { program := "ytgbdbikjckfgmaagreat", sum := "a5b3947e2acd627439db17bd044f1f697c098d77f19e71ad3d7fcf3b458157c2", func := "tithing/tithinglaw05.LinkMost", spec := "linkMost", unfollowed := true, recurses := true, plainKeys := false, apart := false, narrowed := true }
def LinkMostUptoSaid : Prop := linkMostUptoRow.holds Tryz.pinned (OpenSpec.upto linkMostSpec)

end Rows
end Go.Proofs.YtgbdbikjckfgmaaGreat
