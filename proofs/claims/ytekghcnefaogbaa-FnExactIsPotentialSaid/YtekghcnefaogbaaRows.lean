/-
  No cell of these rows narrows 'for every input' (looked for: loops, veiled, ifaces, maps, wideKeys, modest, calm, conditions, laid).
  DERIVED. THE GIVEN ROWS OF THIS SEAT. 12 by the template 'for every input the law returns true; each argument reads behind the call as it read before'; 0 by the template 'total and deterministic' (their statements: YtekghcnefaogbaaTotals.lean).
  GIVEN WITH THE SEED: the statements are not yours to turn. If you find one false, say at which input.
  Laid BY PROGRAM, IN A SANDBOX (cutbox-rows.mjs): the forced cells as the released guide's own fill.sh prints them over the translation 05f6f569adbe5179… (all of the seat's roots in one cut). By AI agents, Wed Nov 11 2026. No macro, syntax, notation, axiom, sorry.
-/
import Derived.Test.YtekghcnefaogbaaChecked
import GoSem.Claim
import GoSem.ClaimJoined
import GoSem.ClaimMapViews
import Derived.JoinedTies
import Derived.KernelRfl
namespace Go.Proofs.Ytekghcnefaogbaa
/- THE CELL 'sum', in the pinned program and in every row, IS THE sha256 OF THE DUMP (.gsa) THAT YtekghcnefaogbaaProg.lean LOADS. Nothing in Lean hashes anything: it is a label: what it is worth is what the hold of that sum in a sandbox is worth. -/
noncomputable def Try.pinned : Pinned := { name := "ytekghcnefaogbaa", sum := "05f6f569adbe5179073580da9eee1c8e8cb7c02da36e47e31a28802200aa9239", checked := Try.checked }
namespace Rows
def none {H : Type} : Left H := { results := [], args := [] }

/-- 'laws.FnExactValidRule': WHATEVER THE INPUT: true; the input reads as it did. -/
def fnExactValidRuleSpec : ChangeSpec := { name := "fnExactValidRule", fn := fun _ => fun
  | [d1, d2] => { results := [.lit (.bool true)], args := [d1, d2] }
  | _ => none }
def fnExactValidRuleRow : OpenClaim := { program := "ytekghcnefaogbaa", sum := "05f6f569adbe5179073580da9eee1c8e8cb7c02da36e47e31a28802200aa9239", func := "loop.example/g01116/laws.FnExactValidRule", spec := "fnExactValidRule", unfollowed := true, recurses := true, apart := false }
def FnExactValidRuleSaid : Prop := fnExactValidRuleRow.holds Try.pinned (OpenSpec.ofChange fnExactValidRuleSpec)

/-- ITS FALSE NEIGHBOUR: 'it returns false'. Refute it at one input. -/
def fnExactValidRuleWrong : ChangeSpec := { name := "fnExactValidRule", fn := fun _ => fun
  | [d1, d2] => { results := [.lit (.bool false)], args := [d1, d2] }
  | _ => none }
def FnExactValidRuleWrongFalsely : Prop := fnExactValidRuleRow.holds Try.pinned (OpenSpec.ofChange fnExactValidRuleWrong)

/-- 'laws.FnExactValidSystem': WHATEVER THE INPUT: true; the input reads as it did. -/
def fnExactValidSystemSpec : ChangeSpec := { name := "fnExactValidSystem", fn := fun _ => fun
  | [d] => { results := [.lit (.bool true)], args := [d] }
  | _ => none }
def fnExactValidSystemRow : OpenClaim := { program := "ytekghcnefaogbaa", sum := "05f6f569adbe5179073580da9eee1c8e8cb7c02da36e47e31a28802200aa9239", func := "loop.example/g01116/laws.FnExactValidSystem", spec := "fnExactValidSystem", unfollowed := true, recurses := true, apart := false }
def FnExactValidSystemSaid : Prop := fnExactValidSystemRow.holds Try.pinned (OpenSpec.ofChange fnExactValidSystemSpec)

/-- ITS FALSE NEIGHBOUR: 'it returns false'. Refute it at one input. -/
def fnExactValidSystemWrong : ChangeSpec := { name := "fnExactValidSystem", fn := fun _ => fun
  | [d] => { results := [.lit (.bool false)], args := [d] }
  | _ => none }
def FnExactValidSystemWrongFalsely : Prop := fnExactValidSystemRow.holds Try.pinned (OpenSpec.ofChange fnExactValidSystemWrong)

/-- 'laws.FnExactValidState': WHATEVER THE INPUT: true; the input reads as it did. -/
def fnExactValidStateSpec : ChangeSpec := { name := "fnExactValidState", fn := fun _ => fun
  | [d1, d2] => { results := [.lit (.bool true)], args := [d1, d2] }
  | _ => none }
def fnExactValidStateRow : OpenClaim := { program := "ytekghcnefaogbaa", sum := "05f6f569adbe5179073580da9eee1c8e8cb7c02da36e47e31a28802200aa9239", func := "loop.example/g01116/laws.FnExactValidState", spec := "fnExactValidState", unfollowed := true, recurses := true, apart := false }
def FnExactValidStateSaid : Prop := fnExactValidStateRow.holds Try.pinned (OpenSpec.ofChange fnExactValidStateSpec)

/-- ITS FALSE NEIGHBOUR: 'it returns false'. Refute it at one input. -/
def fnExactValidStateWrong : ChangeSpec := { name := "fnExactValidState", fn := fun _ => fun
  | [d1, d2] => { results := [.lit (.bool false)], args := [d1, d2] }
  | _ => none }
def FnExactValidStateWrongFalsely : Prop := fnExactValidStateRow.holds Try.pinned (OpenSpec.ofChange fnExactValidStateWrong)

/-- 'laws.FnExactParentNow': WHATEVER THE INPUT: true; the input reads as it did. -/
def fnExactParentNowSpec : ChangeSpec := { name := "fnExactParentNow", fn := fun _ => fun
  | [d1, d2, d3] => { results := [.lit (.bool true)], args := [d1, d2, d3] }
  | _ => none }
def fnExactParentNowRow : OpenClaim := { program := "ytekghcnefaogbaa", sum := "05f6f569adbe5179073580da9eee1c8e8cb7c02da36e47e31a28802200aa9239", func := "loop.example/g01116/laws.FnExactParentNow", spec := "fnExactParentNow", unfollowed := true, recurses := true, apart := false }
def FnExactParentNowSaid : Prop := fnExactParentNowRow.holds Try.pinned (OpenSpec.ofChange fnExactParentNowSpec)

/-- ITS FALSE NEIGHBOUR: 'it returns false'. Refute it at one input. -/
def fnExactParentNowWrong : ChangeSpec := { name := "fnExactParentNow", fn := fun _ => fun
  | [d1, d2, d3] => { results := [.lit (.bool false)], args := [d1, d2, d3] }
  | _ => none }
def FnExactParentNowWrongFalsely : Prop := fnExactParentNowRow.holds Try.pinned (OpenSpec.ofChange fnExactParentNowWrong)

/-- 'laws.FnExactWeighState': WHATEVER THE INPUT: true; the input reads as it did. -/
def fnExactWeighStateSpec : ChangeSpec := { name := "fnExactWeighState", fn := fun _ => fun
  | [d1, d2, d3] => { results := [.lit (.bool true)], args := [d1, d2, d3] }
  | _ => none }
def fnExactWeighStateRow : OpenClaim := { program := "ytekghcnefaogbaa", sum := "05f6f569adbe5179073580da9eee1c8e8cb7c02da36e47e31a28802200aa9239", func := "loop.example/g01116/laws.FnExactWeighState", spec := "fnExactWeighState", unfollowed := true, recurses := true, apart := false }
def FnExactWeighStateSaid : Prop := fnExactWeighStateRow.holds Try.pinned (OpenSpec.ofChange fnExactWeighStateSpec)

/-- ITS FALSE NEIGHBOUR: 'it returns false'. Refute it at one input. -/
def fnExactWeighStateWrong : ChangeSpec := { name := "fnExactWeighState", fn := fun _ => fun
  | [d1, d2, d3] => { results := [.lit (.bool false)], args := [d1, d2, d3] }
  | _ => none }
def FnExactWeighStateWrongFalsely : Prop := fnExactWeighStateRow.holds Try.pinned (OpenSpec.ofChange fnExactWeighStateWrong)

/-- 'laws.FnExactIsHalted': WHATEVER THE INPUT: true; the input reads as it did. -/
def fnExactIsHaltedSpec : ChangeSpec := { name := "fnExactIsHalted", fn := fun _ => fun
  | [d1, d2] => { results := [.lit (.bool true)], args := [d1, d2] }
  | _ => none }
def fnExactIsHaltedRow : OpenClaim := { program := "ytekghcnefaogbaa", sum := "05f6f569adbe5179073580da9eee1c8e8cb7c02da36e47e31a28802200aa9239", func := "loop.example/g01116/laws.FnExactIsHalted", spec := "fnExactIsHalted", unfollowed := true, recurses := true, apart := false }
def FnExactIsHaltedSaid : Prop := fnExactIsHaltedRow.holds Try.pinned (OpenSpec.ofChange fnExactIsHaltedSpec)

/-- ITS FALSE NEIGHBOUR: 'it returns false'. Refute it at one input. -/
def fnExactIsHaltedWrong : ChangeSpec := { name := "fnExactIsHalted", fn := fun _ => fun
  | [d1, d2] => { results := [.lit (.bool false)], args := [d1, d2] }
  | _ => none }
def FnExactIsHaltedWrongFalsely : Prop := fnExactIsHaltedRow.holds Try.pinned (OpenSpec.ofChange fnExactIsHaltedWrong)

/-- 'laws.FnExactIsChoice': WHATEVER THE INPUT: true; the input reads as it did. -/
def fnExactIsChoiceSpec : ChangeSpec := { name := "fnExactIsChoice", fn := fun _ => fun
  | [d1, d2, d3] => { results := [.lit (.bool true)], args := [d1, d2, d3] }
  | _ => none }
def fnExactIsChoiceRow : OpenClaim := { program := "ytekghcnefaogbaa", sum := "05f6f569adbe5179073580da9eee1c8e8cb7c02da36e47e31a28802200aa9239", func := "loop.example/g01116/laws.FnExactIsChoice", spec := "fnExactIsChoice", unfollowed := true, recurses := true, apart := false }
def FnExactIsChoiceSaid : Prop := fnExactIsChoiceRow.holds Try.pinned (OpenSpec.ofChange fnExactIsChoiceSpec)

/-- ITS FALSE NEIGHBOUR: 'it returns false'. Refute it at one input. -/
def fnExactIsChoiceWrong : ChangeSpec := { name := "fnExactIsChoice", fn := fun _ => fun
  | [d1, d2, d3] => { results := [.lit (.bool false)], args := [d1, d2, d3] }
  | _ => none }
def FnExactIsChoiceWrongFalsely : Prop := fnExactIsChoiceRow.holds Try.pinned (OpenSpec.ofChange fnExactIsChoiceWrong)

/-- 'laws.FnExactIsMaximal': WHATEVER THE INPUT: true; the input reads as it did. -/
def fnExactIsMaximalSpec : ChangeSpec := { name := "fnExactIsMaximal", fn := fun _ => fun
  | [d1, d2, d3] => { results := [.lit (.bool true)], args := [d1, d2, d3] }
  | _ => none }
def fnExactIsMaximalRow : OpenClaim := { program := "ytekghcnefaogbaa", sum := "05f6f569adbe5179073580da9eee1c8e8cb7c02da36e47e31a28802200aa9239", func := "loop.example/g01116/laws.FnExactIsMaximal", spec := "fnExactIsMaximal", unfollowed := true, recurses := true, apart := false }
def FnExactIsMaximalSaid : Prop := fnExactIsMaximalRow.holds Try.pinned (OpenSpec.ofChange fnExactIsMaximalSpec)

/-- ITS FALSE NEIGHBOUR: 'it returns false'. Refute it at one input. -/
def fnExactIsMaximalWrong : ChangeSpec := { name := "fnExactIsMaximal", fn := fun _ => fun
  | [d1, d2, d3] => { results := [.lit (.bool false)], args := [d1, d2, d3] }
  | _ => none }
def FnExactIsMaximalWrongFalsely : Prop := fnExactIsMaximalRow.holds Try.pinned (OpenSpec.ofChange fnExactIsMaximalWrong)

/-- 'laws.FnExactCountChoices': WHATEVER THE INPUT: true; the input reads as it did. -/
def fnExactCountChoicesSpec : ChangeSpec := { name := "fnExactCountChoices", fn := fun _ => fun
  | [d1, d2] => { results := [.lit (.bool true)], args := [d1, d2] }
  | _ => none }
def fnExactCountChoicesRow : OpenClaim := { program := "ytekghcnefaogbaa", sum := "05f6f569adbe5179073580da9eee1c8e8cb7c02da36e47e31a28802200aa9239", func := "loop.example/g01116/laws.FnExactCountChoices", spec := "fnExactCountChoices", unfollowed := true, recurses := true, apart := false }
def FnExactCountChoicesSaid : Prop := fnExactCountChoicesRow.holds Try.pinned (OpenSpec.ofChange fnExactCountChoicesSpec)

/-- ITS FALSE NEIGHBOUR: 'it returns false'. Refute it at one input. -/
def fnExactCountChoicesWrong : ChangeSpec := { name := "fnExactCountChoices", fn := fun _ => fun
  | [d1, d2] => { results := [.lit (.bool false)], args := [d1, d2] }
  | _ => none }
def FnExactCountChoicesWrongFalsely : Prop := fnExactCountChoicesRow.holds Try.pinned (OpenSpec.ofChange fnExactCountChoicesWrong)

/-- 'laws.FnExactIsInvariant': WHATEVER THE INPUT: true; the input reads as it did. -/
def fnExactIsInvariantSpec : ChangeSpec := { name := "fnExactIsInvariant", fn := fun _ => fun
  | [d1, d2] => { results := [.lit (.bool true)], args := [d1, d2] }
  | _ => none }
def fnExactIsInvariantRow : OpenClaim := { program := "ytekghcnefaogbaa", sum := "05f6f569adbe5179073580da9eee1c8e8cb7c02da36e47e31a28802200aa9239", func := "loop.example/g01116/laws.FnExactIsInvariant", spec := "fnExactIsInvariant", unfollowed := true, recurses := true, apart := false }
def FnExactIsInvariantSaid : Prop := fnExactIsInvariantRow.holds Try.pinned (OpenSpec.ofChange fnExactIsInvariantSpec)

/-- ITS FALSE NEIGHBOUR: 'it returns false'. Refute it at one input. -/
def fnExactIsInvariantWrong : ChangeSpec := { name := "fnExactIsInvariant", fn := fun _ => fun
  | [d1, d2] => { results := [.lit (.bool false)], args := [d1, d2] }
  | _ => none }
def FnExactIsInvariantWrongFalsely : Prop := fnExactIsInvariantRow.holds Try.pinned (OpenSpec.ofChange fnExactIsInvariantWrong)

/-- 'laws.FnExactIsPotential': WHATEVER THE INPUT: true; the input reads as it did. -/
def fnExactIsPotentialSpec : ChangeSpec := { name := "fnExactIsPotential", fn := fun _ => fun
  | [d1, d2] => { results := [.lit (.bool true)], args := [d1, d2] }
  | _ => none }
def fnExactIsPotentialRow : OpenClaim := { program := "ytekghcnefaogbaa", sum := "05f6f569adbe5179073580da9eee1c8e8cb7c02da36e47e31a28802200aa9239", func := "loop.example/g01116/laws.FnExactIsPotential", spec := "fnExactIsPotential", unfollowed := true, recurses := true, apart := false }
def FnExactIsPotentialSaid : Prop := fnExactIsPotentialRow.holds Try.pinned (OpenSpec.ofChange fnExactIsPotentialSpec)

/-- ITS FALSE NEIGHBOUR: 'it returns false'. Refute it at one input. -/
def fnExactIsPotentialWrong : ChangeSpec := { name := "fnExactIsPotential", fn := fun _ => fun
  | [d1, d2] => { results := [.lit (.bool false)], args := [d1, d2] }
  | _ => none }
def FnExactIsPotentialWrongFalsely : Prop := fnExactIsPotentialRow.holds Try.pinned (OpenSpec.ofChange fnExactIsPotentialWrong)

/-- 'laws.FnExactIsFree': WHATEVER THE INPUT: true; the input reads as it did. -/
def fnExactIsFreeSpec : ChangeSpec := { name := "fnExactIsFree", fn := fun _ => fun
  | [d1, d2] => { results := [.lit (.bool true)], args := [d1, d2] }
  | _ => none }
def fnExactIsFreeRow : OpenClaim := { program := "ytekghcnefaogbaa", sum := "05f6f569adbe5179073580da9eee1c8e8cb7c02da36e47e31a28802200aa9239", func := "loop.example/g01116/laws.FnExactIsFree", spec := "fnExactIsFree", unfollowed := true, recurses := true, apart := false }
def FnExactIsFreeSaid : Prop := fnExactIsFreeRow.holds Try.pinned (OpenSpec.ofChange fnExactIsFreeSpec)

/-- ITS FALSE NEIGHBOUR: 'it returns false'. Refute it at one input. -/
def fnExactIsFreeWrong : ChangeSpec := { name := "fnExactIsFree", fn := fun _ => fun
  | [d1, d2] => { results := [.lit (.bool false)], args := [d1, d2] }
  | _ => none }
def FnExactIsFreeWrongFalsely : Prop := fnExactIsFreeRow.holds Try.pinned (OpenSpec.ofChange fnExactIsFreeWrong)

/- THE SECOND FORM. 'bulk': how many values and letters a reading holds, each counted each time it is reached (what is shared counts as often as it is met; a slice's spare places count too). A statement '..UptoSaid' is the law's where the arguments, and the package variables that the reading takes, are together of bulk at most 1048576: NARROWER than '..Said'. Prove '..Said' where nothing that the law and all that it calls make is longer than what came in: it says more and counts as full. Else prove '..UptoSaid'. A law counts once. -/
mutual
def uptoBulk {H : Type} : DataW H → Nat
  | .lit (.string bytes) => bytes.length + 1
  | .lit _ => 1
  | .nil => 1
  | .ptr d => uptoBulk d + 1
  | .slice elems spare => uptoBulkAll elems + uptoBulkAll spare + 1
  | .agg parts => uptoBulkAll parts + 1
  | .iface _ d => uptoBulk d + 1
  | .map entries => uptoBulkEntries entries + 1
  | .held _ => 1
def uptoBulkAll {H : Type} : List (DataW H) → Nat
  | [] => 0
  | d :: r => uptoBulk d + uptoBulkAll r
def uptoBulkEntries {H : Type} : List (Lit × DataW H) → Nat
  | [] => 0
  | x :: r => uptoBulkEntry x + uptoBulkEntries r
def uptoBulkEntry {H : Type} : Lit × DataW H → Nat
  | (.string bytes, d) => bytes.length + uptoBulk d + 1
  | (_, d) => uptoBulk d + 1
 end
def uptoSmall : (H : Type) → List (DataW H) → Bool := fun _ ds => decide (uptoBulkAll ds ≤ 1048576)
def OpenSpec.upto (s : _root_.Go.ChangeSpec) : _root_.Go.OpenSpec := { _root_.Go.OpenSpec.ofChange s with cond := some uptoSmall }

/-- 'laws.FnExactValidRule', WHERE WHAT IT READS IS OF BULK AT MOST 1048576: true; the input reads as it did. -/
def fnExactValidRuleUptoRow : OpenClaim := { program := "ytekghcnefaogbaa", sum := "05f6f569adbe5179073580da9eee1c8e8cb7c02da36e47e31a28802200aa9239", func := "loop.example/g01116/laws.FnExactValidRule", spec := "fnExactValidRule", unfollowed := true, recurses := true, apart := false, narrowed := true }
def FnExactValidRuleUptoSaid : Prop := fnExactValidRuleUptoRow.holds Try.pinned (OpenSpec.upto fnExactValidRuleSpec)

/-- 'laws.FnExactValidSystem', WHERE WHAT IT READS IS OF BULK AT MOST 1048576: true; the input reads as it did. -/
def fnExactValidSystemUptoRow : OpenClaim := { program := "ytekghcnefaogbaa", sum := "05f6f569adbe5179073580da9eee1c8e8cb7c02da36e47e31a28802200aa9239", func := "loop.example/g01116/laws.FnExactValidSystem", spec := "fnExactValidSystem", unfollowed := true, recurses := true, apart := false, narrowed := true }
def FnExactValidSystemUptoSaid : Prop := fnExactValidSystemUptoRow.holds Try.pinned (OpenSpec.upto fnExactValidSystemSpec)

/-- 'laws.FnExactValidState', WHERE WHAT IT READS IS OF BULK AT MOST 1048576: true; the input reads as it did. -/
def fnExactValidStateUptoRow : OpenClaim := { program := "ytekghcnefaogbaa", sum := "05f6f569adbe5179073580da9eee1c8e8cb7c02da36e47e31a28802200aa9239", func := "loop.example/g01116/laws.FnExactValidState", spec := "fnExactValidState", unfollowed := true, recurses := true, apart := false, narrowed := true }
def FnExactValidStateUptoSaid : Prop := fnExactValidStateUptoRow.holds Try.pinned (OpenSpec.upto fnExactValidStateSpec)

/-- 'laws.FnExactParentNow', WHERE WHAT IT READS IS OF BULK AT MOST 1048576: true; the input reads as it did. -/
def fnExactParentNowUptoRow : OpenClaim := { program := "ytekghcnefaogbaa", sum := "05f6f569adbe5179073580da9eee1c8e8cb7c02da36e47e31a28802200aa9239", func := "loop.example/g01116/laws.FnExactParentNow", spec := "fnExactParentNow", unfollowed := true, recurses := true, apart := false, narrowed := true }
def FnExactParentNowUptoSaid : Prop := fnExactParentNowUptoRow.holds Try.pinned (OpenSpec.upto fnExactParentNowSpec)

/-- 'laws.FnExactWeighState', WHERE WHAT IT READS IS OF BULK AT MOST 1048576: true; the input reads as it did. -/
def fnExactWeighStateUptoRow : OpenClaim := { program := "ytekghcnefaogbaa", sum := "05f6f569adbe5179073580da9eee1c8e8cb7c02da36e47e31a28802200aa9239", func := "loop.example/g01116/laws.FnExactWeighState", spec := "fnExactWeighState", unfollowed := true, recurses := true, apart := false, narrowed := true }
def FnExactWeighStateUptoSaid : Prop := fnExactWeighStateUptoRow.holds Try.pinned (OpenSpec.upto fnExactWeighStateSpec)

/-- 'laws.FnExactIsHalted', WHERE WHAT IT READS IS OF BULK AT MOST 1048576: true; the input reads as it did. -/
def fnExactIsHaltedUptoRow : OpenClaim := { program := "ytekghcnefaogbaa", sum := "05f6f569adbe5179073580da9eee1c8e8cb7c02da36e47e31a28802200aa9239", func := "loop.example/g01116/laws.FnExactIsHalted", spec := "fnExactIsHalted", unfollowed := true, recurses := true, apart := false, narrowed := true }
def FnExactIsHaltedUptoSaid : Prop := fnExactIsHaltedUptoRow.holds Try.pinned (OpenSpec.upto fnExactIsHaltedSpec)

/-- 'laws.FnExactIsChoice', WHERE WHAT IT READS IS OF BULK AT MOST 1048576: true; the input reads as it did. -/
def fnExactIsChoiceUptoRow : OpenClaim := { program := "ytekghcnefaogbaa", sum := "05f6f569adbe5179073580da9eee1c8e8cb7c02da36e47e31a28802200aa9239", func := "loop.example/g01116/laws.FnExactIsChoice", spec := "fnExactIsChoice", unfollowed := true, recurses := true, apart := false, narrowed := true }
def FnExactIsChoiceUptoSaid : Prop := fnExactIsChoiceUptoRow.holds Try.pinned (OpenSpec.upto fnExactIsChoiceSpec)

/-- 'laws.FnExactIsMaximal', WHERE WHAT IT READS IS OF BULK AT MOST 1048576: true; the input reads as it did. -/
def fnExactIsMaximalUptoRow : OpenClaim := { program := "ytekghcnefaogbaa", sum := "05f6f569adbe5179073580da9eee1c8e8cb7c02da36e47e31a28802200aa9239", func := "loop.example/g01116/laws.FnExactIsMaximal", spec := "fnExactIsMaximal", unfollowed := true, recurses := true, apart := false, narrowed := true }
def FnExactIsMaximalUptoSaid : Prop := fnExactIsMaximalUptoRow.holds Try.pinned (OpenSpec.upto fnExactIsMaximalSpec)

/-- 'laws.FnExactCountChoices', WHERE WHAT IT READS IS OF BULK AT MOST 1048576: true; the input reads as it did. -/
def fnExactCountChoicesUptoRow : OpenClaim := { program := "ytekghcnefaogbaa", sum := "05f6f569adbe5179073580da9eee1c8e8cb7c02da36e47e31a28802200aa9239", func := "loop.example/g01116/laws.FnExactCountChoices", spec := "fnExactCountChoices", unfollowed := true, recurses := true, apart := false, narrowed := true }
def FnExactCountChoicesUptoSaid : Prop := fnExactCountChoicesUptoRow.holds Try.pinned (OpenSpec.upto fnExactCountChoicesSpec)

/-- 'laws.FnExactIsInvariant', WHERE WHAT IT READS IS OF BULK AT MOST 1048576: true; the input reads as it did. -/
def fnExactIsInvariantUptoRow : OpenClaim := { program := "ytekghcnefaogbaa", sum := "05f6f569adbe5179073580da9eee1c8e8cb7c02da36e47e31a28802200aa9239", func := "loop.example/g01116/laws.FnExactIsInvariant", spec := "fnExactIsInvariant", unfollowed := true, recurses := true, apart := false, narrowed := true }
def FnExactIsInvariantUptoSaid : Prop := fnExactIsInvariantUptoRow.holds Try.pinned (OpenSpec.upto fnExactIsInvariantSpec)

/-- 'laws.FnExactIsPotential', WHERE WHAT IT READS IS OF BULK AT MOST 1048576: true; the input reads as it did. -/
def fnExactIsPotentialUptoRow : OpenClaim := { program := "ytekghcnefaogbaa", sum := "05f6f569adbe5179073580da9eee1c8e8cb7c02da36e47e31a28802200aa9239", func := "loop.example/g01116/laws.FnExactIsPotential", spec := "fnExactIsPotential", unfollowed := true, recurses := true, apart := false, narrowed := true }
def FnExactIsPotentialUptoSaid : Prop := fnExactIsPotentialUptoRow.holds Try.pinned (OpenSpec.upto fnExactIsPotentialSpec)

/-- 'laws.FnExactIsFree', WHERE WHAT IT READS IS OF BULK AT MOST 1048576: true; the input reads as it did. -/
def fnExactIsFreeUptoRow : OpenClaim := { program := "ytekghcnefaogbaa", sum := "05f6f569adbe5179073580da9eee1c8e8cb7c02da36e47e31a28802200aa9239", func := "loop.example/g01116/laws.FnExactIsFree", spec := "fnExactIsFree", unfollowed := true, recurses := true, apart := false, narrowed := true }
def FnExactIsFreeUptoSaid : Prop := fnExactIsFreeUptoRow.holds Try.pinned (OpenSpec.upto fnExactIsFreeSpec)

end Rows
end Go.Proofs.Ytekghcnefaogbaa
