/-
  No cell of these rows narrows 'for every input' (looked for: loops, veiled, ifaces, maps, wideKeys, modest, calm, conditions, laid).
  DERIVED. THE GIVEN ROWS OF THIS SEAT. 10 by the template 'for every input the law returns true; each argument reads behind the call as it read before'; 0 by the template 'total and deterministic' (their statements: YtfnnnmdgicjfgaaTotals.lean).
  GIVEN WITH THE SEED: the statements are not yours to turn. If you find one false, say at which input.
  Laid BY PROGRAM, IN A SANDBOX (cutbox-rows.mjs): the forced cells as the released guide's own fill.sh prints them over the translation b60ab8110a90594b… (all of the seat's roots in one cut). By AI agents, Wed Nov 11 2026. No macro, syntax, notation, axiom, sorry.
-/
import Derived.Test.YtfnnnmdgicjfgaaChecked
import GoSem.Claim
import GoSem.ClaimJoined
import GoSem.ClaimMapViews
import Derived.JoinedTies
import Derived.KernelRfl
namespace Go.Proofs.Ytfnnnmdgicjfgaa
/- THE CELL 'sum', in the pinned program and in every row, IS THE sha256 OF THE DUMP (.gsa) THAT YtfnnnmdgicjfgaaProg.lean LOADS. Nothing in Lean hashes anything: it is a label: what it is worth is what the hold of that sum in a sandbox is worth. -/
noncomputable def Try.pinned : Pinned := { name := "ytfnnnmdgicjfgaa", sum := "b60ab8110a90594b78a256cb8a1927739468aabb5e349b58132a74ce45f8376b", checked := Try.checked }
namespace Rows
def none {H : Type} : Left H := { results := [], args := [] }

/-- 'laws.FnExactCnfSteps': WHATEVER THE INPUT: true; the input reads as it did. -/
def fnExactCnfStepsSpec : ChangeSpec := { name := "fnExactCnfSteps", fn := fun _ => fun
  | [d] => { results := [.lit (.bool true)], args := [d] }
  | _ => none }
def fnExactCnfStepsRow : OpenClaim := { program := "ytfnnnmdgicjfgaa", sum := "b60ab8110a90594b78a256cb8a1927739468aabb5e349b58132a74ce45f8376b", func := "loop.example/g01116/laws.FnExactCnfSteps", spec := "fnExactCnfSteps", apart := false }
def FnExactCnfStepsSaid : Prop := fnExactCnfStepsRow.holds Try.pinned (OpenSpec.ofChange fnExactCnfStepsSpec)

/-- ITS FALSE NEIGHBOUR: 'it returns false'. Refute it at one input. -/
def fnExactCnfStepsWrong : ChangeSpec := { name := "fnExactCnfSteps", fn := fun _ => fun
  | [d] => { results := [.lit (.bool false)], args := [d] }
  | _ => none }
def FnExactCnfStepsWrongFalsely : Prop := fnExactCnfStepsRow.holds Try.pinned (OpenSpec.ofChange fnExactCnfStepsWrong)

/-- 'laws.FnExactHoldsCnf': WHATEVER THE INPUT: true; the input reads as it did. -/
def fnExactHoldsCnfSpec : ChangeSpec := { name := "fnExactHoldsCnf", fn := fun _ => fun
  | [d1, d2] => { results := [.lit (.bool true)], args := [d1, d2] }
  | _ => none }
def fnExactHoldsCnfRow : OpenClaim := { program := "ytfnnnmdgicjfgaa", sum := "b60ab8110a90594b78a256cb8a1927739468aabb5e349b58132a74ce45f8376b", func := "loop.example/g01116/laws.FnExactHoldsCnf", spec := "fnExactHoldsCnf", unfollowed := true, recurses := true, apart := false }
def FnExactHoldsCnfSaid : Prop := fnExactHoldsCnfRow.holds Try.pinned (OpenSpec.ofChange fnExactHoldsCnfSpec)

/-- ITS FALSE NEIGHBOUR: 'it returns false'. Refute it at one input. -/
def fnExactHoldsCnfWrong : ChangeSpec := { name := "fnExactHoldsCnf", fn := fun _ => fun
  | [d1, d2] => { results := [.lit (.bool false)], args := [d1, d2] }
  | _ => none }
def FnExactHoldsCnfWrongFalsely : Prop := fnExactHoldsCnfRow.holds Try.pinned (OpenSpec.ofChange fnExactHoldsCnfWrong)

/-- 'laws.FnExactValidDivision': WHATEVER THE INPUT: true; the input reads as it did. -/
def fnExactValidDivisionSpec : ChangeSpec := { name := "fnExactValidDivision", fn := fun _ => fun
  | [d] => { results := [.lit (.bool true)], args := [d] }
  | _ => none }
def fnExactValidDivisionRow : OpenClaim := { program := "ytfnnnmdgicjfgaa", sum := "b60ab8110a90594b78a256cb8a1927739468aabb5e349b58132a74ce45f8376b", func := "loop.example/g01116/laws.FnExactValidDivision", spec := "fnExactValidDivision", unfollowed := true, recurses := true, apart := false }
def FnExactValidDivisionSaid : Prop := fnExactValidDivisionRow.holds Try.pinned (OpenSpec.ofChange fnExactValidDivisionSpec)

/-- ITS FALSE NEIGHBOUR: 'it returns false'. Refute it at one input. -/
def fnExactValidDivisionWrong : ChangeSpec := { name := "fnExactValidDivision", fn := fun _ => fun
  | [d] => { results := [.lit (.bool false)], args := [d] }
  | _ => none }
def FnExactValidDivisionWrongFalsely : Prop := fnExactValidDivisionRow.holds Try.pinned (OpenSpec.ofChange fnExactValidDivisionWrong)

/-- 'laws.FnExactValidColony': WHATEVER THE INPUT: true; the input reads as it did. -/
def fnExactValidColonySpec : ChangeSpec := { name := "fnExactValidColony", fn := fun _ => fun
  | [d1, d2] => { results := [.lit (.bool true)], args := [d1, d2] }
  | _ => none }
def fnExactValidColonyRow : OpenClaim := { program := "ytfnnnmdgicjfgaa", sum := "b60ab8110a90594b78a256cb8a1927739468aabb5e349b58132a74ce45f8376b", func := "loop.example/g01116/laws.FnExactValidColony", spec := "fnExactValidColony", unfollowed := true, recurses := true, apart := false }
def FnExactValidColonySaid : Prop := fnExactValidColonyRow.holds Try.pinned (OpenSpec.ofChange fnExactValidColonySpec)

/-- ITS FALSE NEIGHBOUR: 'it returns false'. Refute it at one input. -/
def fnExactValidColonyWrong : ChangeSpec := { name := "fnExactValidColony", fn := fun _ => fun
  | [d1, d2] => { results := [.lit (.bool false)], args := [d1, d2] }
  | _ => none }
def FnExactValidColonyWrongFalsely : Prop := fnExactValidColonyRow.holds Try.pinned (OpenSpec.ofChange fnExactValidColonyWrong)

/-- 'laws.FnExactCountCells': WHATEVER THE INPUT: true; the input reads as it did. -/
def fnExactCountCellsSpec : ChangeSpec := { name := "fnExactCountCells", fn := fun _ => fun
  | [d1, d2] => { results := [.lit (.bool true)], args := [d1, d2] }
  | _ => none }
def fnExactCountCellsRow : OpenClaim := { program := "ytfnnnmdgicjfgaa", sum := "b60ab8110a90594b78a256cb8a1927739468aabb5e349b58132a74ce45f8376b", func := "loop.example/g01116/laws.FnExactCountCells", spec := "fnExactCountCells", unfollowed := true, recurses := true, apart := false }
def FnExactCountCellsSaid : Prop := fnExactCountCellsRow.holds Try.pinned (OpenSpec.ofChange fnExactCountCellsSpec)

/-- ITS FALSE NEIGHBOUR: 'it returns false'. Refute it at one input. -/
def fnExactCountCellsWrong : ChangeSpec := { name := "fnExactCountCells", fn := fun _ => fun
  | [d1, d2] => { results := [.lit (.bool false)], args := [d1, d2] }
  | _ => none }
def FnExactCountCellsWrongFalsely : Prop := fnExactCountCellsRow.holds Try.pinned (OpenSpec.ofChange fnExactCountCellsWrong)

/-- 'laws.FnExactCountObject': WHATEVER THE INPUT: true; the input reads as it did. -/
def fnExactCountObjectSpec : ChangeSpec := { name := "fnExactCountObject", fn := fun _ => fun
  | [d1, d2, d3] => { results := [.lit (.bool true)], args := [d1, d2, d3] }
  | _ => none }
def fnExactCountObjectRow : OpenClaim := { program := "ytfnnnmdgicjfgaa", sum := "b60ab8110a90594b78a256cb8a1927739468aabb5e349b58132a74ce45f8376b", func := "loop.example/g01116/laws.FnExactCountObject", spec := "fnExactCountObject", unfollowed := true, recurses := true, apart := false }
def FnExactCountObjectSaid : Prop := fnExactCountObjectRow.holds Try.pinned (OpenSpec.ofChange fnExactCountObjectSpec)

/-- ITS FALSE NEIGHBOUR: 'it returns false'. Refute it at one input. -/
def fnExactCountObjectWrong : ChangeSpec := { name := "fnExactCountObject", fn := fun _ => fun
  | [d1, d2, d3] => { results := [.lit (.bool false)], args := [d1, d2, d3] }
  | _ => none }
def FnExactCountObjectWrongFalsely : Prop := fnExactCountObjectRow.holds Try.pinned (OpenSpec.ofChange fnExactCountObjectWrong)

/-- 'laws.FnExactTrueRows': WHATEVER THE INPUT: true; the input reads as it did. -/
def fnExactTrueRowsSpec : ChangeSpec := { name := "fnExactTrueRows", fn := fun _ => fun
  | [d] => { results := [.lit (.bool true)], args := [d] }
  | _ => none }
def fnExactTrueRowsRow : OpenClaim := { program := "ytfnnnmdgicjfgaa", sum := "b60ab8110a90594b78a256cb8a1927739468aabb5e349b58132a74ce45f8376b", func := "loop.example/g01116/laws.FnExactTrueRows", spec := "fnExactTrueRows", unfollowed := true, recurses := true, apart := false }
def FnExactTrueRowsSaid : Prop := fnExactTrueRowsRow.holds Try.pinned (OpenSpec.ofChange fnExactTrueRowsSpec)

/-- ITS FALSE NEIGHBOUR: 'it returns false'. Refute it at one input. -/
def fnExactTrueRowsWrong : ChangeSpec := { name := "fnExactTrueRows", fn := fun _ => fun
  | [d] => { results := [.lit (.bool false)], args := [d] }
  | _ => none }
def FnExactTrueRowsWrongFalsely : Prop := fnExactTrueRowsRow.holds Try.pinned (OpenSpec.ofChange fnExactTrueRowsWrong)

/-- 'laws.FnExactValidState': WHATEVER THE INPUT: true; the input reads as it did. -/
def fnExactValidStateSpec : ChangeSpec := { name := "fnExactValidState", fn := fun _ => fun
  | [d1, d2] => { results := [.lit (.bool true)], args := [d1, d2] }
  | _ => none }
def fnExactValidStateRow : OpenClaim := { program := "ytfnnnmdgicjfgaa", sum := "b60ab8110a90594b78a256cb8a1927739468aabb5e349b58132a74ce45f8376b", func := "loop.example/g01116/laws.FnExactValidState", spec := "fnExactValidState", unfollowed := true, recurses := true, apart := false }
def FnExactValidStateSaid : Prop := fnExactValidStateRow.holds Try.pinned (OpenSpec.ofChange fnExactValidStateSpec)

/-- ITS FALSE NEIGHBOUR: 'it returns false'. Refute it at one input. -/
def fnExactValidStateWrong : ChangeSpec := { name := "fnExactValidState", fn := fun _ => fun
  | [d1, d2] => { results := [.lit (.bool false)], args := [d1, d2] }
  | _ => none }
def FnExactValidStateWrongFalsely : Prop := fnExactValidStateRow.holds Try.pinned (OpenSpec.ofChange fnExactValidStateWrong)

/-- 'laws.FnExactParentNow': WHATEVER THE INPUT: true; the input reads as it did. -/
def fnExactParentNowSpec : ChangeSpec := { name := "fnExactParentNow", fn := fun _ => fun
  | [d1, d2, d3] => { results := [.lit (.bool true)], args := [d1, d2, d3] }
  | _ => none }
def fnExactParentNowRow : OpenClaim := { program := "ytfnnnmdgicjfgaa", sum := "b60ab8110a90594b78a256cb8a1927739468aabb5e349b58132a74ce45f8376b", func := "loop.example/g01116/laws.FnExactParentNow", spec := "fnExactParentNow", unfollowed := true, recurses := true, apart := false }
def FnExactParentNowSaid : Prop := fnExactParentNowRow.holds Try.pinned (OpenSpec.ofChange fnExactParentNowSpec)

/-- ITS FALSE NEIGHBOUR: 'it returns false'. Refute it at one input. -/
def fnExactParentNowWrong : ChangeSpec := { name := "fnExactParentNow", fn := fun _ => fun
  | [d1, d2, d3] => { results := [.lit (.bool false)], args := [d1, d2, d3] }
  | _ => none }
def FnExactParentNowWrongFalsely : Prop := fnExactParentNowRow.holds Try.pinned (OpenSpec.ofChange fnExactParentNowWrong)

/-- 'laws.FnExactWeighState': WHATEVER THE INPUT: true; the input reads as it did. -/
def fnExactWeighStateSpec : ChangeSpec := { name := "fnExactWeighState", fn := fun _ => fun
  | [d1, d2, d3] => { results := [.lit (.bool true)], args := [d1, d2, d3] }
  | _ => none }
def fnExactWeighStateRow : OpenClaim := { program := "ytfnnnmdgicjfgaa", sum := "b60ab8110a90594b78a256cb8a1927739468aabb5e349b58132a74ce45f8376b", func := "loop.example/g01116/laws.FnExactWeighState", spec := "fnExactWeighState", unfollowed := true, recurses := true, apart := false }
def FnExactWeighStateSaid : Prop := fnExactWeighStateRow.holds Try.pinned (OpenSpec.ofChange fnExactWeighStateSpec)

/-- ITS FALSE NEIGHBOUR: 'it returns false'. Refute it at one input. -/
def fnExactWeighStateWrong : ChangeSpec := { name := "fnExactWeighState", fn := fun _ => fun
  | [d1, d2, d3] => { results := [.lit (.bool false)], args := [d1, d2, d3] }
  | _ => none }
def FnExactWeighStateWrongFalsely : Prop := fnExactWeighStateRow.holds Try.pinned (OpenSpec.ofChange fnExactWeighStateWrong)

/- THE SECOND FORM. 'bulk': how many values and letters a reading holds, each counted each time it is reached (what is shared counts as often as it is met; a slice's spare places count too). A statement '..UptoSaid' is the law's where the arguments, and the package variables that the reading takes, are together of bulk at most 1048576: NARROWER than '..Said'. Prove '..Said' where nothing that the law and all that it calls make is longer than what came in: it says more and counts as full. Else prove '..UptoSaid'. A law counts once. -/
mutual
def uptoBulk {H : Type} : DataW H → Nat
  | .lit (.string bytes) => bytes.length + 1
  | .lit _ => 1
  | .nil => 1
  | .ptr d => uptoBulk d + 1
  | .slice elems spare => uptoBulkAll elems + uptoBulkAll spare + 1
  | .agg parts => uptoBulkAll parts + 1
  | .iface _ d => uptoBulk d + 1
  | .map entries => uptoBulkEntries entries + 1
  | .held _ => 1
def uptoBulkAll {H : Type} : List (DataW H) → Nat
  | [] => 0
  | d :: r => uptoBulk d + uptoBulkAll r
def uptoBulkEntries {H : Type} : List (Lit × DataW H) → Nat
  | [] => 0
  | x :: r => uptoBulkEntry x + uptoBulkEntries r
def uptoBulkEntry {H : Type} : Lit × DataW H → Nat
  | (.string bytes, d) => bytes.length + uptoBulk d + 1
  | (_, d) => uptoBulk d + 1
 end
def uptoSmall : (H : Type) → List (DataW H) → Bool := fun _ ds => decide (uptoBulkAll ds ≤ 1048576)
def OpenSpec.upto (s : _root_.Go.ChangeSpec) : _root_.Go.OpenSpec := { _root_.Go.OpenSpec.ofChange s with cond := some uptoSmall }

/-- 'laws.FnExactCnfSteps', WHERE WHAT IT READS IS OF BULK AT MOST 1048576: true; the input reads as it did. -/
def fnExactCnfStepsUptoRow : OpenClaim := { program := "ytfnnnmdgicjfgaa", sum := "b60ab8110a90594b78a256cb8a1927739468aabb5e349b58132a74ce45f8376b", func := "loop.example/g01116/laws.FnExactCnfSteps", spec := "fnExactCnfSteps", apart := false, narrowed := true }
def FnExactCnfStepsUptoSaid : Prop := fnExactCnfStepsUptoRow.holds Try.pinned (OpenSpec.upto fnExactCnfStepsSpec)

/-- 'laws.FnExactHoldsCnf', WHERE WHAT IT READS IS OF BULK AT MOST 1048576: true; the input reads as it did. -/
def fnExactHoldsCnfUptoRow : OpenClaim := { program := "ytfnnnmdgicjfgaa", sum := "b60ab8110a90594b78a256cb8a1927739468aabb5e349b58132a74ce45f8376b", func := "loop.example/g01116/laws.FnExactHoldsCnf", spec := "fnExactHoldsCnf", unfollowed := true, recurses := true, apart := false, narrowed := true }
def FnExactHoldsCnfUptoSaid : Prop := fnExactHoldsCnfUptoRow.holds Try.pinned (OpenSpec.upto fnExactHoldsCnfSpec)

/-- 'laws.FnExactValidDivision', WHERE WHAT IT READS IS OF BULK AT MOST 1048576: true; the input reads as it did. -/
def fnExactValidDivisionUptoRow : OpenClaim := { program := "ytfnnnmdgicjfgaa", sum := "b60ab8110a90594b78a256cb8a1927739468aabb5e349b58132a74ce45f8376b", func := "loop.example/g01116/laws.FnExactValidDivision", spec := "fnExactValidDivision", unfollowed := true, recurses := true, apart := false, narrowed := true }
def FnExactValidDivisionUptoSaid : Prop := fnExactValidDivisionUptoRow.holds Try.pinned (OpenSpec.upto fnExactValidDivisionSpec)

/-- 'laws.FnExactValidColony', WHERE WHAT IT READS IS OF BULK AT MOST 1048576: true; the input reads as it did. -/
def fnExactValidColonyUptoRow : OpenClaim := { program := "ytfnnnmdgicjfgaa", sum := "b60ab8110a90594b78a256cb8a1927739468aabb5e349b58132a74ce45f8376b", func := "loop.example/g01116/laws.FnExactValidColony", spec := "fnExactValidColony", unfollowed := true, recurses := true, apart := false, narrowed := true }
def FnExactValidColonyUptoSaid : Prop := fnExactValidColonyUptoRow.holds Try.pinned (OpenSpec.upto fnExactValidColonySpec)

/-- 'laws.FnExactCountCells', WHERE WHAT IT READS IS OF BULK AT MOST 1048576: true; the input reads as it did. -/
def fnExactCountCellsUptoRow : OpenClaim := { program := "ytfnnnmdgicjfgaa", sum := "b60ab8110a90594b78a256cb8a1927739468aabb5e349b58132a74ce45f8376b", func := "loop.example/g01116/laws.FnExactCountCells", spec := "fnExactCountCells", unfollowed := true, recurses := true, apart := false, narrowed := true }
def FnExactCountCellsUptoSaid : Prop := fnExactCountCellsUptoRow.holds Try.pinned (OpenSpec.upto fnExactCountCellsSpec)

/-- 'laws.FnExactCountObject', WHERE WHAT IT READS IS OF BULK AT MOST 1048576: true; the input reads as it did. -/
def fnExactCountObjectUptoRow : OpenClaim := { program := "ytfnnnmdgicjfgaa", sum := "b60ab8110a90594b78a256cb8a1927739468aabb5e349b58132a74ce45f8376b", func := "loop.example/g01116/laws.FnExactCountObject", spec := "fnExactCountObject", unfollowed := true, recurses := true, apart := false, narrowed := true }
def FnExactCountObjectUptoSaid : Prop := fnExactCountObjectUptoRow.holds Try.pinned (OpenSpec.upto fnExactCountObjectSpec)

/-- 'laws.FnExactTrueRows', WHERE WHAT IT READS IS OF BULK AT MOST 1048576: true; the input reads as it did. -/
def fnExactTrueRowsUptoRow : OpenClaim := { program := "ytfnnnmdgicjfgaa", sum := "b60ab8110a90594b78a256cb8a1927739468aabb5e349b58132a74ce45f8376b", func := "loop.example/g01116/laws.FnExactTrueRows", spec := "fnExactTrueRows", unfollowed := true, recurses := true, apart := false, narrowed := true }
def FnExactTrueRowsUptoSaid : Prop := fnExactTrueRowsUptoRow.holds Try.pinned (OpenSpec.upto fnExactTrueRowsSpec)

/-- 'laws.FnExactValidState', WHERE WHAT IT READS IS OF BULK AT MOST 1048576: true; the input reads as it did. -/
def fnExactValidStateUptoRow : OpenClaim := { program := "ytfnnnmdgicjfgaa", sum := "b60ab8110a90594b78a256cb8a1927739468aabb5e349b58132a74ce45f8376b", func := "loop.example/g01116/laws.FnExactValidState", spec := "fnExactValidState", unfollowed := true, recurses := true, apart := false, narrowed := true }
def FnExactValidStateUptoSaid : Prop := fnExactValidStateUptoRow.holds Try.pinned (OpenSpec.upto fnExactValidStateSpec)

/-- 'laws.FnExactParentNow', WHERE WHAT IT READS IS OF BULK AT MOST 1048576: true; the input reads as it did. -/
def fnExactParentNowUptoRow : OpenClaim := { program := "ytfnnnmdgicjfgaa", sum := "b60ab8110a90594b78a256cb8a1927739468aabb5e349b58132a74ce45f8376b", func := "loop.example/g01116/laws.FnExactParentNow", spec := "fnExactParentNow", unfollowed := true, recurses := true, apart := false, narrowed := true }
def FnExactParentNowUptoSaid : Prop := fnExactParentNowUptoRow.holds Try.pinned (OpenSpec.upto fnExactParentNowSpec)

/-- 'laws.FnExactWeighState', WHERE WHAT IT READS IS OF BULK AT MOST 1048576: true; the input reads as it did. -/
def fnExactWeighStateUptoRow : OpenClaim := { program := "ytfnnnmdgicjfgaa", sum := "b60ab8110a90594b78a256cb8a1927739468aabb5e349b58132a74ce45f8376b", func := "loop.example/g01116/laws.FnExactWeighState", spec := "fnExactWeighState", unfollowed := true, recurses := true, apart := false, narrowed := true }
def FnExactWeighStateUptoSaid : Prop := fnExactWeighStateUptoRow.holds Try.pinned (OpenSpec.upto fnExactWeighStateSpec)

end Rows
end Go.Proofs.Ytfnnnmdgicjfgaa
