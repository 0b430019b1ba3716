/-
  No cell of these rows narrows 'for every input' (looked for: loops, veiled, ifaces, maps, wideKeys, modest, calm, conditions, laid).
  DERIVED. THE GIVEN ROWS OF THIS SEAT. 12 by the template 'for every input the law returns true; each argument reads behind the call as it read before'; 0 by the template 'total and deterministic' (their statements: YtblidfklblmheaaTotals.lean).
  GIVEN WITH THE SEED: the statements are not yours to turn. If you find one false, say at which input.
  Laid BY PROGRAM, IN A SANDBOX (cutbox-rows.mjs): the forced cells as the released guide's own fill.sh prints them over the translation f405b035b06b7f74… (all of the seat's roots in one cut). By AI agents, Wed Nov 11 2026. No macro, syntax, notation, axiom, sorry.
-/
import Derived.Test.YtblidfklblmheaaChecked
import GoSem.Claim
import GoSem.ClaimJoined
import GoSem.ClaimMapViews
import Derived.JoinedTies
import Derived.KernelRfl
namespace Go.Proofs.Ytblidfklblmheaa
/- THE CELL 'sum', in the pinned program and in every row, IS THE sha256 OF THE DUMP (.gsa) THAT YtblidfklblmheaaProg.lean LOADS. Nothing in Lean hashes anything: it is a label: what it is worth is what the hold of that sum in a sandbox is worth. -/
noncomputable def Try.pinned : Pinned := { name := "ytblidfklblmheaa", sum := "f405b035b06b7f741a41220887346c574444cafe991c2dcd50a7f491ad282ced", checked := Try.checked }
namespace Rows
def none {H : Type} : Left H := { results := [], args := [] }

/-- 'laws.FnExactTrueRows': WHATEVER THE INPUT: true; the input reads as it did. -/
def fnExactTrueRowsSpec : ChangeSpec := { name := "fnExactTrueRows", fn := fun _ => fun
  | [d] => { results := [.lit (.bool true)], args := [d] }
  | _ => none }
def fnExactTrueRowsRow : OpenClaim := { program := "ytblidfklblmheaa", sum := "f405b035b06b7f741a41220887346c574444cafe991c2dcd50a7f491ad282ced", func := "loop.example/g01116/laws.FnExactTrueRows", spec := "fnExactTrueRows", unfollowed := true, recurses := true, apart := false }
def FnExactTrueRowsSaid : Prop := fnExactTrueRowsRow.holds Try.pinned (OpenSpec.ofChange fnExactTrueRowsSpec)

/-- ITS FALSE NEIGHBOUR: 'it returns false'. Refute it at one input. -/
def fnExactTrueRowsWrong : ChangeSpec := { name := "fnExactTrueRows", fn := fun _ => fun
  | [d] => { results := [.lit (.bool false)], args := [d] }
  | _ => none }
def FnExactTrueRowsWrongFalsely : Prop := fnExactTrueRowsRow.holds Try.pinned (OpenSpec.ofChange fnExactTrueRowsWrong)

/-- 'laws.FnExactKidsNow': WHATEVER THE INPUT: true; the input reads as it did. -/
def fnExactKidsNowSpec : ChangeSpec := { name := "fnExactKidsNow", fn := fun _ => fun
  | [d1, d2, d3] => { results := [.lit (.bool true)], args := [d1, d2, d3] }
  | _ => none }
def fnExactKidsNowRow : OpenClaim := { program := "ytblidfklblmheaa", sum := "f405b035b06b7f741a41220887346c574444cafe991c2dcd50a7f491ad282ced", func := "loop.example/g01116/laws.FnExactKidsNow", spec := "fnExactKidsNow", unfollowed := true, recurses := true, apart := false }
def FnExactKidsNowSaid : Prop := fnExactKidsNowRow.holds Try.pinned (OpenSpec.ofChange fnExactKidsNowSpec)

/-- ITS FALSE NEIGHBOUR: 'it returns false'. Refute it at one input. -/
def fnExactKidsNowWrong : ChangeSpec := { name := "fnExactKidsNow", fn := fun _ => fun
  | [d1, d2, d3] => { results := [.lit (.bool false)], args := [d1, d2, d3] }
  | _ => none }
def FnExactKidsNowWrongFalsely : Prop := fnExactKidsNowRow.holds Try.pinned (OpenSpec.ofChange fnExactKidsNowWrong)

/-- 'laws.FnExactTotalBag': WHATEVER THE INPUT: true; the input reads as it did. -/
def fnExactTotalBagSpec : ChangeSpec := { name := "fnExactTotalBag", fn := fun _ => fun
  | [d1, d2] => { results := [.lit (.bool true)], args := [d1, d2] }
  | _ => none }
def fnExactTotalBagRow : OpenClaim := { program := "ytblidfklblmheaa", sum := "f405b035b06b7f741a41220887346c574444cafe991c2dcd50a7f491ad282ced", func := "loop.example/g01116/laws.FnExactTotalBag", spec := "fnExactTotalBag", unfollowed := true, recurses := true, apart := false }
def FnExactTotalBagSaid : Prop := fnExactTotalBagRow.holds Try.pinned (OpenSpec.ofChange fnExactTotalBagSpec)

/-- ITS FALSE NEIGHBOUR: 'it returns false'. Refute it at one input. -/
def fnExactTotalBagWrong : ChangeSpec := { name := "fnExactTotalBag", fn := fun _ => fun
  | [d1, d2] => { results := [.lit (.bool false)], args := [d1, d2] }
  | _ => none }
def FnExactTotalBagWrongFalsely : Prop := fnExactTotalBagRow.holds Try.pinned (OpenSpec.ofChange fnExactTotalBagWrong)

/-- 'laws.FnExactFirstChoice': WHATEVER THE INPUT: true; the input reads as it did. -/
def fnExactFirstChoiceSpec : ChangeSpec := { name := "fnExactFirstChoice", fn := fun _ => fun
  | [d1, d2] => { results := [.lit (.bool true)], args := [d1, d2] }
  | _ => none }
def fnExactFirstChoiceRow : OpenClaim := { program := "ytblidfklblmheaa", sum := "f405b035b06b7f741a41220887346c574444cafe991c2dcd50a7f491ad282ced", func := "loop.example/g01116/laws.FnExactFirstChoice", spec := "fnExactFirstChoice", unfollowed := true, recurses := true, apart := false }
def FnExactFirstChoiceSaid : Prop := fnExactFirstChoiceRow.holds Try.pinned (OpenSpec.ofChange fnExactFirstChoiceSpec)

/-- ITS FALSE NEIGHBOUR: 'it returns false'. Refute it at one input. -/
def fnExactFirstChoiceWrong : ChangeSpec := { name := "fnExactFirstChoice", fn := fun _ => fun
  | [d1, d2] => { results := [.lit (.bool false)], args := [d1, d2] }
  | _ => none }
def FnExactFirstChoiceWrongFalsely : Prop := fnExactFirstChoiceRow.holds Try.pinned (OpenSpec.ofChange fnExactFirstChoiceWrong)

/-- 'laws.FnExactPossibleParents': WHATEVER THE INPUT: true; the input reads as it did. -/
def fnExactPossibleParentsSpec : ChangeSpec := { name := "fnExactPossibleParents", fn := fun _ => fun
  | [d1, d2] => { results := [.lit (.bool true)], args := [d1, d2] }
  | _ => none }
def fnExactPossibleParentsRow : OpenClaim := { program := "ytblidfklblmheaa", sum := "f405b035b06b7f741a41220887346c574444cafe991c2dcd50a7f491ad282ced", func := "loop.example/g01116/laws.FnExactPossibleParents", spec := "fnExactPossibleParents", unfollowed := true, recurses := true, apart := false }
def FnExactPossibleParentsSaid : Prop := fnExactPossibleParentsRow.holds Try.pinned (OpenSpec.ofChange fnExactPossibleParentsSpec)

/-- ITS FALSE NEIGHBOUR: 'it returns false'. Refute it at one input. -/
def fnExactPossibleParentsWrong : ChangeSpec := { name := "fnExactPossibleParents", fn := fun _ => fun
  | [d1, d2] => { results := [.lit (.bool false)], args := [d1, d2] }
  | _ => none }
def FnExactPossibleParentsWrongFalsely : Prop := fnExactPossibleParentsRow.holds Try.pinned (OpenSpec.ofChange fnExactPossibleParentsWrong)

/-- 'laws.FnExactNewState': WHATEVER THE INPUT: true; the input reads as it did. -/
def fnExactNewStateSpec : ChangeSpec := { name := "fnExactNewState", fn := fun _ => fun
  | [d1, d2] => { results := [.lit (.bool true)], args := [d1, d2] }
  | _ => none }
def fnExactNewStateRow : OpenClaim := { program := "ytblidfklblmheaa", sum := "f405b035b06b7f741a41220887346c574444cafe991c2dcd50a7f491ad282ced", func := "loop.example/g01116/laws.FnExactNewState", spec := "fnExactNewState", unfollowed := true, recurses := true, apart := false }
def FnExactNewStateSaid : Prop := fnExactNewStateRow.holds Try.pinned (OpenSpec.ofChange fnExactNewStateSpec)

/-- ITS FALSE NEIGHBOUR: 'it returns false'. Refute it at one input. -/
def fnExactNewStateWrong : ChangeSpec := { name := "fnExactNewState", fn := fun _ => fun
  | [d1, d2] => { results := [.lit (.bool false)], args := [d1, d2] }
  | _ => none }
def FnExactNewStateWrongFalsely : Prop := fnExactNewStateRow.holds Try.pinned (OpenSpec.ofChange fnExactNewStateWrong)

/-- 'laws.FnExactChangeOf': WHATEVER THE INPUT: true; the input reads as it did. -/
def fnExactChangeOfSpec : ChangeSpec := { name := "fnExactChangeOf", fn := fun _ => fun
  | [d1, d2, d3] => { results := [.lit (.bool true)], args := [d1, d2, d3] }
  | _ => none }
def fnExactChangeOfRow : OpenClaim := { program := "ytblidfklblmheaa", sum := "f405b035b06b7f741a41220887346c574444cafe991c2dcd50a7f491ad282ced", func := "loop.example/g01116/laws.FnExactChangeOf", spec := "fnExactChangeOf", unfollowed := true, recurses := true, apart := false }
def FnExactChangeOfSaid : Prop := fnExactChangeOfRow.holds Try.pinned (OpenSpec.ofChange fnExactChangeOfSpec)

/-- ITS FALSE NEIGHBOUR: 'it returns false'. Refute it at one input. -/
def fnExactChangeOfWrong : ChangeSpec := { name := "fnExactChangeOf", fn := fun _ => fun
  | [d1, d2, d3] => { results := [.lit (.bool false)], args := [d1, d2, d3] }
  | _ => none }
def FnExactChangeOfWrongFalsely : Prop := fnExactChangeOfRow.holds Try.pinned (OpenSpec.ofChange fnExactChangeOfWrong)

/-- 'laws.FnExactIsAtRest': WHATEVER THE INPUT: true; the input reads as it did. -/
def fnExactIsAtRestSpec : ChangeSpec := { name := "fnExactIsAtRest", fn := fun _ => fun
  | [d1, d2] => { results := [.lit (.bool true)], args := [d1, d2] }
  | _ => none }
def fnExactIsAtRestRow : OpenClaim := { program := "ytblidfklblmheaa", sum := "f405b035b06b7f741a41220887346c574444cafe991c2dcd50a7f491ad282ced", func := "loop.example/g01116/laws.FnExactIsAtRest", spec := "fnExactIsAtRest", unfollowed := true, recurses := true, apart := false }
def FnExactIsAtRestSaid : Prop := fnExactIsAtRestRow.holds Try.pinned (OpenSpec.ofChange fnExactIsAtRestSpec)

/-- ITS FALSE NEIGHBOUR: 'it returns false'. Refute it at one input. -/
def fnExactIsAtRestWrong : ChangeSpec := { name := "fnExactIsAtRest", fn := fun _ => fun
  | [d1, d2] => { results := [.lit (.bool false)], args := [d1, d2] }
  | _ => none }
def FnExactIsAtRestWrongFalsely : Prop := fnExactIsAtRestRow.holds Try.pinned (OpenSpec.ofChange fnExactIsAtRestWrong)

/-- 'laws.FnExactPassStep': WHATEVER THE INPUT: true; the input reads as it did. -/
def fnExactPassStepSpec : ChangeSpec := { name := "fnExactPassStep", fn := fun _ => fun
  | [d1, d2, d3] => { results := [.lit (.bool true)], args := [d1, d2, d3] }
  | _ => none }
def fnExactPassStepRow : OpenClaim := { program := "ytblidfklblmheaa", sum := "f405b035b06b7f741a41220887346c574444cafe991c2dcd50a7f491ad282ced", func := "loop.example/g01116/laws.FnExactPassStep", spec := "fnExactPassStep", unfollowed := true, recurses := true, apart := false }
def FnExactPassStepSaid : Prop := fnExactPassStepRow.holds Try.pinned (OpenSpec.ofChange fnExactPassStepSpec)

/-- ITS FALSE NEIGHBOUR: 'it returns false'. Refute it at one input. -/
def fnExactPassStepWrong : ChangeSpec := { name := "fnExactPassStep", fn := fun _ => fun
  | [d1, d2, d3] => { results := [.lit (.bool false)], args := [d1, d2, d3] }
  | _ => none }
def FnExactPassStepWrongFalsely : Prop := fnExactPassStepRow.holds Try.pinned (OpenSpec.ofChange fnExactPassStepWrong)

/-- 'laws.FnExactGrowContents': WHATEVER THE INPUT: true; the input reads as it did. -/
def fnExactGrowContentsSpec : ChangeSpec := { name := "fnExactGrowContents", fn := fun _ => fun
  | [d1, d2, d3] => { results := [.lit (.bool true)], args := [d1, d2, d3] }
  | _ => none }
def fnExactGrowContentsRow : OpenClaim := { program := "ytblidfklblmheaa", sum := "f405b035b06b7f741a41220887346c574444cafe991c2dcd50a7f491ad282ced", func := "loop.example/g01116/laws.FnExactGrowContents", spec := "fnExactGrowContents", unfollowed := true, recurses := true, apart := false }
def FnExactGrowContentsSaid : Prop := fnExactGrowContentsRow.holds Try.pinned (OpenSpec.ofChange fnExactGrowContentsSpec)

/-- ITS FALSE NEIGHBOUR: 'it returns false'. Refute it at one input. -/
def fnExactGrowContentsWrong : ChangeSpec := { name := "fnExactGrowContents", fn := fun _ => fun
  | [d1, d2, d3] => { results := [.lit (.bool false)], args := [d1, d2, d3] }
  | _ => none }
def FnExactGrowContentsWrongFalsely : Prop := fnExactGrowContentsRow.holds Try.pinned (OpenSpec.ofChange fnExactGrowContentsWrong)

/-- 'laws.FnExactCountChoices': WHATEVER THE INPUT: true; the input reads as it did. -/
def fnExactCountChoicesSpec : ChangeSpec := { name := "fnExactCountChoices", fn := fun _ => fun
  | [d1, d2] => { results := [.lit (.bool true)], args := [d1, d2] }
  | _ => none }
def fnExactCountChoicesRow : OpenClaim := { program := "ytblidfklblmheaa", sum := "f405b035b06b7f741a41220887346c574444cafe991c2dcd50a7f491ad282ced", func := "loop.example/g01116/laws.FnExactCountChoices", spec := "fnExactCountChoices", unfollowed := true, recurses := true, apart := false }
def FnExactCountChoicesSaid : Prop := fnExactCountChoicesRow.holds Try.pinned (OpenSpec.ofChange fnExactCountChoicesSpec)

/-- ITS FALSE NEIGHBOUR: 'it returns false'. Refute it at one input. -/
def fnExactCountChoicesWrong : ChangeSpec := { name := "fnExactCountChoices", fn := fun _ => fun
  | [d1, d2] => { results := [.lit (.bool false)], args := [d1, d2] }
  | _ => none }
def FnExactCountChoicesWrongFalsely : Prop := fnExactCountChoicesRow.holds Try.pinned (OpenSpec.ofChange fnExactCountChoicesWrong)

/-- 'laws.FnExactIsFree': WHATEVER THE INPUT: true; the input reads as it did. -/
def fnExactIsFreeSpec : ChangeSpec := { name := "fnExactIsFree", fn := fun _ => fun
  | [d1, d2] => { results := [.lit (.bool true)], args := [d1, d2] }
  | _ => none }
def fnExactIsFreeRow : OpenClaim := { program := "ytblidfklblmheaa", sum := "f405b035b06b7f741a41220887346c574444cafe991c2dcd50a7f491ad282ced", func := "loop.example/g01116/laws.FnExactIsFree", spec := "fnExactIsFree", unfollowed := true, recurses := true, apart := false }
def FnExactIsFreeSaid : Prop := fnExactIsFreeRow.holds Try.pinned (OpenSpec.ofChange fnExactIsFreeSpec)

/-- ITS FALSE NEIGHBOUR: 'it returns false'. Refute it at one input. -/
def fnExactIsFreeWrong : ChangeSpec := { name := "fnExactIsFree", fn := fun _ => fun
  | [d1, d2] => { results := [.lit (.bool false)], args := [d1, d2] }
  | _ => none }
def FnExactIsFreeWrongFalsely : Prop := fnExactIsFreeRow.holds Try.pinned (OpenSpec.ofChange fnExactIsFreeWrong)

/- THE SECOND FORM. 'bulk': how many values and letters a reading holds, each counted each time it is reached (what is shared counts as often as it is met; a slice's spare places count too). A statement '..UptoSaid' is the law's where the arguments, and the package variables that the reading takes, are together of bulk at most 1048576: NARROWER than '..Said'. Prove '..Said' where nothing that the law and all that it calls make is longer than what came in: it says more and counts as full. Else prove '..UptoSaid'. A law counts once. -/
mutual
def uptoBulk {H : Type} : DataW H → Nat
  | .lit (.string bytes) => bytes.length + 1
  | .lit _ => 1
  | .nil => 1
  | .ptr d => uptoBulk d + 1
  | .slice elems spare => uptoBulkAll elems + uptoBulkAll spare + 1
  | .agg parts => uptoBulkAll parts + 1
  | .iface _ d => uptoBulk d + 1
  | .map entries => uptoBulkEntries entries + 1
  | .held _ => 1
def uptoBulkAll {H : Type} : List (DataW H) → Nat
  | [] => 0
  | d :: r => uptoBulk d + uptoBulkAll r
def uptoBulkEntries {H : Type} : List (Lit × DataW H) → Nat
  | [] => 0
  | x :: r => uptoBulkEntry x + uptoBulkEntries r
def uptoBulkEntry {H : Type} : Lit × DataW H → Nat
  | (.string bytes, d) => bytes.length + uptoBulk d + 1
  | (_, d) => uptoBulk d + 1
 end
def uptoSmall : (H : Type) → List (DataW H) → Bool := fun _ ds => decide (uptoBulkAll ds ≤ 1048576)
def OpenSpec.upto (s : _root_.Go.ChangeSpec) : _root_.Go.OpenSpec := { _root_.Go.OpenSpec.ofChange s with cond := some uptoSmall }

/-- 'laws.FnExactTrueRows', WHERE WHAT IT READS IS OF BULK AT MOST 1048576: true; the input reads as it did. -/
def fnExactTrueRowsUptoRow : OpenClaim := { program := "ytblidfklblmheaa", sum := "f405b035b06b7f741a41220887346c574444cafe991c2dcd50a7f491ad282ced", func := "loop.example/g01116/laws.FnExactTrueRows", spec := "fnExactTrueRows", unfollowed := true, recurses := true, apart := false, narrowed := true }
def FnExactTrueRowsUptoSaid : Prop := fnExactTrueRowsUptoRow.holds Try.pinned (OpenSpec.upto fnExactTrueRowsSpec)

/-- 'laws.FnExactKidsNow', WHERE WHAT IT READS IS OF BULK AT MOST 1048576: true; the input reads as it did. -/
def fnExactKidsNowUptoRow : OpenClaim := { program := "ytblidfklblmheaa", sum := "f405b035b06b7f741a41220887346c574444cafe991c2dcd50a7f491ad282ced", func := "loop.example/g01116/laws.FnExactKidsNow", spec := "fnExactKidsNow", unfollowed := true, recurses := true, apart := false, narrowed := true }
def FnExactKidsNowUptoSaid : Prop := fnExactKidsNowUptoRow.holds Try.pinned (OpenSpec.upto fnExactKidsNowSpec)

/-- 'laws.FnExactTotalBag', WHERE WHAT IT READS IS OF BULK AT MOST 1048576: true; the input reads as it did. -/
def fnExactTotalBagUptoRow : OpenClaim := { program := "ytblidfklblmheaa", sum := "f405b035b06b7f741a41220887346c574444cafe991c2dcd50a7f491ad282ced", func := "loop.example/g01116/laws.FnExactTotalBag", spec := "fnExactTotalBag", unfollowed := true, recurses := true, apart := false, narrowed := true }
def FnExactTotalBagUptoSaid : Prop := fnExactTotalBagUptoRow.holds Try.pinned (OpenSpec.upto fnExactTotalBagSpec)

/-- 'laws.FnExactFirstChoice', WHERE WHAT IT READS IS OF BULK AT MOST 1048576: true; the input reads as it did. -/
def fnExactFirstChoiceUptoRow : OpenClaim := { program := "ytblidfklblmheaa", sum := "f405b035b06b7f741a41220887346c574444cafe991c2dcd50a7f491ad282ced", func := "loop.example/g01116/laws.FnExactFirstChoice", spec := "fnExactFirstChoice", unfollowed := true, recurses := true, apart := false, narrowed := true }
def FnExactFirstChoiceUptoSaid : Prop := fnExactFirstChoiceUptoRow.holds Try.pinned (OpenSpec.upto fnExactFirstChoiceSpec)

/-- 'laws.FnExactPossibleParents', WHERE WHAT IT READS IS OF BULK AT MOST 1048576: true; the input reads as it did. -/
def fnExactPossibleParentsUptoRow : OpenClaim := { program := "ytblidfklblmheaa", sum := "f405b035b06b7f741a41220887346c574444cafe991c2dcd50a7f491ad282ced", func := "loop.example/g01116/laws.FnExactPossibleParents", spec := "fnExactPossibleParents", unfollowed := true, recurses := true, apart := false, narrowed := true }
def FnExactPossibleParentsUptoSaid : Prop := fnExactPossibleParentsUptoRow.holds Try.pinned (OpenSpec.upto fnExactPossibleParentsSpec)

/-- 'laws.FnExactNewState', WHERE WHAT IT READS IS OF BULK AT MOST 1048576: true; the input reads as it did. -/
def fnExactNewStateUptoRow : OpenClaim := { program := "ytblidfklblmheaa", sum := "f405b035b06b7f741a41220887346c574444cafe991c2dcd50a7f491ad282ced", func := "loop.example/g01116/laws.FnExactNewState", spec := "fnExactNewState", unfollowed := true, recurses := true, apart := false, narrowed := true }
def FnExactNewStateUptoSaid : Prop := fnExactNewStateUptoRow.holds Try.pinned (OpenSpec.upto fnExactNewStateSpec)

/-- 'laws.FnExactChangeOf', WHERE WHAT IT READS IS OF BULK AT MOST 1048576: true; the input reads as it did. -/
def fnExactChangeOfUptoRow : OpenClaim := { program := "ytblidfklblmheaa", sum := "f405b035b06b7f741a41220887346c574444cafe991c2dcd50a7f491ad282ced", func := "loop.example/g01116/laws.FnExactChangeOf", spec := "fnExactChangeOf", unfollowed := true, recurses := true, apart := false, narrowed := true }
def FnExactChangeOfUptoSaid : Prop := fnExactChangeOfUptoRow.holds Try.pinned (OpenSpec.upto fnExactChangeOfSpec)

/-- 'laws.FnExactIsAtRest', WHERE WHAT IT READS IS OF BULK AT MOST 1048576: true; the input reads as it did. -/
def fnExactIsAtRestUptoRow : OpenClaim := { program := "ytblidfklblmheaa", sum := "f405b035b06b7f741a41220887346c574444cafe991c2dcd50a7f491ad282ced", func := "loop.example/g01116/laws.FnExactIsAtRest", spec := "fnExactIsAtRest", unfollowed := true, recurses := true, apart := false, narrowed := true }
def FnExactIsAtRestUptoSaid : Prop := fnExactIsAtRestUptoRow.holds Try.pinned (OpenSpec.upto fnExactIsAtRestSpec)

/-- 'laws.FnExactPassStep', WHERE WHAT IT READS IS OF BULK AT MOST 1048576: true; the input reads as it did. -/
def fnExactPassStepUptoRow : OpenClaim := { program := "ytblidfklblmheaa", sum := "f405b035b06b7f741a41220887346c574444cafe991c2dcd50a7f491ad282ced", func := "loop.example/g01116/laws.FnExactPassStep", spec := "fnExactPassStep", unfollowed := true, recurses := true, apart := false, narrowed := true }
def FnExactPassStepUptoSaid : Prop := fnExactPassStepUptoRow.holds Try.pinned (OpenSpec.upto fnExactPassStepSpec)

/-- 'laws.FnExactGrowContents', WHERE WHAT IT READS IS OF BULK AT MOST 1048576: true; the input reads as it did. -/
def fnExactGrowContentsUptoRow : OpenClaim := { program := "ytblidfklblmheaa", sum := "f405b035b06b7f741a41220887346c574444cafe991c2dcd50a7f491ad282ced", func := "loop.example/g01116/laws.FnExactGrowContents", spec := "fnExactGrowContents", unfollowed := true, recurses := true, apart := false, narrowed := true }
def FnExactGrowContentsUptoSaid : Prop := fnExactGrowContentsUptoRow.holds Try.pinned (OpenSpec.upto fnExactGrowContentsSpec)

/-- 'laws.FnExactCountChoices', WHERE WHAT IT READS IS OF BULK AT MOST 1048576: true; the input reads as it did. -/
def fnExactCountChoicesUptoRow : OpenClaim := { program := "ytblidfklblmheaa", sum := "f405b035b06b7f741a41220887346c574444cafe991c2dcd50a7f491ad282ced", func := "loop.example/g01116/laws.FnExactCountChoices", spec := "fnExactCountChoices", unfollowed := true, recurses := true, apart := false, narrowed := true }
def FnExactCountChoicesUptoSaid : Prop := fnExactCountChoicesUptoRow.holds Try.pinned (OpenSpec.upto fnExactCountChoicesSpec)

/-- 'laws.FnExactIsFree', WHERE WHAT IT READS IS OF BULK AT MOST 1048576: true; the input reads as it did. -/
def fnExactIsFreeUptoRow : OpenClaim := { program := "ytblidfklblmheaa", sum := "f405b035b06b7f741a41220887346c574444cafe991c2dcd50a7f491ad282ced", func := "loop.example/g01116/laws.FnExactIsFree", spec := "fnExactIsFree", unfollowed := true, recurses := true, apart := false, narrowed := true }
def FnExactIsFreeUptoSaid : Prop := fnExactIsFreeUptoRow.holds Try.pinned (OpenSpec.upto fnExactIsFreeSpec)

end Rows
end Go.Proofs.Ytblidfklblmheaa
