/-
  No cell of these rows narrows 'for every input' (looked for: loops, veiled, ifaces, maps, wideKeys, modest, calm, conditions, laid).
  DERIVED. THE GIVEN ROWS OF THIS SEAT. 9 by the template 'for every input the law returns true; each argument reads behind the call as it read before'; 0 by the template 'total and deterministic' (their statements: YtgjlemedckhlfaaTotals.lean).
  GIVEN WITH THE SEED: the statements are not yours to turn. If you find one false, say at which input.
  Laid BY PROGRAM, IN A SANDBOX (cutbox-rows.mjs): the forced cells as the released guide's own fill.sh prints them over the translation 6c3c2d68608eb53e… (all of the seat's roots in one cut). By AI agents, Wed Nov 11 2026. No macro, syntax, notation, axiom, sorry.
-/
import Derived.Test.YtgjlemedckhlfaaChecked
import GoSem.Claim
import GoSem.ClaimJoined
import GoSem.ClaimMapViews
import Derived.JoinedTies
import Derived.KernelRfl
namespace Go.Proofs.Ytgjlemedckhlfaa
/- THE CELL 'sum', in the pinned program and in every row, IS THE sha256 OF THE DUMP (.gsa) THAT YtgjlemedckhlfaaProg.lean LOADS. Nothing in Lean hashes anything: it is a label: what it is worth is what the hold of that sum in a sandbox is worth. -/
noncomputable def Try.pinned : Pinned := { name := "ytgjlemedckhlfaa", sum := "6c3c2d68608eb53e753cb52a0d1871360447ff9dc1f5f17e96bd7429240e4c1c", checked := Try.checked }
namespace Rows
def none {H : Type} : Left H := { results := [], args := [] }

/-- 'laws.FnExactChangeOf': WHATEVER THE INPUT: true; the input reads as it did. -/
def fnExactChangeOfSpec : ChangeSpec := { name := "fnExactChangeOf", fn := fun _ => fun
  | [d1, d2, d3] => { results := [.lit (.bool true)], args := [d1, d2, d3] }
  | _ => none }
def fnExactChangeOfRow : OpenClaim := { program := "ytgjlemedckhlfaa", sum := "6c3c2d68608eb53e753cb52a0d1871360447ff9dc1f5f17e96bd7429240e4c1c", func := "loop.example/g01116/laws.FnExactChangeOf", spec := "fnExactChangeOf", unfollowed := true, recurses := true, apart := false }
def FnExactChangeOfSaid : Prop := fnExactChangeOfRow.holds Try.pinned (OpenSpec.ofChange fnExactChangeOfSpec)

/-- ITS FALSE NEIGHBOUR: 'it returns false'. Refute it at one input. -/
def fnExactChangeOfWrong : ChangeSpec := { name := "fnExactChangeOf", fn := fun _ => fun
  | [d1, d2, d3] => { results := [.lit (.bool false)], args := [d1, d2, d3] }
  | _ => none }
def FnExactChangeOfWrongFalsely : Prop := fnExactChangeOfRow.holds Try.pinned (OpenSpec.ofChange fnExactChangeOfWrong)

/-- 'laws.FnExactPassStep': WHATEVER THE INPUT: true; the input reads as it did. -/
def fnExactPassStepSpec : ChangeSpec := { name := "fnExactPassStep", fn := fun _ => fun
  | [d1, d2, d3] => { results := [.lit (.bool true)], args := [d1, d2, d3] }
  | _ => none }
def fnExactPassStepRow : OpenClaim := { program := "ytgjlemedckhlfaa", sum := "6c3c2d68608eb53e753cb52a0d1871360447ff9dc1f5f17e96bd7429240e4c1c", func := "loop.example/g01116/laws.FnExactPassStep", spec := "fnExactPassStep", unfollowed := true, recurses := true, apart := false }
def FnExactPassStepSaid : Prop := fnExactPassStepRow.holds Try.pinned (OpenSpec.ofChange fnExactPassStepSpec)

/-- ITS FALSE NEIGHBOUR: 'it returns false'. Refute it at one input. -/
def fnExactPassStepWrong : ChangeSpec := { name := "fnExactPassStep", fn := fun _ => fun
  | [d1, d2, d3] => { results := [.lit (.bool false)], args := [d1, d2, d3] }
  | _ => none }
def FnExactPassStepWrongFalsely : Prop := fnExactPassStepRow.holds Try.pinned (OpenSpec.ofChange fnExactPassStepWrong)

/-- 'laws.FnExactIsAtRest': WHATEVER THE INPUT: true; the input reads as it did. -/
def fnExactIsAtRestSpec : ChangeSpec := { name := "fnExactIsAtRest", fn := fun _ => fun
  | [d1, d2] => { results := [.lit (.bool true)], args := [d1, d2] }
  | _ => none }
def fnExactIsAtRestRow : OpenClaim := { program := "ytgjlemedckhlfaa", sum := "6c3c2d68608eb53e753cb52a0d1871360447ff9dc1f5f17e96bd7429240e4c1c", func := "loop.example/g01116/laws.FnExactIsAtRest", spec := "fnExactIsAtRest", unfollowed := true, recurses := true, apart := false }
def FnExactIsAtRestSaid : Prop := fnExactIsAtRestRow.holds Try.pinned (OpenSpec.ofChange fnExactIsAtRestSpec)

/-- ITS FALSE NEIGHBOUR: 'it returns false'. Refute it at one input. -/
def fnExactIsAtRestWrong : ChangeSpec := { name := "fnExactIsAtRest", fn := fun _ => fun
  | [d1, d2] => { results := [.lit (.bool false)], args := [d1, d2] }
  | _ => none }
def FnExactIsAtRestWrongFalsely : Prop := fnExactIsAtRestRow.holds Try.pinned (OpenSpec.ofChange fnExactIsAtRestWrong)

/-- 'laws.FnExactPassChoices': WHATEVER THE INPUT: true; the input reads as it did. -/
def fnExactPassChoicesSpec : ChangeSpec := { name := "fnExactPassChoices", fn := fun _ => fun
  | [d1, d2, d3] => { results := [.lit (.bool true)], args := [d1, d2, d3] }
  | _ => none }
def fnExactPassChoicesRow : OpenClaim := { program := "ytgjlemedckhlfaa", sum := "6c3c2d68608eb53e753cb52a0d1871360447ff9dc1f5f17e96bd7429240e4c1c", func := "loop.example/g01116/laws.FnExactPassChoices", spec := "fnExactPassChoices", unfollowed := true, recurses := true, apart := false }
def FnExactPassChoicesSaid : Prop := fnExactPassChoicesRow.holds Try.pinned (OpenSpec.ofChange fnExactPassChoicesSpec)

/-- ITS FALSE NEIGHBOUR: 'it returns false'. Refute it at one input. -/
def fnExactPassChoicesWrong : ChangeSpec := { name := "fnExactPassChoices", fn := fun _ => fun
  | [d1, d2, d3] => { results := [.lit (.bool false)], args := [d1, d2, d3] }
  | _ => none }
def FnExactPassChoicesWrongFalsely : Prop := fnExactPassChoicesRow.holds Try.pinned (OpenSpec.ofChange fnExactPassChoicesWrong)

/-- 'laws.FnExactGrowContents': WHATEVER THE INPUT: true; the input reads as it did. -/
def fnExactGrowContentsSpec : ChangeSpec := { name := "fnExactGrowContents", fn := fun _ => fun
  | [d1, d2, d3] => { results := [.lit (.bool true)], args := [d1, d2, d3] }
  | _ => none }
def fnExactGrowContentsRow : OpenClaim := { program := "ytgjlemedckhlfaa", sum := "6c3c2d68608eb53e753cb52a0d1871360447ff9dc1f5f17e96bd7429240e4c1c", func := "loop.example/g01116/laws.FnExactGrowContents", spec := "fnExactGrowContents", unfollowed := true, recurses := true, apart := false }
def FnExactGrowContentsSaid : Prop := fnExactGrowContentsRow.holds Try.pinned (OpenSpec.ofChange fnExactGrowContentsSpec)

/-- ITS FALSE NEIGHBOUR: 'it returns false'. Refute it at one input. -/
def fnExactGrowContentsWrong : ChangeSpec := { name := "fnExactGrowContents", fn := fun _ => fun
  | [d1, d2, d3] => { results := [.lit (.bool false)], args := [d1, d2, d3] }
  | _ => none }
def FnExactGrowContentsWrongFalsely : Prop := fnExactGrowContentsRow.holds Try.pinned (OpenSpec.ofChange fnExactGrowContentsWrong)

/-- 'laws.FnExactCountChoices': WHATEVER THE INPUT: true; the input reads as it did. -/
def fnExactCountChoicesSpec : ChangeSpec := { name := "fnExactCountChoices", fn := fun _ => fun
  | [d1, d2] => { results := [.lit (.bool true)], args := [d1, d2] }
  | _ => none }
def fnExactCountChoicesRow : OpenClaim := { program := "ytgjlemedckhlfaa", sum := "6c3c2d68608eb53e753cb52a0d1871360447ff9dc1f5f17e96bd7429240e4c1c", func := "loop.example/g01116/laws.FnExactCountChoices", spec := "fnExactCountChoices", unfollowed := true, recurses := true, apart := false }
def FnExactCountChoicesSaid : Prop := fnExactCountChoicesRow.holds Try.pinned (OpenSpec.ofChange fnExactCountChoicesSpec)

/-- ITS FALSE NEIGHBOUR: 'it returns false'. Refute it at one input. -/
def fnExactCountChoicesWrong : ChangeSpec := { name := "fnExactCountChoices", fn := fun _ => fun
  | [d1, d2] => { results := [.lit (.bool false)], args := [d1, d2] }
  | _ => none }
def FnExactCountChoicesWrongFalsely : Prop := fnExactCountChoicesRow.holds Try.pinned (OpenSpec.ofChange fnExactCountChoicesWrong)

/-- 'laws.FnExactIsFree': WHATEVER THE INPUT: true; the input reads as it did. -/
def fnExactIsFreeSpec : ChangeSpec := { name := "fnExactIsFree", fn := fun _ => fun
  | [d1, d2] => { results := [.lit (.bool true)], args := [d1, d2] }
  | _ => none }
def fnExactIsFreeRow : OpenClaim := { program := "ytgjlemedckhlfaa", sum := "6c3c2d68608eb53e753cb52a0d1871360447ff9dc1f5f17e96bd7429240e4c1c", func := "loop.example/g01116/laws.FnExactIsFree", spec := "fnExactIsFree", unfollowed := true, recurses := true, apart := false }
def FnExactIsFreeSaid : Prop := fnExactIsFreeRow.holds Try.pinned (OpenSpec.ofChange fnExactIsFreeSpec)

/-- ITS FALSE NEIGHBOUR: 'it returns false'. Refute it at one input. -/
def fnExactIsFreeWrong : ChangeSpec := { name := "fnExactIsFree", fn := fun _ => fun
  | [d1, d2] => { results := [.lit (.bool false)], args := [d1, d2] }
  | _ => none }
def FnExactIsFreeWrongFalsely : Prop := fnExactIsFreeRow.holds Try.pinned (OpenSpec.ofChange fnExactIsFreeWrong)

/-- 'laws.FnExactCnfDivision': WHATEVER THE INPUT: true; the input reads as it did. -/
def fnExactCnfDivisionSpec : ChangeSpec := { name := "fnExactCnfDivision", fn := fun _ => fun
  | [d] => { results := [.lit (.bool true)], args := [d] }
  | _ => none }
def fnExactCnfDivisionRow : OpenClaim := { program := "ytgjlemedckhlfaa", sum := "6c3c2d68608eb53e753cb52a0d1871360447ff9dc1f5f17e96bd7429240e4c1c", func := "loop.example/g01116/laws.FnExactCnfDivision", spec := "fnExactCnfDivision", unfollowed := true, recurses := true, apart := false }
def FnExactCnfDivisionSaid : Prop := fnExactCnfDivisionRow.holds Try.pinned (OpenSpec.ofChange fnExactCnfDivisionSpec)

/-- ITS FALSE NEIGHBOUR: 'it returns false'. Refute it at one input. -/
def fnExactCnfDivisionWrong : ChangeSpec := { name := "fnExactCnfDivision", fn := fun _ => fun
  | [d] => { results := [.lit (.bool false)], args := [d] }
  | _ => none }
def FnExactCnfDivisionWrongFalsely : Prop := fnExactCnfDivisionRow.holds Try.pinned (OpenSpec.ofChange fnExactCnfDivisionWrong)

/-- 'laws.FnExactGatherColony': WHATEVER THE INPUT: true; the input reads as it did. -/
def fnExactGatherColonySpec : ChangeSpec := { name := "fnExactGatherColony", fn := fun _ => fun
  | [d1, d2, d3] => { results := [.lit (.bool true)], args := [d1, d2, d3] }
  | _ => none }
def fnExactGatherColonyRow : OpenClaim := { program := "ytgjlemedckhlfaa", sum := "6c3c2d68608eb53e753cb52a0d1871360447ff9dc1f5f17e96bd7429240e4c1c", func := "loop.example/g01116/laws.FnExactGatherColony", spec := "fnExactGatherColony", unfollowed := true, recurses := true, apart := false }
def FnExactGatherColonySaid : Prop := fnExactGatherColonyRow.holds Try.pinned (OpenSpec.ofChange fnExactGatherColonySpec)

/-- ITS FALSE NEIGHBOUR: 'it returns false'. Refute it at one input. -/
def fnExactGatherColonyWrong : ChangeSpec := { name := "fnExactGatherColony", fn := fun _ => fun
  | [d1, d2, d3] => { results := [.lit (.bool false)], args := [d1, d2, d3] }
  | _ => none }
def FnExactGatherColonyWrongFalsely : Prop := fnExactGatherColonyRow.holds Try.pinned (OpenSpec.ofChange fnExactGatherColonyWrong)

/- THE SECOND FORM. 'bulk': how many values and letters a reading holds, each counted each time it is reached (what is shared counts as often as it is met; a slice's spare places count too). A statement '..UptoSaid' is the law's where the arguments, and the package variables that the reading takes, are together of bulk at most 1048576: NARROWER than '..Said'. Prove '..Said' where nothing that the law and all that it calls make is longer than what came in: it says more and counts as full. Else prove '..UptoSaid'. A law counts once. -/
mutual
def uptoBulk {H : Type} : DataW H → Nat
  | .lit (.string bytes) => bytes.length + 1
  | .lit _ => 1
  | .nil => 1
  | .ptr d => uptoBulk d + 1
  | .slice elems spare => uptoBulkAll elems + uptoBulkAll spare + 1
  | .agg parts => uptoBulkAll parts + 1
  | .iface _ d => uptoBulk d + 1
  | .map entries => uptoBulkEntries entries + 1
  | .held _ => 1
def uptoBulkAll {H : Type} : List (DataW H) → Nat
  | [] => 0
  | d :: r => uptoBulk d + uptoBulkAll r
def uptoBulkEntries {H : Type} : List (Lit × DataW H) → Nat
  | [] => 0
  | x :: r => uptoBulkEntry x + uptoBulkEntries r
def uptoBulkEntry {H : Type} : Lit × DataW H → Nat
  | (.string bytes, d) => bytes.length + uptoBulk d + 1
  | (_, d) => uptoBulk d + 1
 end
def uptoSmall : (H : Type) → List (DataW H) → Bool := fun _ ds => decide (uptoBulkAll ds ≤ 1048576)
def OpenSpec.upto (s : _root_.Go.ChangeSpec) : _root_.Go.OpenSpec := { _root_.Go.OpenSpec.ofChange s with cond := some uptoSmall }

/-- 'laws.FnExactChangeOf', WHERE WHAT IT READS IS OF BULK AT MOST 1048576: true; the input reads as it did. -/
def fnExactChangeOfUptoRow : OpenClaim := { program := "ytgjlemedckhlfaa", sum := "6c3c2d68608eb53e753cb52a0d1871360447ff9dc1f5f17e96bd7429240e4c1c", func := "loop.example/g01116/laws.FnExactChangeOf", spec := "fnExactChangeOf", unfollowed := true, recurses := true, apart := false, narrowed := true }
def FnExactChangeOfUptoSaid : Prop := fnExactChangeOfUptoRow.holds Try.pinned (OpenSpec.upto fnExactChangeOfSpec)

/-- 'laws.FnExactPassStep', WHERE WHAT IT READS IS OF BULK AT MOST 1048576: true; the input reads as it did. -/
def fnExactPassStepUptoRow : OpenClaim := { program := "ytgjlemedckhlfaa", sum := "6c3c2d68608eb53e753cb52a0d1871360447ff9dc1f5f17e96bd7429240e4c1c", func := "loop.example/g01116/laws.FnExactPassStep", spec := "fnExactPassStep", unfollowed := true, recurses := true, apart := false, narrowed := true }
def FnExactPassStepUptoSaid : Prop := fnExactPassStepUptoRow.holds Try.pinned (OpenSpec.upto fnExactPassStepSpec)

/-- 'laws.FnExactIsAtRest', WHERE WHAT IT READS IS OF BULK AT MOST 1048576: true; the input reads as it did. -/
def fnExactIsAtRestUptoRow : OpenClaim := { program := "ytgjlemedckhlfaa", sum := "6c3c2d68608eb53e753cb52a0d1871360447ff9dc1f5f17e96bd7429240e4c1c", func := "loop.example/g01116/laws.FnExactIsAtRest", spec := "fnExactIsAtRest", unfollowed := true, recurses := true, apart := false, narrowed := true }
def FnExactIsAtRestUptoSaid : Prop := fnExactIsAtRestUptoRow.holds Try.pinned (OpenSpec.upto fnExactIsAtRestSpec)

/-- 'laws.FnExactPassChoices', WHERE WHAT IT READS IS OF BULK AT MOST 1048576: true; the input reads as it did. -/
def fnExactPassChoicesUptoRow : OpenClaim := { program := "ytgjlemedckhlfaa", sum := "6c3c2d68608eb53e753cb52a0d1871360447ff9dc1f5f17e96bd7429240e4c1c", func := "loop.example/g01116/laws.FnExactPassChoices", spec := "fnExactPassChoices", unfollowed := true, recurses := true, apart := false, narrowed := true }
def FnExactPassChoicesUptoSaid : Prop := fnExactPassChoicesUptoRow.holds Try.pinned (OpenSpec.upto fnExactPassChoicesSpec)

/-- 'laws.FnExactGrowContents', WHERE WHAT IT READS IS OF BULK AT MOST 1048576: true; the input reads as it did. -/
def fnExactGrowContentsUptoRow : OpenClaim := { program := "ytgjlemedckhlfaa", sum := "6c3c2d68608eb53e753cb52a0d1871360447ff9dc1f5f17e96bd7429240e4c1c", func := "loop.example/g01116/laws.FnExactGrowContents", spec := "fnExactGrowContents", unfollowed := true, recurses := true, apart := false, narrowed := true }
def FnExactGrowContentsUptoSaid : Prop := fnExactGrowContentsUptoRow.holds Try.pinned (OpenSpec.upto fnExactGrowContentsSpec)

/-- 'laws.FnExactCountChoices', WHERE WHAT IT READS IS OF BULK AT MOST 1048576: true; the input reads as it did. -/
def fnExactCountChoicesUptoRow : OpenClaim := { program := "ytgjlemedckhlfaa", sum := "6c3c2d68608eb53e753cb52a0d1871360447ff9dc1f5f17e96bd7429240e4c1c", func := "loop.example/g01116/laws.FnExactCountChoices", spec := "fnExactCountChoices", unfollowed := true, recurses := true, apart := false, narrowed := true }
def FnExactCountChoicesUptoSaid : Prop := fnExactCountChoicesUptoRow.holds Try.pinned (OpenSpec.upto fnExactCountChoicesSpec)

/-- 'laws.FnExactIsFree', WHERE WHAT IT READS IS OF BULK AT MOST 1048576: true; the input reads as it did. -/
def fnExactIsFreeUptoRow : OpenClaim := { program := "ytgjlemedckhlfaa", sum := "6c3c2d68608eb53e753cb52a0d1871360447ff9dc1f5f17e96bd7429240e4c1c", func := "loop.example/g01116/laws.FnExactIsFree", spec := "fnExactIsFree", unfollowed := true, recurses := true, apart := false, narrowed := true }
def FnExactIsFreeUptoSaid : Prop := fnExactIsFreeUptoRow.holds Try.pinned (OpenSpec.upto fnExactIsFreeSpec)

/-- 'laws.FnExactCnfDivision', WHERE WHAT IT READS IS OF BULK AT MOST 1048576: true; the input reads as it did. -/
def fnExactCnfDivisionUptoRow : OpenClaim := { program := "ytgjlemedckhlfaa", sum := "6c3c2d68608eb53e753cb52a0d1871360447ff9dc1f5f17e96bd7429240e4c1c", func := "loop.example/g01116/laws.FnExactCnfDivision", spec := "fnExactCnfDivision", unfollowed := true, recurses := true, apart := false, narrowed := true }
def FnExactCnfDivisionUptoSaid : Prop := fnExactCnfDivisionUptoRow.holds Try.pinned (OpenSpec.upto fnExactCnfDivisionSpec)

/-- 'laws.FnExactGatherColony', WHERE WHAT IT READS IS OF BULK AT MOST 1048576: true; the input reads as it did. -/
def fnExactGatherColonyUptoRow : OpenClaim := { program := "ytgjlemedckhlfaa", sum := "6c3c2d68608eb53e753cb52a0d1871360447ff9dc1f5f17e96bd7429240e4c1c", func := "loop.example/g01116/laws.FnExactGatherColony", spec := "fnExactGatherColony", unfollowed := true, recurses := true, apart := false, narrowed := true }
def FnExactGatherColonyUptoSaid : Prop := fnExactGatherColonyUptoRow.holds Try.pinned (OpenSpec.upto fnExactGatherColonySpec)

end Rows
end Go.Proofs.Ytgjlemedckhlfaa
