/-
  No cell of these rows narrows 'for every input' (looked for: loops, veiled, ifaces, maps, wideKeys, modest, calm, conditions, laid).
  DERIVED. THE GIVEN ROWS OF THIS SEAT. 4 by the template 'for every input the law returns true; each argument reads behind the call as it read before'; 0 by the template 'total and deterministic' (their statements: YtandldhceabdiaaTotals.lean).
  GIVEN WITH THE SEED: the statements are not yours to turn. If you find one false, say at which input.
  Laid BY PROGRAM, IN A SANDBOX (cutbox-rows.mjs): the forced cells as the released guide's own fill.sh prints them over the translation 2e04391fd154332f… (all of the seat's roots in one cut). By AI agents, Wed Nov 11 2026. No macro, syntax, notation, axiom, sorry.
-/
import Derived.Test.YtandldhceabdiaaChecked
import GoSem.Claim
import GoSem.ClaimJoined
import GoSem.ClaimMapViews
import Derived.JoinedTies
import Derived.KernelRfl
namespace Go.Proofs.Ytandldhceabdiaa
/- THE CELL 'sum', in the pinned program and in every row, IS THE sha256 OF THE DUMP (.gsa) THAT YtandldhceabdiaaProg.lean LOADS. Nothing in Lean hashes anything: it is a label: what it is worth is what the hold of that sum in a sandbox is worth. -/
noncomputable def Try.pinned : Pinned := { name := "ytandldhceabdiaa", sum := "2e04391fd154332ffda28a8c0e24c4de8cbe63763c8a5ae654e4748936ae1674", checked := Try.checked }
namespace Rows
def none {H : Type} : Left H := { results := [], args := [] }

/-- 'laws.FnExactPassChoices': WHATEVER THE INPUT: true; the input reads as it did. -/
def fnExactPassChoicesSpec : ChangeSpec := { name := "fnExactPassChoices", fn := fun _ => fun
  | [d1, d2, d3] => { results := [.lit (.bool true)], args := [d1, d2, d3] }
  | _ => none }
def fnExactPassChoicesRow : OpenClaim := { program := "ytandldhceabdiaa", sum := "2e04391fd154332ffda28a8c0e24c4de8cbe63763c8a5ae654e4748936ae1674", func := "loop.example/g01116/laws.FnExactPassChoices", spec := "fnExactPassChoices", unfollowed := true, recurses := true, apart := false }
def FnExactPassChoicesSaid : Prop := fnExactPassChoicesRow.holds Try.pinned (OpenSpec.ofChange fnExactPassChoicesSpec)

/-- ITS FALSE NEIGHBOUR: 'it returns false'. Refute it at one input. -/
def fnExactPassChoicesWrong : ChangeSpec := { name := "fnExactPassChoices", fn := fun _ => fun
  | [d1, d2, d3] => { results := [.lit (.bool false)], args := [d1, d2, d3] }
  | _ => none }
def FnExactPassChoicesWrongFalsely : Prop := fnExactPassChoicesRow.holds Try.pinned (OpenSpec.ofChange fnExactPassChoicesWrong)

/-- 'laws.FnApart': WHATEVER THE INPUT: true; the input reads as it did. -/
def fnApartSpec : ChangeSpec := { name := "fnApart", fn := fun _ => fun
  | [d1, d2] => { results := [.lit (.bool true)], args := [d1, d2] }
  | _ => none }
def fnApartRow : OpenClaim := { program := "ytandldhceabdiaa", sum := "2e04391fd154332ffda28a8c0e24c4de8cbe63763c8a5ae654e4748936ae1674", func := "loop.example/g01116/laws.FnApart", spec := "fnApart", unfollowed := true, recurses := true, apart := false }
def FnApartSaid : Prop := fnApartRow.holds Try.pinned (OpenSpec.ofChange fnApartSpec)

/-- ITS FALSE NEIGHBOUR: 'it returns false'. Refute it at one input. -/
def fnApartWrong : ChangeSpec := { name := "fnApart", fn := fun _ => fun
  | [d1, d2] => { results := [.lit (.bool false)], args := [d1, d2] }
  | _ => none }
def FnApartWrongFalsely : Prop := fnApartRow.holds Try.pinned (OpenSpec.ofChange fnApartWrong)

/-- 'laws.FnGrow': WHATEVER THE INPUT: true; the input reads as it did. -/
def fnGrowSpec : ChangeSpec := { name := "fnGrow", fn := fun _ => fun
  | [d1, d2] => { results := [.lit (.bool true)], args := [d1, d2] }
  | _ => none }
def fnGrowRow : OpenClaim := { program := "ytandldhceabdiaa", sum := "2e04391fd154332ffda28a8c0e24c4de8cbe63763c8a5ae654e4748936ae1674", func := "loop.example/g01116/laws.FnGrow", spec := "fnGrow", unfollowed := true, recurses := true, apart := false }
def FnGrowSaid : Prop := fnGrowRow.holds Try.pinned (OpenSpec.ofChange fnGrowSpec)

/-- ITS FALSE NEIGHBOUR: 'it returns false'. Refute it at one input. -/
def fnGrowWrong : ChangeSpec := { name := "fnGrow", fn := fun _ => fun
  | [d1, d2] => { results := [.lit (.bool false)], args := [d1, d2] }
  | _ => none }
def FnGrowWrongFalsely : Prop := fnGrowRow.holds Try.pinned (OpenSpec.ofChange fnGrowWrong)

/-- 'laws.FnExactGatherColony': WHATEVER THE INPUT: true; the input reads as it did. -/
def fnExactGatherColonySpec : ChangeSpec := { name := "fnExactGatherColony", fn := fun _ => fun
  | [d1, d2, d3] => { results := [.lit (.bool true)], args := [d1, d2, d3] }
  | _ => none }
def fnExactGatherColonyRow : OpenClaim := { program := "ytandldhceabdiaa", sum := "2e04391fd154332ffda28a8c0e24c4de8cbe63763c8a5ae654e4748936ae1674", func := "loop.example/g01116/laws.FnExactGatherColony", spec := "fnExactGatherColony", unfollowed := true, recurses := true, apart := false }
def FnExactGatherColonySaid : Prop := fnExactGatherColonyRow.holds Try.pinned (OpenSpec.ofChange fnExactGatherColonySpec)

/-- ITS FALSE NEIGHBOUR: 'it returns false'. Refute it at one input. -/
def fnExactGatherColonyWrong : ChangeSpec := { name := "fnExactGatherColony", fn := fun _ => fun
  | [d1, d2, d3] => { results := [.lit (.bool false)], args := [d1, d2, d3] }
  | _ => none }
def FnExactGatherColonyWrongFalsely : Prop := fnExactGatherColonyRow.holds Try.pinned (OpenSpec.ofChange fnExactGatherColonyWrong)

/- THE SECOND FORM. 'bulk': how many values and letters a reading holds, each counted each time it is reached (what is shared counts as often as it is met; a slice's spare places count too). A statement '..UptoSaid' is the law's where the arguments, and the package variables that the reading takes, are together of bulk at most 1048576: NARROWER than '..Said'. Prove '..Said' where nothing that the law and all that it calls make is longer than what came in: it says more and counts as full. Else prove '..UptoSaid'. A law counts once. -/
mutual
def uptoBulk {H : Type} : DataW H → Nat
  | .lit (.string bytes) => bytes.length + 1
  | .lit _ => 1
  | .nil => 1
  | .ptr d => uptoBulk d + 1
  | .slice elems spare => uptoBulkAll elems + uptoBulkAll spare + 1
  | .agg parts => uptoBulkAll parts + 1
  | .iface _ d => uptoBulk d + 1
  | .map entries => uptoBulkEntries entries + 1
  | .held _ => 1
def uptoBulkAll {H : Type} : List (DataW H) → Nat
  | [] => 0
  | d :: r => uptoBulk d + uptoBulkAll r
def uptoBulkEntries {H : Type} : List (Lit × DataW H) → Nat
  | [] => 0
  | x :: r => uptoBulkEntry x + uptoBulkEntries r
def uptoBulkEntry {H : Type} : Lit × DataW H → Nat
  | (.string bytes, d) => bytes.length + uptoBulk d + 1
  | (_, d) => uptoBulk d + 1
 end
def uptoSmall : (H : Type) → List (DataW H) → Bool := fun _ ds => decide (uptoBulkAll ds ≤ 1048576)
def OpenSpec.upto (s : _root_.Go.ChangeSpec) : _root_.Go.OpenSpec := { _root_.Go.OpenSpec.ofChange s with cond := some uptoSmall }

/-- 'laws.FnExactPassChoices', WHERE WHAT IT READS IS OF BULK AT MOST 1048576: true; the input reads as it did. -/
def fnExactPassChoicesUptoRow : OpenClaim := { program := "ytandldhceabdiaa", sum := "2e04391fd154332ffda28a8c0e24c4de8cbe63763c8a5ae654e4748936ae1674", func := "loop.example/g01116/laws.FnExactPassChoices", spec := "fnExactPassChoices", unfollowed := true, recurses := true, apart := false, narrowed := true }
def FnExactPassChoicesUptoSaid : Prop := fnExactPassChoicesUptoRow.holds Try.pinned (OpenSpec.upto fnExactPassChoicesSpec)

/-- 'laws.FnApart', WHERE WHAT IT READS IS OF BULK AT MOST 1048576: true; the input reads as it did. -/
def fnApartUptoRow : OpenClaim := { program := "ytandldhceabdiaa", sum := "2e04391fd154332ffda28a8c0e24c4de8cbe63763c8a5ae654e4748936ae1674", func := "loop.example/g01116/laws.FnApart", spec := "fnApart", unfollowed := true, recurses := true, apart := false, narrowed := true }
def FnApartUptoSaid : Prop := fnApartUptoRow.holds Try.pinned (OpenSpec.upto fnApartSpec)

/-- 'laws.FnGrow', WHERE WHAT IT READS IS OF BULK AT MOST 1048576: true; the input reads as it did. -/
def fnGrowUptoRow : OpenClaim := { program := "ytandldhceabdiaa", sum := "2e04391fd154332ffda28a8c0e24c4de8cbe63763c8a5ae654e4748936ae1674", func := "loop.example/g01116/laws.FnGrow", spec := "fnGrow", unfollowed := true, recurses := true, apart := false, narrowed := true }
def FnGrowUptoSaid : Prop := fnGrowUptoRow.holds Try.pinned (OpenSpec.upto fnGrowSpec)

/-- 'laws.FnExactGatherColony', WHERE WHAT IT READS IS OF BULK AT MOST 1048576: true; the input reads as it did. -/
def fnExactGatherColonyUptoRow : OpenClaim := { program := "ytandldhceabdiaa", sum := "2e04391fd154332ffda28a8c0e24c4de8cbe63763c8a5ae654e4748936ae1674", func := "loop.example/g01116/laws.FnExactGatherColony", spec := "fnExactGatherColony", unfollowed := true, recurses := true, apart := false, narrowed := true }
def FnExactGatherColonyUptoSaid : Prop := fnExactGatherColonyUptoRow.holds Try.pinned (OpenSpec.upto fnExactGatherColonySpec)

end Rows
end Go.Proofs.Ytandldhceabdiaa
