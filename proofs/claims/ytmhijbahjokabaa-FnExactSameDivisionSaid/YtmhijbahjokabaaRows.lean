/-
  No cell of these rows narrows 'for every input' (looked for: loops, veiled, ifaces, maps, wideKeys, modest, calm, conditions, laid).
  DERIVED. THE GIVEN ROWS OF THIS SEAT. 6 by the template 'for every input the law returns true; each argument reads behind the call as it read before'; 0 by the template 'total and deterministic' (their statements: YtmhijbahjokabaaTotals.lean).
  GIVEN WITH THE SEED: the statements are not yours to turn. If you find one false, say at which input.
  Laid BY PROGRAM, IN A SANDBOX (cutbox-rows.mjs): the forced cells as the released guide's own fill.sh prints them over the translation 01fdec80c2fabf79… (all of the seat's roots in one cut). By AI agents, Wed Nov 11 2026. No macro, syntax, notation, axiom, sorry.
-/
import Derived.Test.YtmhijbahjokabaaChecked
import GoSem.Claim
import GoSem.ClaimJoined
import GoSem.ClaimMapViews
import Derived.JoinedTies
import Derived.KernelRfl
namespace Go.Proofs.Ytmhijbahjokabaa
/- THE CELL 'sum', in the pinned program and in every row, IS THE sha256 OF THE DUMP (.gsa) THAT YtmhijbahjokabaaProg.lean LOADS. Nothing in Lean hashes anything: it is a label: what it is worth is what the hold of that sum in a sandbox is worth. -/
noncomputable def Try.pinned : Pinned := { name := "ytmhijbahjokabaa", sum := "01fdec80c2fabf79eb7e10a5680d950754acbe2249662808104d6c5b41fe0599", checked := Try.checked }
namespace Rows
def none {H : Type} : Left H := { results := [], args := [] }

/-- 'laws.FnExactValidCnf': WHATEVER THE INPUT: true; the input reads as it did. -/
def fnExactValidCnfSpec : ChangeSpec := { name := "fnExactValidCnf", fn := fun _ => fun
  | [d] => { results := [.lit (.bool true)], args := [d] }
  | _ => none }
def fnExactValidCnfRow : OpenClaim := { program := "ytmhijbahjokabaa", sum := "01fdec80c2fabf79eb7e10a5680d950754acbe2249662808104d6c5b41fe0599", func := "loop.example/g01116/laws.FnExactValidCnf", spec := "fnExactValidCnf", apart := false }
def FnExactValidCnfSaid : Prop := fnExactValidCnfRow.holds Try.pinned (OpenSpec.ofChange fnExactValidCnfSpec)

/-- ITS FALSE NEIGHBOUR: 'it returns false'. Refute it at one input. -/
def fnExactValidCnfWrong : ChangeSpec := { name := "fnExactValidCnf", fn := fun _ => fun
  | [d] => { results := [.lit (.bool false)], args := [d] }
  | _ => none }
def FnExactValidCnfWrongFalsely : Prop := fnExactValidCnfRow.holds Try.pinned (OpenSpec.ofChange fnExactValidCnfWrong)

/-- 'laws.FnExactSameCnf': WHATEVER THE INPUT: true; the input reads as it did. -/
def fnExactSameCnfSpec : ChangeSpec := { name := "fnExactSameCnf", fn := fun _ => fun
  | [d1, d2] => { results := [.lit (.bool true)], args := [d1, d2] }
  | _ => none }
def fnExactSameCnfRow : OpenClaim := { program := "ytmhijbahjokabaa", sum := "01fdec80c2fabf79eb7e10a5680d950754acbe2249662808104d6c5b41fe0599", func := "loop.example/g01116/laws.FnExactSameCnf", spec := "fnExactSameCnf", unfollowed := true, recurses := true, apart := false }
def FnExactSameCnfSaid : Prop := fnExactSameCnfRow.holds Try.pinned (OpenSpec.ofChange fnExactSameCnfSpec)

/-- ITS FALSE NEIGHBOUR: 'it returns false'. Refute it at one input. -/
def fnExactSameCnfWrong : ChangeSpec := { name := "fnExactSameCnf", fn := fun _ => fun
  | [d1, d2] => { results := [.lit (.bool false)], args := [d1, d2] }
  | _ => none }
def FnExactSameCnfWrongFalsely : Prop := fnExactSameCnfRow.holds Try.pinned (OpenSpec.ofChange fnExactSameCnfWrong)

/-- 'laws.FnExactCnfSteps': WHATEVER THE INPUT: true; the input reads as it did. -/
def fnExactCnfStepsSpec : ChangeSpec := { name := "fnExactCnfSteps", fn := fun _ => fun
  | [d] => { results := [.lit (.bool true)], args := [d] }
  | _ => none }
def fnExactCnfStepsRow : OpenClaim := { program := "ytmhijbahjokabaa", sum := "01fdec80c2fabf79eb7e10a5680d950754acbe2249662808104d6c5b41fe0599", func := "loop.example/g01116/laws.FnExactCnfSteps", spec := "fnExactCnfSteps", apart := false }
def FnExactCnfStepsSaid : Prop := fnExactCnfStepsRow.holds Try.pinned (OpenSpec.ofChange fnExactCnfStepsSpec)

/-- ITS FALSE NEIGHBOUR: 'it returns false'. Refute it at one input. -/
def fnExactCnfStepsWrong : ChangeSpec := { name := "fnExactCnfSteps", fn := fun _ => fun
  | [d] => { results := [.lit (.bool false)], args := [d] }
  | _ => none }
def FnExactCnfStepsWrongFalsely : Prop := fnExactCnfStepsRow.holds Try.pinned (OpenSpec.ofChange fnExactCnfStepsWrong)

/-- 'laws.FnExactSameColony': WHATEVER THE INPUT: true; the input reads as it did. -/
def fnExactSameColonySpec : ChangeSpec := { name := "fnExactSameColony", fn := fun _ => fun
  | [d1, d2] => { results := [.lit (.bool true)], args := [d1, d2] }
  | _ => none }
def fnExactSameColonyRow : OpenClaim := { program := "ytmhijbahjokabaa", sum := "01fdec80c2fabf79eb7e10a5680d950754acbe2249662808104d6c5b41fe0599", func := "loop.example/g01116/laws.FnExactSameColony", spec := "fnExactSameColony", unfollowed := true, recurses := true, apart := false }
def FnExactSameColonySaid : Prop := fnExactSameColonyRow.holds Try.pinned (OpenSpec.ofChange fnExactSameColonySpec)

/-- ITS FALSE NEIGHBOUR: 'it returns false'. Refute it at one input. -/
def fnExactSameColonyWrong : ChangeSpec := { name := "fnExactSameColony", fn := fun _ => fun
  | [d1, d2] => { results := [.lit (.bool false)], args := [d1, d2] }
  | _ => none }
def FnExactSameColonyWrongFalsely : Prop := fnExactSameColonyRow.holds Try.pinned (OpenSpec.ofChange fnExactSameColonyWrong)

/-- 'laws.FnExactSameDivision': WHATEVER THE INPUT: true; the input reads as it did. -/
def fnExactSameDivisionSpec : ChangeSpec := { name := "fnExactSameDivision", fn := fun _ => fun
  | [d1, d2] => { results := [.lit (.bool true)], args := [d1, d2] }
  | _ => none }
def fnExactSameDivisionRow : OpenClaim := { program := "ytmhijbahjokabaa", sum := "01fdec80c2fabf79eb7e10a5680d950754acbe2249662808104d6c5b41fe0599", func := "loop.example/g01116/laws.FnExactSameDivision", spec := "fnExactSameDivision", unfollowed := true, recurses := true, apart := false }
def FnExactSameDivisionSaid : Prop := fnExactSameDivisionRow.holds Try.pinned (OpenSpec.ofChange fnExactSameDivisionSpec)

/-- ITS FALSE NEIGHBOUR: 'it returns false'. Refute it at one input. -/
def fnExactSameDivisionWrong : ChangeSpec := { name := "fnExactSameDivision", fn := fun _ => fun
  | [d1, d2] => { results := [.lit (.bool false)], args := [d1, d2] }
  | _ => none }
def FnExactSameDivisionWrongFalsely : Prop := fnExactSameDivisionRow.holds Try.pinned (OpenSpec.ofChange fnExactSameDivisionWrong)

/-- 'laws.FnExactHoldsCnf': WHATEVER THE INPUT: true; the input reads as it did. -/
def fnExactHoldsCnfSpec : ChangeSpec := { name := "fnExactHoldsCnf", fn := fun _ => fun
  | [d1, d2] => { results := [.lit (.bool true)], args := [d1, d2] }
  | _ => none }
def fnExactHoldsCnfRow : OpenClaim := { program := "ytmhijbahjokabaa", sum := "01fdec80c2fabf79eb7e10a5680d950754acbe2249662808104d6c5b41fe0599", func := "loop.example/g01116/laws.FnExactHoldsCnf", spec := "fnExactHoldsCnf", unfollowed := true, recurses := true, apart := false }
def FnExactHoldsCnfSaid : Prop := fnExactHoldsCnfRow.holds Try.pinned (OpenSpec.ofChange fnExactHoldsCnfSpec)

/-- ITS FALSE NEIGHBOUR: 'it returns false'. Refute it at one input. -/
def fnExactHoldsCnfWrong : ChangeSpec := { name := "fnExactHoldsCnf", fn := fun _ => fun
  | [d1, d2] => { results := [.lit (.bool false)], args := [d1, d2] }
  | _ => none }
def FnExactHoldsCnfWrongFalsely : Prop := fnExactHoldsCnfRow.holds Try.pinned (OpenSpec.ofChange fnExactHoldsCnfWrong)

/- THE SECOND FORM. 'bulk': how many values and letters a reading holds, each counted each time it is reached (what is shared counts as often as it is met; a slice's spare places count too). A statement '..UptoSaid' is the law's where the arguments, and the package variables that the reading takes, are together of bulk at most 1048576: NARROWER than '..Said'. Prove '..Said' where nothing that the law and all that it calls make is longer than what came in: it says more and counts as full. Else prove '..UptoSaid'. A law counts once. -/
mutual
def uptoBulk {H : Type} : DataW H → Nat
  | .lit (.string bytes) => bytes.length + 1
  | .lit _ => 1
  | .nil => 1
  | .ptr d => uptoBulk d + 1
  | .slice elems spare => uptoBulkAll elems + uptoBulkAll spare + 1
  | .agg parts => uptoBulkAll parts + 1
  | .iface _ d => uptoBulk d + 1
  | .map entries => uptoBulkEntries entries + 1
  | .held _ => 1
def uptoBulkAll {H : Type} : List (DataW H) → Nat
  | [] => 0
  | d :: r => uptoBulk d + uptoBulkAll r
def uptoBulkEntries {H : Type} : List (Lit × DataW H) → Nat
  | [] => 0
  | x :: r => uptoBulkEntry x + uptoBulkEntries r
def uptoBulkEntry {H : Type} : Lit × DataW H → Nat
  | (.string bytes, d) => bytes.length + uptoBulk d + 1
  | (_, d) => uptoBulk d + 1
 end
def uptoSmall : (H : Type) → List (DataW H) → Bool := fun _ ds => decide (uptoBulkAll ds ≤ 1048576)
def OpenSpec.upto (s : _root_.Go.ChangeSpec) : _root_.Go.OpenSpec := { _root_.Go.OpenSpec.ofChange s with cond := some uptoSmall }

/-- 'laws.FnExactValidCnf', WHERE WHAT IT READS IS OF BULK AT MOST 1048576: true; the input reads as it did. -/
def fnExactValidCnfUptoRow : OpenClaim := { program := "ytmhijbahjokabaa", sum := "01fdec80c2fabf79eb7e10a5680d950754acbe2249662808104d6c5b41fe0599", func := "loop.example/g01116/laws.FnExactValidCnf", spec := "fnExactValidCnf", apart := false, narrowed := true }
def FnExactValidCnfUptoSaid : Prop := fnExactValidCnfUptoRow.holds Try.pinned (OpenSpec.upto fnExactValidCnfSpec)

/-- 'laws.FnExactSameCnf', WHERE WHAT IT READS IS OF BULK AT MOST 1048576: true; the input reads as it did. -/
def fnExactSameCnfUptoRow : OpenClaim := { program := "ytmhijbahjokabaa", sum := "01fdec80c2fabf79eb7e10a5680d950754acbe2249662808104d6c5b41fe0599", func := "loop.example/g01116/laws.FnExactSameCnf", spec := "fnExactSameCnf", unfollowed := true, recurses := true, apart := false, narrowed := true }
def FnExactSameCnfUptoSaid : Prop := fnExactSameCnfUptoRow.holds Try.pinned (OpenSpec.upto fnExactSameCnfSpec)

/-- 'laws.FnExactCnfSteps', WHERE WHAT IT READS IS OF BULK AT MOST 1048576: true; the input reads as it did. -/
def fnExactCnfStepsUptoRow : OpenClaim := { program := "ytmhijbahjokabaa", sum := "01fdec80c2fabf79eb7e10a5680d950754acbe2249662808104d6c5b41fe0599", func := "loop.example/g01116/laws.FnExactCnfSteps", spec := "fnExactCnfSteps", apart := false, narrowed := true }
def FnExactCnfStepsUptoSaid : Prop := fnExactCnfStepsUptoRow.holds Try.pinned (OpenSpec.upto fnExactCnfStepsSpec)

/-- 'laws.FnExactSameColony', WHERE WHAT IT READS IS OF BULK AT MOST 1048576: true; the input reads as it did. -/
def fnExactSameColonyUptoRow : OpenClaim := { program := "ytmhijbahjokabaa", sum := "01fdec80c2fabf79eb7e10a5680d950754acbe2249662808104d6c5b41fe0599", func := "loop.example/g01116/laws.FnExactSameColony", spec := "fnExactSameColony", unfollowed := true, recurses := true, apart := false, narrowed := true }
def FnExactSameColonyUptoSaid : Prop := fnExactSameColonyUptoRow.holds Try.pinned (OpenSpec.upto fnExactSameColonySpec)

/-- 'laws.FnExactSameDivision', WHERE WHAT IT READS IS OF BULK AT MOST 1048576: true; the input reads as it did. -/
def fnExactSameDivisionUptoRow : OpenClaim := { program := "ytmhijbahjokabaa", sum := "01fdec80c2fabf79eb7e10a5680d950754acbe2249662808104d6c5b41fe0599", func := "loop.example/g01116/laws.FnExactSameDivision", spec := "fnExactSameDivision", unfollowed := true, recurses := true, apart := false, narrowed := true }
def FnExactSameDivisionUptoSaid : Prop := fnExactSameDivisionUptoRow.holds Try.pinned (OpenSpec.upto fnExactSameDivisionSpec)

/-- 'laws.FnExactHoldsCnf', WHERE WHAT IT READS IS OF BULK AT MOST 1048576: true; the input reads as it did. -/
def fnExactHoldsCnfUptoRow : OpenClaim := { program := "ytmhijbahjokabaa", sum := "01fdec80c2fabf79eb7e10a5680d950754acbe2249662808104d6c5b41fe0599", func := "loop.example/g01116/laws.FnExactHoldsCnf", spec := "fnExactHoldsCnf", unfollowed := true, recurses := true, apart := false, narrowed := true }
def FnExactHoldsCnfUptoSaid : Prop := fnExactHoldsCnfUptoRow.holds Try.pinned (OpenSpec.upto fnExactHoldsCnfSpec)

end Rows
end Go.Proofs.Ytmhijbahjokabaa
