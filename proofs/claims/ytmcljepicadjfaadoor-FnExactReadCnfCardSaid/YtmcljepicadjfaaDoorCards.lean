/-
  DERIVED. GIVEN WITH THE SEED: THE CARDS: each row of YtmcljepicadjfaaDoorRows.lean that lists a variable, with what it lists TIED to the program's text (the seventh form; the later family's looks); each row that meets fmt, with fmt's text TOLD by the authors' own Lean function (tested against real Go, not proved from fmt's source: count such statements apart). THE CARD IS WHAT COUNTS. Prove the row's statement (the work); the ties are given (YtmcljepicadjfaaDoorTie.lean); close each card by the builder's one call (the guide's Derived/Test/ToyasCard.lean, 'card_holds'). Laid BY PROGRAM, IN A SANDBOX (cutbox-door.mjs). By AI agents, Wed Nov 11 2026. No macro, syntax, notation, axiom, sorry.
-/
import Derived.Test.YtmcljepicadjfaaDoorRows
import GoSem.ClaimSeven
namespace Go.Proofs.YtmcljepicadjfaaDoor
namespace Rows

/-- THE TIED CARD OF 'laws.FnExactReadCnf'. -/
def fnExactReadCnfCard : Claim7 := { stood := { row := fnExactReadCnfRow, standIns := [], harness := (true, "3d86b120b8bd02c4778f688f1e8b3810d89d128aba6ab6c1072437ece17c3538"), looks := true }, kinds := [], alts := [], laidByText := true, laidKinds := [.data, .data, .data, .data, .sentinel, .sentinel, .pinned], laidTests := true, laidLooks := .later }
def FnExactReadCnfCardSaid : Prop := Claim7.holds Tryd.pinned (.plain (OpenSpec.ofChange fnExactReadCnfSpec)) fnExactReadCnfCard

/-- THE SECOND FORM's CARD OF 'laws.FnExactReadCnf'. -/
def fnExactReadCnfUptoCard : Claim7 := { stood := { row := fnExactReadCnfUptoRow, standIns := [], harness := (true, "3d86b120b8bd02c4778f688f1e8b3810d89d128aba6ab6c1072437ece17c3538"), looks := true }, kinds := [], alts := [], laidByText := true, laidKinds := [.data, .data, .data, .data, .sentinel, .sentinel, .pinned], laidTests := true, laidLooks := .later }
def FnExactReadCnfUptoCardSaid : Prop := Claim7.holds Tryd.pinned (.plain (OpenSpec.upto fnExactReadCnfSpec)) fnExactReadCnfUptoCard
end Rows
end Go.Proofs.YtmcljepicadjfaaDoor
