/-
  DERIVED. GIVEN WITH THE SEED: THE CARDS: each row of YtmcljepicadjfaaGreatDoorRows.lean that lists a variable, with what it lists TIED to the program's text (the seventh form; the later family's looks); each row that meets fmt, with fmt's text TOLD by the authors' own Lean function (tested against real Go, not proved from fmt's source: count such statements apart). THE CARD IS WHAT COUNTS. Prove the row's statement (the work); the ties are given (YtmcljepicadjfaaGreatDoorTie.lean); close each card by the builder's one call (the guide's Derived/Test/ToyasCard.lean, 'card_holds'). Laid BY PROGRAM, IN A SANDBOX (cutbox-door.mjs). By AI agents, Wed Nov 11 2026. No macro, syntax, notation, axiom, sorry.
-/
import Derived.Test.YtmcljepicadjfaaGreatDoorRows
import GoSem.ClaimSeven
namespace Go.Proofs.YtmcljepicadjfaaGreatDoor
namespace Rows

/-- THE TIED CARD OF 'laws.FnPassText'. -/
def fnPassTextCard : Claim7 := { stood := { row := fnPassTextRow, standIns := [], harness := (true, "cfc381e9c47f02fb03b575f2137ae14c56eccdce0f104ba630f031f9f0cb1223"), looks := true }, kinds := [], alts := [], laidByText := true, laidKinds := [.data, .data, .data, .data, .sentinel, .sentinel, .pinned], laidTests := true, laidLooks := .later }
def FnPassTextCardSaid : Prop := Claim7.holds Tryz.pinned (.plain (OpenSpec.ofChange fnPassTextSpec)) fnPassTextCard

/-- THE TIED CARD OF 'laws.FnExactReadPassing'. -/
def fnExactReadPassingCard : Claim7 := { stood := { row := fnExactReadPassingRow, standIns := [], harness := (true, "cfc381e9c47f02fb03b575f2137ae14c56eccdce0f104ba630f031f9f0cb1223"), looks := true }, kinds := [], alts := [], laidByText := true, laidKinds := [.data, .data, .data, .data, .sentinel, .sentinel, .pinned], laidTests := true, laidLooks := .later }
def FnExactReadPassingCardSaid : Prop := Claim7.holds Tryz.pinned (.plain (OpenSpec.ofChange fnExactReadPassingSpec)) fnExactReadPassingCard

/-- THE TIED CARD OF 'laws.FnExactReadStock'. -/
def fnExactReadStockCard : Claim7 := { stood := { row := fnExactReadStockRow, standIns := [], harness := (true, "cfc381e9c47f02fb03b575f2137ae14c56eccdce0f104ba630f031f9f0cb1223"), looks := true }, kinds := [], alts := [], laidByText := true, laidKinds := [.data, .data, .data, .data, .sentinel, .sentinel, .pinned], laidTests := true, laidLooks := .later }
def FnExactReadStockCardSaid : Prop := Claim7.holds Tryz.pinned (.plain (OpenSpec.ofChange fnExactReadStockSpec)) fnExactReadStockCard

/-- THE SECOND FORM's CARD OF 'laws.FnPassText'. -/
def fnPassTextUptoCard : Claim7 := { stood := { row := fnPassTextUptoRow, standIns := [], harness := (true, "cfc381e9c47f02fb03b575f2137ae14c56eccdce0f104ba630f031f9f0cb1223"), looks := true }, kinds := [], alts := [], laidByText := true, laidKinds := [.data, .data, .data, .data, .sentinel, .sentinel, .pinned], laidTests := true, laidLooks := .later }
def FnPassTextUptoCardSaid : Prop := Claim7.holds Tryz.pinned (.plain (OpenSpec.upto fnPassTextSpec)) fnPassTextUptoCard

/-- THE SECOND FORM's CARD OF 'laws.FnExactReadPassing'. -/
def fnExactReadPassingUptoCard : Claim7 := { stood := { row := fnExactReadPassingUptoRow, standIns := [], harness := (true, "cfc381e9c47f02fb03b575f2137ae14c56eccdce0f104ba630f031f9f0cb1223"), looks := true }, kinds := [], alts := [], laidByText := true, laidKinds := [.data, .data, .data, .data, .sentinel, .sentinel, .pinned], laidTests := true, laidLooks := .later }
def FnExactReadPassingUptoCardSaid : Prop := Claim7.holds Tryz.pinned (.plain (OpenSpec.upto fnExactReadPassingSpec)) fnExactReadPassingUptoCard

/-- THE SECOND FORM's CARD OF 'laws.FnExactReadStock'. -/
def fnExactReadStockUptoCard : Claim7 := { stood := { row := fnExactReadStockUptoRow, standIns := [], harness := (true, "cfc381e9c47f02fb03b575f2137ae14c56eccdce0f104ba630f031f9f0cb1223"), looks := true }, kinds := [], alts := [], laidByText := true, laidKinds := [.data, .data, .data, .data, .sentinel, .sentinel, .pinned], laidTests := true, laidLooks := .later }
def FnExactReadStockUptoCardSaid : Prop := Claim7.holds Tryz.pinned (.plain (OpenSpec.upto fnExactReadStockSpec)) fnExactReadStockUptoCard
end Rows
end Go.Proofs.YtmcljepicadjfaaGreatDoor
