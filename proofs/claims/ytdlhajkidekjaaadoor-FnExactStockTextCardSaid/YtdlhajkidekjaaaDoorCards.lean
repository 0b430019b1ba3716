/-
  DERIVED. GIVEN WITH THE SEED: THE CARDS: each row of YtdlhajkidekjaaaDoorRows.lean that lists a variable, with what it lists TIED to the program's text (the seventh form; the later family's looks); each row that meets fmt, with fmt's text TOLD by the authors' own Lean function (tested against real Go, not proved from fmt's source: count such statements apart). THE CARD IS WHAT COUNTS. Prove the row's statement (the work); the ties are given (YtdlhajkidekjaaaDoorTie.lean); close each card by the builder's one call (the guide's Derived/Test/ToyasCard.lean, 'card_holds'). Laid BY PROGRAM, IN A SANDBOX (cutbox-door.mjs). By AI agents, Wed Nov 11 2026. No macro, syntax, notation, axiom, sorry.
-/
import Derived.Test.YtdlhajkidekjaaaDoorRows
import GoSem.ClaimSeven
namespace Go.Proofs.YtdlhajkidekjaaaDoor
namespace Rows

/-- THE TIED CARD OF 'laws.FnExactCnfText'. -/
def fnExactCnfTextCard : Claim7 := { stood := { row := fnExactCnfTextRow, standIns := [], harness := (true, "e22f6b15f8d07a37d0048c3b05f1849bec665574699509fe4e430aad20997161"), looks := false }, kinds := [], alts := [], laidByText := true, laidKinds := [.data, .data, .data], laidTests := true, laidLooks := .later }
def FnExactCnfTextCardSaid : Prop := Claim7.holds Tryd.pinned (.plain (OpenSpec.ofChange fnExactCnfTextSpec)) fnExactCnfTextCard

/-- THE TIED CARD OF 'laws.FnExactDivisionText'. -/
def fnExactDivisionTextCard : Claim7 := { stood := { row := fnExactDivisionTextRow, standIns := [], harness := (true, "e22f6b15f8d07a37d0048c3b05f1849bec665574699509fe4e430aad20997161"), looks := false }, kinds := [], alts := [], laidByText := true, laidKinds := [.data, .data, .data], laidTests := true, laidLooks := .later }
def FnExactDivisionTextCardSaid : Prop := Claim7.holds Tryd.pinned (.plain (OpenSpec.ofChange fnExactDivisionTextSpec)) fnExactDivisionTextCard

/-- THE TIED CARD OF 'laws.FnExactStockText'. -/
def fnExactStockTextCard : Claim7 := { stood := { row := fnExactStockTextRow, standIns := [], harness := (true, "e22f6b15f8d07a37d0048c3b05f1849bec665574699509fe4e430aad20997161"), looks := false }, kinds := [], alts := [], laidByText := true, laidKinds := [.data, .data, .data], laidTests := true, laidLooks := .later }
def FnExactStockTextCardSaid : Prop := Claim7.holds Tryd.pinned (.plain (OpenSpec.ofChange fnExactStockTextSpec)) fnExactStockTextCard

/-- THE TIED CARD OF 'laws.FnExactRuleText'. -/
def fnExactRuleTextCard : Claim7 := { stood := { row := fnExactRuleTextRow, standIns := [], harness := (true, "e22f6b15f8d07a37d0048c3b05f1849bec665574699509fe4e430aad20997161"), looks := false }, kinds := [], alts := [], laidByText := true, laidKinds := [.data, .data, .data], laidTests := true, laidLooks := .later }
def FnExactRuleTextCardSaid : Prop := Claim7.holds Tryd.pinned (.plain (OpenSpec.ofChange fnExactRuleTextSpec)) fnExactRuleTextCard

/-- THE TIED CARD OF 'laws.FnExactColonyText'. -/
def fnExactColonyTextCard : Claim7 := { stood := { row := fnExactColonyTextRow, standIns := [], harness := (true, "e22f6b15f8d07a37d0048c3b05f1849bec665574699509fe4e430aad20997161"), looks := false }, kinds := [], alts := [], laidByText := true, laidKinds := [.data, .data, .data], laidTests := true, laidLooks := .later }
def FnExactColonyTextCardSaid : Prop := Claim7.holds Tryd.pinned (.plain (OpenSpec.ofChange fnExactColonyTextSpec)) fnExactColonyTextCard

/-- THE TIED CARD OF 'laws.FnExactSystemText'. -/
def fnExactSystemTextCard : Claim7 := { stood := { row := fnExactSystemTextRow, standIns := [], harness := (true, "e22f6b15f8d07a37d0048c3b05f1849bec665574699509fe4e430aad20997161"), looks := false }, kinds := [], alts := [], laidByText := true, laidKinds := [.data, .data, .data], laidTests := true, laidLooks := .later }
def FnExactSystemTextCardSaid : Prop := Claim7.holds Tryd.pinned (.plain (OpenSpec.ofChange fnExactSystemTextSpec)) fnExactSystemTextCard

/-- THE TIED CARD OF 'laws.FnExactStateText'. -/
def fnExactStateTextCard : Claim7 := { stood := { row := fnExactStateTextRow, standIns := [], harness := (true, "e22f6b15f8d07a37d0048c3b05f1849bec665574699509fe4e430aad20997161"), looks := false }, kinds := [], alts := [], laidByText := true, laidKinds := [.data, .data, .data], laidTests := true, laidLooks := .later }
def FnExactStateTextCardSaid : Prop := Claim7.holds Tryd.pinned (.plain (OpenSpec.ofChange fnExactStateTextSpec)) fnExactStateTextCard

/-- THE SECOND FORM's CARD OF 'laws.FnExactCnfText'. -/
def fnExactCnfTextUptoCard : Claim7 := { stood := { row := fnExactCnfTextUptoRow, standIns := [], harness := (true, "e22f6b15f8d07a37d0048c3b05f1849bec665574699509fe4e430aad20997161"), looks := false }, kinds := [], alts := [], laidByText := true, laidKinds := [.data, .data, .data], laidTests := true, laidLooks := .later }
def FnExactCnfTextUptoCardSaid : Prop := Claim7.holds Tryd.pinned (.plain (OpenSpec.upto fnExactCnfTextSpec)) fnExactCnfTextUptoCard

/-- THE SECOND FORM's CARD OF 'laws.FnExactDivisionText'. -/
def fnExactDivisionTextUptoCard : Claim7 := { stood := { row := fnExactDivisionTextUptoRow, standIns := [], harness := (true, "e22f6b15f8d07a37d0048c3b05f1849bec665574699509fe4e430aad20997161"), looks := false }, kinds := [], alts := [], laidByText := true, laidKinds := [.data, .data, .data], laidTests := true, laidLooks := .later }
def FnExactDivisionTextUptoCardSaid : Prop := Claim7.holds Tryd.pinned (.plain (OpenSpec.upto fnExactDivisionTextSpec)) fnExactDivisionTextUptoCard

/-- THE SECOND FORM's CARD OF 'laws.FnExactStockText'. -/
def fnExactStockTextUptoCard : Claim7 := { stood := { row := fnExactStockTextUptoRow, standIns := [], harness := (true, "e22f6b15f8d07a37d0048c3b05f1849bec665574699509fe4e430aad20997161"), looks := false }, kinds := [], alts := [], laidByText := true, laidKinds := [.data, .data, .data], laidTests := true, laidLooks := .later }
def FnExactStockTextUptoCardSaid : Prop := Claim7.holds Tryd.pinned (.plain (OpenSpec.upto fnExactStockTextSpec)) fnExactStockTextUptoCard

/-- THE SECOND FORM's CARD OF 'laws.FnExactRuleText'. -/
def fnExactRuleTextUptoCard : Claim7 := { stood := { row := fnExactRuleTextUptoRow, standIns := [], harness := (true, "e22f6b15f8d07a37d0048c3b05f1849bec665574699509fe4e430aad20997161"), looks := false }, kinds := [], alts := [], laidByText := true, laidKinds := [.data, .data, .data], laidTests := true, laidLooks := .later }
def FnExactRuleTextUptoCardSaid : Prop := Claim7.holds Tryd.pinned (.plain (OpenSpec.upto fnExactRuleTextSpec)) fnExactRuleTextUptoCard

/-- THE SECOND FORM's CARD OF 'laws.FnExactColonyText'. -/
def fnExactColonyTextUptoCard : Claim7 := { stood := { row := fnExactColonyTextUptoRow, standIns := [], harness := (true, "e22f6b15f8d07a37d0048c3b05f1849bec665574699509fe4e430aad20997161"), looks := false }, kinds := [], alts := [], laidByText := true, laidKinds := [.data, .data, .data], laidTests := true, laidLooks := .later }
def FnExactColonyTextUptoCardSaid : Prop := Claim7.holds Tryd.pinned (.plain (OpenSpec.upto fnExactColonyTextSpec)) fnExactColonyTextUptoCard

/-- THE SECOND FORM's CARD OF 'laws.FnExactSystemText'. -/
def fnExactSystemTextUptoCard : Claim7 := { stood := { row := fnExactSystemTextUptoRow, standIns := [], harness := (true, "e22f6b15f8d07a37d0048c3b05f1849bec665574699509fe4e430aad20997161"), looks := false }, kinds := [], alts := [], laidByText := true, laidKinds := [.data, .data, .data], laidTests := true, laidLooks := .later }
def FnExactSystemTextUptoCardSaid : Prop := Claim7.holds Tryd.pinned (.plain (OpenSpec.upto fnExactSystemTextSpec)) fnExactSystemTextUptoCard

/-- THE SECOND FORM's CARD OF 'laws.FnExactStateText'. -/
def fnExactStateTextUptoCard : Claim7 := { stood := { row := fnExactStateTextUptoRow, standIns := [], harness := (true, "e22f6b15f8d07a37d0048c3b05f1849bec665574699509fe4e430aad20997161"), looks := false }, kinds := [], alts := [], laidByText := true, laidKinds := [.data, .data, .data], laidTests := true, laidLooks := .later }
def FnExactStateTextUptoCardSaid : Prop := Claim7.holds Tryd.pinned (.plain (OpenSpec.upto fnExactStateTextSpec)) fnExactStateTextUptoCard
end Rows
end Go.Proofs.YtdlhajkidekjaaaDoor
