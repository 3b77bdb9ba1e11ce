/-
  DERIVED. GIVEN WITH THE SEED: THE CARDS: each row of YtackcjahocaonaaGreatDoorRows.lean that lists a variable, with what it lists TIED to the program's text (the seventh form; the later family's looks); each row that meets fmt, with fmt's text TOLD by the authors' own Lean function (tested against real Go, not proved from fmt's source: count such statements apart). THE CARD IS WHAT COUNTS. Prove the row's statement (the work); the ties are given (YtackcjahocaonaaGreatDoorTie.lean); close each card by the builder's one call (the guide's Derived/Test/ToyasCard.lean, 'card_holds'). Laid BY PROGRAM, IN A SANDBOX (cutbox-door.mjs). By AI agents, Wed Nov 11 2026. No macro, syntax, notation, axiom, sorry.
-/
import Derived.Test.YtackcjahocaonaaGreatDoorRows
import GoSem.ClaimSeven
namespace Go.Proofs.YtackcjahocaonaaGreatDoor
namespace Rows

/-- THE TIED CARD OF 'cognatelaw07.RuleTexts'. -/
def ruleTextsCard : Claim7 := { stood := { row := ruleTextsRow, standIns := [], harness := (true, "839d30ecb65b71e22b1a6fd5f4bb299e7a567381d899466868d5f2a394f331a1"), looks := true }, kinds := [], alts := [], laidByText := true, laidKinds := [.data, .pinned], laidTests := true, laidLooks := .later }
def RuleTextsCardSaid : Prop := Claim7.holds Tryz.pinned (.plain (OpenSpec.ofChange ruleTextsSpec)) ruleTextsCard

/-- THE TIED CARD OF 'cognatelaw07.RuleMakes'. -/
def ruleMakesCard : Claim7 := { stood := { row := ruleMakesRow, standIns := [], harness := (true, "839d30ecb65b71e22b1a6fd5f4bb299e7a567381d899466868d5f2a394f331a1"), looks := true }, kinds := [], alts := [], laidByText := true, laidKinds := [.data, .pinned], laidTests := true, laidLooks := .later }
def RuleMakesCardSaid : Prop := Claim7.holds Tryz.pinned (.plain (OpenSpec.ofChange ruleMakesSpec)) ruleMakesCard

/-- THE TIED CARD OF 'cognatelaw07.RuleBack'. -/
def ruleBackCard : Claim7 := { stood := { row := ruleBackRow, standIns := [], harness := (true, "839d30ecb65b71e22b1a6fd5f4bb299e7a567381d899466868d5f2a394f331a1"), looks := true }, kinds := [], alts := [], laidByText := true, laidKinds := [.data, .pinned], laidTests := true, laidLooks := .later }
def RuleBackCardSaid : Prop := Claim7.holds Tryz.pinned (.plain (OpenSpec.ofChange ruleBackSpec)) ruleBackCard

/-- THE TIED CARD OF 'cognatelaw07.RuleTurns'. -/
def ruleTurnsCard : Claim7 := { stood := { row := ruleTurnsRow, standIns := [], harness := (true, "839d30ecb65b71e22b1a6fd5f4bb299e7a567381d899466868d5f2a394f331a1"), looks := true }, kinds := [], alts := [], laidByText := true, laidKinds := [.data, .pinned], laidTests := true, laidLooks := .later }
def RuleTurnsCardSaid : Prop := Claim7.holds Tryz.pinned (.plain (OpenSpec.ofChange ruleTurnsSpec)) ruleTurnsCard

/-- THE TIED CARD OF 'cognatelaw07.RuleNames'. -/
def ruleNamesCard : Claim7 := { stood := { row := ruleNamesRow, standIns := [], harness := (true, "839d30ecb65b71e22b1a6fd5f4bb299e7a567381d899466868d5f2a394f331a1"), looks := true }, kinds := [], alts := [], laidByText := true, laidKinds := [.data, .pinned], laidTests := true, laidLooks := .later }
def RuleNamesCardSaid : Prop := Claim7.holds Tryz.pinned (.plain (OpenSpec.ofChange ruleNamesSpec)) ruleNamesCard

/-- THE TIED CARD OF 'cognatelaw07.RuleSays'. -/
def ruleSaysCard : Claim7 := { stood := { row := ruleSaysRow, standIns := [], harness := (true, "839d30ecb65b71e22b1a6fd5f4bb299e7a567381d899466868d5f2a394f331a1"), looks := true }, kinds := [], alts := [], laidByText := true, laidKinds := [.data, .pinned], laidTests := true, laidLooks := .later }
def RuleSaysCardSaid : Prop := Claim7.holds Tryz.pinned (.plain (OpenSpec.ofChange ruleSaysSpec)) ruleSaysCard

/-- THE SECOND FORM's CARD OF 'cognatelaw07.RuleTexts'. -/
def ruleTextsUptoCard : Claim7 := { stood := { row := ruleTextsUptoRow, standIns := [], harness := (true, "839d30ecb65b71e22b1a6fd5f4bb299e7a567381d899466868d5f2a394f331a1"), looks := true }, kinds := [], alts := [], laidByText := true, laidKinds := [.data, .pinned], laidTests := true, laidLooks := .later }
def RuleTextsUptoCardSaid : Prop := Claim7.holds Tryz.pinned (.plain (OpenSpec.upto ruleTextsSpec)) ruleTextsUptoCard

/-- THE SECOND FORM's CARD OF 'cognatelaw07.RuleMakes'. -/
def ruleMakesUptoCard : Claim7 := { stood := { row := ruleMakesUptoRow, standIns := [], harness := (true, "839d30ecb65b71e22b1a6fd5f4bb299e7a567381d899466868d5f2a394f331a1"), looks := true }, kinds := [], alts := [], laidByText := true, laidKinds := [.data, .pinned], laidTests := true, laidLooks := .later }
def RuleMakesUptoCardSaid : Prop := Claim7.holds Tryz.pinned (.plain (OpenSpec.upto ruleMakesSpec)) ruleMakesUptoCard

/-- THE SECOND FORM's CARD OF 'cognatelaw07.RuleBack'. -/
def ruleBackUptoCard : Claim7 := { stood := { row := ruleBackUptoRow, standIns := [], harness := (true, "839d30ecb65b71e22b1a6fd5f4bb299e7a567381d899466868d5f2a394f331a1"), looks := true }, kinds := [], alts := [], laidByText := true, laidKinds := [.data, .pinned], laidTests := true, laidLooks := .later }
def RuleBackUptoCardSaid : Prop := Claim7.holds Tryz.pinned (.plain (OpenSpec.upto ruleBackSpec)) ruleBackUptoCard

/-- THE SECOND FORM's CARD OF 'cognatelaw07.RuleTurns'. -/
def ruleTurnsUptoCard : Claim7 := { stood := { row := ruleTurnsUptoRow, standIns := [], harness := (true, "839d30ecb65b71e22b1a6fd5f4bb299e7a567381d899466868d5f2a394f331a1"), looks := true }, kinds := [], alts := [], laidByText := true, laidKinds := [.data, .pinned], laidTests := true, laidLooks := .later }
def RuleTurnsUptoCardSaid : Prop := Claim7.holds Tryz.pinned (.plain (OpenSpec.upto ruleTurnsSpec)) ruleTurnsUptoCard

/-- THE SECOND FORM's CARD OF 'cognatelaw07.RuleNames'. -/
def ruleNamesUptoCard : Claim7 := { stood := { row := ruleNamesUptoRow, standIns := [], harness := (true, "839d30ecb65b71e22b1a6fd5f4bb299e7a567381d899466868d5f2a394f331a1"), looks := true }, kinds := [], alts := [], laidByText := true, laidKinds := [.data, .pinned], laidTests := true, laidLooks := .later }
def RuleNamesUptoCardSaid : Prop := Claim7.holds Tryz.pinned (.plain (OpenSpec.upto ruleNamesSpec)) ruleNamesUptoCard

/-- THE SECOND FORM's CARD OF 'cognatelaw07.RuleSays'. -/
def ruleSaysUptoCard : Claim7 := { stood := { row := ruleSaysUptoRow, standIns := [], harness := (true, "839d30ecb65b71e22b1a6fd5f4bb299e7a567381d899466868d5f2a394f331a1"), looks := true }, kinds := [], alts := [], laidByText := true, laidKinds := [.data, .pinned], laidTests := true, laidLooks := .later }
def RuleSaysUptoCardSaid : Prop := Claim7.holds Tryz.pinned (.plain (OpenSpec.upto ruleSaysSpec)) ruleSaysUptoCard
end Rows
end Go.Proofs.YtackcjahocaonaaGreatDoor
