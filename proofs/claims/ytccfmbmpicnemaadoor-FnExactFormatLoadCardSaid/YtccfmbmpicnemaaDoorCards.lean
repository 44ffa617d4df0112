/-
  DERIVED. GIVEN WITH THE SEED: THE CARDS: each row of YtccfmbmpicnemaaDoorRows.lean that lists a variable, with what it lists TIED to the program's text (the seventh form; the later family's looks); each row that meets fmt, with fmt's text TOLD by the authors' own Lean function (tested against real Go, not proved from fmt's source: count such statements apart). THE CARD IS WHAT COUNTS. Prove the row's statement (the work); the ties are given (YtccfmbmpicnemaaDoorTie.lean); close each card by the builder's one call (the guide's Derived/Test/ToyasCard.lean, 'card_holds'). Laid BY PROGRAM, IN A SANDBOX (cutbox-door.mjs). By AI agents, Wed Nov 11 2026. No macro, syntax, notation, axiom, sorry.
-/
import Derived.Test.YtccfmbmpicnemaaDoorRows
import GoSem.ClaimSeven
namespace Go.Proofs.YtccfmbmpicnemaaDoor
namespace Rows

/-- THE TIED CARD OF 'laws.FnExactFormatStructure'. -/
def fnExactFormatStructureCard : Claim7 := { stood := { row := fnExactFormatStructureRow, standIns := [], harness := (true, "6271b02d6116fd9165d19943cf0251732a4f483b28afd67b36eaa43c4c594154"), looks := false }, kinds := [], alts := [], laidByText := true, laidKinds := [.data, .data, .data], laidTests := true, laidLooks := .later }
def FnExactFormatStructureCardSaid : Prop := Claim7.holds Tryd.pinned (.plain (OpenSpec.ofChange fnExactFormatStructureSpec)) fnExactFormatStructureCard

/-- THE TIED CARD OF 'laws.FnExactFormatLoad'. -/
def fnExactFormatLoadCard : Claim7 := { stood := { row := fnExactFormatLoadRow, standIns := [], harness := (true, "6271b02d6116fd9165d19943cf0251732a4f483b28afd67b36eaa43c4c594154"), looks := false }, kinds := [], alts := [], laidByText := true, laidKinds := [.data, .data, .data], laidTests := true, laidLooks := .later }
def FnExactFormatLoadCardSaid : Prop := Claim7.holds Tryd.pinned (.plain (OpenSpec.ofChange fnExactFormatLoadSpec)) fnExactFormatLoadCard

/-- THE SECOND FORM's CARD OF 'laws.FnExactFormatStructure'. -/
def fnExactFormatStructureUptoCard : Claim7 := { stood := { row := fnExactFormatStructureUptoRow, standIns := [], harness := (true, "6271b02d6116fd9165d19943cf0251732a4f483b28afd67b36eaa43c4c594154"), looks := false }, kinds := [], alts := [], laidByText := true, laidKinds := [.data, .data, .data], laidTests := true, laidLooks := .later }
def FnExactFormatStructureUptoCardSaid : Prop := Claim7.holds Tryd.pinned (.plain (OpenSpec.upto fnExactFormatStructureSpec)) fnExactFormatStructureUptoCard

/-- THE SECOND FORM's CARD OF 'laws.FnExactFormatLoad'. -/
def fnExactFormatLoadUptoCard : Claim7 := { stood := { row := fnExactFormatLoadUptoRow, standIns := [], harness := (true, "6271b02d6116fd9165d19943cf0251732a4f483b28afd67b36eaa43c4c594154"), looks := false }, kinds := [], alts := [], laidByText := true, laidKinds := [.data, .data, .data], laidTests := true, laidLooks := .later }
def FnExactFormatLoadUptoCardSaid : Prop := Claim7.holds Tryd.pinned (.plain (OpenSpec.upto fnExactFormatLoadSpec)) fnExactFormatLoadUptoCard
end Rows
end Go.Proofs.YtccfmbmpicnemaaDoor
