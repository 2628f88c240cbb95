/-
  DERIVED. GIVEN WITH THE SEED: THE CARDS: each row of YtkcekjpohpenkaaDoorRows.lean that lists a variable, with what it lists TIED to the program's text (the seventh form; the later family's looks); each row that meets fmt, with fmt's text TOLD by the authors' own Lean function (tested against real Go, not proved from fmt's source: count such statements apart). THE CARD IS WHAT COUNTS. Prove the row's statement (the work); the ties are given (YtkcekjpohpenkaaDoorTie.lean); close each card by the builder's one call (the guide's Derived/Test/ToyasCard.lean, 'card_holds'). Laid BY PROGRAM, IN A SANDBOX (cutbox-door.mjs). By AI agents, Wed Nov 11 2026. No macro, syntax, notation, axiom, sorry.
-/
import Derived.Test.YtkcekjpohpenkaaDoorRows
import GoSem.ClaimSeven
namespace Go.Proofs.YtkcekjpohpenkaaDoor
namespace Rows

/-- THE TIED CARD OF 'folkmoottop.TopMoney'. -/
def topMoneyCard : Claim7 := { stood := { row := topMoneyRow, standIns := [], harness := (true, "709b72c2c0e93b3c854fba557d7953a648d939b0ea07d7cddadd586028580373"), looks := true }, kinds := [], alts := [], laidByText := true, laidKinds := [.handle], laidTests := true, laidLooks := .later }
def TopMoneyCardSaid : Prop := Claim7.holds Tryd.pinned (.plain (OpenSpec.ofChange topMoneySpec)) topMoneyCard

/-- THE TIED CARD OF 'folkmoottop.TopGoes'. -/
def topGoesCard : Claim7 := { stood := { row := topGoesRow, standIns := [], harness := (true, "709b72c2c0e93b3c854fba557d7953a648d939b0ea07d7cddadd586028580373"), looks := true }, kinds := [], alts := [], laidByText := true, laidKinds := [.handle], laidTests := true, laidLooks := .later }
def TopGoesCardSaid : Prop := Claim7.holds Tryd.pinned (.plain (OpenSpec.ofChange topGoesSpec)) topGoesCard

/-- THE TIED CARD OF 'folkmootkeep.BookMeets'. -/
def bookMeetsCard : Claim7 := { stood := { row := bookMeetsRow, standIns := [], harness := (true, "709b72c2c0e93b3c854fba557d7953a648d939b0ea07d7cddadd586028580373"), looks := true }, kinds := [], alts := [], laidByText := true, laidKinds := [.handle], laidTests := true, laidLooks := .later }
def BookMeetsCardSaid : Prop := Claim7.holds Tryd.pinned (.plain (OpenSpec.ofChange bookMeetsSpec)) bookMeetsCard

/-- THE SECOND FORM's CARD OF 'folkmoottop.TopMoney'. -/
def topMoneyUptoCard : Claim7 := { stood := { row := topMoneyUptoRow, standIns := [], harness := (true, "709b72c2c0e93b3c854fba557d7953a648d939b0ea07d7cddadd586028580373"), looks := true }, kinds := [], alts := [], laidByText := true, laidKinds := [.handle], laidTests := true, laidLooks := .later }
def TopMoneyUptoCardSaid : Prop := Claim7.holds Tryd.pinned (.plain (OpenSpec.upto topMoneySpec)) topMoneyUptoCard

/-- THE SECOND FORM's CARD OF 'folkmoottop.TopGoes'. -/
def topGoesUptoCard : Claim7 := { stood := { row := topGoesUptoRow, standIns := [], harness := (true, "709b72c2c0e93b3c854fba557d7953a648d939b0ea07d7cddadd586028580373"), looks := true }, kinds := [], alts := [], laidByText := true, laidKinds := [.handle], laidTests := true, laidLooks := .later }
def TopGoesUptoCardSaid : Prop := Claim7.holds Tryd.pinned (.plain (OpenSpec.upto topGoesSpec)) topGoesUptoCard

/-- THE SECOND FORM's CARD OF 'folkmootkeep.BookMeets'. -/
def bookMeetsUptoCard : Claim7 := { stood := { row := bookMeetsUptoRow, standIns := [], harness := (true, "709b72c2c0e93b3c854fba557d7953a648d939b0ea07d7cddadd586028580373"), looks := true }, kinds := [], alts := [], laidByText := true, laidKinds := [.handle], laidTests := true, laidLooks := .later }
def BookMeetsUptoCardSaid : Prop := Claim7.holds Tryd.pinned (.plain (OpenSpec.upto bookMeetsSpec)) bookMeetsUptoCard
end Rows
end Go.Proofs.YtkcekjpohpenkaaDoor
