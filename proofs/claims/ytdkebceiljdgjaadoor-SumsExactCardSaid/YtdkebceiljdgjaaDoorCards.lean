/-
  DERIVED. GIVEN WITH THE SEED: THE CARDS: each row of YtdkebceiljdgjaaDoorRows.lean that lists a variable, with what it lists TIED to the program's text (the seventh form; the later family's looks); each row that meets fmt, with fmt's text TOLD by the authors' own Lean function (tested against real Go, not proved from fmt's source: count such statements apart). THE CARD IS WHAT COUNTS. Prove the row's statement (the work); the ties are given (YtdkebceiljdgjaaDoorTie.lean); close each card by the builder's one call (the guide's Derived/Test/ToyasCard.lean, 'card_holds'). Laid BY PROGRAM, IN A SANDBOX (cutbox-door.mjs). By AI agents, Wed Nov 11 2026. No macro, syntax, notation, axiom, sorry.
-/
import Derived.Test.YtdkebceiljdgjaaDoorRows
import GoSem.ClaimSeven
namespace Go.Proofs.YtdkebceiljdgjaaDoor
namespace Rows

/-- THE TIED CARD OF 'tillerlaw25.CycWholes'. -/
def cycWholesCard : Claim7 := { stood := { row := cycWholesRow, standIns := [], harness := (true, "6b6d9e7892815a8030f374b71020810e0520c272b17b222c51e8cca6d6a5265d"), looks := true }, kinds := [], alts := [], laidByText := true, laidKinds := [.handle], laidTests := true, laidLooks := .later }
def CycWholesCardSaid : Prop := Claim7.holds Tryd.pinned (.plain (OpenSpec.ofChange cycWholesSpec)) cycWholesCard

/-- THE TIED CARD OF 'tillerlaw04.RndOf'. -/
def rndOfCard : Claim7 := { stood := { row := rndOfRow, standIns := [], harness := (true, "6b6d9e7892815a8030f374b71020810e0520c272b17b222c51e8cca6d6a5265d"), looks := true }, kinds := [], alts := [], laidByText := true, laidKinds := [.handle], laidTests := true, laidLooks := .later }
def RndOfCardSaid : Prop := Claim7.holds Tryd.pinned (.plain (OpenSpec.ofChange rndOfSpec)) rndOfCard

/-- THE TIED CARD OF 'tillerlaw04.RndAgain'. -/
def rndAgainCard : Claim7 := { stood := { row := rndAgainRow, standIns := [], harness := (true, "6b6d9e7892815a8030f374b71020810e0520c272b17b222c51e8cca6d6a5265d"), looks := true }, kinds := [], alts := [], laidByText := true, laidKinds := [.handle], laidTests := true, laidLooks := .later }
def RndAgainCardSaid : Prop := Claim7.holds Tryd.pinned (.plain (OpenSpec.ofChange rndAgainSpec)) rndAgainCard

/-- THE TIED CARD OF 'tillerlaw05.SumsExact'. -/
def sumsExactCard : Claim7 := { stood := { row := sumsExactRow, standIns := [], harness := (true, "6b6d9e7892815a8030f374b71020810e0520c272b17b222c51e8cca6d6a5265d"), looks := true }, kinds := [], alts := [], laidByText := true, laidKinds := [.handle], laidTests := true, laidLooks := .later }
def SumsExactCardSaid : Prop := Claim7.holds Tryd.pinned (.plain (OpenSpec.ofChange sumsExactSpec)) sumsExactCard

/-- THE SECOND FORM's CARD OF 'tillerlaw25.CycWholes'. -/
def cycWholesUptoCard : Claim7 := { stood := { row := cycWholesUptoRow, standIns := [], harness := (true, "6b6d9e7892815a8030f374b71020810e0520c272b17b222c51e8cca6d6a5265d"), looks := true }, kinds := [], alts := [], laidByText := true, laidKinds := [.handle], laidTests := true, laidLooks := .later }
def CycWholesUptoCardSaid : Prop := Claim7.holds Tryd.pinned (.plain (OpenSpec.upto cycWholesSpec)) cycWholesUptoCard

/-- THE SECOND FORM's CARD OF 'tillerlaw04.RndOf'. -/
def rndOfUptoCard : Claim7 := { stood := { row := rndOfUptoRow, standIns := [], harness := (true, "6b6d9e7892815a8030f374b71020810e0520c272b17b222c51e8cca6d6a5265d"), looks := true }, kinds := [], alts := [], laidByText := true, laidKinds := [.handle], laidTests := true, laidLooks := .later }
def RndOfUptoCardSaid : Prop := Claim7.holds Tryd.pinned (.plain (OpenSpec.upto rndOfSpec)) rndOfUptoCard

/-- THE SECOND FORM's CARD OF 'tillerlaw04.RndAgain'. -/
def rndAgainUptoCard : Claim7 := { stood := { row := rndAgainUptoRow, standIns := [], harness := (true, "6b6d9e7892815a8030f374b71020810e0520c272b17b222c51e8cca6d6a5265d"), looks := true }, kinds := [], alts := [], laidByText := true, laidKinds := [.handle], laidTests := true, laidLooks := .later }
def RndAgainUptoCardSaid : Prop := Claim7.holds Tryd.pinned (.plain (OpenSpec.upto rndAgainSpec)) rndAgainUptoCard

/-- THE SECOND FORM's CARD OF 'tillerlaw05.SumsExact'. -/
def sumsExactUptoCard : Claim7 := { stood := { row := sumsExactUptoRow, standIns := [], harness := (true, "6b6d9e7892815a8030f374b71020810e0520c272b17b222c51e8cca6d6a5265d"), looks := true }, kinds := [], alts := [], laidByText := true, laidKinds := [.handle], laidTests := true, laidLooks := .later }
def SumsExactUptoCardSaid : Prop := Claim7.holds Tryd.pinned (.plain (OpenSpec.upto sumsExactSpec)) sumsExactUptoCard
end Rows
end Go.Proofs.YtdkebceiljdgjaaDoor
